/- SettleDrains: the walk. -/
import Derived.Test.YtbgojhjlmlbfpaaSeX
import Derived.Deep.RegionHeld3
namespace Go.Proofs.Ytbgojhjlmlbfpaa
open Go.RowKit

/-- Who holds: each peer's holder's place among its copies. -/
structure Holds (w : World) (A2 : Option Addr) (n2 cp : Nat) (hol : Nat → Nat) : Prop where
  lt : ∀ k, hol k < cp
  far : ∀ k, n2 ≤ k → hol k = 0
  near : ∀ k, k < n2 → ∃ g off x, A2 = some ⟨g, off, none⟩ ∧ g < w.heap.size ∧ w.cell? ⟨g, off + k, none⟩ = some (.int .i64 x) ∧ x % (cp : Int) = (hol k : Int)
theorem holds_any (w : World) (A2 : Option Addr) (n2 cp : Nat) (hcp : 1 ≤ cp) (h : IntsIn w A2 n2) : ∃ hol, Holds w A2 n2 cp hol := by
  have : ∀ k : Nat, ∃ x : Nat, x < cp ∧ (n2 ≤ k → x = 0) ∧ (k < n2 → ∃ g off z, A2 = some ⟨g, off, none⟩ ∧ g < w.heap.size ∧ w.cell? ⟨g, off + k, none⟩ = some (.int .i64 z) ∧ z % (cp : Int) = (x : Int)) := fun k => by
    by_cases hk : k < n2
    · obtain ⟨g, off, z, h1, h2, h3⟩ := h k hk
      obtain ⟨x, hx, hl⟩ := emod_nat z cp hcp
      exact ⟨x, hl, fun h => by omega, fun _ => ⟨g, off, z, h1, h2, h3, hx⟩⟩
    · exact ⟨0, hcp, fun _ => rfl, fun h => by omega⟩
  obtain ⟨hol, hh⟩ := Classical.axiomOfChoice this
  exact ⟨hol, fun k => (hh k).1, fun k => (hh k).2.1, fun k => (hh k).2.2⟩
def loadArr (a b c d s : Int) (A1 A2 A3 : Option Addr) (n1 n2 n3 c1 c2 c3 : Nat) : Array Value := #[.int .i64 a, .int .i64 b, .int .i64 c, .int .i64 d, .int .i64 s, .slice A1 n1 c1, .slice A2 n2 c2, .slice A3 n3 c3]
theorem load_cells {w : World} {a b c d s : Int} {A1 A2 A3 : Option Addr} {n1 n2 n3 c1 c2 c3 pb : Nat} {po : Obj} (hpo : (Obj.cells (loadArr a b c d s A1 A2 A3 n1 n2 n3 c1 c2 c3) 76 (0, 0)) = po) (h : w.heap[pb]? = some po) :
    w.cell? ⟨pb, 6, none⟩ = some (.slice A2 n2 c2) ∧ w.cell? ⟨pb, 7, none⟩ = some (.slice A3 n3 c3) := by
  subst hpo
  exact ⟨cell_of_obj h 6, cell_of_obj h 7⟩
def RelT (w : World) (bc mb S W wc n N cp cap sh lim : Nat) (po : Obj) (hol : Nat → Nat) (qv lv tv : Value) (wr : World) : Prop :=
  ∃ (t lost : Nat) (ρ : Nat → Nat) (Q : List Ent) (sq : Value) (ws : Nat → Way) (mk : Int → Nat), tv = .int .i64 t ∧ lv = .int .i64 lost ∧ t ≤ lim + 1 ∧ lost ≤ 200 ∧
    DrainAt w wr ρ bc w.heap.size mb S W wc n N cp cap sh po Q Q qv sq ws mk ∧ Drain n N cp cap sh lim Q mk ws ∧ Bound N cp cap sh hol lim t Q ws
def RelM (w : World) (bc mb S W wc n N cp cap sh lim t0 lost0 : Nat) (po : Obj) (hol : Nat → Nat) (msv : Value) (ms : List SMsg) (qv lv tv iv : Value) (wr : World) : Prop :=
  ∃ (i t lost : Nat) (ρ : Nat → Nat) (Q : List Ent) (sq : Value) (ws : Nat → Way) (mk : Int → Nat), iv = .int .i64 i ∧ tv = .int .i64 t ∧ lv = .int .i64 lost ∧ i ≤ ms.length ∧ (t = t0 ∧ lost = lost0 ∨ t = 0 ∧ lost0 < lost ∧ lost ≤ 200) ∧
    DrainAt w wr ρ bc w.heap.size mb S W wc n N cp cap sh po Q Q qv sq ws mk ∧ MsgsAt wr w.heap.size ρ msv ms ∧ Mid n N cp cap sh hol lim ms i t Q mk ws
set_option maxRecDepth 100000 in
set_option maxHeartbeats 8000000 in
theorem drains_walk (w : World) (a b c d s : Int) (A1 A2 A3 : Option Addr) (n1 n2 n3 c1 c2 c3 : Nat) (hM : ∀ i, i < n1 → ∃ g off x, A1 = some ⟨g, off, none⟩ ∧ g < w.heap.size ∧ w.cell? ⟨g, off + i, none⟩ = some (.int .i64 x)) (hn1 : n1 ≤ 9223372036854775807) (hM2 : IntsIn w A2 n2) (hn2 : n2 ≤ 9223372036854775807) (hM3 : IntsIn w A3 n3) :
    Calls Try.prog 8 #[.agg #[.int .i64 a, .int .i64 b, .int .i64 c, .int .i64 d, .int .i64 s, .slice A1 n1 c1, .slice A2 n2 c2, .slice A3 n3 c3]] w fun e w' => e = .returned (.bool true) ∧ Below w.heap.size w w' := by
  have hb1 : Below w.heap.size w (w.alloc (loadObj a b c d s A1 A2 A3 n1 n2 n3 c1 c2 c3)) := (Below.refl _ _).alloc (Nat.le_refl _) _
  have hz1 : (w.alloc (loadObj a b c d s A1 A2 A3 n1 n2 n3 c1 c2 c3)).heap.size = w.heap.size + 1 := by simp
  have HL := laid_any (w.alloc (loadObj a b c d s A1 A2 A3 n1 n2 n3 c1 c2 c3)) a b c d s A1 A2 A3 n1 n2 n3 c1 c2 c3 (fun i hi => by
    obtain ⟨g, off, x, h1, h2, h3⟩ := hM i hi
    exact ⟨g, off, x, h1, by omega, cellKeep hb1 h3⟩) hn1
  unfold loadObj at HL hb1 hz1
  have F1 : Free (w.alloc (.cells #[.int .i64 a, .int .i64 b, .int .i64 c, .int .i64 d, .int .i64 s, .slice A1 n1 c1, .slice A2 n2 c2, .slice A3 n3 c3] 76)) (lab (fun _ => 0) w.heap.size 3) := Free.lab (w := w) (fun _ _ => rfl) (by simp) (by simp) 3
  have B1 : Objr (w.alloc (.cells #[.int .i64 a, .int .i64 b, .int .i64 c, .int .i64 d, .int .i64 s, .slice A1 n1 c1, .slice A2 n2 c2, .slice A3 n3 c3] 76)) (lab (fun _ => 0) w.heap.size 3) 3 w.heap.size (.cells #[.int .i64 a, .int .i64 b, .int .i64 c, .int .i64 d, .int .i64 s, .slice A1 n1 c1, .slice A2 n2 c2, .slice A3 n3 c3] 76 (0, 0)) := ⟨heap_alloc_new w _, lab_eq⟩
  clear hM hn1
  have HLh := Lib.hid HL
  clear HL
  go_enter Try.func8, Try.ntmps8
  go_wp2_with fail
  generalize w.alloc (.cells #[.int .i64 a, .int .i64 b, .int .i64 c, .int .i64 d, .int .i64 s, .slice A1 n1 c1, .slice A2 n2 c2, .slice A3 n3 c3] 76) = w1 at hb1 hz1 HLh F1 B1 ⊢
  refine HLh.out.mono ?_
  clear HLh
  rintro e w2 ⟨n, N, cp, cap, sh, Q, qv, rfl, hc, hsh, hQ, hq, hb2⟩
  obtain ⟨Aq, cq, rfl⟩ := OneN.len hq
  obtain ⟨m, hm⟩ : ∃ m, Q.length = m := ⟨_, rfl⟩
  rw [hm] at hq ⊢
  obtain ⟨ρ2, K2, F2, q2, r2⟩ := label_new (base := w.heap.size) (r := 2) hb2 hq (by omega) F1
  have B2 := B1.keep K2 id
  have L2 := hb1.trans (hb2.mono (by omega))
  clear hq K2 hb2 B1
  have hcN := hc.hN
  have hccap := hc.hcap
  have hccp := hc.hcp
  have hchn := hc.hn
  have hb3 : Below w2.heap.size w2 (w2.alloc (.cells (confArr n N cp cap) 79)) := (Below.refl _ _).alloc (Nat.le_refl _) _
  have hz3 : (w2.alloc (.cells (confArr n N cp cap) 79)).heap.size = w2.heap.size + 1 := by simp
  have C3 : Objr (w2.alloc (.cells (confArr n N cp cap) 79)) (lab ρ2 w2.heap.size 1) 1 w2.heap.size (.cells (confArr n N cp cap) 79 (0, 0)) := ⟨heap_alloc_new w2 _, lab_eq⟩
  have K3 : Keeps (fun _ => False) w2 ρ2 (w2.alloc (.cells (confArr n N cp cap) 79)) (lab ρ2 w2.heap.size 1) := ⟨hb3.size, fun k hk => ⟨lab_ne (by omega), fun _ => hb3.block k hk⟩⟩
  have F3 := F2.lab (r := 1) hb3.size (g := w2.heap.size) (by omega)
  obtain ⟨q3, r3⟩ := OneN.keep q2 r2 K3 id
  have B3 := B2.keep K3 id
  have hw2 := L2.size
  have L3 := L2.trans (hb3.mono hw2)
  clear q2 r2 F1 F2 K3 hb3 hb1 L2 B2
  unfold confV
  unfold confArr at C3 F3 q3 L3 hz3 B3
  go_wp2_with fail
  generalize w2.alloc (.cells #[.int .i64 (n : Nat), .int .i64 (N : Nat), .int .i64 (cp : Nat), .int .i64 1, .int .i64 16, .int .i64 (cap : Nat), .int .i64 64, .int .i64 100, .slice none 0 0] 79) = w3 at C3 F3 q3 L3 hz3 B3 ⊢
  generalize lab ρ2 w2.heap.size 1 = ρ3 at C3 F3 r3 B3 ⊢
  generalize w2.heap.size = bc at C3 hz3 ⊢
  refine (settle_new w3 w.heap.size 40 ρ3 0 sh 1 16 64 100 n N cp cap none 0 0 hcN (by omega) hchn hccp F3 L3.size).mono ?_
  rintro e w4 ⟨S, W, wc, ρ4, ws, rfl, s4, hfr, K4, F4, L4⟩
  have C4 := C3.keep K4 (by omega)
  have B4 := B3.keep K4 (by omega)
  obtain ⟨q4, r4⟩ := OneN.keep q3 r3 K4 (by omega)
  have L04 := L3.trans L4
  clear C3 q3 r3 K4 L4 L3 F3 B3
  have HH := Lib.hid (And.intro C4 (And.intro q4 (And.intro r4 (And.intro L04 (And.intro F4 (And.intro s4 B4))))))
  clear C4 q4 r4 L04 F4 s4 B4
  have hmw := fun w => makes_words N (by omega) w
  obtain ⟨X, hX⟩ : ∃ X, m * cp = X := ⟨_, rfl⟩
  obtain ⟨lim, hlim⟩ : ∃ lim, X * cap = lim := ⟨_, rfl⟩
  have hm16 : m ≤ 16 := by have := hQ.len; omega
  have hX1 : X ≤ 16 * 7 := by rw [← hX]; exact Nat.mul_le_mul hm16 hccp.2.2.1
  have hlim1 : lim ≤ 16 * 7 * 64 := by rw [← hlim]; exact Nat.mul_le_mul hX1 hccap.2
  have hwX : IntKind.i64.wrap ((m : Int) * (cp : Int)) = (X : Int) := by
    rw [← Int.natCast_mul, hX]
    exact wrap_small _ (by omega) (by omega)
  have hwl : IntKind.i64.wrap ((X : Int) * (cap : Int)) = (lim : Int) := by
    rw [← Int.natCast_mul, hlim]
    exact wrap_small _ (by omega) (by omega)
  have hQlim : Q.length * (cp * cap) ≤ lim := by rw [hm, ← Nat.mul_assoc, hX, hlim]; exact Nat.le_refl _
  obtain ⟨hol, hhol⟩ := holds_any w A2 n2 cp hccp.1 hM2
  have D0 := Drain.start (lim := lim) hfr hQ hccap.1 hccp.1 hQlim
  have HQ := Lib.hid hQ
  clear hX hlim hQ hQlim hfr hM2
  go_wp2_with (first | (go_at_call 28; (with_reducible refine (wakes13 _).mono ?_); rintro e w5 ⟨rfl, hb5⟩; obtain ⟨C4, q4, r4, L04, F4, s4, B4⟩ := HH.out; have K5 := Keeps.below (fun _ => False) ρ4 hb5; have C5 := C4.keep K5 id; have B5 := B4.keep K5 id; have q5 := OneN.keep q4 r4 K5 id; have s5 := s4.keep K5 (fun _ _ _ _ => id); have F5 := F4.le K5.1; have L05 := L04.trans (hb5.mono L04.size); clear HH C4 B4 q4 r4 L04 F4 s4 K5 hb5) | (go_at_call 30; (with_reducible refine (settle_look w5 w.heap.size 40 S N W wc ρ4 0 sh sh ws _ [] s5 F5 Aq m cq Q (One.hasQ q5.1 hm) (by omega) none none none none 0 0 0 0 0 0 0 0).mono ?_); rintro e w7 ⟨rfl, ρ7, sq, s7, K7, F7, L7⟩; have C7 := C5.keep K7 (by omega); have B7 := B5.keep K7 (by omega); have q7 := OneN.keep q5.1 q5.2 K7 (by omega); have L07 := L05.trans L7; clear C5 B5 q5 s5 F5 L05 K7 L7; have d1 := cell_of_obj C7.1 1; simp only [List.getElem?_toArray, List.getElem?_cons_zero, List.getElem?_cons_succ] at d1; have d2 := cell_of_obj C7.1 2; simp only [List.getElem?_toArray, List.getElem?_cons_zero, List.getElem?_cons_succ] at d2; have d5 := cell_of_obj C7.1 5; simp only [List.getElem?_toArray, List.getElem?_cons_zero, List.getElem?_cons_succ] at d5; have hbm := (Below.refl w7.heap.size w7).alloc (Nat.le_refl _) (cellsObj 95 N (fun _ => .int .u64 0)); have x2 := cellKeep hbm d2; have x5 := cellKeep hbm d5))
  clear d1 d2 d5 x2 x5 hmw hwX hwl
  have D8 : DrainAt w (w7.alloc (cellsObj 95 N (fun _ => .int .u64 0))) (lab ρ7 w7.heap.size 4) bc w.heap.size w7.heap.size S W wc n N cp cap sh (.cells (loadArr a b c d s A1 A2 A3 n1 n2 n3 c1 c2 c3) 76 (0, 0)) Q Q (.slice Aq m cq) sq (wsL sh Q ws N) (fun _ => 0) := by
    have K : Keeps (fun _ => False) w7 ρ7 (w7.alloc (cellsObj 95 N (fun _ => .int .u64 0))) (lab ρ7 w7.heap.size 4) := ⟨hbm.size, fun k hk => ⟨lab_ne (by omega), fun _ => hbm.block k hk⟩⟩
    have hsz := L07.size
    obtain ⟨a1, a2⟩ := OneN.keep q7.1 q7.2 K id
    exact ⟨C7.keep K id, B7.keep K id, by rw [hm]; exact a1, a2, s7.keep K (fun _ _ _ _ => id), ⟨heap_alloc_new w7 _, lab_eq⟩, F7.lab hbm.size (by simp) 4, L07.trans (hbm.mono hsz), hsz⟩
  clear s7 C7 B7 q7 F7 L07 hbm hz3 hw2
  have P8 := D0.bound0 (hol := hol) hhol.lt hccap.1
  generalize wsL sh Q ws N = ws0 at D8 D0 P8
  generalize w7.heap.size = mb at D8 ⊢
  generalize hpo : (Obj.cells (loadArr a b c d s A1 A2 A3 n1 n2 n3 c1 c2 c3) 76 (0, 0)) = po at D8
  have HPO := Lib.hid hpo
  have HHO := Lib.hid hhol
  clear HQ hpo hhol
  go_loopw [5, 8, 10] (fun qv lv tv wr => RelT w bc mb S W wc n N cp cap sh lim po hol qv lv tv wr) (fun _ lv tv _ => (200 - (intOf lv).toNat) * (lim + 2) + (lim + 1 - (intOf tv).toNat))
  case atStart => exact ⟨0, 0, _, _, _, _, _, rfl, rfl, by omega, by omega, D8, D0, P8⟩
  case round =>
    as_aux_lemma =>
      clear D8 D0 P8
      obtain ⟨t, lost, ρ, Q, sq, ws, mk, rfl, rfl, ht, hlost, hD, hP, hB⟩ := hrel
      obtain ⟨Aq, cq, rfl⟩ := OneN.len hD.q
      by_cases hgo : t ≤ lim ∧ 0 < Q.length
      · obtain ⟨htl, hql⟩ := hgo
        have q1 : (t : Int) ≤ (lim : Int) := by omega
        have q0 : (0 : Int) ≤ (t : Int) := by omega
        have q2 : 0 < Q.length := hql
        have hMt := hP.tick hB htl HHO.out.lt hccap.1 hccp.2.1
        obtain ⟨ms, hms⟩ : ∃ ms, msT 0 sh ws N = ms := ⟨_, rfl⟩
        have hml : ms.length ≤ 8 := by
          have := msT_len 0 sh ws N
          rw [hms] at this
          omega
        have hlen16 := hP.len.1
        have HT := Lib.hid (settle_tick wr w.heap.size 40 S N W wc ρ 0 sh ws sq Q hD.set hD.free)
        have HD := Lib.hid hD
        rw [hms] at hMt HT
        generalize wsT sh ws N = ws' at hMt HT
        have HM := Lib.hid hMt
        clear hMt hD hP hB hms
        generalize hQl : Q.length = ql at hql hlen16 q2 ⊢
        have HQL := Lib.hid hQl
        clear hQl
        have q3 : (0 : Int) < (ql : Int) := by omega
        go_wp2_with (go_at_call 29; (with_reducible refine HT.out.mono ?_); rintro e w6 ⟨v6, ρ6, rfl, s6, o6, r6, K6, F6, L6⟩; obtain ⟨A6, c6, rfl⟩ := OneN.len o6; obtain ⟨ρ7, X7, G7⟩ := (HD.out.sets s6 K6 F6 L6).msgs o6 r6; clear s6 o6 r6 K6 F6 L6 HT HD)
        rw [← HQL.out]
        go_loopw [5, 8, 10, 12] (fun qv lv tv iv wr => RelM w bc mb S W wc n N cp cap sh lim t lost po hol (.slice A6 ms.length c6) ms qv lv tv iv wr) (fun _ _ _ iv _ => (ms.length - intOf iv).toNat)
        case atStart => exact ⟨0, t, lost, _, _, _, _, _, rfl, rfl, rfl, by omega, .inl ⟨rfl, rfl⟩, X7, G7, HM.out⟩
        case round =>
          as_aux_lemma =>
            clear X7 G7 HM HQL
            obtain ⟨i, t1, lost1, ρ, Q1, sq1, ws1, mk, rfl, rfl, rfl, hi, hcs, hX, hG, hM⟩ := hrel
            obtain ⟨Aq1, cq1, rfl⟩ := OneN.len hX.q
            by_cases hil : i < ms.length
            · obtain ⟨x, hx⟩ : ∃ x, ms[i]? = some x := ⟨_, List.getElem?_eq_getElem hil⟩
              obtain ⟨k, e, tn, hk, hks, he, htn, hxe, hen⟩ := hM.get hx
              obtain ⟨tx, htx⟩ : ∃ tx, (copiesL k n cp).getD tn 0 = tx := ⟨_, rfl⟩
              have hpl : placeZ (copiesL k n cp) tx = (tn : Nat) := by
                rw [← htx]
                exact placeZ_at (copiesL_nodup k n cp (by omega) hchn.2 hccp.2.1) (by rw [copiesL_length hccp.2.1]; exact htn)
              rw [htx] at hxe
              have hto : x.to = (copiesL k n cp).getD tn 0 := by rw [hxe, htx]
              have hxp : x.peer = (k : Nat) := by rw [hxe]
              have HTO := Lib.hid hto
              have HXP := Lib.hid hxp
              have HPL := Lib.hid hpl
              clear htx hto hxp hpl
              obtain ⟨gm, cgm, hgm⟩ := OneN.form hG.one (by omega)
              injection hgm with hgm _ hgc
              subst hgm hgc
              have hrg := hG.range hx
              have HX0 := Lib.hid hx
              obtain ⟨cs, hcse⟩ : ∃ cs, x.cells.toList = cs := ⟨_, rfl⟩
              have hcl : cs.length = 22 := by rw [← hcse]; rfl
              have hone : ∀ v ∈ cs, v.oneCell' = true := by rw [← hcse]; exact x.one
              have hsz : (Try.prog.info? 102).map (·.size) = some cs.length := by rw [hcl]; exact msg_size
              have hsz2 : (Try.prog.info? 102).map (·.size) = some cs.toArray.size := hsz
              obtain ⟨dm, hdm, hrow⟩ := msg_under
              rw [hcse] at hrg
              have hbase := hX.bel.size
              have hmbl : mb < wr.heap.size := lt_of_obj hX.marks.1
              have HB := Lib.hid (box_law wr #[.int .i64 0, .int .i64 0, .int .i64 0, .int .i64 0, .int .u64 0, .int .u64 0, .int .u64 0, .int .u64 0, .int .i64 0, .int .u64 0, .slice none 0 0, .int .i64 0, .int .u64 0, .string ⟨#[]⟩, .string ⟨#[]⟩, .int .u64 0, .int .u64 0, .int .u64 0, .int .i64 0, .int .i64 0, .int .i64 0, .int .i64 0] 102 cs (by rw [hcl]; rfl))
              have hcv : ∀ wa, wa.rangeAt wr.heap.size 0 cs → MsgC wa wr.heap.size tx sh k e.num e.name e.amt := fun wa h => by
                rw [← hcse] at h
                exact MsgC.of h hxe
              have HCV := Lib.hid hcv
              have HXG := Lib.hid (And.intro hX (And.intro hG hM))
              have HR := Lib.hid hrg
              have HS := Lib.hid hsz
              have HE := Lib.hid (And.intro he hen)
              have q1 : (i : Int) < (ms.length : Int) := by omega
              have q0 : (0 : Int) ≤ (i : Int) := by omega
              have q9 : (i : Int) < 8 := by omega
              have p4 : (0 : Int) ≤ (k : Int) := by omega
              clear hX hG hM hrg hsz hxe hx hcse he hen hcv hcl
              have hlost : (∃ (g3 o3 : Nat) (y : Int), A3 = some ⟨g3, o3, none⟩ ∧ lost1 < n3 ∧ lost1 < 200 ∧ g3 < w.heap.size ∧ w.cell? ⟨g3, o3 + lost1, none⟩ = some (.int .i64 y)) ∨ (lost1 < n3 ∧ ¬ lost1 < 200) ∨ ¬ lost1 < n3 := by
                by_cases h1 : lost1 < n3
                · by_cases h2 : lost1 < 200
                  · obtain ⟨g3, o3, y, e1, e2, e3⟩ := hM3 lost1 h1
                    exact .inl ⟨g3, o3, y, e1, h1, h2, e2, e3⟩
                  · exact .inr (.inl ⟨h1, h2⟩)
                · exact .inr (.inr h1)
              have r0 : (0 : Int) ≤ (lost1 : Int) := by omega
              rcases hlost with ⟨g3, o3, y, rfl, hl1, hl2, h3, hy⟩ | ⟨hl1, hl2⟩ | hl1
              · have HCY := Lib.hid (fun (w' : World) (hb : Below w.heap.size w w') => (hb.cell (p := ⟨g3, o3 + lost1, none⟩) h3).trans hy)
                have r1 : (lost1 : Int) < (n3 : Int) := by omega
                have r2 : (lost1 : Int) < 200 := by omega
                clear hy
                rcases hev : (y.tmod 2 == 0) with _ | _
                · skip
                  by_cases hkn : k < n2
                  · obtain ⟨gh, oh, xh, rfl, hgh, hch, hxh⟩ := HHO.out.near k hkn
                    have p3 : (k : Int) < (n2 : Int) := by omega
                    have hI := fun w' => into13 xh cp w' (by omega) (by omega)
                    rw [hxh] at hI
                    clear hxh
                    have HCH := Lib.hid hch
                    clear hch
                    go_wp2_with (first | (refine wpList_load_mid rfl 102 (.tmp 66) rfl gm (i * 22) rfl cs dm HR.out hdm hrow HS.out ?_) | (refine wpList_store_mid rfl 102 (.tmp 13) (.tmp 67) rfl wr.heap.size 0 cs.toArray rfl rfl HB.out.1 hsz2 (all_oneCell_toArray hone) ?_; obtain ⟨hra, hba, hza⟩ := HB.out.2; generalize World.setCells _ _ _ _ = wa at hra hba hza ⊢; have Xa := HXG.out.1.below hba; have Ga := HXG.out.2.1.keep (Keeps.below (fun _ => False) ρ hba) id; have Ma := HXG.out.2.2; have ma := HCV.out wa hra; have m11 := ma.m11; obtain ⟨l6, l7⟩ := load_cells HPO.out Xa.load.1; have x2 := Xa.confc.e2; have cy := HCY.out wa Xa.bel; have chx := (Xa.bel.cell (p := ⟨gh, oh + k, none⟩) hgh).trans HCH.out; have XGM := Lib.hid (And.intro Xa (And.intro Ga (And.intro Ma ma))); clear HCV HR HB HXG hra hba Xa Ga Ma ma))
                    go_quiet ((go_at_call 33; first | exact Calls.quiet_of_same (unflipS (hI _)) | exact quietAddSame (unflipS (hI _))))
                    generalize hwd : wa.drewN _ = wd
                    have hbd : Below wa.heap.size wa wd := by rw [← hwd]; exact below_drewN (Below.refl _ _) _
                    clear l6 l7 x2 cy m11
                    obtain ⟨Xa, Ga, Ma, ma⟩ := XGM.out
                    have Xd := Xa.below hbd
                    have Gd := Ga.keep (Keeps.below (fun _ => False) ρ hbd) id
                    have md := ma.below hbd
                    obtain ⟨l6, l7⟩ := load_cells HPO.out Xd.load.1
                    have cy := HCY.out wd Xd.bel
                    have XGM := Lib.hid (And.intro Xd (And.intro Gd (And.intro Ma md)))
                    clear hwd hbd Xa Ga ma chx hI HCH Xd Gd Ma md
                    go_wp2_with fail
                    clear l6 l7 cy
                    try clear m11
                    try clear x2
                    obtain ⟨Xa, Ga, Ma, ma⟩ := XGM.out
                    obtain ⟨e0, e1, e2, e3, e4, e5, e6, e7, e8⟩ := Xa.confc
                    have mc := (Xa.markc hk).1
                    obtain ⟨c, hcm⟩ : ∃ c, mk (k : Nat) = c := ⟨_, rfl⟩
                    have hc16 := Ma.base.few (k : Nat)
                    rw [hcm] at mc hc16
                    obtain ⟨en, hen⟩ : ∃ en, e.num = en := ⟨_, rfl⟩
                    have hen2 : en = (c : Int) + 1 := by rw [← hen, HE.out.2, hcm]; omega
                    have m2 := ma.m2
                    have m11 := ma.m11
                    have m12 := ma.m12
                    rw [hen] at m12
                    have HEN := Lib.hid (And.intro hen hcm)
                    have HMK := Lib.hid (And.intro hen2 hc16)
                    have hPO : ∀ w', Calls Try.prog 32 #[.agg #[.int .i64 (n : Nat), .int .i64 (N : Nat), .int .i64 (cp : Nat), .int .i64 1, .int .i64 16, .int .i64 (cap : Nat), .int .i64 64, .int .i64 100, .slice none 0 0], .int .i64 (k : Nat), .int .i64 tx] w' fun e' w'' => e' = .returned (.int .i64 (tn : Nat)) ∧ Below w'.heap.size w' w'' := fun w' => by
                      have := placeOf_any w' n N cp cap k tx hc (by omega)
                      rw [HPL.out] at this
                      exact this
                    have p6 : decide ((c : Int) + 1 < en) = false := by simp; omega
                    have p7 : IntKind.u64.wrap ((c : Int) + 1) = (c : Int) + 1 := by rw [IntKind.wrap_u64]; omega
                    have p9 : (en == (c : Int) + 1) = true := by simp; omega
                    have p10 : (0 : Int) ≤ (c : Int) := by omega
                    have p11 : (c : Int) < 17 := by omega
                    have p8 : (k : Int) < (N : Int) := by omega
                    have hkey : ((tn : Int) != (hol k : Nat)) = !decide (tn = hol k) := by
                      rw [Bool.eq_iff_iff]
                      simp
                      first | omega | (have := HHO.out.far k (by omega); omega)
                    clear Xa Ga Ma ma hen hcm hen2 hc16 r0
                    by_cases hth : tn = hol k
                    · have p5 : ((tn : Int) != (hol k : Nat)) = false := by rw [hkey, decide_eq_true hth]; rfl
                      have HTH := Lib.hid hth
                      clear hth
                      have hth := HTH.out
                      clear hth
                      clear hkey
                      refine wp_region_held_drew (S := fun w' => w'.cell? ⟨bc, 0, none⟩ = some (.int .i64 (n : Nat)) ∧ w'.cell? ⟨bc, 1, none⟩ = some (.int .i64 (N : Nat)) ∧ w'.cell? ⟨bc, 2, none⟩ = some (.int .i64 (cp : Nat)) ∧ w'.cell? ⟨bc, 3, none⟩ = some (.int .i64 1) ∧ w'.cell? ⟨bc, 4, none⟩ = some (.int .i64 16) ∧ w'.cell? ⟨bc, 5, none⟩ = some (.int .i64 (cap : Nat)) ∧ w'.cell? ⟨bc, 6, none⟩ = some (.int .i64 64) ∧ w'.cell? ⟨bc, 7, none⟩ = some (.int .i64 100) ∧ w'.cell? ⟨bc, 8, none⟩ = some (.slice none 0 0) ∧ w'.cell? ⟨wr.heap.size, 2, none⟩ = some (.int .i64 tx) ∧ w'.cell? ⟨wr.heap.size, 11, none⟩ = some (.int .i64 (k : Nat)) ∧ w'.cell? ⟨wr.heap.size, 12, none⟩ = some (.int .u64 en) ∧ w'.cell? ⟨mb, k, none⟩ = some (.int .u64 (c : Nat)) ∧ Below wd.heap.size wd w') (by kernel_rfl) ⟨e0, e1, e2, e3, e4, e5, e6, e7, e8, m2, m11, m12, mc, (Below.refl _ _).drew⟩ (fun hHeld => ?_)
                      refine wpAnyH_take (i := 0) (v := ?_) rfl (by kernel_rfl) (by kernel_rfl) (by kernel_rfl) (fun _ _ _ h => h) (Or.inl ⟨by rfl, fun w hSw => ?_⟩) hHeld ?_
                      rotate_left
                      · (try dsimp only at hSw); go_split_ands; go_simp <;> with_reducible rfl
                      (try simp only [Act.put, List.getElem_toArray, List.getElem_cons_zero, List.setIfInBounds_toArray, List.set_cons_zero, List.set_cons_succ])
                      refine wpAnyH_take (i := 1) (v := ?_) rfl (by kernel_rfl) (by kernel_rfl) (by kernel_rfl) (fun _ _ _ h => h) (Or.inl ⟨by rfl, fun w hSw => ?_⟩) hHeld ?_
                      rotate_left
                      · (try dsimp only at hSw); go_split_ands; go_simp <;> with_reducible rfl
                      (try simp only [Act.put, List.getElem_toArray, List.getElem_cons_succ, List.getElem_cons_zero, List.setIfInBounds_toArray, List.set_cons_zero, List.set_cons_succ])
                      refine wpAnyH_take (i := 2) (v := ?_) rfl (by kernel_rfl) (by kernel_rfl) (by kernel_rfl) (fun _ _ _ h => h) (Or.inl ⟨by rfl, fun w hSw => ?_⟩) hHeld ?_
                      rotate_left
                      · (try dsimp only at hSw); go_split_ands; go_simp <;> with_reducible rfl
                      (try simp only [Act.put, List.getElem_toArray, List.getElem_cons_succ, List.getElem_cons_zero, List.setIfInBounds_toArray, List.set_cons_zero, List.set_cons_succ])
                      refine wpAnyH_take (i := 3) (v := ?_) rfl (by kernel_rfl) (by kernel_rfl) (by kernel_rfl) (fun _ _ _ h => h) (Or.inl ⟨by rfl, fun w hSw => ?_⟩) hHeld ?_
                      rotate_left
                      · (try dsimp only at hSw); go_split_ands; go_simp <;> with_reducible rfl
                      (try simp only [Act.put, List.getElem_toArray, List.getElem_cons_succ, List.getElem_cons_zero, List.setIfInBounds_toArray, List.set_cons_zero, List.set_cons_succ])
                      refine wpAnyH_take (i := 4) (v := ?_) rfl (by kernel_rfl) (by kernel_rfl) (by kernel_rfl) (fun _ _ _ h => h) (Or.inl ⟨by rfl, fun w hSw => ?_⟩) hHeld ?_
                      rotate_left
                      · (try dsimp only at hSw); go_split_ands; go_simp <;> with_reducible rfl
                      (try simp only [Act.put, List.getElem_toArray, List.getElem_cons_succ, List.getElem_cons_zero, List.setIfInBounds_toArray, List.set_cons_zero, List.set_cons_succ])
                      refine wpAnyH_take (i := 5) (v := ?_) rfl (by kernel_rfl) (by kernel_rfl) (by kernel_rfl) (fun _ _ _ h => h) (Or.inl ⟨by rfl, fun w hSw => ?_⟩) hHeld ?_
                      rotate_left
                      · (try dsimp only at hSw); go_split_ands; go_simp <;> with_reducible rfl
                      (try simp only [Act.put, List.getElem_toArray, List.getElem_cons_succ, List.getElem_cons_zero, List.setIfInBounds_toArray, List.set_cons_zero, List.set_cons_succ])
                      refine wpAnyH_take (i := 7) (v := ?_) rfl (by kernel_rfl) (by kernel_rfl) (by kernel_rfl) (fun _ _ _ h => h) (Or.inl ⟨by rfl, fun w hSw => ?_⟩) hHeld ?_
                      rotate_left
                      · (try dsimp only at hSw); go_split_ands; go_simp <;> with_reducible rfl
                      (try simp only [Act.put, List.getElem_toArray, List.getElem_cons_succ, List.getElem_cons_zero, List.setIfInBounds_toArray, List.set_cons_zero, List.set_cons_succ])
                      refine wpAnyH_ready (rs := [6]) (by kernel_rfl) (by simp) (AllReadyH.cons rfl (fun K hK => ?_) AllReadyH.nil)
                      go_simp
                      (go_at_call 32; (with_reducible refine (hPO _).mono ?_); rintro e' w5 ⟨rfl, hb5a⟩; have hb5 : Below wd.heap.size wd w5 := (Below.refl _ _).drew.trans hb5a)
                      refine hK.out _ _ ⟨cellKeep hb5 e0, cellKeep hb5 e1, cellKeep hb5 e2, cellKeep hb5 e3, cellKeep hb5 e4, cellKeep hb5 e5, cellKeep hb5 e6, cellKeep hb5 e7, cellKeep hb5 e8, cellKeep hb5 m2, cellKeep hb5 m11, cellKeep hb5 m12, cellKeep hb5 mc, hb5⟩ (fun hHeld2 => ?_)
                      clear hK K
                      (try simp only [Act.put, List.getElem_toArray, List.getElem_cons_succ, List.getElem_cons_zero, List.setIfInBounds_toArray, List.set_cons_zero, List.set_cons_succ])
                      refine wpAnyH_take (i := 8) (v := ?_) rfl (by kernel_rfl) (by kernel_rfl) (by kernel_rfl) (fun _ _ _ h => h) (Or.inl ⟨by rfl, fun w hSw => ?_⟩) hHeld2 ?_
                      rotate_left
                      · (try dsimp only at hSw); go_split_ands; go_simp <;> with_reducible rfl
                      (try simp only [Act.put, List.getElem_toArray, List.getElem_cons_succ, List.getElem_cons_zero, List.setIfInBounds_toArray, List.set_cons_zero, List.set_cons_succ])
                      refine wpAnyH_take (i := 9) (v := ?_) rfl (by kernel_rfl) (by kernel_rfl) (by kernel_rfl) (fun _ _ _ h => h) (Or.inl ⟨by rfl, fun w hSw => ?_⟩) hHeld2 ?_
                      rotate_left
                      · (try dsimp only at hSw); go_split_ands; go_simp <;> with_reducible rfl
                      (try simp only [Act.put, List.getElem_toArray, List.getElem_cons_succ, List.getElem_cons_zero, List.setIfInBounds_toArray, List.set_cons_zero, List.set_cons_succ])
                      refine wpAnyH_take (i := 10) (v := ?_) rfl (by kernel_rfl) (by kernel_rfl) (by kernel_rfl) (fun _ _ _ h => h) (Or.inl ⟨by rfl, fun w hSw => ?_⟩) hHeld2 ?_
                      rotate_left
                      · (try dsimp only at hSw); go_split_ands; go_simp <;> with_reducible rfl
                      (try simp only [Act.put, List.getElem_toArray, List.getElem_cons_succ, List.getElem_cons_zero, List.setIfInBounds_toArray, List.set_cons_zero, List.set_cons_succ])
                      refine wpAnyH_take (i := 11) (v := ?_) rfl (by kernel_rfl) (by kernel_rfl) (by kernel_rfl) (fun _ _ _ h => h) (Or.inl ⟨by rfl, fun w hSw => ?_⟩) hHeld2 ?_
                      rotate_left
                      · (try dsimp only at hSw); go_split_ands; go_simp <;> with_reducible rfl
                      (try simp only [Act.put, List.getElem_toArray, List.getElem_cons_succ, List.getElem_cons_zero, List.setIfInBounds_toArray, List.set_cons_zero, List.set_cons_succ])
                      refine wpAnyH_take (i := 12) (v := ?_) rfl (by kernel_rfl) (by kernel_rfl) (by kernel_rfl) (fun _ _ _ h => h) (Or.inl ⟨by rfl, fun w hSw => ?_⟩) hHeld2 ?_
                      rotate_left
                      · (try dsimp only at hSw); go_split_ands; go_simp <;> with_reducible rfl
                      (try simp only [Act.put, List.getElem_toArray, List.getElem_cons_succ, List.getElem_cons_zero, List.setIfInBounds_toArray, List.set_cons_zero, List.set_cons_succ])
                      refine wpAnyH_take (i := 13) (v := ?_) rfl (by kernel_rfl) (by kernel_rfl) (by kernel_rfl) (fun _ _ _ h => h) (Or.inl ⟨by rfl, fun w hSw => ?_⟩) hHeld2 ?_
                      rotate_left
                      · (try dsimp only at hSw); go_split_ands; go_simp <;> with_reducible rfl
                      (try simp only [Act.put, List.getElem_toArray, List.getElem_cons_succ, List.getElem_cons_zero, List.setIfInBounds_toArray, List.set_cons_zero, List.set_cons_succ])
                      refine wpAnyH_take (i := 14) (v := ?_) rfl (by kernel_rfl) (by kernel_rfl) (by kernel_rfl) (fun _ _ _ h => h) (Or.inl ⟨by rfl, fun w hSw => ?_⟩) hHeld2 ?_
                      rotate_left
                      · (try dsimp only at hSw); go_split_ands; go_simp <;> with_reducible rfl
                      (try simp only [Act.put, List.getElem_toArray, List.getElem_cons_succ, List.getElem_cons_zero, List.setIfInBounds_toArray, List.set_cons_zero, List.set_cons_succ])
                      refine wpAnyH_take (i := 15) (v := ?_) rfl (by kernel_rfl) (by kernel_rfl) (by kernel_rfl) (fun _ _ _ h => h) (Or.inl ⟨by rfl, fun w hSw => ?_⟩) hHeld2 ?_
                      rotate_left
                      · (try dsimp only at hSw); go_split_ands; go_simp <;> with_reducible rfl
                      (try simp only [Act.put, List.getElem_toArray, List.getElem_cons_succ, List.getElem_cons_zero, List.setIfInBounds_toArray, List.set_cons_zero, List.set_cons_succ])
                      refine wpAnyH_take (i := 16) (v := ?_) rfl (by kernel_rfl) (by kernel_rfl) (by kernel_rfl) (fun _ _ _ h => h) (Or.inl ⟨by rfl, fun w hSw => ?_⟩) hHeld2 ?_
                      rotate_left
                      · (try dsimp only at hSw); go_split_ands; go_simp <;> with_reducible rfl
                      (try simp only [Act.put, List.getElem_toArray, List.getElem_cons_succ, List.getElem_cons_zero, List.setIfInBounds_toArray, List.set_cons_zero, List.set_cons_succ])
                      refine wpAnyH_take (i := 17) (v := ?_) rfl (by kernel_rfl) (by kernel_rfl) (by kernel_rfl) (fun _ _ _ h => h) (Or.inl ⟨by rfl, fun w hSw => ?_⟩) hHeld2 ?_
                      rotate_left
                      · (try dsimp only at hSw); go_split_ands; go_simp <;> with_reducible rfl
                      (try simp only [Act.put, List.getElem_toArray, List.getElem_cons_succ, List.getElem_cons_zero, List.setIfInBounds_toArray, List.set_cons_zero, List.set_cons_succ])
                      refine wpAnyH_take (i := 18) (v := ?_) rfl (by kernel_rfl) (by kernel_rfl) (by kernel_rfl) (fun _ _ _ h => h) (Or.inl ⟨by rfl, fun w hSw => ?_⟩) hHeld2 ?_
                      rotate_left
                      · (try dsimp only at hSw); go_split_ands; go_simp <;> with_reducible rfl
                      (try simp only [Act.put, List.getElem_toArray, List.getElem_cons_succ, List.getElem_cons_zero, List.setIfInBounds_toArray, List.set_cons_zero, List.set_cons_succ])
                      refine wpAnyH_take (i := 19) (v := ?_) rfl (by kernel_rfl) (by kernel_rfl) (by kernel_rfl) (fun _ _ _ h => h) (Or.inl ⟨by rfl, fun w hSw => ?_⟩) hHeld2 ?_
                      rotate_left
                      · (try dsimp only at hSw); go_split_ands; go_simp <;> with_reducible rfl
                      (try simp only [Act.put, List.getElem_toArray, List.getElem_cons_succ, List.getElem_cons_zero, List.setIfInBounds_toArray, List.set_cons_zero, List.set_cons_succ])
                      refine wpAnyH_done (by kernel_rfl) ?_ _
                      obtain ⟨_, _, _, _, _, _, _, _, _, _, m11', m12', mc', hbw⟩ := hHeld2
                      clear hHeld hb5 hb5a hPO m2 m11 m12 mc e0 e1 e2 e3 e4 e5 e6 e7 e8
                      go_wp2_with fail
                      go_quiet (fail)
                      clear m11' m12' mc'
                      generalize hw7 : w5.drewN _ = w7
                      have hb7 : Below wd.heap.size wd w7 := by rw [← hw7]; exact below_drewN hbw _
                      clear hw7 hbw
                      obtain ⟨Xa, Ga, Ma, ma⟩ := XGM.out
                      have Xw := Xa.below hb7
                      have Gw := Ga.keep (Keeps.below (fun _ => False) ρ hb7) id
                      have mw := ma.below hb7
                      have m11 := mw.m11
                      obtain ⟨mc, mf⟩ := Xw.markc hk
                      rw [HEN.out.2] at mc
                      obtain ⟨Xm, Km⟩ := Xw.mark k
                      rw [HEN.out.2, show ((c + 1 : Nat) : Int) = (c : Int) + 1 from by omega] at Xm Km
                      have Gm := Gw.keep Km (by omega)
                      have n11 := (World.cell?_of_block (a := ⟨wr.heap.size, 11, none⟩) (Below.heap_setCell w7 ⟨mb, k, none⟩ (.int .u64 ((c : Int) + 1)) wr.heap.size (by show wr.heap.size ≠ mb; omega))).trans m11
                      have HZ := Lib.hid (And.intro Xm (And.intro Gm (And.intro Ma n11)))
                      clear Xa Ga Ma ma Xw Gw mw Xm Gm Km n11 hb7 XGM
                      go_wp2_with fail
                      clear m11 mc mf
                      obtain ⟨Xm, Gm, Ma, n11⟩ := HZ.out
                      generalize w7.setCell ⟨mb, k, none⟩ (.int .u64 ((c : Int) + 1)) = w8 at Xm Gm n11 ⊢
                      clear HZ
                      have nc := (Xm.markc hk).1
                      have hbk : ((bump mk k (k : Nat) : Nat) : Int) = (c : Int) + 1 := by unfold bump; rw [if_pos rfl, HEN.out.2]; omega
                      rw [hbk] at nc
                      have hany : Q1.any (wantsB k ((c : Int) + 1)) = true := by
                        rw [List.any_eq_true]
                        obtain ⟨j, hj, hpj⟩ := firstE_peer HE.out.1
                        refine ⟨e, List.mem_of_getElem? hj, ?_⟩
                        unfold wantsB
                        rw [hpj, HE.out.2, HEN.out.2]
                        simp
                      have hq16 := Ma.base.len.1
                      have hW : ∀ w', Below w8.heap.size w8 w' → Calls Try.prog 34 #[.pointer (some ⟨S, 0, none⟩), .int .i64 (k : Nat), .int .u64 ((c : Int) + 1)] w' fun e' w'' => e' = .returned (.bool true) ∧ Below w'.heap.size w' w'' := fun w' hb => by
                        have := settle_wants w' w.heap.size 40 S N W wc k ((c : Int) + 1) ρ 0 sh ws1 sq1 Q1 (Xm.below hb).set hk hks (by omega)
                        rw [hany] at this
                        exact this
                      have hH : ∀ w', Below w8.heap.size w8 w' → Calls Try.prog 35 #[.slice Aq1 Q1.length cq1, .int .i64 (k : Nat), .int .u64 ((c : Int) + 1)] w' fun e' w'' => e' = .returned (.bool true) ∧ Below w'.heap.size w' w'' := fun w' hb =>
                        has_true w' _ Q1 k ((c : Int) + 1) e (One.hasQ (Xm.below hb).q rfl) (by omega) HE.out.1 (by rw [HEN.out.1, HMK.out.1]; omega)
                      obtain ⟨Qn, hQn⟩ : ∃ Qn, Q1.filter (leftB k ((c : Int) + 1)) = Qn := ⟨_, rfl⟩
                      have hQn16 : Qn.length ≤ 16 := by
                        rw [← hQn]
                        have := List.length_filter_le (leftB k ((c : Int) + 1)) Q1
                        omega
                      have hMc := (Ma.anew HHO.out.lt hccap.1 i (Nat.le_refl _)).credit HX0.out HXP.out hk hks HE.out.1 HHO.out.lt hccap.1
                      rw [HEN.out.2, show ((c + 1 : Nat) : Int) = (c : Int) + 1 from by omega, hQn] at hMc
                      have hO : ∀ w', Below w8.heap.size w8 w' → Calls Try.prog 36 #[.slice Aq1 Q1.length cq1, .int .i64 (k : Nat), .int .u64 ((c : Int) + 1)] w' fun e' w'' => ∃ u, e' = .returned u ∧ One w'' w'.heap.size 104 4 u Qn.length (cQ Qn) ∧ Below w'.heap.size w' w'' := fun w' hb => by
                        have := without_any w' _ Q1 k ((c : Int) + 1) (One.hasQ (Xm.below hb).q rfl) (by omega)
                        rw [hQn] at this
                        exact this
                      have HXG2 := Lib.hid (And.intro Xm Gm)
                      have HMa := Lib.hid hMc
                      have HW := Lib.hid (And.intro hW (And.intro hH hO))
                      clear Xm Gm Ma hMc hQn hany hbk hW hH hO
                      go_region_held3 (fun w' => w'.cell? ⟨wr.heap.size, 11, none⟩ = some (.int .i64 (k : Nat)) ∧ w'.cell? ⟨mb, k, none⟩ = some (.int .u64 ((c : Int) + 1)) ∧ Below w8.heap.size w8 w')
                        (first | exact ⟨n11, nc, (Below.refl _ _).drew⟩ | (go_split_ands; exact ⟨by assumption, by assumption, by assumption⟩) | (go_split_ands; exact ⟨cellKeep hb9 n11, cellKeep hb9 nc, hb9⟩))
                        ((first | (go_at_call 34; go_split_ands; (with_reducible refine (HW.out.1 _ (by assumption)).mono ?_); rintro e' w9 ⟨rfl, hb9a⟩; have hb9 : Below w8.heap.size w8 w9 := Below.trans (by assumption) (hb9a.mono (Below.size (by assumption)))) | (go_at_call 35; go_split_ands; (with_reducible refine (HW.out.2.1 _ (by assumption)).mono ?_); rintro e' w9 ⟨rfl, hb9a⟩; have hb9 : Below w8.heap.size w8 w9 := Below.trans (by assumption) (hb9a.mono (Below.size (by assumption))))))
                      all_goals
                        go_wp2_with fail
                        have y11 := cellKeep hb9 n11
                        have yc := cellKeep hb9 nc
                        go_region_held3 (fun w' => w'.cell? ⟨wr.heap.size, 11, none⟩ = some (.int .i64 (k : Nat)) ∧ w'.cell? ⟨mb, k, none⟩ = some (.int .u64 ((c : Int) + 1)) ∧ Below w8.heap.size w8 w')
                          (first | exact ⟨y11, yc, hb9.drew⟩ | (go_split_ands; exact ⟨by assumption, by assumption, by assumption⟩) | (go_split_ands; exact ⟨cellKeep hb10 n11, cellKeep hb10 nc, hb10⟩))
                          ((go_at_call 36; (with_reducible refine (HW.out.2.2 _ hb9.drew).mono ?_); rintro e' w10 ⟨u, rfl, ho10, hb10a⟩; obtain ⟨Au, cu, rfl⟩ := OneN.len ho10; have hb10 : Below w8.heap.size w8 w10 := hb9.drew.trans (hb10a.mono hb9.drew.size); obtain ⟨ρq, Xq, Kq⟩ := (HXG2.out.1.below hb9.drew).newQ hb10a ho10; have HQ2 := Lib.hid (And.intro Xq ((HXG2.out.2.keep (Keeps.below (fun _ => False) ρ hb9.drew) id).keep Kq id)); clear ho10 hb10a Xq Kq))
                        clear y11 yc n11 nc hb9 hb10
                        go_wp2_with (go_at_call 30; (with_reducible refine (settle_look w10 w.heap.size 40 S N W wc ρq 0 sh sh ws1 sq1 Q1 HQ2.out.1.set HQ2.out.1.free Au Qn.length cu Qn (One.hasQ HQ2.out.1.q rfl) (by omega) none none none none 0 0 0 0 0 0 0 0).mono ?_); rintro e' w11 ⟨rfl, ρ11, sq11, s11, K11, F11, L11⟩; have HQ3 := Lib.hid (And.intro (HQ2.out.1.sets s11 K11 F11 L11) (HQ2.out.2.keep K11 (by omega))); clear s11 K11 F11 L11 HQ2)
                        exact ⟨⟨i + 1, 0, (lost1 + 1), _, _, _, _, _, by go_num, by go_num, by go_num, by omega, by omega, HQ3.out.1, HQ3.out.2, HMa.out⟩, by simp [intOf]; omega⟩
                    · have p5 : ((tn : Int) != (hol k : Nat)) = true := by rw [hkey, decide_eq_false hth]; rfl
                      clear hkey
                      refine wp_region_held_drew (S := fun w' => w'.cell? ⟨bc, 0, none⟩ = some (.int .i64 (n : Nat)) ∧ w'.cell? ⟨bc, 1, none⟩ = some (.int .i64 (N : Nat)) ∧ w'.cell? ⟨bc, 2, none⟩ = some (.int .i64 (cp : Nat)) ∧ w'.cell? ⟨bc, 3, none⟩ = some (.int .i64 1) ∧ w'.cell? ⟨bc, 4, none⟩ = some (.int .i64 16) ∧ w'.cell? ⟨bc, 5, none⟩ = some (.int .i64 (cap : Nat)) ∧ w'.cell? ⟨bc, 6, none⟩ = some (.int .i64 64) ∧ w'.cell? ⟨bc, 7, none⟩ = some (.int .i64 100) ∧ w'.cell? ⟨bc, 8, none⟩ = some (.slice none 0 0) ∧ w'.cell? ⟨wr.heap.size, 2, none⟩ = some (.int .i64 tx) ∧ w'.cell? ⟨wr.heap.size, 11, none⟩ = some (.int .i64 (k : Nat)) ∧ w'.cell? ⟨wr.heap.size, 12, none⟩ = some (.int .u64 en) ∧ w'.cell? ⟨mb, k, none⟩ = some (.int .u64 (c : Nat)) ∧ Below wd.heap.size wd w') (by kernel_rfl) ⟨e0, e1, e2, e3, e4, e5, e6, e7, e8, m2, m11, m12, mc, (Below.refl _ _).drew⟩ (fun hHeld => ?_)
                      refine wpAnyH_take (i := 0) (v := ?_) rfl (by kernel_rfl) (by kernel_rfl) (by kernel_rfl) (fun _ _ _ h => h) (Or.inl ⟨by rfl, fun w hSw => ?_⟩) hHeld ?_
                      rotate_left
                      · (try dsimp only at hSw); go_split_ands; go_simp <;> with_reducible rfl
                      (try simp only [Act.put, List.getElem_toArray, List.getElem_cons_zero, List.setIfInBounds_toArray, List.set_cons_zero, List.set_cons_succ])
                      refine wpAnyH_take (i := 1) (v := ?_) rfl (by kernel_rfl) (by kernel_rfl) (by kernel_rfl) (fun _ _ _ h => h) (Or.inl ⟨by rfl, fun w hSw => ?_⟩) hHeld ?_
                      rotate_left
                      · (try dsimp only at hSw); go_split_ands; go_simp <;> with_reducible rfl
                      (try simp only [Act.put, List.getElem_toArray, List.getElem_cons_succ, List.getElem_cons_zero, List.setIfInBounds_toArray, List.set_cons_zero, List.set_cons_succ])
                      refine wpAnyH_take (i := 2) (v := ?_) rfl (by kernel_rfl) (by kernel_rfl) (by kernel_rfl) (fun _ _ _ h => h) (Or.inl ⟨by rfl, fun w hSw => ?_⟩) hHeld ?_
                      rotate_left
                      · (try dsimp only at hSw); go_split_ands; go_simp <;> with_reducible rfl
                      (try simp only [Act.put, List.getElem_toArray, List.getElem_cons_succ, List.getElem_cons_zero, List.setIfInBounds_toArray, List.set_cons_zero, List.set_cons_succ])
                      refine wpAnyH_take (i := 3) (v := ?_) rfl (by kernel_rfl) (by kernel_rfl) (by kernel_rfl) (fun _ _ _ h => h) (Or.inl ⟨by rfl, fun w hSw => ?_⟩) hHeld ?_
                      rotate_left
                      · (try dsimp only at hSw); go_split_ands; go_simp <;> with_reducible rfl
                      (try simp only [Act.put, List.getElem_toArray, List.getElem_cons_succ, List.getElem_cons_zero, List.setIfInBounds_toArray, List.set_cons_zero, List.set_cons_succ])
                      refine wpAnyH_take (i := 4) (v := ?_) rfl (by kernel_rfl) (by kernel_rfl) (by kernel_rfl) (fun _ _ _ h => h) (Or.inl ⟨by rfl, fun w hSw => ?_⟩) hHeld ?_
                      rotate_left
                      · (try dsimp only at hSw); go_split_ands; go_simp <;> with_reducible rfl
                      (try simp only [Act.put, List.getElem_toArray, List.getElem_cons_succ, List.getElem_cons_zero, List.setIfInBounds_toArray, List.set_cons_zero, List.set_cons_succ])
                      refine wpAnyH_take (i := 5) (v := ?_) rfl (by kernel_rfl) (by kernel_rfl) (by kernel_rfl) (fun _ _ _ h => h) (Or.inl ⟨by rfl, fun w hSw => ?_⟩) hHeld ?_
                      rotate_left
                      · (try dsimp only at hSw); go_split_ands; go_simp <;> with_reducible rfl
                      (try simp only [Act.put, List.getElem_toArray, List.getElem_cons_succ, List.getElem_cons_zero, List.setIfInBounds_toArray, List.set_cons_zero, List.set_cons_succ])
                      refine wpAnyH_take (i := 7) (v := ?_) rfl (by kernel_rfl) (by kernel_rfl) (by kernel_rfl) (fun _ _ _ h => h) (Or.inl ⟨by rfl, fun w hSw => ?_⟩) hHeld ?_
                      rotate_left
                      · (try dsimp only at hSw); go_split_ands; go_simp <;> with_reducible rfl
                      (try simp only [Act.put, List.getElem_toArray, List.getElem_cons_succ, List.getElem_cons_zero, List.setIfInBounds_toArray, List.set_cons_zero, List.set_cons_succ])
                      refine wpAnyH_ready (rs := [6]) (by kernel_rfl) (by simp) (AllReadyH.cons rfl (fun K hK => ?_) AllReadyH.nil)
                      go_simp
                      (go_at_call 32; (with_reducible refine (hPO _).mono ?_); rintro e' w5 ⟨rfl, hb5a⟩; have hb5 : Below wd.heap.size wd w5 := (Below.refl _ _).drew.trans hb5a)
                      refine hK.out _ _ ⟨cellKeep hb5 e0, cellKeep hb5 e1, cellKeep hb5 e2, cellKeep hb5 e3, cellKeep hb5 e4, cellKeep hb5 e5, cellKeep hb5 e6, cellKeep hb5 e7, cellKeep hb5 e8, cellKeep hb5 m2, cellKeep hb5 m11, cellKeep hb5 m12, cellKeep hb5 mc, hb5⟩ (fun hHeld2 => ?_)
                      clear hK K
                      (try simp only [Act.put, List.getElem_toArray, List.getElem_cons_succ, List.getElem_cons_zero, List.setIfInBounds_toArray, List.set_cons_zero, List.set_cons_succ])
                      refine wpAnyH_take (i := 8) (v := ?_) rfl (by kernel_rfl) (by kernel_rfl) (by kernel_rfl) (fun _ _ _ h => h) (Or.inl ⟨by rfl, fun w hSw => ?_⟩) hHeld2 ?_
                      rotate_left
                      · (try dsimp only at hSw); go_split_ands; go_simp <;> with_reducible rfl
                      (try simp only [Act.put, List.getElem_toArray, List.getElem_cons_succ, List.getElem_cons_zero, List.setIfInBounds_toArray, List.set_cons_zero, List.set_cons_succ])
                      refine wpAnyH_take (i := 9) (v := ?_) rfl (by kernel_rfl) (by kernel_rfl) (by kernel_rfl) (fun _ _ _ h => h) (Or.inl ⟨by rfl, fun w hSw => ?_⟩) hHeld2 ?_
                      rotate_left
                      · (try dsimp only at hSw); go_split_ands; go_simp <;> with_reducible rfl
                      (try simp only [Act.put, List.getElem_toArray, List.getElem_cons_succ, List.getElem_cons_zero, List.setIfInBounds_toArray, List.set_cons_zero, List.set_cons_succ])
                      refine wpAnyH_take (i := 10) (v := undef) rfl (by kernel_rfl) (by kernel_rfl) (by kernel_rfl) (fun _ _ _ h => h) (Or.inr ⟨by rfl, rfl⟩) hHeld2 ?_
                      (try simp only [Act.put, List.getElem_toArray, List.getElem_cons_succ, List.getElem_cons_zero, List.setIfInBounds_toArray, List.set_cons_zero, List.set_cons_succ])
                      refine wpAnyH_take (i := 11) (v := undef) rfl (by kernel_rfl) (by kernel_rfl) (by kernel_rfl) (fun _ _ _ h => h) (Or.inr ⟨by rfl, rfl⟩) hHeld2 ?_
                      (try simp only [Act.put, List.getElem_toArray, List.getElem_cons_succ, List.getElem_cons_zero, List.setIfInBounds_toArray, List.set_cons_zero, List.set_cons_succ])
                      refine wpAnyH_take (i := 12) (v := undef) rfl (by kernel_rfl) (by kernel_rfl) (by kernel_rfl) (fun _ _ _ h => h) (Or.inr ⟨by rfl, rfl⟩) hHeld2 ?_
                      (try simp only [Act.put, List.getElem_toArray, List.getElem_cons_succ, List.getElem_cons_zero, List.setIfInBounds_toArray, List.set_cons_zero, List.set_cons_succ])
                      refine wpAnyH_take (i := 13) (v := undef) rfl (by kernel_rfl) (by kernel_rfl) (by kernel_rfl) (fun _ _ _ h => h) (Or.inr ⟨by rfl, rfl⟩) hHeld2 ?_
                      (try simp only [Act.put, List.getElem_toArray, List.getElem_cons_succ, List.getElem_cons_zero, List.setIfInBounds_toArray, List.set_cons_zero, List.set_cons_succ])
                      refine wpAnyH_take (i := 14) (v := undef) rfl (by kernel_rfl) (by kernel_rfl) (by kernel_rfl) (fun _ _ _ h => h) (Or.inr ⟨by rfl, rfl⟩) hHeld2 ?_
                      (try simp only [Act.put, List.getElem_toArray, List.getElem_cons_succ, List.getElem_cons_zero, List.setIfInBounds_toArray, List.set_cons_zero, List.set_cons_succ])
                      refine wpAnyH_take (i := 15) (v := undef) rfl (by kernel_rfl) (by kernel_rfl) (by kernel_rfl) (fun _ _ _ h => h) (Or.inr ⟨by rfl, rfl⟩) hHeld2 ?_
                      (try simp only [Act.put, List.getElem_toArray, List.getElem_cons_succ, List.getElem_cons_zero, List.setIfInBounds_toArray, List.set_cons_zero, List.set_cons_succ])
                      refine wpAnyH_take (i := 16) (v := undef) rfl (by kernel_rfl) (by kernel_rfl) (by kernel_rfl) (fun _ _ _ h => h) (Or.inr ⟨by rfl, rfl⟩) hHeld2 ?_
                      (try simp only [Act.put, List.getElem_toArray, List.getElem_cons_succ, List.getElem_cons_zero, List.setIfInBounds_toArray, List.set_cons_zero, List.set_cons_succ])
                      refine wpAnyH_take (i := 17) (v := undef) rfl (by kernel_rfl) (by kernel_rfl) (by kernel_rfl) (fun _ _ _ h => h) (Or.inr ⟨by rfl, rfl⟩) hHeld2 ?_
                      (try simp only [Act.put, List.getElem_toArray, List.getElem_cons_succ, List.getElem_cons_zero, List.setIfInBounds_toArray, List.set_cons_zero, List.set_cons_succ])
                      refine wpAnyH_take (i := 18) (v := undef) rfl (by kernel_rfl) (by kernel_rfl) (by kernel_rfl) (fun _ _ _ h => h) (Or.inr ⟨by rfl, rfl⟩) hHeld2 ?_
                      (try simp only [Act.put, List.getElem_toArray, List.getElem_cons_succ, List.getElem_cons_zero, List.setIfInBounds_toArray, List.set_cons_zero, List.set_cons_succ])
                      refine wpAnyH_take (i := 19) (v := ?_) rfl (by kernel_rfl) (by kernel_rfl) (by kernel_rfl) (fun _ _ _ h => h) (Or.inl ⟨by rfl, fun w hSw => ?_⟩) hHeld2 ?_
                      rotate_left
                      · (try dsimp only at hSw); go_split_ands; go_simp <;> with_reducible rfl
                      (try simp only [Act.put, List.getElem_toArray, List.getElem_cons_succ, List.getElem_cons_zero, List.setIfInBounds_toArray, List.set_cons_zero, List.set_cons_succ])
                      refine wpAnyH_done (by kernel_rfl) ?_ _
                      obtain ⟨_, _, _, _, _, _, _, _, _, _, m11', m12', mc', hbw⟩ := hHeld2
                      clear hHeld hb5 hb5a hPO m2 m11 m12 mc e0 e1 e2 e3 e4 e5 e6 e7 e8
                      go_wp2_with fail
                      go_quiet (fail)
                      go_wp2_with fail
                      obtain ⟨Ma, hbz⟩ := And.intro XGM.out.2.2.1 (fun q => below_drewN hbw q)
                      exact ⟨⟨i + 1, 0, (lost1 + 1), _, _, _, _, _, by go_num, by go_num, by go_num, by omega, by omega, XGM.out.1.below (hbz _), XGM.out.2.1.keep (Keeps.below (fun _ => False) ρ (hbz _)) id, (Ma.anew HHO.out.lt hccap.1 i (Nat.le_refl _)).past HX0.out HXP.out HTO.out htn hth HHO.out.lt (by omega) hchn.2 hccp.2.1⟩, by simp [intOf]; omega⟩
                  · have p3 : ¬ ((k : Int) < (n2 : Int)) := by omega
                    go_wp2_with (first | (refine wpList_load_mid rfl 102 (.tmp 66) rfl gm (i * 22) rfl cs dm HR.out hdm hrow HS.out ?_) | (refine wpList_store_mid rfl 102 (.tmp 13) (.tmp 67) rfl wr.heap.size 0 cs.toArray rfl rfl HB.out.1 hsz2 (all_oneCell_toArray hone) ?_; obtain ⟨hra, hba, hza⟩ := HB.out.2; generalize World.setCells _ _ _ _ = wa at hra hba hza ⊢; have Xa := HXG.out.1.below hba; have Ga := HXG.out.2.1.keep (Keeps.below (fun _ => False) ρ hba) id; have Ma := HXG.out.2.2; have ma := HCV.out wa hra; have m11 := ma.m11; obtain ⟨l6, l7⟩ := load_cells HPO.out Xa.load.1; have x2 := Xa.confc.e2; have cy := HCY.out wa Xa.bel; have XGM := Lib.hid (And.intro Xa (And.intro Ga (And.intro Ma ma))); clear HCV HR HB HXG hra hba Xa Ga Ma ma))
                    clear l6 l7 cy
                    try clear m11
                    try clear x2
                    obtain ⟨Xa, Ga, Ma, ma⟩ := XGM.out
                    obtain ⟨e0, e1, e2, e3, e4, e5, e6, e7, e8⟩ := Xa.confc
                    have mc := (Xa.markc hk).1
                    obtain ⟨c, hcm⟩ : ∃ c, mk (k : Nat) = c := ⟨_, rfl⟩
                    have hc16 := Ma.base.few (k : Nat)
                    rw [hcm] at mc hc16
                    obtain ⟨en, hen⟩ : ∃ en, e.num = en := ⟨_, rfl⟩
                    have hen2 : en = (c : Int) + 1 := by rw [← hen, HE.out.2, hcm]; omega
                    have m2 := ma.m2
                    have m11 := ma.m11
                    have m12 := ma.m12
                    rw [hen] at m12
                    have HEN := Lib.hid (And.intro hen hcm)
                    have HMK := Lib.hid (And.intro hen2 hc16)
                    have hPO : ∀ w', Calls Try.prog 32 #[.agg #[.int .i64 (n : Nat), .int .i64 (N : Nat), .int .i64 (cp : Nat), .int .i64 1, .int .i64 16, .int .i64 (cap : Nat), .int .i64 64, .int .i64 100, .slice none 0 0], .int .i64 (k : Nat), .int .i64 tx] w' fun e' w'' => e' = .returned (.int .i64 (tn : Nat)) ∧ Below w'.heap.size w' w'' := fun w' => by
                      have := placeOf_any w' n N cp cap k tx hc (by omega)
                      rw [HPL.out] at this
                      exact this
                    have p6 : decide ((c : Int) + 1 < en) = false := by simp; omega
                    have p7 : IntKind.u64.wrap ((c : Int) + 1) = (c : Int) + 1 := by rw [IntKind.wrap_u64]; omega
                    have p9 : (en == (c : Int) + 1) = true := by simp; omega
                    have p10 : (0 : Int) ≤ (c : Int) := by omega
                    have p11 : (c : Int) < 17 := by omega
                    have p8 : (k : Int) < (N : Int) := by omega
                    have hkey : ((tn : Int) != 0) = !decide (tn = hol k) := by
                      rw [Bool.eq_iff_iff]
                      simp
                      first | omega | (have := HHO.out.far k (by omega); omega)
                    clear Xa Ga Ma ma hen hcm hen2 hc16 r0
                    by_cases hth : tn = hol k
                    · have htz : tn = 0 := by rw [hth]; exact HHO.out.far k (by omega)
                      subst htz
                      have HTH := Lib.hid hth
                      clear hth
                      have hth := HTH.out
                      clear hth
                      clear hkey
                      refine wp_region_held_drew (S := fun w' => w'.cell? ⟨bc, 0, none⟩ = some (.int .i64 (n : Nat)) ∧ w'.cell? ⟨bc, 1, none⟩ = some (.int .i64 (N : Nat)) ∧ w'.cell? ⟨bc, 2, none⟩ = some (.int .i64 (cp : Nat)) ∧ w'.cell? ⟨bc, 3, none⟩ = some (.int .i64 1) ∧ w'.cell? ⟨bc, 4, none⟩ = some (.int .i64 16) ∧ w'.cell? ⟨bc, 5, none⟩ = some (.int .i64 (cap : Nat)) ∧ w'.cell? ⟨bc, 6, none⟩ = some (.int .i64 64) ∧ w'.cell? ⟨bc, 7, none⟩ = some (.int .i64 100) ∧ w'.cell? ⟨bc, 8, none⟩ = some (.slice none 0 0) ∧ w'.cell? ⟨wr.heap.size, 2, none⟩ = some (.int .i64 tx) ∧ w'.cell? ⟨wr.heap.size, 11, none⟩ = some (.int .i64 (k : Nat)) ∧ w'.cell? ⟨wr.heap.size, 12, none⟩ = some (.int .u64 en) ∧ w'.cell? ⟨mb, k, none⟩ = some (.int .u64 (c : Nat)) ∧ Below wa.heap.size wa w') (by kernel_rfl) ⟨e0, e1, e2, e3, e4, e5, e6, e7, e8, m2, m11, m12, mc, (Below.refl _ _).drew⟩ (fun hHeld => ?_)
                      refine wpAnyH_take (i := 0) (v := ?_) rfl (by kernel_rfl) (by kernel_rfl) (by kernel_rfl) (fun _ _ _ h => h) (Or.inl ⟨by rfl, fun w hSw => ?_⟩) hHeld ?_
                      rotate_left
                      · (try dsimp only at hSw); go_split_ands; go_simp <;> with_reducible rfl
                      (try simp only [Act.put, List.getElem_toArray, List.getElem_cons_zero, List.setIfInBounds_toArray, List.set_cons_zero, List.set_cons_succ])
                      refine wpAnyH_take (i := 1) (v := ?_) rfl (by kernel_rfl) (by kernel_rfl) (by kernel_rfl) (fun _ _ _ h => h) (Or.inl ⟨by rfl, fun w hSw => ?_⟩) hHeld ?_
                      rotate_left
                      · (try dsimp only at hSw); go_split_ands; go_simp <;> with_reducible rfl
                      (try simp only [Act.put, List.getElem_toArray, List.getElem_cons_succ, List.getElem_cons_zero, List.setIfInBounds_toArray, List.set_cons_zero, List.set_cons_succ])
                      refine wpAnyH_take (i := 2) (v := ?_) rfl (by kernel_rfl) (by kernel_rfl) (by kernel_rfl) (fun _ _ _ h => h) (Or.inl ⟨by rfl, fun w hSw => ?_⟩) hHeld ?_
                      rotate_left
                      · (try dsimp only at hSw); go_split_ands; go_simp <;> with_reducible rfl
                      (try simp only [Act.put, List.getElem_toArray, List.getElem_cons_succ, List.getElem_cons_zero, List.setIfInBounds_toArray, List.set_cons_zero, List.set_cons_succ])
                      refine wpAnyH_take (i := 3) (v := ?_) rfl (by kernel_rfl) (by kernel_rfl) (by kernel_rfl) (fun _ _ _ h => h) (Or.inl ⟨by rfl, fun w hSw => ?_⟩) hHeld ?_
                      rotate_left
                      · (try dsimp only at hSw); go_split_ands; go_simp <;> with_reducible rfl
                      (try simp only [Act.put, List.getElem_toArray, List.getElem_cons_succ, List.getElem_cons_zero, List.setIfInBounds_toArray, List.set_cons_zero, List.set_cons_succ])
                      refine wpAnyH_take (i := 4) (v := ?_) rfl (by kernel_rfl) (by kernel_rfl) (by kernel_rfl) (fun _ _ _ h => h) (Or.inl ⟨by rfl, fun w hSw => ?_⟩) hHeld ?_
                      rotate_left
                      · (try dsimp only at hSw); go_split_ands; go_simp <;> with_reducible rfl
                      (try simp only [Act.put, List.getElem_toArray, List.getElem_cons_succ, List.getElem_cons_zero, List.setIfInBounds_toArray, List.set_cons_zero, List.set_cons_succ])
                      refine wpAnyH_take (i := 5) (v := ?_) rfl (by kernel_rfl) (by kernel_rfl) (by kernel_rfl) (fun _ _ _ h => h) (Or.inl ⟨by rfl, fun w hSw => ?_⟩) hHeld ?_
                      rotate_left
                      · (try dsimp only at hSw); go_split_ands; go_simp <;> with_reducible rfl
                      (try simp only [Act.put, List.getElem_toArray, List.getElem_cons_succ, List.getElem_cons_zero, List.setIfInBounds_toArray, List.set_cons_zero, List.set_cons_succ])
                      refine wpAnyH_take (i := 7) (v := ?_) rfl (by kernel_rfl) (by kernel_rfl) (by kernel_rfl) (fun _ _ _ h => h) (Or.inl ⟨by rfl, fun w hSw => ?_⟩) hHeld ?_
                      rotate_left
                      · (try dsimp only at hSw); go_split_ands; go_simp <;> with_reducible rfl
                      (try simp only [Act.put, List.getElem_toArray, List.getElem_cons_succ, List.getElem_cons_zero, List.setIfInBounds_toArray, List.set_cons_zero, List.set_cons_succ])
                      refine wpAnyH_ready (rs := [6]) (by kernel_rfl) (by simp) (AllReadyH.cons rfl (fun K hK => ?_) AllReadyH.nil)
                      go_simp
                      (go_at_call 32; (with_reducible refine (hPO _).mono ?_); rintro e' w5 ⟨rfl, hb5a⟩; have hb5 : Below wa.heap.size wa w5 := (Below.refl _ _).drew.trans hb5a)
                      refine hK.out _ _ ⟨cellKeep hb5 e0, cellKeep hb5 e1, cellKeep hb5 e2, cellKeep hb5 e3, cellKeep hb5 e4, cellKeep hb5 e5, cellKeep hb5 e6, cellKeep hb5 e7, cellKeep hb5 e8, cellKeep hb5 m2, cellKeep hb5 m11, cellKeep hb5 m12, cellKeep hb5 mc, hb5⟩ (fun hHeld2 => ?_)
                      clear hK K
                      (try simp only [Act.put, List.getElem_toArray, List.getElem_cons_succ, List.getElem_cons_zero, List.setIfInBounds_toArray, List.set_cons_zero, List.set_cons_succ])
                      refine wpAnyH_take (i := 8) (v := ?_) rfl (by kernel_rfl) (by kernel_rfl) (by kernel_rfl) (fun _ _ _ h => h) (Or.inl ⟨by rfl, fun w hSw => ?_⟩) hHeld2 ?_
                      rotate_left
                      · (try dsimp only at hSw); go_split_ands; go_simp <;> with_reducible rfl
                      (try simp only [Act.put, List.getElem_toArray, List.getElem_cons_succ, List.getElem_cons_zero, List.setIfInBounds_toArray, List.set_cons_zero, List.set_cons_succ])
                      refine wpAnyH_take (i := 9) (v := ?_) rfl (by kernel_rfl) (by kernel_rfl) (by kernel_rfl) (fun _ _ _ h => h) (Or.inl ⟨by rfl, fun w hSw => ?_⟩) hHeld2 ?_
                      rotate_left
                      · (try dsimp only at hSw); go_split_ands; go_simp <;> with_reducible rfl
                      (try simp only [Act.put, List.getElem_toArray, List.getElem_cons_succ, List.getElem_cons_zero, List.setIfInBounds_toArray, List.set_cons_zero, List.set_cons_succ])
                      refine wpAnyH_take (i := 10) (v := ?_) rfl (by kernel_rfl) (by kernel_rfl) (by kernel_rfl) (fun _ _ _ h => h) (Or.inl ⟨by rfl, fun w hSw => ?_⟩) hHeld2 ?_
                      rotate_left
                      · (try dsimp only at hSw); go_split_ands; go_simp <;> with_reducible rfl
                      (try simp only [Act.put, List.getElem_toArray, List.getElem_cons_succ, List.getElem_cons_zero, List.setIfInBounds_toArray, List.set_cons_zero, List.set_cons_succ])
                      refine wpAnyH_take (i := 11) (v := ?_) rfl (by kernel_rfl) (by kernel_rfl) (by kernel_rfl) (fun _ _ _ h => h) (Or.inl ⟨by rfl, fun w hSw => ?_⟩) hHeld2 ?_
                      rotate_left
                      · (try dsimp only at hSw); go_split_ands; go_simp <;> with_reducible rfl
                      (try simp only [Act.put, List.getElem_toArray, List.getElem_cons_succ, List.getElem_cons_zero, List.setIfInBounds_toArray, List.set_cons_zero, List.set_cons_succ])
                      refine wpAnyH_take (i := 12) (v := ?_) rfl (by kernel_rfl) (by kernel_rfl) (by kernel_rfl) (fun _ _ _ h => h) (Or.inl ⟨by rfl, fun w hSw => ?_⟩) hHeld2 ?_
                      rotate_left
                      · (try dsimp only at hSw); go_split_ands; go_simp <;> with_reducible rfl
                      (try simp only [Act.put, List.getElem_toArray, List.getElem_cons_succ, List.getElem_cons_zero, List.setIfInBounds_toArray, List.set_cons_zero, List.set_cons_succ])
                      refine wpAnyH_take (i := 13) (v := ?_) rfl (by kernel_rfl) (by kernel_rfl) (by kernel_rfl) (fun _ _ _ h => h) (Or.inl ⟨by rfl, fun w hSw => ?_⟩) hHeld2 ?_
                      rotate_left
                      · (try dsimp only at hSw); go_split_ands; go_simp <;> with_reducible rfl
                      (try simp only [Act.put, List.getElem_toArray, List.getElem_cons_succ, List.getElem_cons_zero, List.setIfInBounds_toArray, List.set_cons_zero, List.set_cons_succ])
                      refine wpAnyH_take (i := 14) (v := ?_) rfl (by kernel_rfl) (by kernel_rfl) (by kernel_rfl) (fun _ _ _ h => h) (Or.inl ⟨by rfl, fun w hSw => ?_⟩) hHeld2 ?_
                      rotate_left
                      · (try dsimp only at hSw); go_split_ands; go_simp <;> with_reducible rfl
                      (try simp only [Act.put, List.getElem_toArray, List.getElem_cons_succ, List.getElem_cons_zero, List.setIfInBounds_toArray, List.set_cons_zero, List.set_cons_succ])
                      refine wpAnyH_take (i := 15) (v := ?_) rfl (by kernel_rfl) (by kernel_rfl) (by kernel_rfl) (fun _ _ _ h => h) (Or.inl ⟨by rfl, fun w hSw => ?_⟩) hHeld2 ?_
                      rotate_left
                      · (try dsimp only at hSw); go_split_ands; go_simp <;> with_reducible rfl
                      (try simp only [Act.put, List.getElem_toArray, List.getElem_cons_succ, List.getElem_cons_zero, List.setIfInBounds_toArray, List.set_cons_zero, List.set_cons_succ])
                      refine wpAnyH_take (i := 16) (v := ?_) rfl (by kernel_rfl) (by kernel_rfl) (by kernel_rfl) (fun _ _ _ h => h) (Or.inl ⟨by rfl, fun w hSw => ?_⟩) hHeld2 ?_
                      rotate_left
                      · (try dsimp only at hSw); go_split_ands; go_simp <;> with_reducible rfl
                      (try simp only [Act.put, List.getElem_toArray, List.getElem_cons_succ, List.getElem_cons_zero, List.setIfInBounds_toArray, List.set_cons_zero, List.set_cons_succ])
                      refine wpAnyH_take (i := 17) (v := ?_) rfl (by kernel_rfl) (by kernel_rfl) (by kernel_rfl) (fun _ _ _ h => h) (Or.inl ⟨by rfl, fun w hSw => ?_⟩) hHeld2 ?_
                      rotate_left
                      · (try dsimp only at hSw); go_split_ands; go_simp <;> with_reducible rfl
                      (try simp only [Act.put, List.getElem_toArray, List.getElem_cons_succ, List.getElem_cons_zero, List.setIfInBounds_toArray, List.set_cons_zero, List.set_cons_succ])
                      refine wpAnyH_take (i := 18) (v := ?_) rfl (by kernel_rfl) (by kernel_rfl) (by kernel_rfl) (fun _ _ _ h => h) (Or.inl ⟨by rfl, fun w hSw => ?_⟩) hHeld2 ?_
                      rotate_left
                      · (try dsimp only at hSw); go_split_ands; go_simp <;> with_reducible rfl
                      (try simp only [Act.put, List.getElem_toArray, List.getElem_cons_succ, List.getElem_cons_zero, List.setIfInBounds_toArray, List.set_cons_zero, List.set_cons_succ])
                      refine wpAnyH_take (i := 19) (v := ?_) rfl (by kernel_rfl) (by kernel_rfl) (by kernel_rfl) (fun _ _ _ h => h) (Or.inl ⟨by rfl, fun w hSw => ?_⟩) hHeld2 ?_
                      rotate_left
                      · (try dsimp only at hSw); go_split_ands; go_simp <;> with_reducible rfl
                      (try simp only [Act.put, List.getElem_toArray, List.getElem_cons_succ, List.getElem_cons_zero, List.setIfInBounds_toArray, List.set_cons_zero, List.set_cons_succ])
                      refine wpAnyH_done (by kernel_rfl) ?_ _
                      obtain ⟨_, _, _, _, _, _, _, _, _, _, m11', m12', mc', hbw⟩ := hHeld2
                      clear hHeld hb5 hb5a hPO m2 m11 m12 mc e0 e1 e2 e3 e4 e5 e6 e7 e8
                      go_wp2_with fail
                      go_quiet (fail)
                      clear m11' m12' mc'
                      generalize hw7 : w5.drewN _ = w7
                      have hb7 : Below wa.heap.size wa w7 := by rw [← hw7]; exact below_drewN hbw _
                      clear hw7 hbw
                      obtain ⟨Xa, Ga, Ma, ma⟩ := XGM.out
                      have Xw := Xa.below hb7
                      have Gw := Ga.keep (Keeps.below (fun _ => False) ρ hb7) id
                      have mw := ma.below hb7
                      have m11 := mw.m11
                      obtain ⟨mc, mf⟩ := Xw.markc hk
                      rw [HEN.out.2] at mc
                      obtain ⟨Xm, Km⟩ := Xw.mark k
                      rw [HEN.out.2, show ((c + 1 : Nat) : Int) = (c : Int) + 1 from by omega] at Xm Km
                      have Gm := Gw.keep Km (by omega)
                      have n11 := (World.cell?_of_block (a := ⟨wr.heap.size, 11, none⟩) (Below.heap_setCell w7 ⟨mb, k, none⟩ (.int .u64 ((c : Int) + 1)) wr.heap.size (by show wr.heap.size ≠ mb; omega))).trans m11
                      have HZ := Lib.hid (And.intro Xm (And.intro Gm (And.intro Ma n11)))
                      clear Xa Ga Ma ma Xw Gw mw Xm Gm Km n11 hb7 XGM
                      go_wp2_with fail
                      clear m11 mc mf
                      obtain ⟨Xm, Gm, Ma, n11⟩ := HZ.out
                      generalize w7.setCell ⟨mb, k, none⟩ (.int .u64 ((c : Int) + 1)) = w8 at Xm Gm n11 ⊢
                      clear HZ
                      have nc := (Xm.markc hk).1
                      have hbk : ((bump mk k (k : Nat) : Nat) : Int) = (c : Int) + 1 := by unfold bump; rw [if_pos rfl, HEN.out.2]; omega
                      rw [hbk] at nc
                      have hany : Q1.any (wantsB k ((c : Int) + 1)) = true := by
                        rw [List.any_eq_true]
                        obtain ⟨j, hj, hpj⟩ := firstE_peer HE.out.1
                        refine ⟨e, List.mem_of_getElem? hj, ?_⟩
                        unfold wantsB
                        rw [hpj, HE.out.2, HEN.out.2]
                        simp
                      have hq16 := Ma.base.len.1
                      have hW : ∀ w', Below w8.heap.size w8 w' → Calls Try.prog 34 #[.pointer (some ⟨S, 0, none⟩), .int .i64 (k : Nat), .int .u64 ((c : Int) + 1)] w' fun e' w'' => e' = .returned (.bool true) ∧ Below w'.heap.size w' w'' := fun w' hb => by
                        have := settle_wants w' w.heap.size 40 S N W wc k ((c : Int) + 1) ρ 0 sh ws1 sq1 Q1 (Xm.below hb).set hk hks (by omega)
                        rw [hany] at this
                        exact this
                      have hH : ∀ w', Below w8.heap.size w8 w' → Calls Try.prog 35 #[.slice Aq1 Q1.length cq1, .int .i64 (k : Nat), .int .u64 ((c : Int) + 1)] w' fun e' w'' => e' = .returned (.bool true) ∧ Below w'.heap.size w' w'' := fun w' hb =>
                        has_true w' _ Q1 k ((c : Int) + 1) e (One.hasQ (Xm.below hb).q rfl) (by omega) HE.out.1 (by rw [HEN.out.1, HMK.out.1]; omega)
                      obtain ⟨Qn, hQn⟩ : ∃ Qn, Q1.filter (leftB k ((c : Int) + 1)) = Qn := ⟨_, rfl⟩
                      have hQn16 : Qn.length ≤ 16 := by
                        rw [← hQn]
                        have := List.length_filter_le (leftB k ((c : Int) + 1)) Q1
                        omega
                      have hMc := (Ma.anew HHO.out.lt hccap.1 i (Nat.le_refl _)).credit HX0.out HXP.out hk hks HE.out.1 HHO.out.lt hccap.1
                      rw [HEN.out.2, show ((c + 1 : Nat) : Int) = (c : Int) + 1 from by omega, hQn] at hMc
                      have hO : ∀ w', Below w8.heap.size w8 w' → Calls Try.prog 36 #[.slice Aq1 Q1.length cq1, .int .i64 (k : Nat), .int .u64 ((c : Int) + 1)] w' fun e' w'' => ∃ u, e' = .returned u ∧ One w'' w'.heap.size 104 4 u Qn.length (cQ Qn) ∧ Below w'.heap.size w' w'' := fun w' hb => by
                        have := without_any w' _ Q1 k ((c : Int) + 1) (One.hasQ (Xm.below hb).q rfl) (by omega)
                        rw [hQn] at this
                        exact this
                      have HXG2 := Lib.hid (And.intro Xm Gm)
                      have HMa := Lib.hid hMc
                      have HW := Lib.hid (And.intro hW (And.intro hH hO))
                      clear Xm Gm Ma hMc hQn hany hbk hW hH hO
                      go_region_held3 (fun w' => w'.cell? ⟨wr.heap.size, 11, none⟩ = some (.int .i64 (k : Nat)) ∧ w'.cell? ⟨mb, k, none⟩ = some (.int .u64 ((c : Int) + 1)) ∧ Below w8.heap.size w8 w')
                        (first | exact ⟨n11, nc, (Below.refl _ _).drew⟩ | (go_split_ands; exact ⟨by assumption, by assumption, by assumption⟩) | (go_split_ands; exact ⟨cellKeep hb9 n11, cellKeep hb9 nc, hb9⟩))
                        ((first | (go_at_call 34; go_split_ands; (with_reducible refine (HW.out.1 _ (by assumption)).mono ?_); rintro e' w9 ⟨rfl, hb9a⟩; have hb9 : Below w8.heap.size w8 w9 := Below.trans (by assumption) (hb9a.mono (Below.size (by assumption)))) | (go_at_call 35; go_split_ands; (with_reducible refine (HW.out.2.1 _ (by assumption)).mono ?_); rintro e' w9 ⟨rfl, hb9a⟩; have hb9 : Below w8.heap.size w8 w9 := Below.trans (by assumption) (hb9a.mono (Below.size (by assumption))))))
                      all_goals
                        go_wp2_with fail
                        have y11 := cellKeep hb9 n11
                        have yc := cellKeep hb9 nc
                        go_region_held3 (fun w' => w'.cell? ⟨wr.heap.size, 11, none⟩ = some (.int .i64 (k : Nat)) ∧ w'.cell? ⟨mb, k, none⟩ = some (.int .u64 ((c : Int) + 1)) ∧ Below w8.heap.size w8 w')
                          (first | exact ⟨y11, yc, hb9.drew⟩ | (go_split_ands; exact ⟨by assumption, by assumption, by assumption⟩) | (go_split_ands; exact ⟨cellKeep hb10 n11, cellKeep hb10 nc, hb10⟩))
                          ((go_at_call 36; (with_reducible refine (HW.out.2.2 _ hb9.drew).mono ?_); rintro e' w10 ⟨u, rfl, ho10, hb10a⟩; obtain ⟨Au, cu, rfl⟩ := OneN.len ho10; have hb10 : Below w8.heap.size w8 w10 := hb9.drew.trans (hb10a.mono hb9.drew.size); obtain ⟨ρq, Xq, Kq⟩ := (HXG2.out.1.below hb9.drew).newQ hb10a ho10; have HQ2 := Lib.hid (And.intro Xq ((HXG2.out.2.keep (Keeps.below (fun _ => False) ρ hb9.drew) id).keep Kq id)); clear ho10 hb10a Xq Kq))
                        clear y11 yc n11 nc hb9 hb10
                        go_wp2_with (go_at_call 30; (with_reducible refine (settle_look w10 w.heap.size 40 S N W wc ρq 0 sh sh ws1 sq1 Q1 HQ2.out.1.set HQ2.out.1.free Au Qn.length cu Qn (One.hasQ HQ2.out.1.q rfl) (by omega) none none none none 0 0 0 0 0 0 0 0).mono ?_); rintro e' w11 ⟨rfl, ρ11, sq11, s11, K11, F11, L11⟩; have HQ3 := Lib.hid (And.intro (HQ2.out.1.sets s11 K11 F11 L11) (HQ2.out.2.keep K11 (by omega))); clear s11 K11 F11 L11 HQ2)
                        exact ⟨⟨i + 1, 0, (lost1 + 1), _, _, _, _, _, by go_num, by go_num, by go_num, by omega, by omega, HQ3.out.1, HQ3.out.2, HMa.out⟩, by simp [intOf]; omega⟩
                    · have p5 : ((tn : Int) != 0) = true := by rw [hkey, decide_eq_false hth]; rfl
                      clear hkey
                      refine wp_region_held_drew (S := fun w' => w'.cell? ⟨bc, 0, none⟩ = some (.int .i64 (n : Nat)) ∧ w'.cell? ⟨bc, 1, none⟩ = some (.int .i64 (N : Nat)) ∧ w'.cell? ⟨bc, 2, none⟩ = some (.int .i64 (cp : Nat)) ∧ w'.cell? ⟨bc, 3, none⟩ = some (.int .i64 1) ∧ w'.cell? ⟨bc, 4, none⟩ = some (.int .i64 16) ∧ w'.cell? ⟨bc, 5, none⟩ = some (.int .i64 (cap : Nat)) ∧ w'.cell? ⟨bc, 6, none⟩ = some (.int .i64 64) ∧ w'.cell? ⟨bc, 7, none⟩ = some (.int .i64 100) ∧ w'.cell? ⟨bc, 8, none⟩ = some (.slice none 0 0) ∧ w'.cell? ⟨wr.heap.size, 2, none⟩ = some (.int .i64 tx) ∧ w'.cell? ⟨wr.heap.size, 11, none⟩ = some (.int .i64 (k : Nat)) ∧ w'.cell? ⟨wr.heap.size, 12, none⟩ = some (.int .u64 en) ∧ w'.cell? ⟨mb, k, none⟩ = some (.int .u64 (c : Nat)) ∧ Below wa.heap.size wa w') (by kernel_rfl) ⟨e0, e1, e2, e3, e4, e5, e6, e7, e8, m2, m11, m12, mc, (Below.refl _ _).drew⟩ (fun hHeld => ?_)
                      refine wpAnyH_take (i := 0) (v := ?_) rfl (by kernel_rfl) (by kernel_rfl) (by kernel_rfl) (fun _ _ _ h => h) (Or.inl ⟨by rfl, fun w hSw => ?_⟩) hHeld ?_
                      rotate_left
                      · (try dsimp only at hSw); go_split_ands; go_simp <;> with_reducible rfl
                      (try simp only [Act.put, List.getElem_toArray, List.getElem_cons_zero, List.setIfInBounds_toArray, List.set_cons_zero, List.set_cons_succ])
                      refine wpAnyH_take (i := 1) (v := ?_) rfl (by kernel_rfl) (by kernel_rfl) (by kernel_rfl) (fun _ _ _ h => h) (Or.inl ⟨by rfl, fun w hSw => ?_⟩) hHeld ?_
                      rotate_left
                      · (try dsimp only at hSw); go_split_ands; go_simp <;> with_reducible rfl
                      (try simp only [Act.put, List.getElem_toArray, List.getElem_cons_succ, List.getElem_cons_zero, List.setIfInBounds_toArray, List.set_cons_zero, List.set_cons_succ])
                      refine wpAnyH_take (i := 2) (v := ?_) rfl (by kernel_rfl) (by kernel_rfl) (by kernel_rfl) (fun _ _ _ h => h) (Or.inl ⟨by rfl, fun w hSw => ?_⟩) hHeld ?_
                      rotate_left
                      · (try dsimp only at hSw); go_split_ands; go_simp <;> with_reducible rfl
                      (try simp only [Act.put, List.getElem_toArray, List.getElem_cons_succ, List.getElem_cons_zero, List.setIfInBounds_toArray, List.set_cons_zero, List.set_cons_succ])
                      refine wpAnyH_take (i := 3) (v := ?_) rfl (by kernel_rfl) (by kernel_rfl) (by kernel_rfl) (fun _ _ _ h => h) (Or.inl ⟨by rfl, fun w hSw => ?_⟩) hHeld ?_
                      rotate_left
                      · (try dsimp only at hSw); go_split_ands; go_simp <;> with_reducible rfl
                      (try simp only [Act.put, List.getElem_toArray, List.getElem_cons_succ, List.getElem_cons_zero, List.setIfInBounds_toArray, List.set_cons_zero, List.set_cons_succ])
                      refine wpAnyH_take (i := 4) (v := ?_) rfl (by kernel_rfl) (by kernel_rfl) (by kernel_rfl) (fun _ _ _ h => h) (Or.inl ⟨by rfl, fun w hSw => ?_⟩) hHeld ?_
                      rotate_left
                      · (try dsimp only at hSw); go_split_ands; go_simp <;> with_reducible rfl
                      (try simp only [Act.put, List.getElem_toArray, List.getElem_cons_succ, List.getElem_cons_zero, List.setIfInBounds_toArray, List.set_cons_zero, List.set_cons_succ])
                      refine wpAnyH_take (i := 5) (v := ?_) rfl (by kernel_rfl) (by kernel_rfl) (by kernel_rfl) (fun _ _ _ h => h) (Or.inl ⟨by rfl, fun w hSw => ?_⟩) hHeld ?_
                      rotate_left
                      · (try dsimp only at hSw); go_split_ands; go_simp <;> with_reducible rfl
                      (try simp only [Act.put, List.getElem_toArray, List.getElem_cons_succ, List.getElem_cons_zero, List.setIfInBounds_toArray, List.set_cons_zero, List.set_cons_succ])
                      refine wpAnyH_take (i := 7) (v := ?_) rfl (by kernel_rfl) (by kernel_rfl) (by kernel_rfl) (fun _ _ _ h => h) (Or.inl ⟨by rfl, fun w hSw => ?_⟩) hHeld ?_
                      rotate_left
                      · (try dsimp only at hSw); go_split_ands; go_simp <;> with_reducible rfl
                      (try simp only [Act.put, List.getElem_toArray, List.getElem_cons_succ, List.getElem_cons_zero, List.setIfInBounds_toArray, List.set_cons_zero, List.set_cons_succ])
                      refine wpAnyH_ready (rs := [6]) (by kernel_rfl) (by simp) (AllReadyH.cons rfl (fun K hK => ?_) AllReadyH.nil)
                      go_simp
                      (go_at_call 32; (with_reducible refine (hPO _).mono ?_); rintro e' w5 ⟨rfl, hb5a⟩; have hb5 : Below wa.heap.size wa w5 := (Below.refl _ _).drew.trans hb5a)
                      refine hK.out _ _ ⟨cellKeep hb5 e0, cellKeep hb5 e1, cellKeep hb5 e2, cellKeep hb5 e3, cellKeep hb5 e4, cellKeep hb5 e5, cellKeep hb5 e6, cellKeep hb5 e7, cellKeep hb5 e8, cellKeep hb5 m2, cellKeep hb5 m11, cellKeep hb5 m12, cellKeep hb5 mc, hb5⟩ (fun hHeld2 => ?_)
                      clear hK K
                      (try simp only [Act.put, List.getElem_toArray, List.getElem_cons_succ, List.getElem_cons_zero, List.setIfInBounds_toArray, List.set_cons_zero, List.set_cons_succ])
                      refine wpAnyH_take (i := 8) (v := ?_) rfl (by kernel_rfl) (by kernel_rfl) (by kernel_rfl) (fun _ _ _ h => h) (Or.inl ⟨by rfl, fun w hSw => ?_⟩) hHeld2 ?_
                      rotate_left
                      · (try dsimp only at hSw); go_split_ands; go_simp <;> with_reducible rfl
                      (try simp only [Act.put, List.getElem_toArray, List.getElem_cons_succ, List.getElem_cons_zero, List.setIfInBounds_toArray, List.set_cons_zero, List.set_cons_succ])
                      refine wpAnyH_take (i := 9) (v := ?_) rfl (by kernel_rfl) (by kernel_rfl) (by kernel_rfl) (fun _ _ _ h => h) (Or.inl ⟨by rfl, fun w hSw => ?_⟩) hHeld2 ?_
                      rotate_left
                      · (try dsimp only at hSw); go_split_ands; go_simp <;> with_reducible rfl
                      (try simp only [Act.put, List.getElem_toArray, List.getElem_cons_succ, List.getElem_cons_zero, List.setIfInBounds_toArray, List.set_cons_zero, List.set_cons_succ])
                      refine wpAnyH_take (i := 10) (v := undef) rfl (by kernel_rfl) (by kernel_rfl) (by kernel_rfl) (fun _ _ _ h => h) (Or.inr ⟨by rfl, rfl⟩) hHeld2 ?_
                      (try simp only [Act.put, List.getElem_toArray, List.getElem_cons_succ, List.getElem_cons_zero, List.setIfInBounds_toArray, List.set_cons_zero, List.set_cons_succ])
                      refine wpAnyH_take (i := 11) (v := undef) rfl (by kernel_rfl) (by kernel_rfl) (by kernel_rfl) (fun _ _ _ h => h) (Or.inr ⟨by rfl, rfl⟩) hHeld2 ?_
                      (try simp only [Act.put, List.getElem_toArray, List.getElem_cons_succ, List.getElem_cons_zero, List.setIfInBounds_toArray, List.set_cons_zero, List.set_cons_succ])
                      refine wpAnyH_take (i := 12) (v := undef) rfl (by kernel_rfl) (by kernel_rfl) (by kernel_rfl) (fun _ _ _ h => h) (Or.inr ⟨by rfl, rfl⟩) hHeld2 ?_
                      (try simp only [Act.put, List.getElem_toArray, List.getElem_cons_succ, List.getElem_cons_zero, List.setIfInBounds_toArray, List.set_cons_zero, List.set_cons_succ])
                      refine wpAnyH_take (i := 13) (v := undef) rfl (by kernel_rfl) (by kernel_rfl) (by kernel_rfl) (fun _ _ _ h => h) (Or.inr ⟨by rfl, rfl⟩) hHeld2 ?_
                      (try simp only [Act.put, List.getElem_toArray, List.getElem_cons_succ, List.getElem_cons_zero, List.setIfInBounds_toArray, List.set_cons_zero, List.set_cons_succ])
                      refine wpAnyH_take (i := 14) (v := undef) rfl (by kernel_rfl) (by kernel_rfl) (by kernel_rfl) (fun _ _ _ h => h) (Or.inr ⟨by rfl, rfl⟩) hHeld2 ?_
                      (try simp only [Act.put, List.getElem_toArray, List.getElem_cons_succ, List.getElem_cons_zero, List.setIfInBounds_toArray, List.set_cons_zero, List.set_cons_succ])
                      refine wpAnyH_take (i := 15) (v := undef) rfl (by kernel_rfl) (by kernel_rfl) (by kernel_rfl) (fun _ _ _ h => h) (Or.inr ⟨by rfl, rfl⟩) hHeld2 ?_
                      (try simp only [Act.put, List.getElem_toArray, List.getElem_cons_succ, List.getElem_cons_zero, List.setIfInBounds_toArray, List.set_cons_zero, List.set_cons_succ])
                      refine wpAnyH_take (i := 16) (v := undef) rfl (by kernel_rfl) (by kernel_rfl) (by kernel_rfl) (fun _ _ _ h => h) (Or.inr ⟨by rfl, rfl⟩) hHeld2 ?_
                      (try simp only [Act.put, List.getElem_toArray, List.getElem_cons_succ, List.getElem_cons_zero, List.setIfInBounds_toArray, List.set_cons_zero, List.set_cons_succ])
                      refine wpAnyH_take (i := 17) (v := undef) rfl (by kernel_rfl) (by kernel_rfl) (by kernel_rfl) (fun _ _ _ h => h) (Or.inr ⟨by rfl, rfl⟩) hHeld2 ?_
                      (try simp only [Act.put, List.getElem_toArray, List.getElem_cons_succ, List.getElem_cons_zero, List.setIfInBounds_toArray, List.set_cons_zero, List.set_cons_succ])
                      refine wpAnyH_take (i := 18) (v := undef) rfl (by kernel_rfl) (by kernel_rfl) (by kernel_rfl) (fun _ _ _ h => h) (Or.inr ⟨by rfl, rfl⟩) hHeld2 ?_
                      (try simp only [Act.put, List.getElem_toArray, List.getElem_cons_succ, List.getElem_cons_zero, List.setIfInBounds_toArray, List.set_cons_zero, List.set_cons_succ])
                      refine wpAnyH_take (i := 19) (v := ?_) rfl (by kernel_rfl) (by kernel_rfl) (by kernel_rfl) (fun _ _ _ h => h) (Or.inl ⟨by rfl, fun w hSw => ?_⟩) hHeld2 ?_
                      rotate_left
                      · (try dsimp only at hSw); go_split_ands; go_simp <;> with_reducible rfl
                      (try simp only [Act.put, List.getElem_toArray, List.getElem_cons_succ, List.getElem_cons_zero, List.setIfInBounds_toArray, List.set_cons_zero, List.set_cons_succ])
                      refine wpAnyH_done (by kernel_rfl) ?_ _
                      obtain ⟨_, _, _, _, _, _, _, _, _, _, m11', m12', mc', hbw⟩ := hHeld2
                      clear hHeld hb5 hb5a hPO m2 m11 m12 mc e0 e1 e2 e3 e4 e5 e6 e7 e8
                      go_wp2_with fail
                      go_quiet (fail)
                      go_wp2_with fail
                      obtain ⟨Ma, hbz⟩ := And.intro XGM.out.2.2.1 (fun q => below_drewN hbw q)
                      exact ⟨⟨i + 1, 0, (lost1 + 1), _, _, _, _, _, by go_num, by go_num, by go_num, by omega, by omega, XGM.out.1.below (hbz _), XGM.out.2.1.keep (Keeps.below (fun _ => False) ρ (hbz _)) id, (Ma.anew HHO.out.lt hccap.1 i (Nat.le_refl _)).past HX0.out HXP.out HTO.out htn hth HHO.out.lt (by omega) hchn.2 hccp.2.1⟩, by simp [intOf]; omega⟩
                · skip
                  by_cases hkn : k < n2
                  · obtain ⟨gh, oh, xh, rfl, hgh, hch, hxh⟩ := HHO.out.near k hkn
                    have p3 : (k : Int) < (n2 : Int) := by omega
                    have hI := fun w' => into13 xh cp w' (by omega) (by omega)
                    rw [hxh] at hI
                    clear hxh
                    have HCH := Lib.hid hch
                    clear hch
                    go_wp2_with (first | (refine wpList_load_mid rfl 102 (.tmp 66) rfl gm (i * 22) rfl cs dm HR.out hdm hrow HS.out ?_) | (refine wpList_store_mid rfl 102 (.tmp 13) (.tmp 67) rfl wr.heap.size 0 cs.toArray rfl rfl HB.out.1 hsz2 (all_oneCell_toArray hone) ?_; obtain ⟨hra, hba, hza⟩ := HB.out.2; generalize World.setCells _ _ _ _ = wa at hra hba hza ⊢; have Xa := HXG.out.1.below hba; have Ga := HXG.out.2.1.keep (Keeps.below (fun _ => False) ρ hba) id; have Ma := HXG.out.2.2; have ma := HCV.out wa hra; have m11 := ma.m11; obtain ⟨l6, l7⟩ := load_cells HPO.out Xa.load.1; have x2 := Xa.confc.e2; have cy := HCY.out wa Xa.bel; have chx := (Xa.bel.cell (p := ⟨gh, oh + k, none⟩) hgh).trans HCH.out; have XGM := Lib.hid (And.intro Xa (And.intro Ga (And.intro Ma ma))); clear HCV HR HB HXG hra hba Xa Ga Ma ma))
                    go_quiet ((go_at_call 33; first | exact Calls.quiet_of_same (unflipS (hI _)) | exact quietAddSame (unflipS (hI _))))
                    generalize hwd : wa.drewN _ = wd
                    have hbd : Below wa.heap.size wa wd := by rw [← hwd]; exact below_drewN (Below.refl _ _) _
                    clear l6 l7 x2 cy m11
                    obtain ⟨Xa, Ga, Ma, ma⟩ := XGM.out
                    have Xd := Xa.below hbd
                    have Gd := Ga.keep (Keeps.below (fun _ => False) ρ hbd) id
                    have md := ma.below hbd
                    obtain ⟨l6, l7⟩ := load_cells HPO.out Xd.load.1
                    have cy := HCY.out wd Xd.bel
                    have XGM := Lib.hid (And.intro Xd (And.intro Gd (And.intro Ma md)))
                    clear hwd hbd Xa Ga ma chx hI HCH Xd Gd Ma md
                    go_wp2_with fail
                    have hRM : RelM w bc mb S W wc n N cp cap sh lim t lost po hol (.slice (some ⟨gm, 0, none⟩) ms.length c6) ms (.slice Aq1 Q1.length cq1) (.int .i64 ((lost1 : Int) + 1)) (.int .i64 0) (.int .i64 ((i : Int) + 1)) wd := ⟨i + 1, 0, lost1 + 1, _, _, _, _, _, by go_num, by go_num, by go_num, by omega, by omega, XGM.out.1, XGM.out.2.1, XGM.out.2.2.1.anew HHO.out.lt hccap.1 (i + 1) (by omega)⟩
                    exact ⟨hRM, by simp [intOf]; omega⟩
                  · have p3 : ¬ ((k : Int) < (n2 : Int)) := by omega
                    go_wp2_with (first | (refine wpList_load_mid rfl 102 (.tmp 66) rfl gm (i * 22) rfl cs dm HR.out hdm hrow HS.out ?_) | (refine wpList_store_mid rfl 102 (.tmp 13) (.tmp 67) rfl wr.heap.size 0 cs.toArray rfl rfl HB.out.1 hsz2 (all_oneCell_toArray hone) ?_; obtain ⟨hra, hba, hza⟩ := HB.out.2; generalize World.setCells _ _ _ _ = wa at hra hba hza ⊢; have Xa := HXG.out.1.below hba; have Ga := HXG.out.2.1.keep (Keeps.below (fun _ => False) ρ hba) id; have Ma := HXG.out.2.2; have ma := HCV.out wa hra; have m11 := ma.m11; obtain ⟨l6, l7⟩ := load_cells HPO.out Xa.load.1; have x2 := Xa.confc.e2; have cy := HCY.out wa Xa.bel; have XGM := Lib.hid (And.intro Xa (And.intro Ga (And.intro Ma ma))); clear HCV HR HB HXG hra hba Xa Ga Ma ma))
                    have hRM : RelM w bc mb S W wc n N cp cap sh lim t lost po hol (.slice (some ⟨gm, 0, none⟩) ms.length c6) ms (.slice Aq1 Q1.length cq1) (.int .i64 ((lost1 : Int) + 1)) (.int .i64 0) (.int .i64 ((i : Int) + 1)) wa := ⟨i + 1, 0, lost1 + 1, _, _, _, _, _, by go_num, by go_num, by go_num, by omega, by omega, XGM.out.1, XGM.out.2.1, XGM.out.2.2.1.anew HHO.out.lt hccap.1 (i + 1) (by omega)⟩
                    exact ⟨hRM, by simp [intOf]; omega⟩
              · have HCY := Lib.hid (fun (w' : World) (_ : Below w.heap.size w w') => True.intro)
                have r1 : (lost1 : Int) < (n3 : Int) := by omega
                have r2 : ¬ (lost1 : Int) < 200 := by omega
                by_cases hkn : k < n2
                · obtain ⟨gh, oh, xh, rfl, hgh, hch, hxh⟩ := HHO.out.near k hkn
                  have p3 : (k : Int) < (n2 : Int) := by omega
                  have hI := fun w' => into13 xh cp w' (by omega) (by omega)
                  rw [hxh] at hI
                  clear hxh
                  have HCH := Lib.hid hch
                  clear hch
                  go_wp2_with (first | (refine wpList_load_mid rfl 102 (.tmp 66) rfl gm (i * 22) rfl cs dm HR.out hdm hrow HS.out ?_) | (refine wpList_store_mid rfl 102 (.tmp 13) (.tmp 67) rfl wr.heap.size 0 cs.toArray rfl rfl HB.out.1 hsz2 (all_oneCell_toArray hone) ?_; obtain ⟨hra, hba, hza⟩ := HB.out.2; generalize World.setCells _ _ _ _ = wa at hra hba hza ⊢; have Xa := HXG.out.1.below hba; have Ga := HXG.out.2.1.keep (Keeps.below (fun _ => False) ρ hba) id; have Ma := HXG.out.2.2; have ma := HCV.out wa hra; have m11 := ma.m11; obtain ⟨l6, l7⟩ := load_cells HPO.out Xa.load.1; have x2 := Xa.confc.e2; have cy := HCY.out wa Xa.bel; have chx := (Xa.bel.cell (p := ⟨gh, oh + k, none⟩) hgh).trans HCH.out; have XGM := Lib.hid (And.intro Xa (And.intro Ga (And.intro Ma ma))); clear HCV HR HB HXG hra hba Xa Ga Ma ma))
                  go_quiet ((go_at_call 33; first | exact Calls.quiet_of_same (unflipS (hI _)) | exact quietAddSame (unflipS (hI _))))
                  generalize hwd : wa.drewN _ = wd
                  have hbd : Below wa.heap.size wa wd := by rw [← hwd]; exact below_drewN (Below.refl _ _) _
                  clear l6 l7 x2 cy m11
                  obtain ⟨Xa, Ga, Ma, ma⟩ := XGM.out
                  have Xd := Xa.below hbd
                  have Gd := Ga.keep (Keeps.below (fun _ => False) ρ hbd) id
                  have md := ma.below hbd
                  obtain ⟨l6, l7⟩ := load_cells HPO.out Xd.load.1
                  have cy := HCY.out wd Xd.bel
                  have XGM := Lib.hid (And.intro Xd (And.intro Gd (And.intro Ma md)))
                  clear hwd hbd Xa Ga ma chx hI HCH Xd Gd Ma md
                  go_wp2_with fail
                  clear l6 l7 cy
                  try clear m11
                  try clear x2
                  obtain ⟨Xa, Ga, Ma, ma⟩ := XGM.out
                  obtain ⟨e0, e1, e2, e3, e4, e5, e6, e7, e8⟩ := Xa.confc
                  have mc := (Xa.markc hk).1
                  obtain ⟨c, hcm⟩ : ∃ c, mk (k : Nat) = c := ⟨_, rfl⟩
                  have hc16 := Ma.base.few (k : Nat)
                  rw [hcm] at mc hc16
                  obtain ⟨en, hen⟩ : ∃ en, e.num = en := ⟨_, rfl⟩
                  have hen2 : en = (c : Int) + 1 := by rw [← hen, HE.out.2, hcm]; omega
                  have m2 := ma.m2
                  have m11 := ma.m11
                  have m12 := ma.m12
                  rw [hen] at m12
                  have HEN := Lib.hid (And.intro hen hcm)
                  have HMK := Lib.hid (And.intro hen2 hc16)
                  have hPO : ∀ w', Calls Try.prog 32 #[.agg #[.int .i64 (n : Nat), .int .i64 (N : Nat), .int .i64 (cp : Nat), .int .i64 1, .int .i64 16, .int .i64 (cap : Nat), .int .i64 64, .int .i64 100, .slice none 0 0], .int .i64 (k : Nat), .int .i64 tx] w' fun e' w'' => e' = .returned (.int .i64 (tn : Nat)) ∧ Below w'.heap.size w' w'' := fun w' => by
                    have := placeOf_any w' n N cp cap k tx hc (by omega)
                    rw [HPL.out] at this
                    exact this
                  have p6 : decide ((c : Int) + 1 < en) = false := by simp; omega
                  have p7 : IntKind.u64.wrap ((c : Int) + 1) = (c : Int) + 1 := by rw [IntKind.wrap_u64]; omega
                  have p9 : (en == (c : Int) + 1) = true := by simp; omega
                  have p10 : (0 : Int) ≤ (c : Int) := by omega
                  have p11 : (c : Int) < 17 := by omega
                  have p8 : (k : Int) < (N : Int) := by omega
                  have hkey : ((tn : Int) != (hol k : Nat)) = !decide (tn = hol k) := by
                    rw [Bool.eq_iff_iff]
                    simp
                    first | omega | (have := HHO.out.far k (by omega); omega)
                  clear Xa Ga Ma ma hen hcm hen2 hc16 r0
                  by_cases hth : tn = hol k
                  · have p5 : ((tn : Int) != (hol k : Nat)) = false := by rw [hkey, decide_eq_true hth]; rfl
                    have HTH := Lib.hid hth
                    clear hth
                    have hth := HTH.out
                    clear hth
                    clear hkey
                    refine wp_region_held_drew (S := fun w' => w'.cell? ⟨bc, 0, none⟩ = some (.int .i64 (n : Nat)) ∧ w'.cell? ⟨bc, 1, none⟩ = some (.int .i64 (N : Nat)) ∧ w'.cell? ⟨bc, 2, none⟩ = some (.int .i64 (cp : Nat)) ∧ w'.cell? ⟨bc, 3, none⟩ = some (.int .i64 1) ∧ w'.cell? ⟨bc, 4, none⟩ = some (.int .i64 16) ∧ w'.cell? ⟨bc, 5, none⟩ = some (.int .i64 (cap : Nat)) ∧ w'.cell? ⟨bc, 6, none⟩ = some (.int .i64 64) ∧ w'.cell? ⟨bc, 7, none⟩ = some (.int .i64 100) ∧ w'.cell? ⟨bc, 8, none⟩ = some (.slice none 0 0) ∧ w'.cell? ⟨wr.heap.size, 2, none⟩ = some (.int .i64 tx) ∧ w'.cell? ⟨wr.heap.size, 11, none⟩ = some (.int .i64 (k : Nat)) ∧ w'.cell? ⟨wr.heap.size, 12, none⟩ = some (.int .u64 en) ∧ w'.cell? ⟨mb, k, none⟩ = some (.int .u64 (c : Nat)) ∧ Below wd.heap.size wd w') (by kernel_rfl) ⟨e0, e1, e2, e3, e4, e5, e6, e7, e8, m2, m11, m12, mc, (Below.refl _ _).drew⟩ (fun hHeld => ?_)
                    refine wpAnyH_take (i := 0) (v := ?_) rfl (by kernel_rfl) (by kernel_rfl) (by kernel_rfl) (fun _ _ _ h => h) (Or.inl ⟨by rfl, fun w hSw => ?_⟩) hHeld ?_
                    rotate_left
                    · (try dsimp only at hSw); go_split_ands; go_simp <;> with_reducible rfl
                    (try simp only [Act.put, List.getElem_toArray, List.getElem_cons_zero, List.setIfInBounds_toArray, List.set_cons_zero, List.set_cons_succ])
                    refine wpAnyH_take (i := 1) (v := ?_) rfl (by kernel_rfl) (by kernel_rfl) (by kernel_rfl) (fun _ _ _ h => h) (Or.inl ⟨by rfl, fun w hSw => ?_⟩) hHeld ?_
                    rotate_left
                    · (try dsimp only at hSw); go_split_ands; go_simp <;> with_reducible rfl
                    (try simp only [Act.put, List.getElem_toArray, List.getElem_cons_succ, List.getElem_cons_zero, List.setIfInBounds_toArray, List.set_cons_zero, List.set_cons_succ])
                    refine wpAnyH_take (i := 2) (v := ?_) rfl (by kernel_rfl) (by kernel_rfl) (by kernel_rfl) (fun _ _ _ h => h) (Or.inl ⟨by rfl, fun w hSw => ?_⟩) hHeld ?_
                    rotate_left
                    · (try dsimp only at hSw); go_split_ands; go_simp <;> with_reducible rfl
                    (try simp only [Act.put, List.getElem_toArray, List.getElem_cons_succ, List.getElem_cons_zero, List.setIfInBounds_toArray, List.set_cons_zero, List.set_cons_succ])
                    refine wpAnyH_take (i := 3) (v := ?_) rfl (by kernel_rfl) (by kernel_rfl) (by kernel_rfl) (fun _ _ _ h => h) (Or.inl ⟨by rfl, fun w hSw => ?_⟩) hHeld ?_
                    rotate_left
                    · (try dsimp only at hSw); go_split_ands; go_simp <;> with_reducible rfl
                    (try simp only [Act.put, List.getElem_toArray, List.getElem_cons_succ, List.getElem_cons_zero, List.setIfInBounds_toArray, List.set_cons_zero, List.set_cons_succ])
                    refine wpAnyH_take (i := 4) (v := ?_) rfl (by kernel_rfl) (by kernel_rfl) (by kernel_rfl) (fun _ _ _ h => h) (Or.inl ⟨by rfl, fun w hSw => ?_⟩) hHeld ?_
                    rotate_left
                    · (try dsimp only at hSw); go_split_ands; go_simp <;> with_reducible rfl
                    (try simp only [Act.put, List.getElem_toArray, List.getElem_cons_succ, List.getElem_cons_zero, List.setIfInBounds_toArray, List.set_cons_zero, List.set_cons_succ])
                    refine wpAnyH_take (i := 5) (v := ?_) rfl (by kernel_rfl) (by kernel_rfl) (by kernel_rfl) (fun _ _ _ h => h) (Or.inl ⟨by rfl, fun w hSw => ?_⟩) hHeld ?_
                    rotate_left
                    · (try dsimp only at hSw); go_split_ands; go_simp <;> with_reducible rfl
                    (try simp only [Act.put, List.getElem_toArray, List.getElem_cons_succ, List.getElem_cons_zero, List.setIfInBounds_toArray, List.set_cons_zero, List.set_cons_succ])
                    refine wpAnyH_take (i := 7) (v := ?_) rfl (by kernel_rfl) (by kernel_rfl) (by kernel_rfl) (fun _ _ _ h => h) (Or.inl ⟨by rfl, fun w hSw => ?_⟩) hHeld ?_
                    rotate_left
                    · (try dsimp only at hSw); go_split_ands; go_simp <;> with_reducible rfl
                    (try simp only [Act.put, List.getElem_toArray, List.getElem_cons_succ, List.getElem_cons_zero, List.setIfInBounds_toArray, List.set_cons_zero, List.set_cons_succ])
                    refine wpAnyH_ready (rs := [6]) (by kernel_rfl) (by simp) (AllReadyH.cons rfl (fun K hK => ?_) AllReadyH.nil)
                    go_simp
                    (go_at_call 32; (with_reducible refine (hPO _).mono ?_); rintro e' w5 ⟨rfl, hb5a⟩; have hb5 : Below wd.heap.size wd w5 := (Below.refl _ _).drew.trans hb5a)
                    refine hK.out _ _ ⟨cellKeep hb5 e0, cellKeep hb5 e1, cellKeep hb5 e2, cellKeep hb5 e3, cellKeep hb5 e4, cellKeep hb5 e5, cellKeep hb5 e6, cellKeep hb5 e7, cellKeep hb5 e8, cellKeep hb5 m2, cellKeep hb5 m11, cellKeep hb5 m12, cellKeep hb5 mc, hb5⟩ (fun hHeld2 => ?_)
                    clear hK K
                    (try simp only [Act.put, List.getElem_toArray, List.getElem_cons_succ, List.getElem_cons_zero, List.setIfInBounds_toArray, List.set_cons_zero, List.set_cons_succ])
                    refine wpAnyH_take (i := 8) (v := ?_) rfl (by kernel_rfl) (by kernel_rfl) (by kernel_rfl) (fun _ _ _ h => h) (Or.inl ⟨by rfl, fun w hSw => ?_⟩) hHeld2 ?_
                    rotate_left
                    · (try dsimp only at hSw); go_split_ands; go_simp <;> with_reducible rfl
                    (try simp only [Act.put, List.getElem_toArray, List.getElem_cons_succ, List.getElem_cons_zero, List.setIfInBounds_toArray, List.set_cons_zero, List.set_cons_succ])
                    refine wpAnyH_take (i := 9) (v := ?_) rfl (by kernel_rfl) (by kernel_rfl) (by kernel_rfl) (fun _ _ _ h => h) (Or.inl ⟨by rfl, fun w hSw => ?_⟩) hHeld2 ?_
                    rotate_left
                    · (try dsimp only at hSw); go_split_ands; go_simp <;> with_reducible rfl
                    (try simp only [Act.put, List.getElem_toArray, List.getElem_cons_succ, List.getElem_cons_zero, List.setIfInBounds_toArray, List.set_cons_zero, List.set_cons_succ])
                    refine wpAnyH_take (i := 10) (v := ?_) rfl (by kernel_rfl) (by kernel_rfl) (by kernel_rfl) (fun _ _ _ h => h) (Or.inl ⟨by rfl, fun w hSw => ?_⟩) hHeld2 ?_
                    rotate_left
                    · (try dsimp only at hSw); go_split_ands; go_simp <;> with_reducible rfl
                    (try simp only [Act.put, List.getElem_toArray, List.getElem_cons_succ, List.getElem_cons_zero, List.setIfInBounds_toArray, List.set_cons_zero, List.set_cons_succ])
                    refine wpAnyH_take (i := 11) (v := ?_) rfl (by kernel_rfl) (by kernel_rfl) (by kernel_rfl) (fun _ _ _ h => h) (Or.inl ⟨by rfl, fun w hSw => ?_⟩) hHeld2 ?_
                    rotate_left
                    · (try dsimp only at hSw); go_split_ands; go_simp <;> with_reducible rfl
                    (try simp only [Act.put, List.getElem_toArray, List.getElem_cons_succ, List.getElem_cons_zero, List.setIfInBounds_toArray, List.set_cons_zero, List.set_cons_succ])
                    refine wpAnyH_take (i := 12) (v := ?_) rfl (by kernel_rfl) (by kernel_rfl) (by kernel_rfl) (fun _ _ _ h => h) (Or.inl ⟨by rfl, fun w hSw => ?_⟩) hHeld2 ?_
                    rotate_left
                    · (try dsimp only at hSw); go_split_ands; go_simp <;> with_reducible rfl
                    (try simp only [Act.put, List.getElem_toArray, List.getElem_cons_succ, List.getElem_cons_zero, List.setIfInBounds_toArray, List.set_cons_zero, List.set_cons_succ])
                    refine wpAnyH_take (i := 13) (v := ?_) rfl (by kernel_rfl) (by kernel_rfl) (by kernel_rfl) (fun _ _ _ h => h) (Or.inl ⟨by rfl, fun w hSw => ?_⟩) hHeld2 ?_
                    rotate_left
                    · (try dsimp only at hSw); go_split_ands; go_simp <;> with_reducible rfl
                    (try simp only [Act.put, List.getElem_toArray, List.getElem_cons_succ, List.getElem_cons_zero, List.setIfInBounds_toArray, List.set_cons_zero, List.set_cons_succ])
                    refine wpAnyH_take (i := 14) (v := ?_) rfl (by kernel_rfl) (by kernel_rfl) (by kernel_rfl) (fun _ _ _ h => h) (Or.inl ⟨by rfl, fun w hSw => ?_⟩) hHeld2 ?_
                    rotate_left
                    · (try dsimp only at hSw); go_split_ands; go_simp <;> with_reducible rfl
                    (try simp only [Act.put, List.getElem_toArray, List.getElem_cons_succ, List.getElem_cons_zero, List.setIfInBounds_toArray, List.set_cons_zero, List.set_cons_succ])
                    refine wpAnyH_take (i := 15) (v := ?_) rfl (by kernel_rfl) (by kernel_rfl) (by kernel_rfl) (fun _ _ _ h => h) (Or.inl ⟨by rfl, fun w hSw => ?_⟩) hHeld2 ?_
                    rotate_left
                    · (try dsimp only at hSw); go_split_ands; go_simp <;> with_reducible rfl
                    (try simp only [Act.put, List.getElem_toArray, List.getElem_cons_succ, List.getElem_cons_zero, List.setIfInBounds_toArray, List.set_cons_zero, List.set_cons_succ])
                    refine wpAnyH_take (i := 16) (v := ?_) rfl (by kernel_rfl) (by kernel_rfl) (by kernel_rfl) (fun _ _ _ h => h) (Or.inl ⟨by rfl, fun w hSw => ?_⟩) hHeld2 ?_
                    rotate_left
                    · (try dsimp only at hSw); go_split_ands; go_simp <;> with_reducible rfl
                    (try simp only [Act.put, List.getElem_toArray, List.getElem_cons_succ, List.getElem_cons_zero, List.setIfInBounds_toArray, List.set_cons_zero, List.set_cons_succ])
                    refine wpAnyH_take (i := 17) (v := ?_) rfl (by kernel_rfl) (by kernel_rfl) (by kernel_rfl) (fun _ _ _ h => h) (Or.inl ⟨by rfl, fun w hSw => ?_⟩) hHeld2 ?_
                    rotate_left
                    · (try dsimp only at hSw); go_split_ands; go_simp <;> with_reducible rfl
                    (try simp only [Act.put, List.getElem_toArray, List.getElem_cons_succ, List.getElem_cons_zero, List.setIfInBounds_toArray, List.set_cons_zero, List.set_cons_succ])
                    refine wpAnyH_take (i := 18) (v := ?_) rfl (by kernel_rfl) (by kernel_rfl) (by kernel_rfl) (fun _ _ _ h => h) (Or.inl ⟨by rfl, fun w hSw => ?_⟩) hHeld2 ?_
                    rotate_left
                    · (try dsimp only at hSw); go_split_ands; go_simp <;> with_reducible rfl
                    (try simp only [Act.put, List.getElem_toArray, List.getElem_cons_succ, List.getElem_cons_zero, List.setIfInBounds_toArray, List.set_cons_zero, List.set_cons_succ])
                    refine wpAnyH_take (i := 19) (v := ?_) rfl (by kernel_rfl) (by kernel_rfl) (by kernel_rfl) (fun _ _ _ h => h) (Or.inl ⟨by rfl, fun w hSw => ?_⟩) hHeld2 ?_
                    rotate_left
                    · (try dsimp only at hSw); go_split_ands; go_simp <;> with_reducible rfl
                    (try simp only [Act.put, List.getElem_toArray, List.getElem_cons_succ, List.getElem_cons_zero, List.setIfInBounds_toArray, List.set_cons_zero, List.set_cons_succ])
                    refine wpAnyH_done (by kernel_rfl) ?_ _
                    obtain ⟨_, _, _, _, _, _, _, _, _, _, m11', m12', mc', hbw⟩ := hHeld2
                    clear hHeld hb5 hb5a hPO m2 m11 m12 mc e0 e1 e2 e3 e4 e5 e6 e7 e8
                    go_wp2_with fail
                    go_quiet (fail)
                    clear m11' m12' mc'
                    generalize hw7 : w5.drewN _ = w7
                    have hb7 : Below wd.heap.size wd w7 := by rw [← hw7]; exact below_drewN hbw _
                    clear hw7 hbw
                    obtain ⟨Xa, Ga, Ma, ma⟩ := XGM.out
                    have Xw := Xa.below hb7
                    have Gw := Ga.keep (Keeps.below (fun _ => False) ρ hb7) id
                    have mw := ma.below hb7
                    have m11 := mw.m11
                    obtain ⟨mc, mf⟩ := Xw.markc hk
                    rw [HEN.out.2] at mc
                    obtain ⟨Xm, Km⟩ := Xw.mark k
                    rw [HEN.out.2, show ((c + 1 : Nat) : Int) = (c : Int) + 1 from by omega] at Xm Km
                    have Gm := Gw.keep Km (by omega)
                    have n11 := (World.cell?_of_block (a := ⟨wr.heap.size, 11, none⟩) (Below.heap_setCell w7 ⟨mb, k, none⟩ (.int .u64 ((c : Int) + 1)) wr.heap.size (by show wr.heap.size ≠ mb; omega))).trans m11
                    have HZ := Lib.hid (And.intro Xm (And.intro Gm (And.intro Ma n11)))
                    clear Xa Ga Ma ma Xw Gw mw Xm Gm Km n11 hb7 XGM
                    go_wp2_with fail
                    clear m11 mc mf
                    obtain ⟨Xm, Gm, Ma, n11⟩ := HZ.out
                    generalize w7.setCell ⟨mb, k, none⟩ (.int .u64 ((c : Int) + 1)) = w8 at Xm Gm n11 ⊢
                    clear HZ
                    have nc := (Xm.markc hk).1
                    have hbk : ((bump mk k (k : Nat) : Nat) : Int) = (c : Int) + 1 := by unfold bump; rw [if_pos rfl, HEN.out.2]; omega
                    rw [hbk] at nc
                    have hany : Q1.any (wantsB k ((c : Int) + 1)) = true := by
                      rw [List.any_eq_true]
                      obtain ⟨j, hj, hpj⟩ := firstE_peer HE.out.1
                      refine ⟨e, List.mem_of_getElem? hj, ?_⟩
                      unfold wantsB
                      rw [hpj, HE.out.2, HEN.out.2]
                      simp
                    have hq16 := Ma.base.len.1
                    have hW : ∀ w', Below w8.heap.size w8 w' → Calls Try.prog 34 #[.pointer (some ⟨S, 0, none⟩), .int .i64 (k : Nat), .int .u64 ((c : Int) + 1)] w' fun e' w'' => e' = .returned (.bool true) ∧ Below w'.heap.size w' w'' := fun w' hb => by
                      have := settle_wants w' w.heap.size 40 S N W wc k ((c : Int) + 1) ρ 0 sh ws1 sq1 Q1 (Xm.below hb).set hk hks (by omega)
                      rw [hany] at this
                      exact this
                    have hH : ∀ w', Below w8.heap.size w8 w' → Calls Try.prog 35 #[.slice Aq1 Q1.length cq1, .int .i64 (k : Nat), .int .u64 ((c : Int) + 1)] w' fun e' w'' => e' = .returned (.bool true) ∧ Below w'.heap.size w' w'' := fun w' hb =>
                      has_true w' _ Q1 k ((c : Int) + 1) e (One.hasQ (Xm.below hb).q rfl) (by omega) HE.out.1 (by rw [HEN.out.1, HMK.out.1]; omega)
                    obtain ⟨Qn, hQn⟩ : ∃ Qn, Q1.filter (leftB k ((c : Int) + 1)) = Qn := ⟨_, rfl⟩
                    have hQn16 : Qn.length ≤ 16 := by
                      rw [← hQn]
                      have := List.length_filter_le (leftB k ((c : Int) + 1)) Q1
                      omega
                    have hMc := Ma.credit HX0.out HXP.out hk hks HE.out.1 HHO.out.lt hccap.1
                    rw [HEN.out.2, show ((c + 1 : Nat) : Int) = (c : Int) + 1 from by omega, hQn] at hMc
                    have hO : ∀ w', Below w8.heap.size w8 w' → Calls Try.prog 36 #[.slice Aq1 Q1.length cq1, .int .i64 (k : Nat), .int .u64 ((c : Int) + 1)] w' fun e' w'' => ∃ u, e' = .returned u ∧ One w'' w'.heap.size 104 4 u Qn.length (cQ Qn) ∧ Below w'.heap.size w' w'' := fun w' hb => by
                      have := without_any w' _ Q1 k ((c : Int) + 1) (One.hasQ (Xm.below hb).q rfl) (by omega)
                      rw [hQn] at this
                      exact this
                    have HXG2 := Lib.hid (And.intro Xm Gm)
                    have HMa := Lib.hid hMc
                    have HW := Lib.hid (And.intro hW (And.intro hH hO))
                    clear Xm Gm Ma hMc hQn hany hbk hW hH hO
                    go_region_held3 (fun w' => w'.cell? ⟨wr.heap.size, 11, none⟩ = some (.int .i64 (k : Nat)) ∧ w'.cell? ⟨mb, k, none⟩ = some (.int .u64 ((c : Int) + 1)) ∧ Below w8.heap.size w8 w')
                      (first | exact ⟨n11, nc, (Below.refl _ _).drew⟩ | (go_split_ands; exact ⟨by assumption, by assumption, by assumption⟩) | (go_split_ands; exact ⟨cellKeep hb9 n11, cellKeep hb9 nc, hb9⟩))
                      ((first | (go_at_call 34; go_split_ands; (with_reducible refine (HW.out.1 _ (by assumption)).mono ?_); rintro e' w9 ⟨rfl, hb9a⟩; have hb9 : Below w8.heap.size w8 w9 := Below.trans (by assumption) (hb9a.mono (Below.size (by assumption)))) | (go_at_call 35; go_split_ands; (with_reducible refine (HW.out.2.1 _ (by assumption)).mono ?_); rintro e' w9 ⟨rfl, hb9a⟩; have hb9 : Below w8.heap.size w8 w9 := Below.trans (by assumption) (hb9a.mono (Below.size (by assumption))))))
                    all_goals
                      go_wp2_with fail
                      have y11 := cellKeep hb9 n11
                      have yc := cellKeep hb9 nc
                      go_region_held3 (fun w' => w'.cell? ⟨wr.heap.size, 11, none⟩ = some (.int .i64 (k : Nat)) ∧ w'.cell? ⟨mb, k, none⟩ = some (.int .u64 ((c : Int) + 1)) ∧ Below w8.heap.size w8 w')
                        (first | exact ⟨y11, yc, hb9.drew⟩ | (go_split_ands; exact ⟨by assumption, by assumption, by assumption⟩) | (go_split_ands; exact ⟨cellKeep hb10 n11, cellKeep hb10 nc, hb10⟩))
                        ((go_at_call 36; (with_reducible refine (HW.out.2.2 _ hb9.drew).mono ?_); rintro e' w10 ⟨u, rfl, ho10, hb10a⟩; obtain ⟨Au, cu, rfl⟩ := OneN.len ho10; have hb10 : Below w8.heap.size w8 w10 := hb9.drew.trans (hb10a.mono hb9.drew.size); obtain ⟨ρq, Xq, Kq⟩ := (HXG2.out.1.below hb9.drew).newQ hb10a ho10; have HQ2 := Lib.hid (And.intro Xq ((HXG2.out.2.keep (Keeps.below (fun _ => False) ρ hb9.drew) id).keep Kq id)); clear ho10 hb10a Xq Kq))
                      clear y11 yc n11 nc hb9 hb10
                      go_wp2_with (go_at_call 30; (with_reducible refine (settle_look w10 w.heap.size 40 S N W wc ρq 0 sh sh ws1 sq1 Q1 HQ2.out.1.set HQ2.out.1.free Au Qn.length cu Qn (One.hasQ HQ2.out.1.q rfl) (by omega) none none none none 0 0 0 0 0 0 0 0).mono ?_); rintro e' w11 ⟨rfl, ρ11, sq11, s11, K11, F11, L11⟩; have HQ3 := Lib.hid (And.intro (HQ2.out.1.sets s11 K11 F11 L11) (HQ2.out.2.keep K11 (by omega))); clear s11 K11 F11 L11 HQ2)
                      exact ⟨⟨i + 1, t1, lost1, _, _, _, _, _, by go_num, by go_num, by go_num, by omega, by omega, HQ3.out.1, HQ3.out.2, HMa.out⟩, by simp [intOf]; omega⟩
                  · have p5 : ((tn : Int) != (hol k : Nat)) = true := by rw [hkey, decide_eq_false hth]; rfl
                    clear hkey
                    refine wp_region_held_drew (S := fun w' => w'.cell? ⟨bc, 0, none⟩ = some (.int .i64 (n : Nat)) ∧ w'.cell? ⟨bc, 1, none⟩ = some (.int .i64 (N : Nat)) ∧ w'.cell? ⟨bc, 2, none⟩ = some (.int .i64 (cp : Nat)) ∧ w'.cell? ⟨bc, 3, none⟩ = some (.int .i64 1) ∧ w'.cell? ⟨bc, 4, none⟩ = some (.int .i64 16) ∧ w'.cell? ⟨bc, 5, none⟩ = some (.int .i64 (cap : Nat)) ∧ w'.cell? ⟨bc, 6, none⟩ = some (.int .i64 64) ∧ w'.cell? ⟨bc, 7, none⟩ = some (.int .i64 100) ∧ w'.cell? ⟨bc, 8, none⟩ = some (.slice none 0 0) ∧ w'.cell? ⟨wr.heap.size, 2, none⟩ = some (.int .i64 tx) ∧ w'.cell? ⟨wr.heap.size, 11, none⟩ = some (.int .i64 (k : Nat)) ∧ w'.cell? ⟨wr.heap.size, 12, none⟩ = some (.int .u64 en) ∧ w'.cell? ⟨mb, k, none⟩ = some (.int .u64 (c : Nat)) ∧ Below wd.heap.size wd w') (by kernel_rfl) ⟨e0, e1, e2, e3, e4, e5, e6, e7, e8, m2, m11, m12, mc, (Below.refl _ _).drew⟩ (fun hHeld => ?_)
                    refine wpAnyH_take (i := 0) (v := ?_) rfl (by kernel_rfl) (by kernel_rfl) (by kernel_rfl) (fun _ _ _ h => h) (Or.inl ⟨by rfl, fun w hSw => ?_⟩) hHeld ?_
                    rotate_left
                    · (try dsimp only at hSw); go_split_ands; go_simp <;> with_reducible rfl
                    (try simp only [Act.put, List.getElem_toArray, List.getElem_cons_zero, List.setIfInBounds_toArray, List.set_cons_zero, List.set_cons_succ])
                    refine wpAnyH_take (i := 1) (v := ?_) rfl (by kernel_rfl) (by kernel_rfl) (by kernel_rfl) (fun _ _ _ h => h) (Or.inl ⟨by rfl, fun w hSw => ?_⟩) hHeld ?_
                    rotate_left
                    · (try dsimp only at hSw); go_split_ands; go_simp <;> with_reducible rfl
                    (try simp only [Act.put, List.getElem_toArray, List.getElem_cons_succ, List.getElem_cons_zero, List.setIfInBounds_toArray, List.set_cons_zero, List.set_cons_succ])
                    refine wpAnyH_take (i := 2) (v := ?_) rfl (by kernel_rfl) (by kernel_rfl) (by kernel_rfl) (fun _ _ _ h => h) (Or.inl ⟨by rfl, fun w hSw => ?_⟩) hHeld ?_
                    rotate_left
                    · (try dsimp only at hSw); go_split_ands; go_simp <;> with_reducible rfl
                    (try simp only [Act.put, List.getElem_toArray, List.getElem_cons_succ, List.getElem_cons_zero, List.setIfInBounds_toArray, List.set_cons_zero, List.set_cons_succ])
                    refine wpAnyH_take (i := 3) (v := ?_) rfl (by kernel_rfl) (by kernel_rfl) (by kernel_rfl) (fun _ _ _ h => h) (Or.inl ⟨by rfl, fun w hSw => ?_⟩) hHeld ?_
                    rotate_left
                    · (try dsimp only at hSw); go_split_ands; go_simp <;> with_reducible rfl
                    (try simp only [Act.put, List.getElem_toArray, List.getElem_cons_succ, List.getElem_cons_zero, List.setIfInBounds_toArray, List.set_cons_zero, List.set_cons_succ])
                    refine wpAnyH_take (i := 4) (v := ?_) rfl (by kernel_rfl) (by kernel_rfl) (by kernel_rfl) (fun _ _ _ h => h) (Or.inl ⟨by rfl, fun w hSw => ?_⟩) hHeld ?_
                    rotate_left
                    · (try dsimp only at hSw); go_split_ands; go_simp <;> with_reducible rfl
                    (try simp only [Act.put, List.getElem_toArray, List.getElem_cons_succ, List.getElem_cons_zero, List.setIfInBounds_toArray, List.set_cons_zero, List.set_cons_succ])
                    refine wpAnyH_take (i := 5) (v := ?_) rfl (by kernel_rfl) (by kernel_rfl) (by kernel_rfl) (fun _ _ _ h => h) (Or.inl ⟨by rfl, fun w hSw => ?_⟩) hHeld ?_
                    rotate_left
                    · (try dsimp only at hSw); go_split_ands; go_simp <;> with_reducible rfl
                    (try simp only [Act.put, List.getElem_toArray, List.getElem_cons_succ, List.getElem_cons_zero, List.setIfInBounds_toArray, List.set_cons_zero, List.set_cons_succ])
                    refine wpAnyH_take (i := 7) (v := ?_) rfl (by kernel_rfl) (by kernel_rfl) (by kernel_rfl) (fun _ _ _ h => h) (Or.inl ⟨by rfl, fun w hSw => ?_⟩) hHeld ?_
                    rotate_left
                    · (try dsimp only at hSw); go_split_ands; go_simp <;> with_reducible rfl
                    (try simp only [Act.put, List.getElem_toArray, List.getElem_cons_succ, List.getElem_cons_zero, List.setIfInBounds_toArray, List.set_cons_zero, List.set_cons_succ])
                    refine wpAnyH_ready (rs := [6]) (by kernel_rfl) (by simp) (AllReadyH.cons rfl (fun K hK => ?_) AllReadyH.nil)
                    go_simp
                    (go_at_call 32; (with_reducible refine (hPO _).mono ?_); rintro e' w5 ⟨rfl, hb5a⟩; have hb5 : Below wd.heap.size wd w5 := (Below.refl _ _).drew.trans hb5a)
                    refine hK.out _ _ ⟨cellKeep hb5 e0, cellKeep hb5 e1, cellKeep hb5 e2, cellKeep hb5 e3, cellKeep hb5 e4, cellKeep hb5 e5, cellKeep hb5 e6, cellKeep hb5 e7, cellKeep hb5 e8, cellKeep hb5 m2, cellKeep hb5 m11, cellKeep hb5 m12, cellKeep hb5 mc, hb5⟩ (fun hHeld2 => ?_)
                    clear hK K
                    (try simp only [Act.put, List.getElem_toArray, List.getElem_cons_succ, List.getElem_cons_zero, List.setIfInBounds_toArray, List.set_cons_zero, List.set_cons_succ])
                    refine wpAnyH_take (i := 8) (v := ?_) rfl (by kernel_rfl) (by kernel_rfl) (by kernel_rfl) (fun _ _ _ h => h) (Or.inl ⟨by rfl, fun w hSw => ?_⟩) hHeld2 ?_
                    rotate_left
                    · (try dsimp only at hSw); go_split_ands; go_simp <;> with_reducible rfl
                    (try simp only [Act.put, List.getElem_toArray, List.getElem_cons_succ, List.getElem_cons_zero, List.setIfInBounds_toArray, List.set_cons_zero, List.set_cons_succ])
                    refine wpAnyH_take (i := 9) (v := ?_) rfl (by kernel_rfl) (by kernel_rfl) (by kernel_rfl) (fun _ _ _ h => h) (Or.inl ⟨by rfl, fun w hSw => ?_⟩) hHeld2 ?_
                    rotate_left
                    · (try dsimp only at hSw); go_split_ands; go_simp <;> with_reducible rfl
                    (try simp only [Act.put, List.getElem_toArray, List.getElem_cons_succ, List.getElem_cons_zero, List.setIfInBounds_toArray, List.set_cons_zero, List.set_cons_succ])
                    refine wpAnyH_take (i := 10) (v := undef) rfl (by kernel_rfl) (by kernel_rfl) (by kernel_rfl) (fun _ _ _ h => h) (Or.inr ⟨by rfl, rfl⟩) hHeld2 ?_
                    (try simp only [Act.put, List.getElem_toArray, List.getElem_cons_succ, List.getElem_cons_zero, List.setIfInBounds_toArray, List.set_cons_zero, List.set_cons_succ])
                    refine wpAnyH_take (i := 11) (v := undef) rfl (by kernel_rfl) (by kernel_rfl) (by kernel_rfl) (fun _ _ _ h => h) (Or.inr ⟨by rfl, rfl⟩) hHeld2 ?_
                    (try simp only [Act.put, List.getElem_toArray, List.getElem_cons_succ, List.getElem_cons_zero, List.setIfInBounds_toArray, List.set_cons_zero, List.set_cons_succ])
                    refine wpAnyH_take (i := 12) (v := undef) rfl (by kernel_rfl) (by kernel_rfl) (by kernel_rfl) (fun _ _ _ h => h) (Or.inr ⟨by rfl, rfl⟩) hHeld2 ?_
                    (try simp only [Act.put, List.getElem_toArray, List.getElem_cons_succ, List.getElem_cons_zero, List.setIfInBounds_toArray, List.set_cons_zero, List.set_cons_succ])
                    refine wpAnyH_take (i := 13) (v := undef) rfl (by kernel_rfl) (by kernel_rfl) (by kernel_rfl) (fun _ _ _ h => h) (Or.inr ⟨by rfl, rfl⟩) hHeld2 ?_
                    (try simp only [Act.put, List.getElem_toArray, List.getElem_cons_succ, List.getElem_cons_zero, List.setIfInBounds_toArray, List.set_cons_zero, List.set_cons_succ])
                    refine wpAnyH_take (i := 14) (v := undef) rfl (by kernel_rfl) (by kernel_rfl) (by kernel_rfl) (fun _ _ _ h => h) (Or.inr ⟨by rfl, rfl⟩) hHeld2 ?_
                    (try simp only [Act.put, List.getElem_toArray, List.getElem_cons_succ, List.getElem_cons_zero, List.setIfInBounds_toArray, List.set_cons_zero, List.set_cons_succ])
                    refine wpAnyH_take (i := 15) (v := undef) rfl (by kernel_rfl) (by kernel_rfl) (by kernel_rfl) (fun _ _ _ h => h) (Or.inr ⟨by rfl, rfl⟩) hHeld2 ?_
                    (try simp only [Act.put, List.getElem_toArray, List.getElem_cons_succ, List.getElem_cons_zero, List.setIfInBounds_toArray, List.set_cons_zero, List.set_cons_succ])
                    refine wpAnyH_take (i := 16) (v := undef) rfl (by kernel_rfl) (by kernel_rfl) (by kernel_rfl) (fun _ _ _ h => h) (Or.inr ⟨by rfl, rfl⟩) hHeld2 ?_
                    (try simp only [Act.put, List.getElem_toArray, List.getElem_cons_succ, List.getElem_cons_zero, List.setIfInBounds_toArray, List.set_cons_zero, List.set_cons_succ])
                    refine wpAnyH_take (i := 17) (v := undef) rfl (by kernel_rfl) (by kernel_rfl) (by kernel_rfl) (fun _ _ _ h => h) (Or.inr ⟨by rfl, rfl⟩) hHeld2 ?_
                    (try simp only [Act.put, List.getElem_toArray, List.getElem_cons_succ, List.getElem_cons_zero, List.setIfInBounds_toArray, List.set_cons_zero, List.set_cons_succ])
                    refine wpAnyH_take (i := 18) (v := undef) rfl (by kernel_rfl) (by kernel_rfl) (by kernel_rfl) (fun _ _ _ h => h) (Or.inr ⟨by rfl, rfl⟩) hHeld2 ?_
                    (try simp only [Act.put, List.getElem_toArray, List.getElem_cons_succ, List.getElem_cons_zero, List.setIfInBounds_toArray, List.set_cons_zero, List.set_cons_succ])
                    refine wpAnyH_take (i := 19) (v := ?_) rfl (by kernel_rfl) (by kernel_rfl) (by kernel_rfl) (fun _ _ _ h => h) (Or.inl ⟨by rfl, fun w hSw => ?_⟩) hHeld2 ?_
                    rotate_left
                    · (try dsimp only at hSw); go_split_ands; go_simp <;> with_reducible rfl
                    (try simp only [Act.put, List.getElem_toArray, List.getElem_cons_succ, List.getElem_cons_zero, List.setIfInBounds_toArray, List.set_cons_zero, List.set_cons_succ])
                    refine wpAnyH_done (by kernel_rfl) ?_ _
                    obtain ⟨_, _, _, _, _, _, _, _, _, _, m11', m12', mc', hbw⟩ := hHeld2
                    clear hHeld hb5 hb5a hPO m2 m11 m12 mc e0 e1 e2 e3 e4 e5 e6 e7 e8
                    go_wp2_with fail
                    go_quiet (fail)
                    go_wp2_with fail
                    obtain ⟨Ma, hbz⟩ := And.intro XGM.out.2.2.1 (fun q => below_drewN hbw q)
                    exact ⟨⟨i + 1, t1, lost1, _, _, _, _, _, by go_num, by go_num, by go_num, by omega, by omega, XGM.out.1.below (hbz _), XGM.out.2.1.keep (Keeps.below (fun _ => False) ρ (hbz _)) id, Ma.past HX0.out HXP.out HTO.out htn hth HHO.out.lt (by omega) hchn.2 hccp.2.1⟩, by simp [intOf]; omega⟩
                · have p3 : ¬ ((k : Int) < (n2 : Int)) := by omega
                  go_wp2_with (first | (refine wpList_load_mid rfl 102 (.tmp 66) rfl gm (i * 22) rfl cs dm HR.out hdm hrow HS.out ?_) | (refine wpList_store_mid rfl 102 (.tmp 13) (.tmp 67) rfl wr.heap.size 0 cs.toArray rfl rfl HB.out.1 hsz2 (all_oneCell_toArray hone) ?_; obtain ⟨hra, hba, hza⟩ := HB.out.2; generalize World.setCells _ _ _ _ = wa at hra hba hza ⊢; have Xa := HXG.out.1.below hba; have Ga := HXG.out.2.1.keep (Keeps.below (fun _ => False) ρ hba) id; have Ma := HXG.out.2.2; have ma := HCV.out wa hra; have m11 := ma.m11; obtain ⟨l6, l7⟩ := load_cells HPO.out Xa.load.1; have x2 := Xa.confc.e2; have cy := HCY.out wa Xa.bel; have XGM := Lib.hid (And.intro Xa (And.intro Ga (And.intro Ma ma))); clear HCV HR HB HXG hra hba Xa Ga Ma ma))
                  clear l6 l7 cy
                  try clear m11
                  try clear x2
                  obtain ⟨Xa, Ga, Ma, ma⟩ := XGM.out
                  obtain ⟨e0, e1, e2, e3, e4, e5, e6, e7, e8⟩ := Xa.confc
                  have mc := (Xa.markc hk).1
                  obtain ⟨c, hcm⟩ : ∃ c, mk (k : Nat) = c := ⟨_, rfl⟩
                  have hc16 := Ma.base.few (k : Nat)
                  rw [hcm] at mc hc16
                  obtain ⟨en, hen⟩ : ∃ en, e.num = en := ⟨_, rfl⟩
                  have hen2 : en = (c : Int) + 1 := by rw [← hen, HE.out.2, hcm]; omega
                  have m2 := ma.m2
                  have m11 := ma.m11
                  have m12 := ma.m12
                  rw [hen] at m12
                  have HEN := Lib.hid (And.intro hen hcm)
                  have HMK := Lib.hid (And.intro hen2 hc16)
                  have hPO : ∀ w', Calls Try.prog 32 #[.agg #[.int .i64 (n : Nat), .int .i64 (N : Nat), .int .i64 (cp : Nat), .int .i64 1, .int .i64 16, .int .i64 (cap : Nat), .int .i64 64, .int .i64 100, .slice none 0 0], .int .i64 (k : Nat), .int .i64 tx] w' fun e' w'' => e' = .returned (.int .i64 (tn : Nat)) ∧ Below w'.heap.size w' w'' := fun w' => by
                    have := placeOf_any w' n N cp cap k tx hc (by omega)
                    rw [HPL.out] at this
                    exact this
                  have p6 : decide ((c : Int) + 1 < en) = false := by simp; omega
                  have p7 : IntKind.u64.wrap ((c : Int) + 1) = (c : Int) + 1 := by rw [IntKind.wrap_u64]; omega
                  have p9 : (en == (c : Int) + 1) = true := by simp; omega
                  have p10 : (0 : Int) ≤ (c : Int) := by omega
                  have p11 : (c : Int) < 17 := by omega
                  have p8 : (k : Int) < (N : Int) := by omega
                  have hkey : ((tn : Int) != 0) = !decide (tn = hol k) := by
                    rw [Bool.eq_iff_iff]
                    simp
                    first | omega | (have := HHO.out.far k (by omega); omega)
                  clear Xa Ga Ma ma hen hcm hen2 hc16 r0
                  by_cases hth : tn = hol k
                  · have htz : tn = 0 := by rw [hth]; exact HHO.out.far k (by omega)
                    subst htz
                    have HTH := Lib.hid hth
                    clear hth
                    have hth := HTH.out
                    clear hth
                    clear hkey
                    refine wp_region_held_drew (S := fun w' => w'.cell? ⟨bc, 0, none⟩ = some (.int .i64 (n : Nat)) ∧ w'.cell? ⟨bc, 1, none⟩ = some (.int .i64 (N : Nat)) ∧ w'.cell? ⟨bc, 2, none⟩ = some (.int .i64 (cp : Nat)) ∧ w'.cell? ⟨bc, 3, none⟩ = some (.int .i64 1) ∧ w'.cell? ⟨bc, 4, none⟩ = some (.int .i64 16) ∧ w'.cell? ⟨bc, 5, none⟩ = some (.int .i64 (cap : Nat)) ∧ w'.cell? ⟨bc, 6, none⟩ = some (.int .i64 64) ∧ w'.cell? ⟨bc, 7, none⟩ = some (.int .i64 100) ∧ w'.cell? ⟨bc, 8, none⟩ = some (.slice none 0 0) ∧ w'.cell? ⟨wr.heap.size, 2, none⟩ = some (.int .i64 tx) ∧ w'.cell? ⟨wr.heap.size, 11, none⟩ = some (.int .i64 (k : Nat)) ∧ w'.cell? ⟨wr.heap.size, 12, none⟩ = some (.int .u64 en) ∧ w'.cell? ⟨mb, k, none⟩ = some (.int .u64 (c : Nat)) ∧ Below wa.heap.size wa w') (by kernel_rfl) ⟨e0, e1, e2, e3, e4, e5, e6, e7, e8, m2, m11, m12, mc, (Below.refl _ _).drew⟩ (fun hHeld => ?_)
                    refine wpAnyH_take (i := 0) (v := ?_) rfl (by kernel_rfl) (by kernel_rfl) (by kernel_rfl) (fun _ _ _ h => h) (Or.inl ⟨by rfl, fun w hSw => ?_⟩) hHeld ?_
                    rotate_left
                    · (try dsimp only at hSw); go_split_ands; go_simp <;> with_reducible rfl
                    (try simp only [Act.put, List.getElem_toArray, List.getElem_cons_zero, List.setIfInBounds_toArray, List.set_cons_zero, List.set_cons_succ])
                    refine wpAnyH_take (i := 1) (v := ?_) rfl (by kernel_rfl) (by kernel_rfl) (by kernel_rfl) (fun _ _ _ h => h) (Or.inl ⟨by rfl, fun w hSw => ?_⟩) hHeld ?_
                    rotate_left
                    · (try dsimp only at hSw); go_split_ands; go_simp <;> with_reducible rfl
                    (try simp only [Act.put, List.getElem_toArray, List.getElem_cons_succ, List.getElem_cons_zero, List.setIfInBounds_toArray, List.set_cons_zero, List.set_cons_succ])
                    refine wpAnyH_take (i := 2) (v := ?_) rfl (by kernel_rfl) (by kernel_rfl) (by kernel_rfl) (fun _ _ _ h => h) (Or.inl ⟨by rfl, fun w hSw => ?_⟩) hHeld ?_
                    rotate_left
                    · (try dsimp only at hSw); go_split_ands; go_simp <;> with_reducible rfl
                    (try simp only [Act.put, List.getElem_toArray, List.getElem_cons_succ, List.getElem_cons_zero, List.setIfInBounds_toArray, List.set_cons_zero, List.set_cons_succ])
                    refine wpAnyH_take (i := 3) (v := ?_) rfl (by kernel_rfl) (by kernel_rfl) (by kernel_rfl) (fun _ _ _ h => h) (Or.inl ⟨by rfl, fun w hSw => ?_⟩) hHeld ?_
                    rotate_left
                    · (try dsimp only at hSw); go_split_ands; go_simp <;> with_reducible rfl
                    (try simp only [Act.put, List.getElem_toArray, List.getElem_cons_succ, List.getElem_cons_zero, List.setIfInBounds_toArray, List.set_cons_zero, List.set_cons_succ])
                    refine wpAnyH_take (i := 4) (v := ?_) rfl (by kernel_rfl) (by kernel_rfl) (by kernel_rfl) (fun _ _ _ h => h) (Or.inl ⟨by rfl, fun w hSw => ?_⟩) hHeld ?_
                    rotate_left
                    · (try dsimp only at hSw); go_split_ands; go_simp <;> with_reducible rfl
                    (try simp only [Act.put, List.getElem_toArray, List.getElem_cons_succ, List.getElem_cons_zero, List.setIfInBounds_toArray, List.set_cons_zero, List.set_cons_succ])
                    refine wpAnyH_take (i := 5) (v := ?_) rfl (by kernel_rfl) (by kernel_rfl) (by kernel_rfl) (fun _ _ _ h => h) (Or.inl ⟨by rfl, fun w hSw => ?_⟩) hHeld ?_
                    rotate_left
                    · (try dsimp only at hSw); go_split_ands; go_simp <;> with_reducible rfl
                    (try simp only [Act.put, List.getElem_toArray, List.getElem_cons_succ, List.getElem_cons_zero, List.setIfInBounds_toArray, List.set_cons_zero, List.set_cons_succ])
                    refine wpAnyH_take (i := 7) (v := ?_) rfl (by kernel_rfl) (by kernel_rfl) (by kernel_rfl) (fun _ _ _ h => h) (Or.inl ⟨by rfl, fun w hSw => ?_⟩) hHeld ?_
                    rotate_left
                    · (try dsimp only at hSw); go_split_ands; go_simp <;> with_reducible rfl
                    (try simp only [Act.put, List.getElem_toArray, List.getElem_cons_succ, List.getElem_cons_zero, List.setIfInBounds_toArray, List.set_cons_zero, List.set_cons_succ])
                    refine wpAnyH_ready (rs := [6]) (by kernel_rfl) (by simp) (AllReadyH.cons rfl (fun K hK => ?_) AllReadyH.nil)
                    go_simp
                    (go_at_call 32; (with_reducible refine (hPO _).mono ?_); rintro e' w5 ⟨rfl, hb5a⟩; have hb5 : Below wa.heap.size wa w5 := (Below.refl _ _).drew.trans hb5a)
                    refine hK.out _ _ ⟨cellKeep hb5 e0, cellKeep hb5 e1, cellKeep hb5 e2, cellKeep hb5 e3, cellKeep hb5 e4, cellKeep hb5 e5, cellKeep hb5 e6, cellKeep hb5 e7, cellKeep hb5 e8, cellKeep hb5 m2, cellKeep hb5 m11, cellKeep hb5 m12, cellKeep hb5 mc, hb5⟩ (fun hHeld2 => ?_)
                    clear hK K
                    (try simp only [Act.put, List.getElem_toArray, List.getElem_cons_succ, List.getElem_cons_zero, List.setIfInBounds_toArray, List.set_cons_zero, List.set_cons_succ])
                    refine wpAnyH_take (i := 8) (v := ?_) rfl (by kernel_rfl) (by kernel_rfl) (by kernel_rfl) (fun _ _ _ h => h) (Or.inl ⟨by rfl, fun w hSw => ?_⟩) hHeld2 ?_
                    rotate_left
                    · (try dsimp only at hSw); go_split_ands; go_simp <;> with_reducible rfl
                    (try simp only [Act.put, List.getElem_toArray, List.getElem_cons_succ, List.getElem_cons_zero, List.setIfInBounds_toArray, List.set_cons_zero, List.set_cons_succ])
                    refine wpAnyH_take (i := 9) (v := ?_) rfl (by kernel_rfl) (by kernel_rfl) (by kernel_rfl) (fun _ _ _ h => h) (Or.inl ⟨by rfl, fun w hSw => ?_⟩) hHeld2 ?_
                    rotate_left
                    · (try dsimp only at hSw); go_split_ands; go_simp <;> with_reducible rfl
                    (try simp only [Act.put, List.getElem_toArray, List.getElem_cons_succ, List.getElem_cons_zero, List.setIfInBounds_toArray, List.set_cons_zero, List.set_cons_succ])
                    refine wpAnyH_take (i := 10) (v := ?_) rfl (by kernel_rfl) (by kernel_rfl) (by kernel_rfl) (fun _ _ _ h => h) (Or.inl ⟨by rfl, fun w hSw => ?_⟩) hHeld2 ?_
                    rotate_left
                    · (try dsimp only at hSw); go_split_ands; go_simp <;> with_reducible rfl
                    (try simp only [Act.put, List.getElem_toArray, List.getElem_cons_succ, List.getElem_cons_zero, List.setIfInBounds_toArray, List.set_cons_zero, List.set_cons_succ])
                    refine wpAnyH_take (i := 11) (v := ?_) rfl (by kernel_rfl) (by kernel_rfl) (by kernel_rfl) (fun _ _ _ h => h) (Or.inl ⟨by rfl, fun w hSw => ?_⟩) hHeld2 ?_
                    rotate_left
                    · (try dsimp only at hSw); go_split_ands; go_simp <;> with_reducible rfl
                    (try simp only [Act.put, List.getElem_toArray, List.getElem_cons_succ, List.getElem_cons_zero, List.setIfInBounds_toArray, List.set_cons_zero, List.set_cons_succ])
                    refine wpAnyH_take (i := 12) (v := ?_) rfl (by kernel_rfl) (by kernel_rfl) (by kernel_rfl) (fun _ _ _ h => h) (Or.inl ⟨by rfl, fun w hSw => ?_⟩) hHeld2 ?_
                    rotate_left
                    · (try dsimp only at hSw); go_split_ands; go_simp <;> with_reducible rfl
                    (try simp only [Act.put, List.getElem_toArray, List.getElem_cons_succ, List.getElem_cons_zero, List.setIfInBounds_toArray, List.set_cons_zero, List.set_cons_succ])
                    refine wpAnyH_take (i := 13) (v := ?_) rfl (by kernel_rfl) (by kernel_rfl) (by kernel_rfl) (fun _ _ _ h => h) (Or.inl ⟨by rfl, fun w hSw => ?_⟩) hHeld2 ?_
                    rotate_left
                    · (try dsimp only at hSw); go_split_ands; go_simp <;> with_reducible rfl
                    (try simp only [Act.put, List.getElem_toArray, List.getElem_cons_succ, List.getElem_cons_zero, List.setIfInBounds_toArray, List.set_cons_zero, List.set_cons_succ])
                    refine wpAnyH_take (i := 14) (v := ?_) rfl (by kernel_rfl) (by kernel_rfl) (by kernel_rfl) (fun _ _ _ h => h) (Or.inl ⟨by rfl, fun w hSw => ?_⟩) hHeld2 ?_
                    rotate_left
                    · (try dsimp only at hSw); go_split_ands; go_simp <;> with_reducible rfl
                    (try simp only [Act.put, List.getElem_toArray, List.getElem_cons_succ, List.getElem_cons_zero, List.setIfInBounds_toArray, List.set_cons_zero, List.set_cons_succ])
                    refine wpAnyH_take (i := 15) (v := ?_) rfl (by kernel_rfl) (by kernel_rfl) (by kernel_rfl) (fun _ _ _ h => h) (Or.inl ⟨by rfl, fun w hSw => ?_⟩) hHeld2 ?_
                    rotate_left
                    · (try dsimp only at hSw); go_split_ands; go_simp <;> with_reducible rfl
                    (try simp only [Act.put, List.getElem_toArray, List.getElem_cons_succ, List.getElem_cons_zero, List.setIfInBounds_toArray, List.set_cons_zero, List.set_cons_succ])
                    refine wpAnyH_take (i := 16) (v := ?_) rfl (by kernel_rfl) (by kernel_rfl) (by kernel_rfl) (fun _ _ _ h => h) (Or.inl ⟨by rfl, fun w hSw => ?_⟩) hHeld2 ?_
                    rotate_left
                    · (try dsimp only at hSw); go_split_ands; go_simp <;> with_reducible rfl
                    (try simp only [Act.put, List.getElem_toArray, List.getElem_cons_succ, List.getElem_cons_zero, List.setIfInBounds_toArray, List.set_cons_zero, List.set_cons_succ])
                    refine wpAnyH_take (i := 17) (v := ?_) rfl (by kernel_rfl) (by kernel_rfl) (by kernel_rfl) (fun _ _ _ h => h) (Or.inl ⟨by rfl, fun w hSw => ?_⟩) hHeld2 ?_
                    rotate_left
                    · (try dsimp only at hSw); go_split_ands; go_simp <;> with_reducible rfl
                    (try simp only [Act.put, List.getElem_toArray, List.getElem_cons_succ, List.getElem_cons_zero, List.setIfInBounds_toArray, List.set_cons_zero, List.set_cons_succ])
                    refine wpAnyH_take (i := 18) (v := ?_) rfl (by kernel_rfl) (by kernel_rfl) (by kernel_rfl) (fun _ _ _ h => h) (Or.inl ⟨by rfl, fun w hSw => ?_⟩) hHeld2 ?_
                    rotate_left
                    · (try dsimp only at hSw); go_split_ands; go_simp <;> with_reducible rfl
                    (try simp only [Act.put, List.getElem_toArray, List.getElem_cons_succ, List.getElem_cons_zero, List.setIfInBounds_toArray, List.set_cons_zero, List.set_cons_succ])
                    refine wpAnyH_take (i := 19) (v := ?_) rfl (by kernel_rfl) (by kernel_rfl) (by kernel_rfl) (fun _ _ _ h => h) (Or.inl ⟨by rfl, fun w hSw => ?_⟩) hHeld2 ?_
                    rotate_left
                    · (try dsimp only at hSw); go_split_ands; go_simp <;> with_reducible rfl
                    (try simp only [Act.put, List.getElem_toArray, List.getElem_cons_succ, List.getElem_cons_zero, List.setIfInBounds_toArray, List.set_cons_zero, List.set_cons_succ])
                    refine wpAnyH_done (by kernel_rfl) ?_ _
                    obtain ⟨_, _, _, _, _, _, _, _, _, _, m11', m12', mc', hbw⟩ := hHeld2
                    clear hHeld hb5 hb5a hPO m2 m11 m12 mc e0 e1 e2 e3 e4 e5 e6 e7 e8
                    go_wp2_with fail
                    go_quiet (fail)
                    clear m11' m12' mc'
                    generalize hw7 : w5.drewN _ = w7
                    have hb7 : Below wa.heap.size wa w7 := by rw [← hw7]; exact below_drewN hbw _
                    clear hw7 hbw
                    obtain ⟨Xa, Ga, Ma, ma⟩ := XGM.out
                    have Xw := Xa.below hb7
                    have Gw := Ga.keep (Keeps.below (fun _ => False) ρ hb7) id
                    have mw := ma.below hb7
                    have m11 := mw.m11
                    obtain ⟨mc, mf⟩ := Xw.markc hk
                    rw [HEN.out.2] at mc
                    obtain ⟨Xm, Km⟩ := Xw.mark k
                    rw [HEN.out.2, show ((c + 1 : Nat) : Int) = (c : Int) + 1 from by omega] at Xm Km
                    have Gm := Gw.keep Km (by omega)
                    have n11 := (World.cell?_of_block (a := ⟨wr.heap.size, 11, none⟩) (Below.heap_setCell w7 ⟨mb, k, none⟩ (.int .u64 ((c : Int) + 1)) wr.heap.size (by show wr.heap.size ≠ mb; omega))).trans m11
                    have HZ := Lib.hid (And.intro Xm (And.intro Gm (And.intro Ma n11)))
                    clear Xa Ga Ma ma Xw Gw mw Xm Gm Km n11 hb7 XGM
                    go_wp2_with fail
                    clear m11 mc mf
                    obtain ⟨Xm, Gm, Ma, n11⟩ := HZ.out
                    generalize w7.setCell ⟨mb, k, none⟩ (.int .u64 ((c : Int) + 1)) = w8 at Xm Gm n11 ⊢
                    clear HZ
                    have nc := (Xm.markc hk).1
                    have hbk : ((bump mk k (k : Nat) : Nat) : Int) = (c : Int) + 1 := by unfold bump; rw [if_pos rfl, HEN.out.2]; omega
                    rw [hbk] at nc
                    have hany : Q1.any (wantsB k ((c : Int) + 1)) = true := by
                      rw [List.any_eq_true]
                      obtain ⟨j, hj, hpj⟩ := firstE_peer HE.out.1
                      refine ⟨e, List.mem_of_getElem? hj, ?_⟩
                      unfold wantsB
                      rw [hpj, HE.out.2, HEN.out.2]
                      simp
                    have hq16 := Ma.base.len.1
                    have hW : ∀ w', Below w8.heap.size w8 w' → Calls Try.prog 34 #[.pointer (some ⟨S, 0, none⟩), .int .i64 (k : Nat), .int .u64 ((c : Int) + 1)] w' fun e' w'' => e' = .returned (.bool true) ∧ Below w'.heap.size w' w'' := fun w' hb => by
                      have := settle_wants w' w.heap.size 40 S N W wc k ((c : Int) + 1) ρ 0 sh ws1 sq1 Q1 (Xm.below hb).set hk hks (by omega)
                      rw [hany] at this
                      exact this
                    have hH : ∀ w', Below w8.heap.size w8 w' → Calls Try.prog 35 #[.slice Aq1 Q1.length cq1, .int .i64 (k : Nat), .int .u64 ((c : Int) + 1)] w' fun e' w'' => e' = .returned (.bool true) ∧ Below w'.heap.size w' w'' := fun w' hb =>
                      has_true w' _ Q1 k ((c : Int) + 1) e (One.hasQ (Xm.below hb).q rfl) (by omega) HE.out.1 (by rw [HEN.out.1, HMK.out.1]; omega)
                    obtain ⟨Qn, hQn⟩ : ∃ Qn, Q1.filter (leftB k ((c : Int) + 1)) = Qn := ⟨_, rfl⟩
                    have hQn16 : Qn.length ≤ 16 := by
                      rw [← hQn]
                      have := List.length_filter_le (leftB k ((c : Int) + 1)) Q1
                      omega
                    have hMc := Ma.credit HX0.out HXP.out hk hks HE.out.1 HHO.out.lt hccap.1
                    rw [HEN.out.2, show ((c + 1 : Nat) : Int) = (c : Int) + 1 from by omega, hQn] at hMc
                    have hO : ∀ w', Below w8.heap.size w8 w' → Calls Try.prog 36 #[.slice Aq1 Q1.length cq1, .int .i64 (k : Nat), .int .u64 ((c : Int) + 1)] w' fun e' w'' => ∃ u, e' = .returned u ∧ One w'' w'.heap.size 104 4 u Qn.length (cQ Qn) ∧ Below w'.heap.size w' w'' := fun w' hb => by
                      have := without_any w' _ Q1 k ((c : Int) + 1) (One.hasQ (Xm.below hb).q rfl) (by omega)
                      rw [hQn] at this
                      exact this
                    have HXG2 := Lib.hid (And.intro Xm Gm)
                    have HMa := Lib.hid hMc
                    have HW := Lib.hid (And.intro hW (And.intro hH hO))
                    clear Xm Gm Ma hMc hQn hany hbk hW hH hO
                    go_region_held3 (fun w' => w'.cell? ⟨wr.heap.size, 11, none⟩ = some (.int .i64 (k : Nat)) ∧ w'.cell? ⟨mb, k, none⟩ = some (.int .u64 ((c : Int) + 1)) ∧ Below w8.heap.size w8 w')
                      (first | exact ⟨n11, nc, (Below.refl _ _).drew⟩ | (go_split_ands; exact ⟨by assumption, by assumption, by assumption⟩) | (go_split_ands; exact ⟨cellKeep hb9 n11, cellKeep hb9 nc, hb9⟩))
                      ((first | (go_at_call 34; go_split_ands; (with_reducible refine (HW.out.1 _ (by assumption)).mono ?_); rintro e' w9 ⟨rfl, hb9a⟩; have hb9 : Below w8.heap.size w8 w9 := Below.trans (by assumption) (hb9a.mono (Below.size (by assumption)))) | (go_at_call 35; go_split_ands; (with_reducible refine (HW.out.2.1 _ (by assumption)).mono ?_); rintro e' w9 ⟨rfl, hb9a⟩; have hb9 : Below w8.heap.size w8 w9 := Below.trans (by assumption) (hb9a.mono (Below.size (by assumption))))))
                    all_goals
                      go_wp2_with fail
                      have y11 := cellKeep hb9 n11
                      have yc := cellKeep hb9 nc
                      go_region_held3 (fun w' => w'.cell? ⟨wr.heap.size, 11, none⟩ = some (.int .i64 (k : Nat)) ∧ w'.cell? ⟨mb, k, none⟩ = some (.int .u64 ((c : Int) + 1)) ∧ Below w8.heap.size w8 w')
                        (first | exact ⟨y11, yc, hb9.drew⟩ | (go_split_ands; exact ⟨by assumption, by assumption, by assumption⟩) | (go_split_ands; exact ⟨cellKeep hb10 n11, cellKeep hb10 nc, hb10⟩))
                        ((go_at_call 36; (with_reducible refine (HW.out.2.2 _ hb9.drew).mono ?_); rintro e' w10 ⟨u, rfl, ho10, hb10a⟩; obtain ⟨Au, cu, rfl⟩ := OneN.len ho10; have hb10 : Below w8.heap.size w8 w10 := hb9.drew.trans (hb10a.mono hb9.drew.size); obtain ⟨ρq, Xq, Kq⟩ := (HXG2.out.1.below hb9.drew).newQ hb10a ho10; have HQ2 := Lib.hid (And.intro Xq ((HXG2.out.2.keep (Keeps.below (fun _ => False) ρ hb9.drew) id).keep Kq id)); clear ho10 hb10a Xq Kq))
                      clear y11 yc n11 nc hb9 hb10
                      go_wp2_with (go_at_call 30; (with_reducible refine (settle_look w10 w.heap.size 40 S N W wc ρq 0 sh sh ws1 sq1 Q1 HQ2.out.1.set HQ2.out.1.free Au Qn.length cu Qn (One.hasQ HQ2.out.1.q rfl) (by omega) none none none none 0 0 0 0 0 0 0 0).mono ?_); rintro e' w11 ⟨rfl, ρ11, sq11, s11, K11, F11, L11⟩; have HQ3 := Lib.hid (And.intro (HQ2.out.1.sets s11 K11 F11 L11) (HQ2.out.2.keep K11 (by omega))); clear s11 K11 F11 L11 HQ2)
                      exact ⟨⟨i + 1, t1, lost1, _, _, _, _, _, by go_num, by go_num, by go_num, by omega, by omega, HQ3.out.1, HQ3.out.2, HMa.out⟩, by simp [intOf]; omega⟩
                  · have p5 : ((tn : Int) != 0) = true := by rw [hkey, decide_eq_false hth]; rfl
                    clear hkey
                    refine wp_region_held_drew (S := fun w' => w'.cell? ⟨bc, 0, none⟩ = some (.int .i64 (n : Nat)) ∧ w'.cell? ⟨bc, 1, none⟩ = some (.int .i64 (N : Nat)) ∧ w'.cell? ⟨bc, 2, none⟩ = some (.int .i64 (cp : Nat)) ∧ w'.cell? ⟨bc, 3, none⟩ = some (.int .i64 1) ∧ w'.cell? ⟨bc, 4, none⟩ = some (.int .i64 16) ∧ w'.cell? ⟨bc, 5, none⟩ = some (.int .i64 (cap : Nat)) ∧ w'.cell? ⟨bc, 6, none⟩ = some (.int .i64 64) ∧ w'.cell? ⟨bc, 7, none⟩ = some (.int .i64 100) ∧ w'.cell? ⟨bc, 8, none⟩ = some (.slice none 0 0) ∧ w'.cell? ⟨wr.heap.size, 2, none⟩ = some (.int .i64 tx) ∧ w'.cell? ⟨wr.heap.size, 11, none⟩ = some (.int .i64 (k : Nat)) ∧ w'.cell? ⟨wr.heap.size, 12, none⟩ = some (.int .u64 en) ∧ w'.cell? ⟨mb, k, none⟩ = some (.int .u64 (c : Nat)) ∧ Below wa.heap.size wa w') (by kernel_rfl) ⟨e0, e1, e2, e3, e4, e5, e6, e7, e8, m2, m11, m12, mc, (Below.refl _ _).drew⟩ (fun hHeld => ?_)
                    refine wpAnyH_take (i := 0) (v := ?_) rfl (by kernel_rfl) (by kernel_rfl) (by kernel_rfl) (fun _ _ _ h => h) (Or.inl ⟨by rfl, fun w hSw => ?_⟩) hHeld ?_
                    rotate_left
                    · (try dsimp only at hSw); go_split_ands; go_simp <;> with_reducible rfl
                    (try simp only [Act.put, List.getElem_toArray, List.getElem_cons_zero, List.setIfInBounds_toArray, List.set_cons_zero, List.set_cons_succ])
                    refine wpAnyH_take (i := 1) (v := ?_) rfl (by kernel_rfl) (by kernel_rfl) (by kernel_rfl) (fun _ _ _ h => h) (Or.inl ⟨by rfl, fun w hSw => ?_⟩) hHeld ?_
                    rotate_left
                    · (try dsimp only at hSw); go_split_ands; go_simp <;> with_reducible rfl
                    (try simp only [Act.put, List.getElem_toArray, List.getElem_cons_succ, List.getElem_cons_zero, List.setIfInBounds_toArray, List.set_cons_zero, List.set_cons_succ])
                    refine wpAnyH_take (i := 2) (v := ?_) rfl (by kernel_rfl) (by kernel_rfl) (by kernel_rfl) (fun _ _ _ h => h) (Or.inl ⟨by rfl, fun w hSw => ?_⟩) hHeld ?_
                    rotate_left
                    · (try dsimp only at hSw); go_split_ands; go_simp <;> with_reducible rfl
                    (try simp only [Act.put, List.getElem_toArray, List.getElem_cons_succ, List.getElem_cons_zero, List.setIfInBounds_toArray, List.set_cons_zero, List.set_cons_succ])
                    refine wpAnyH_take (i := 3) (v := ?_) rfl (by kernel_rfl) (by kernel_rfl) (by kernel_rfl) (fun _ _ _ h => h) (Or.inl ⟨by rfl, fun w hSw => ?_⟩) hHeld ?_
                    rotate_left
                    · (try dsimp only at hSw); go_split_ands; go_simp <;> with_reducible rfl
                    (try simp only [Act.put, List.getElem_toArray, List.getElem_cons_succ, List.getElem_cons_zero, List.setIfInBounds_toArray, List.set_cons_zero, List.set_cons_succ])
                    refine wpAnyH_take (i := 4) (v := ?_) rfl (by kernel_rfl) (by kernel_rfl) (by kernel_rfl) (fun _ _ _ h => h) (Or.inl ⟨by rfl, fun w hSw => ?_⟩) hHeld ?_
                    rotate_left
                    · (try dsimp only at hSw); go_split_ands; go_simp <;> with_reducible rfl
                    (try simp only [Act.put, List.getElem_toArray, List.getElem_cons_succ, List.getElem_cons_zero, List.setIfInBounds_toArray, List.set_cons_zero, List.set_cons_succ])
                    refine wpAnyH_take (i := 5) (v := ?_) rfl (by kernel_rfl) (by kernel_rfl) (by kernel_rfl) (fun _ _ _ h => h) (Or.inl ⟨by rfl, fun w hSw => ?_⟩) hHeld ?_
                    rotate_left
                    · (try dsimp only at hSw); go_split_ands; go_simp <;> with_reducible rfl
                    (try simp only [Act.put, List.getElem_toArray, List.getElem_cons_succ, List.getElem_cons_zero, List.setIfInBounds_toArray, List.set_cons_zero, List.set_cons_succ])
                    refine wpAnyH_take (i := 7) (v := ?_) rfl (by kernel_rfl) (by kernel_rfl) (by kernel_rfl) (fun _ _ _ h => h) (Or.inl ⟨by rfl, fun w hSw => ?_⟩) hHeld ?_
                    rotate_left
                    · (try dsimp only at hSw); go_split_ands; go_simp <;> with_reducible rfl
                    (try simp only [Act.put, List.getElem_toArray, List.getElem_cons_succ, List.getElem_cons_zero, List.setIfInBounds_toArray, List.set_cons_zero, List.set_cons_succ])
                    refine wpAnyH_ready (rs := [6]) (by kernel_rfl) (by simp) (AllReadyH.cons rfl (fun K hK => ?_) AllReadyH.nil)
                    go_simp
                    (go_at_call 32; (with_reducible refine (hPO _).mono ?_); rintro e' w5 ⟨rfl, hb5a⟩; have hb5 : Below wa.heap.size wa w5 := (Below.refl _ _).drew.trans hb5a)
                    refine hK.out _ _ ⟨cellKeep hb5 e0, cellKeep hb5 e1, cellKeep hb5 e2, cellKeep hb5 e3, cellKeep hb5 e4, cellKeep hb5 e5, cellKeep hb5 e6, cellKeep hb5 e7, cellKeep hb5 e8, cellKeep hb5 m2, cellKeep hb5 m11, cellKeep hb5 m12, cellKeep hb5 mc, hb5⟩ (fun hHeld2 => ?_)
                    clear hK K
                    (try simp only [Act.put, List.getElem_toArray, List.getElem_cons_succ, List.getElem_cons_zero, List.setIfInBounds_toArray, List.set_cons_zero, List.set_cons_succ])
                    refine wpAnyH_take (i := 8) (v := ?_) rfl (by kernel_rfl) (by kernel_rfl) (by kernel_rfl) (fun _ _ _ h => h) (Or.inl ⟨by rfl, fun w hSw => ?_⟩) hHeld2 ?_
                    rotate_left
                    · (try dsimp only at hSw); go_split_ands; go_simp <;> with_reducible rfl
                    (try simp only [Act.put, List.getElem_toArray, List.getElem_cons_succ, List.getElem_cons_zero, List.setIfInBounds_toArray, List.set_cons_zero, List.set_cons_succ])
                    refine wpAnyH_take (i := 9) (v := ?_) rfl (by kernel_rfl) (by kernel_rfl) (by kernel_rfl) (fun _ _ _ h => h) (Or.inl ⟨by rfl, fun w hSw => ?_⟩) hHeld2 ?_
                    rotate_left
                    · (try dsimp only at hSw); go_split_ands; go_simp <;> with_reducible rfl
                    (try simp only [Act.put, List.getElem_toArray, List.getElem_cons_succ, List.getElem_cons_zero, List.setIfInBounds_toArray, List.set_cons_zero, List.set_cons_succ])
                    refine wpAnyH_take (i := 10) (v := undef) rfl (by kernel_rfl) (by kernel_rfl) (by kernel_rfl) (fun _ _ _ h => h) (Or.inr ⟨by rfl, rfl⟩) hHeld2 ?_
                    (try simp only [Act.put, List.getElem_toArray, List.getElem_cons_succ, List.getElem_cons_zero, List.setIfInBounds_toArray, List.set_cons_zero, List.set_cons_succ])
                    refine wpAnyH_take (i := 11) (v := undef) rfl (by kernel_rfl) (by kernel_rfl) (by kernel_rfl) (fun _ _ _ h => h) (Or.inr ⟨by rfl, rfl⟩) hHeld2 ?_
                    (try simp only [Act.put, List.getElem_toArray, List.getElem_cons_succ, List.getElem_cons_zero, List.setIfInBounds_toArray, List.set_cons_zero, List.set_cons_succ])
                    refine wpAnyH_take (i := 12) (v := undef) rfl (by kernel_rfl) (by kernel_rfl) (by kernel_rfl) (fun _ _ _ h => h) (Or.inr ⟨by rfl, rfl⟩) hHeld2 ?_
                    (try simp only [Act.put, List.getElem_toArray, List.getElem_cons_succ, List.getElem_cons_zero, List.setIfInBounds_toArray, List.set_cons_zero, List.set_cons_succ])
                    refine wpAnyH_take (i := 13) (v := undef) rfl (by kernel_rfl) (by kernel_rfl) (by kernel_rfl) (fun _ _ _ h => h) (Or.inr ⟨by rfl, rfl⟩) hHeld2 ?_
                    (try simp only [Act.put, List.getElem_toArray, List.getElem_cons_succ, List.getElem_cons_zero, List.setIfInBounds_toArray, List.set_cons_zero, List.set_cons_succ])
                    refine wpAnyH_take (i := 14) (v := undef) rfl (by kernel_rfl) (by kernel_rfl) (by kernel_rfl) (fun _ _ _ h => h) (Or.inr ⟨by rfl, rfl⟩) hHeld2 ?_
                    (try simp only [Act.put, List.getElem_toArray, List.getElem_cons_succ, List.getElem_cons_zero, List.setIfInBounds_toArray, List.set_cons_zero, List.set_cons_succ])
                    refine wpAnyH_take (i := 15) (v := undef) rfl (by kernel_rfl) (by kernel_rfl) (by kernel_rfl) (fun _ _ _ h => h) (Or.inr ⟨by rfl, rfl⟩) hHeld2 ?_
                    (try simp only [Act.put, List.getElem_toArray, List.getElem_cons_succ, List.getElem_cons_zero, List.setIfInBounds_toArray, List.set_cons_zero, List.set_cons_succ])
                    refine wpAnyH_take (i := 16) (v := undef) rfl (by kernel_rfl) (by kernel_rfl) (by kernel_rfl) (fun _ _ _ h => h) (Or.inr ⟨by rfl, rfl⟩) hHeld2 ?_
                    (try simp only [Act.put, List.getElem_toArray, List.getElem_cons_succ, List.getElem_cons_zero, List.setIfInBounds_toArray, List.set_cons_zero, List.set_cons_succ])
                    refine wpAnyH_take (i := 17) (v := undef) rfl (by kernel_rfl) (by kernel_rfl) (by kernel_rfl) (fun _ _ _ h => h) (Or.inr ⟨by rfl, rfl⟩) hHeld2 ?_
                    (try simp only [Act.put, List.getElem_toArray, List.getElem_cons_succ, List.getElem_cons_zero, List.setIfInBounds_toArray, List.set_cons_zero, List.set_cons_succ])
                    refine wpAnyH_take (i := 18) (v := undef) rfl (by kernel_rfl) (by kernel_rfl) (by kernel_rfl) (fun _ _ _ h => h) (Or.inr ⟨by rfl, rfl⟩) hHeld2 ?_
                    (try simp only [Act.put, List.getElem_toArray, List.getElem_cons_succ, List.getElem_cons_zero, List.setIfInBounds_toArray, List.set_cons_zero, List.set_cons_succ])
                    refine wpAnyH_take (i := 19) (v := ?_) rfl (by kernel_rfl) (by kernel_rfl) (by kernel_rfl) (fun _ _ _ h => h) (Or.inl ⟨by rfl, fun w hSw => ?_⟩) hHeld2 ?_
                    rotate_left
                    · (try dsimp only at hSw); go_split_ands; go_simp <;> with_reducible rfl
                    (try simp only [Act.put, List.getElem_toArray, List.getElem_cons_succ, List.getElem_cons_zero, List.setIfInBounds_toArray, List.set_cons_zero, List.set_cons_succ])
                    refine wpAnyH_done (by kernel_rfl) ?_ _
                    obtain ⟨_, _, _, _, _, _, _, _, _, _, m11', m12', mc', hbw⟩ := hHeld2
                    clear hHeld hb5 hb5a hPO m2 m11 m12 mc e0 e1 e2 e3 e4 e5 e6 e7 e8
                    go_wp2_with fail
                    go_quiet (fail)
                    go_wp2_with fail
                    obtain ⟨Ma, hbz⟩ := And.intro XGM.out.2.2.1 (fun q => below_drewN hbw q)
                    exact ⟨⟨i + 1, t1, lost1, _, _, _, _, _, by go_num, by go_num, by go_num, by omega, by omega, XGM.out.1.below (hbz _), XGM.out.2.1.keep (Keeps.below (fun _ => False) ρ (hbz _)) id, Ma.past HX0.out HXP.out HTO.out htn hth HHO.out.lt (by omega) hchn.2 hccp.2.1⟩, by simp [intOf]; omega⟩
              · have HCY := Lib.hid (fun (w' : World) (_ : Below w.heap.size w w') => True.intro)
                have r1 : ¬ (lost1 : Int) < (n3 : Int) := by omega
                by_cases hkn : k < n2
                · obtain ⟨gh, oh, xh, rfl, hgh, hch, hxh⟩ := HHO.out.near k hkn
                  have p3 : (k : Int) < (n2 : Int) := by omega
                  have hI := fun w' => into13 xh cp w' (by omega) (by omega)
                  rw [hxh] at hI
                  clear hxh
                  have HCH := Lib.hid hch
                  clear hch
                  go_wp2_with (first | (refine wpList_load_mid rfl 102 (.tmp 66) rfl gm (i * 22) rfl cs dm HR.out hdm hrow HS.out ?_) | (refine wpList_store_mid rfl 102 (.tmp 13) (.tmp 67) rfl wr.heap.size 0 cs.toArray rfl rfl HB.out.1 hsz2 (all_oneCell_toArray hone) ?_; obtain ⟨hra, hba, hza⟩ := HB.out.2; generalize World.setCells _ _ _ _ = wa at hra hba hza ⊢; have Xa := HXG.out.1.below hba; have Ga := HXG.out.2.1.keep (Keeps.below (fun _ => False) ρ hba) id; have Ma := HXG.out.2.2; have ma := HCV.out wa hra; have m11 := ma.m11; obtain ⟨l6, l7⟩ := load_cells HPO.out Xa.load.1; have x2 := Xa.confc.e2; have cy := HCY.out wa Xa.bel; have chx := (Xa.bel.cell (p := ⟨gh, oh + k, none⟩) hgh).trans HCH.out; have XGM := Lib.hid (And.intro Xa (And.intro Ga (And.intro Ma ma))); clear HCV HR HB HXG hra hba Xa Ga Ma ma))
                  go_quiet ((go_at_call 33; first | exact Calls.quiet_of_same (unflipS (hI _)) | exact quietAddSame (unflipS (hI _))))
                  generalize hwd : wa.drewN _ = wd
                  have hbd : Below wa.heap.size wa wd := by rw [← hwd]; exact below_drewN (Below.refl _ _) _
                  clear l6 l7 x2 cy m11
                  obtain ⟨Xa, Ga, Ma, ma⟩ := XGM.out
                  have Xd := Xa.below hbd
                  have Gd := Ga.keep (Keeps.below (fun _ => False) ρ hbd) id
                  have md := ma.below hbd
                  obtain ⟨l6, l7⟩ := load_cells HPO.out Xd.load.1
                  have cy := HCY.out wd Xd.bel
                  have XGM := Lib.hid (And.intro Xd (And.intro Gd (And.intro Ma md)))
                  clear hwd hbd Xa Ga ma chx hI HCH Xd Gd Ma md
                  go_wp2_with fail
                  clear l6 l7 cy
                  try clear m11
                  try clear x2
                  obtain ⟨Xa, Ga, Ma, ma⟩ := XGM.out
                  obtain ⟨e0, e1, e2, e3, e4, e5, e6, e7, e8⟩ := Xa.confc
                  have mc := (Xa.markc hk).1
                  obtain ⟨c, hcm⟩ : ∃ c, mk (k : Nat) = c := ⟨_, rfl⟩
                  have hc16 := Ma.base.few (k : Nat)
                  rw [hcm] at mc hc16
                  obtain ⟨en, hen⟩ : ∃ en, e.num = en := ⟨_, rfl⟩
                  have hen2 : en = (c : Int) + 1 := by rw [← hen, HE.out.2, hcm]; omega
                  have m2 := ma.m2
                  have m11 := ma.m11
                  have m12 := ma.m12
                  rw [hen] at m12
                  have HEN := Lib.hid (And.intro hen hcm)
                  have HMK := Lib.hid (And.intro hen2 hc16)
                  have hPO : ∀ w', Calls Try.prog 32 #[.agg #[.int .i64 (n : Nat), .int .i64 (N : Nat), .int .i64 (cp : Nat), .int .i64 1, .int .i64 16, .int .i64 (cap : Nat), .int .i64 64, .int .i64 100, .slice none 0 0], .int .i64 (k : Nat), .int .i64 tx] w' fun e' w'' => e' = .returned (.int .i64 (tn : Nat)) ∧ Below w'.heap.size w' w'' := fun w' => by
                    have := placeOf_any w' n N cp cap k tx hc (by omega)
                    rw [HPL.out] at this
                    exact this
                  have p6 : decide ((c : Int) + 1 < en) = false := by simp; omega
                  have p7 : IntKind.u64.wrap ((c : Int) + 1) = (c : Int) + 1 := by rw [IntKind.wrap_u64]; omega
                  have p9 : (en == (c : Int) + 1) = true := by simp; omega
                  have p10 : (0 : Int) ≤ (c : Int) := by omega
                  have p11 : (c : Int) < 17 := by omega
                  have p8 : (k : Int) < (N : Int) := by omega
                  have hkey : ((tn : Int) != (hol k : Nat)) = !decide (tn = hol k) := by
                    rw [Bool.eq_iff_iff]
                    simp
                    first | omega | (have := HHO.out.far k (by omega); omega)
                  clear Xa Ga Ma ma hen hcm hen2 hc16 r0
                  by_cases hth : tn = hol k
                  · have p5 : ((tn : Int) != (hol k : Nat)) = false := by rw [hkey, decide_eq_true hth]; rfl
                    have HTH := Lib.hid hth
                    clear hth
                    have hth := HTH.out
                    clear hth
                    clear hkey
                    refine wp_region_held_drew (S := fun w' => w'.cell? ⟨bc, 0, none⟩ = some (.int .i64 (n : Nat)) ∧ w'.cell? ⟨bc, 1, none⟩ = some (.int .i64 (N : Nat)) ∧ w'.cell? ⟨bc, 2, none⟩ = some (.int .i64 (cp : Nat)) ∧ w'.cell? ⟨bc, 3, none⟩ = some (.int .i64 1) ∧ w'.cell? ⟨bc, 4, none⟩ = some (.int .i64 16) ∧ w'.cell? ⟨bc, 5, none⟩ = some (.int .i64 (cap : Nat)) ∧ w'.cell? ⟨bc, 6, none⟩ = some (.int .i64 64) ∧ w'.cell? ⟨bc, 7, none⟩ = some (.int .i64 100) ∧ w'.cell? ⟨bc, 8, none⟩ = some (.slice none 0 0) ∧ w'.cell? ⟨wr.heap.size, 2, none⟩ = some (.int .i64 tx) ∧ w'.cell? ⟨wr.heap.size, 11, none⟩ = some (.int .i64 (k : Nat)) ∧ w'.cell? ⟨wr.heap.size, 12, none⟩ = some (.int .u64 en) ∧ w'.cell? ⟨mb, k, none⟩ = some (.int .u64 (c : Nat)) ∧ Below wd.heap.size wd w') (by kernel_rfl) ⟨e0, e1, e2, e3, e4, e5, e6, e7, e8, m2, m11, m12, mc, (Below.refl _ _).drew⟩ (fun hHeld => ?_)
                    refine wpAnyH_take (i := 0) (v := ?_) rfl (by kernel_rfl) (by kernel_rfl) (by kernel_rfl) (fun _ _ _ h => h) (Or.inl ⟨by rfl, fun w hSw => ?_⟩) hHeld ?_
                    rotate_left
                    · (try dsimp only at hSw); go_split_ands; go_simp <;> with_reducible rfl
                    (try simp only [Act.put, List.getElem_toArray, List.getElem_cons_zero, List.setIfInBounds_toArray, List.set_cons_zero, List.set_cons_succ])
                    refine wpAnyH_take (i := 1) (v := ?_) rfl (by kernel_rfl) (by kernel_rfl) (by kernel_rfl) (fun _ _ _ h => h) (Or.inl ⟨by rfl, fun w hSw => ?_⟩) hHeld ?_
                    rotate_left
                    · (try dsimp only at hSw); go_split_ands; go_simp <;> with_reducible rfl
                    (try simp only [Act.put, List.getElem_toArray, List.getElem_cons_succ, List.getElem_cons_zero, List.setIfInBounds_toArray, List.set_cons_zero, List.set_cons_succ])
                    refine wpAnyH_take (i := 2) (v := ?_) rfl (by kernel_rfl) (by kernel_rfl) (by kernel_rfl) (fun _ _ _ h => h) (Or.inl ⟨by rfl, fun w hSw => ?_⟩) hHeld ?_
                    rotate_left
                    · (try dsimp only at hSw); go_split_ands; go_simp <;> with_reducible rfl
                    (try simp only [Act.put, List.getElem_toArray, List.getElem_cons_succ, List.getElem_cons_zero, List.setIfInBounds_toArray, List.set_cons_zero, List.set_cons_succ])
                    refine wpAnyH_take (i := 3) (v := ?_) rfl (by kernel_rfl) (by kernel_rfl) (by kernel_rfl) (fun _ _ _ h => h) (Or.inl ⟨by rfl, fun w hSw => ?_⟩) hHeld ?_
                    rotate_left
                    · (try dsimp only at hSw); go_split_ands; go_simp <;> with_reducible rfl
                    (try simp only [Act.put, List.getElem_toArray, List.getElem_cons_succ, List.getElem_cons_zero, List.setIfInBounds_toArray, List.set_cons_zero, List.set_cons_succ])
                    refine wpAnyH_take (i := 4) (v := ?_) rfl (by kernel_rfl) (by kernel_rfl) (by kernel_rfl) (fun _ _ _ h => h) (Or.inl ⟨by rfl, fun w hSw => ?_⟩) hHeld ?_
                    rotate_left
                    · (try dsimp only at hSw); go_split_ands; go_simp <;> with_reducible rfl
                    (try simp only [Act.put, List.getElem_toArray, List.getElem_cons_succ, List.getElem_cons_zero, List.setIfInBounds_toArray, List.set_cons_zero, List.set_cons_succ])
                    refine wpAnyH_take (i := 5) (v := ?_) rfl (by kernel_rfl) (by kernel_rfl) (by kernel_rfl) (fun _ _ _ h => h) (Or.inl ⟨by rfl, fun w hSw => ?_⟩) hHeld ?_
                    rotate_left
                    · (try dsimp only at hSw); go_split_ands; go_simp <;> with_reducible rfl
                    (try simp only [Act.put, List.getElem_toArray, List.getElem_cons_succ, List.getElem_cons_zero, List.setIfInBounds_toArray, List.set_cons_zero, List.set_cons_succ])
                    refine wpAnyH_take (i := 7) (v := ?_) rfl (by kernel_rfl) (by kernel_rfl) (by kernel_rfl) (fun _ _ _ h => h) (Or.inl ⟨by rfl, fun w hSw => ?_⟩) hHeld ?_
                    rotate_left
                    · (try dsimp only at hSw); go_split_ands; go_simp <;> with_reducible rfl
                    (try simp only [Act.put, List.getElem_toArray, List.getElem_cons_succ, List.getElem_cons_zero, List.setIfInBounds_toArray, List.set_cons_zero, List.set_cons_succ])
                    refine wpAnyH_ready (rs := [6]) (by kernel_rfl) (by simp) (AllReadyH.cons rfl (fun K hK => ?_) AllReadyH.nil)
                    go_simp
                    (go_at_call 32; (with_reducible refine (hPO _).mono ?_); rintro e' w5 ⟨rfl, hb5a⟩; have hb5 : Below wd.heap.size wd w5 := (Below.refl _ _).drew.trans hb5a)
                    refine hK.out _ _ ⟨cellKeep hb5 e0, cellKeep hb5 e1, cellKeep hb5 e2, cellKeep hb5 e3, cellKeep hb5 e4, cellKeep hb5 e5, cellKeep hb5 e6, cellKeep hb5 e7, cellKeep hb5 e8, cellKeep hb5 m2, cellKeep hb5 m11, cellKeep hb5 m12, cellKeep hb5 mc, hb5⟩ (fun hHeld2 => ?_)
                    clear hK K
                    (try simp only [Act.put, List.getElem_toArray, List.getElem_cons_succ, List.getElem_cons_zero, List.setIfInBounds_toArray, List.set_cons_zero, List.set_cons_succ])
                    refine wpAnyH_take (i := 8) (v := ?_) rfl (by kernel_rfl) (by kernel_rfl) (by kernel_rfl) (fun _ _ _ h => h) (Or.inl ⟨by rfl, fun w hSw => ?_⟩) hHeld2 ?_
                    rotate_left
                    · (try dsimp only at hSw); go_split_ands; go_simp <;> with_reducible rfl
                    (try simp only [Act.put, List.getElem_toArray, List.getElem_cons_succ, List.getElem_cons_zero, List.setIfInBounds_toArray, List.set_cons_zero, List.set_cons_succ])
                    refine wpAnyH_take (i := 9) (v := ?_) rfl (by kernel_rfl) (by kernel_rfl) (by kernel_rfl) (fun _ _ _ h => h) (Or.inl ⟨by rfl, fun w hSw => ?_⟩) hHeld2 ?_
                    rotate_left
                    · (try dsimp only at hSw); go_split_ands; go_simp <;> with_reducible rfl
                    (try simp only [Act.put, List.getElem_toArray, List.getElem_cons_succ, List.getElem_cons_zero, List.setIfInBounds_toArray, List.set_cons_zero, List.set_cons_succ])
                    refine wpAnyH_take (i := 10) (v := ?_) rfl (by kernel_rfl) (by kernel_rfl) (by kernel_rfl) (fun _ _ _ h => h) (Or.inl ⟨by rfl, fun w hSw => ?_⟩) hHeld2 ?_
                    rotate_left
                    · (try dsimp only at hSw); go_split_ands; go_simp <;> with_reducible rfl
                    (try simp only [Act.put, List.getElem_toArray, List.getElem_cons_succ, List.getElem_cons_zero, List.setIfInBounds_toArray, List.set_cons_zero, List.set_cons_succ])
                    refine wpAnyH_take (i := 11) (v := ?_) rfl (by kernel_rfl) (by kernel_rfl) (by kernel_rfl) (fun _ _ _ h => h) (Or.inl ⟨by rfl, fun w hSw => ?_⟩) hHeld2 ?_
                    rotate_left
                    · (try dsimp only at hSw); go_split_ands; go_simp <;> with_reducible rfl
                    (try simp only [Act.put, List.getElem_toArray, List.getElem_cons_succ, List.getElem_cons_zero, List.setIfInBounds_toArray, List.set_cons_zero, List.set_cons_succ])
                    refine wpAnyH_take (i := 12) (v := ?_) rfl (by kernel_rfl) (by kernel_rfl) (by kernel_rfl) (fun _ _ _ h => h) (Or.inl ⟨by rfl, fun w hSw => ?_⟩) hHeld2 ?_
                    rotate_left
                    · (try dsimp only at hSw); go_split_ands; go_simp <;> with_reducible rfl
                    (try simp only [Act.put, List.getElem_toArray, List.getElem_cons_succ, List.getElem_cons_zero, List.setIfInBounds_toArray, List.set_cons_zero, List.set_cons_succ])
                    refine wpAnyH_take (i := 13) (v := ?_) rfl (by kernel_rfl) (by kernel_rfl) (by kernel_rfl) (fun _ _ _ h => h) (Or.inl ⟨by rfl, fun w hSw => ?_⟩) hHeld2 ?_
                    rotate_left
                    · (try dsimp only at hSw); go_split_ands; go_simp <;> with_reducible rfl
                    (try simp only [Act.put, List.getElem_toArray, List.getElem_cons_succ, List.getElem_cons_zero, List.setIfInBounds_toArray, List.set_cons_zero, List.set_cons_succ])
                    refine wpAnyH_take (i := 14) (v := ?_) rfl (by kernel_rfl) (by kernel_rfl) (by kernel_rfl) (fun _ _ _ h => h) (Or.inl ⟨by rfl, fun w hSw => ?_⟩) hHeld2 ?_
                    rotate_left
                    · (try dsimp only at hSw); go_split_ands; go_simp <;> with_reducible rfl
                    (try simp only [Act.put, List.getElem_toArray, List.getElem_cons_succ, List.getElem_cons_zero, List.setIfInBounds_toArray, List.set_cons_zero, List.set_cons_succ])
                    refine wpAnyH_take (i := 15) (v := ?_) rfl (by kernel_rfl) (by kernel_rfl) (by kernel_rfl) (fun _ _ _ h => h) (Or.inl ⟨by rfl, fun w hSw => ?_⟩) hHeld2 ?_
                    rotate_left
                    · (try dsimp only at hSw); go_split_ands; go_simp <;> with_reducible rfl
                    (try simp only [Act.put, List.getElem_toArray, List.getElem_cons_succ, List.getElem_cons_zero, List.setIfInBounds_toArray, List.set_cons_zero, List.set_cons_succ])
                    refine wpAnyH_take (i := 16) (v := ?_) rfl (by kernel_rfl) (by kernel_rfl) (by kernel_rfl) (fun _ _ _ h => h) (Or.inl ⟨by rfl, fun w hSw => ?_⟩) hHeld2 ?_
                    rotate_left
                    · (try dsimp only at hSw); go_split_ands; go_simp <;> with_reducible rfl
                    (try simp only [Act.put, List.getElem_toArray, List.getElem_cons_succ, List.getElem_cons_zero, List.setIfInBounds_toArray, List.set_cons_zero, List.set_cons_succ])
                    refine wpAnyH_take (i := 17) (v := ?_) rfl (by kernel_rfl) (by kernel_rfl) (by kernel_rfl) (fun _ _ _ h => h) (Or.inl ⟨by rfl, fun w hSw => ?_⟩) hHeld2 ?_
                    rotate_left
                    · (try dsimp only at hSw); go_split_ands; go_simp <;> with_reducible rfl
                    (try simp only [Act.put, List.getElem_toArray, List.getElem_cons_succ, List.getElem_cons_zero, List.setIfInBounds_toArray, List.set_cons_zero, List.set_cons_succ])
                    refine wpAnyH_take (i := 18) (v := ?_) rfl (by kernel_rfl) (by kernel_rfl) (by kernel_rfl) (fun _ _ _ h => h) (Or.inl ⟨by rfl, fun w hSw => ?_⟩) hHeld2 ?_
                    rotate_left
                    · (try dsimp only at hSw); go_split_ands; go_simp <;> with_reducible rfl
                    (try simp only [Act.put, List.getElem_toArray, List.getElem_cons_succ, List.getElem_cons_zero, List.setIfInBounds_toArray, List.set_cons_zero, List.set_cons_succ])
                    refine wpAnyH_take (i := 19) (v := ?_) rfl (by kernel_rfl) (by kernel_rfl) (by kernel_rfl) (fun _ _ _ h => h) (Or.inl ⟨by rfl, fun w hSw => ?_⟩) hHeld2 ?_
                    rotate_left
                    · (try dsimp only at hSw); go_split_ands; go_simp <;> with_reducible rfl
                    (try simp only [Act.put, List.getElem_toArray, List.getElem_cons_succ, List.getElem_cons_zero, List.setIfInBounds_toArray, List.set_cons_zero, List.set_cons_succ])
                    refine wpAnyH_done (by kernel_rfl) ?_ _
                    obtain ⟨_, _, _, _, _, _, _, _, _, _, m11', m12', mc', hbw⟩ := hHeld2
                    clear hHeld hb5 hb5a hPO m2 m11 m12 mc e0 e1 e2 e3 e4 e5 e6 e7 e8
                    go_wp2_with fail
                    go_quiet (fail)
                    clear m11' m12' mc'
                    generalize hw7 : w5.drewN _ = w7
                    have hb7 : Below wd.heap.size wd w7 := by rw [← hw7]; exact below_drewN hbw _
                    clear hw7 hbw
                    obtain ⟨Xa, Ga, Ma, ma⟩ := XGM.out
                    have Xw := Xa.below hb7
                    have Gw := Ga.keep (Keeps.below (fun _ => False) ρ hb7) id
                    have mw := ma.below hb7
                    have m11 := mw.m11
                    obtain ⟨mc, mf⟩ := Xw.markc hk
                    rw [HEN.out.2] at mc
                    obtain ⟨Xm, Km⟩ := Xw.mark k
                    rw [HEN.out.2, show ((c + 1 : Nat) : Int) = (c : Int) + 1 from by omega] at Xm Km
                    have Gm := Gw.keep Km (by omega)
                    have n11 := (World.cell?_of_block (a := ⟨wr.heap.size, 11, none⟩) (Below.heap_setCell w7 ⟨mb, k, none⟩ (.int .u64 ((c : Int) + 1)) wr.heap.size (by show wr.heap.size ≠ mb; omega))).trans m11
                    have HZ := Lib.hid (And.intro Xm (And.intro Gm (And.intro Ma n11)))
                    clear Xa Ga Ma ma Xw Gw mw Xm Gm Km n11 hb7 XGM
                    go_wp2_with fail
                    clear m11 mc mf
                    obtain ⟨Xm, Gm, Ma, n11⟩ := HZ.out
                    generalize w7.setCell ⟨mb, k, none⟩ (.int .u64 ((c : Int) + 1)) = w8 at Xm Gm n11 ⊢
                    clear HZ
                    have nc := (Xm.markc hk).1
                    have hbk : ((bump mk k (k : Nat) : Nat) : Int) = (c : Int) + 1 := by unfold bump; rw [if_pos rfl, HEN.out.2]; omega
                    rw [hbk] at nc
                    have hany : Q1.any (wantsB k ((c : Int) + 1)) = true := by
                      rw [List.any_eq_true]
                      obtain ⟨j, hj, hpj⟩ := firstE_peer HE.out.1
                      refine ⟨e, List.mem_of_getElem? hj, ?_⟩
                      unfold wantsB
                      rw [hpj, HE.out.2, HEN.out.2]
                      simp
                    have hq16 := Ma.base.len.1
                    have hW : ∀ w', Below w8.heap.size w8 w' → Calls Try.prog 34 #[.pointer (some ⟨S, 0, none⟩), .int .i64 (k : Nat), .int .u64 ((c : Int) + 1)] w' fun e' w'' => e' = .returned (.bool true) ∧ Below w'.heap.size w' w'' := fun w' hb => by
                      have := settle_wants w' w.heap.size 40 S N W wc k ((c : Int) + 1) ρ 0 sh ws1 sq1 Q1 (Xm.below hb).set hk hks (by omega)
                      rw [hany] at this
                      exact this
                    have hH : ∀ w', Below w8.heap.size w8 w' → Calls Try.prog 35 #[.slice Aq1 Q1.length cq1, .int .i64 (k : Nat), .int .u64 ((c : Int) + 1)] w' fun e' w'' => e' = .returned (.bool true) ∧ Below w'.heap.size w' w'' := fun w' hb =>
                      has_true w' _ Q1 k ((c : Int) + 1) e (One.hasQ (Xm.below hb).q rfl) (by omega) HE.out.1 (by rw [HEN.out.1, HMK.out.1]; omega)
                    obtain ⟨Qn, hQn⟩ : ∃ Qn, Q1.filter (leftB k ((c : Int) + 1)) = Qn := ⟨_, rfl⟩
                    have hQn16 : Qn.length ≤ 16 := by
                      rw [← hQn]
                      have := List.length_filter_le (leftB k ((c : Int) + 1)) Q1
                      omega
                    have hMc := Ma.credit HX0.out HXP.out hk hks HE.out.1 HHO.out.lt hccap.1
                    rw [HEN.out.2, show ((c + 1 : Nat) : Int) = (c : Int) + 1 from by omega, hQn] at hMc
                    have hO : ∀ w', Below w8.heap.size w8 w' → Calls Try.prog 36 #[.slice Aq1 Q1.length cq1, .int .i64 (k : Nat), .int .u64 ((c : Int) + 1)] w' fun e' w'' => ∃ u, e' = .returned u ∧ One w'' w'.heap.size 104 4 u Qn.length (cQ Qn) ∧ Below w'.heap.size w' w'' := fun w' hb => by
                      have := without_any w' _ Q1 k ((c : Int) + 1) (One.hasQ (Xm.below hb).q rfl) (by omega)
                      rw [hQn] at this
                      exact this
                    have HXG2 := Lib.hid (And.intro Xm Gm)
                    have HMa := Lib.hid hMc
                    have HW := Lib.hid (And.intro hW (And.intro hH hO))
                    clear Xm Gm Ma hMc hQn hany hbk hW hH hO
                    go_region_held3 (fun w' => w'.cell? ⟨wr.heap.size, 11, none⟩ = some (.int .i64 (k : Nat)) ∧ w'.cell? ⟨mb, k, none⟩ = some (.int .u64 ((c : Int) + 1)) ∧ Below w8.heap.size w8 w')
                      (first | exact ⟨n11, nc, (Below.refl _ _).drew⟩ | (go_split_ands; exact ⟨by assumption, by assumption, by assumption⟩) | (go_split_ands; exact ⟨cellKeep hb9 n11, cellKeep hb9 nc, hb9⟩))
                      ((first | (go_at_call 34; go_split_ands; (with_reducible refine (HW.out.1 _ (by assumption)).mono ?_); rintro e' w9 ⟨rfl, hb9a⟩; have hb9 : Below w8.heap.size w8 w9 := Below.trans (by assumption) (hb9a.mono (Below.size (by assumption)))) | (go_at_call 35; go_split_ands; (with_reducible refine (HW.out.2.1 _ (by assumption)).mono ?_); rintro e' w9 ⟨rfl, hb9a⟩; have hb9 : Below w8.heap.size w8 w9 := Below.trans (by assumption) (hb9a.mono (Below.size (by assumption))))))
                    all_goals
                      go_wp2_with fail
                      have y11 := cellKeep hb9 n11
                      have yc := cellKeep hb9 nc
                      go_region_held3 (fun w' => w'.cell? ⟨wr.heap.size, 11, none⟩ = some (.int .i64 (k : Nat)) ∧ w'.cell? ⟨mb, k, none⟩ = some (.int .u64 ((c : Int) + 1)) ∧ Below w8.heap.size w8 w')
                        (first | exact ⟨y11, yc, hb9.drew⟩ | (go_split_ands; exact ⟨by assumption, by assumption, by assumption⟩) | (go_split_ands; exact ⟨cellKeep hb10 n11, cellKeep hb10 nc, hb10⟩))
                        ((go_at_call 36; (with_reducible refine (HW.out.2.2 _ hb9.drew).mono ?_); rintro e' w10 ⟨u, rfl, ho10, hb10a⟩; obtain ⟨Au, cu, rfl⟩ := OneN.len ho10; have hb10 : Below w8.heap.size w8 w10 := hb9.drew.trans (hb10a.mono hb9.drew.size); obtain ⟨ρq, Xq, Kq⟩ := (HXG2.out.1.below hb9.drew).newQ hb10a ho10; have HQ2 := Lib.hid (And.intro Xq ((HXG2.out.2.keep (Keeps.below (fun _ => False) ρ hb9.drew) id).keep Kq id)); clear ho10 hb10a Xq Kq))
                      clear y11 yc n11 nc hb9 hb10
                      go_wp2_with (go_at_call 30; (with_reducible refine (settle_look w10 w.heap.size 40 S N W wc ρq 0 sh sh ws1 sq1 Q1 HQ2.out.1.set HQ2.out.1.free Au Qn.length cu Qn (One.hasQ HQ2.out.1.q rfl) (by omega) none none none none 0 0 0 0 0 0 0 0).mono ?_); rintro e' w11 ⟨rfl, ρ11, sq11, s11, K11, F11, L11⟩; have HQ3 := Lib.hid (And.intro (HQ2.out.1.sets s11 K11 F11 L11) (HQ2.out.2.keep K11 (by omega))); clear s11 K11 F11 L11 HQ2)
                      exact ⟨⟨i + 1, t1, lost1, _, _, _, _, _, by go_num, by go_num, by go_num, by omega, by omega, HQ3.out.1, HQ3.out.2, HMa.out⟩, by simp [intOf]; omega⟩
                  · have p5 : ((tn : Int) != (hol k : Nat)) = true := by rw [hkey, decide_eq_false hth]; rfl
                    clear hkey
                    refine wp_region_held_drew (S := fun w' => w'.cell? ⟨bc, 0, none⟩ = some (.int .i64 (n : Nat)) ∧ w'.cell? ⟨bc, 1, none⟩ = some (.int .i64 (N : Nat)) ∧ w'.cell? ⟨bc, 2, none⟩ = some (.int .i64 (cp : Nat)) ∧ w'.cell? ⟨bc, 3, none⟩ = some (.int .i64 1) ∧ w'.cell? ⟨bc, 4, none⟩ = some (.int .i64 16) ∧ w'.cell? ⟨bc, 5, none⟩ = some (.int .i64 (cap : Nat)) ∧ w'.cell? ⟨bc, 6, none⟩ = some (.int .i64 64) ∧ w'.cell? ⟨bc, 7, none⟩ = some (.int .i64 100) ∧ w'.cell? ⟨bc, 8, none⟩ = some (.slice none 0 0) ∧ w'.cell? ⟨wr.heap.size, 2, none⟩ = some (.int .i64 tx) ∧ w'.cell? ⟨wr.heap.size, 11, none⟩ = some (.int .i64 (k : Nat)) ∧ w'.cell? ⟨wr.heap.size, 12, none⟩ = some (.int .u64 en) ∧ w'.cell? ⟨mb, k, none⟩ = some (.int .u64 (c : Nat)) ∧ Below wd.heap.size wd w') (by kernel_rfl) ⟨e0, e1, e2, e3, e4, e5, e6, e7, e8, m2, m11, m12, mc, (Below.refl _ _).drew⟩ (fun hHeld => ?_)
                    refine wpAnyH_take (i := 0) (v := ?_) rfl (by kernel_rfl) (by kernel_rfl) (by kernel_rfl) (fun _ _ _ h => h) (Or.inl ⟨by rfl, fun w hSw => ?_⟩) hHeld ?_
                    rotate_left
                    · (try dsimp only at hSw); go_split_ands; go_simp <;> with_reducible rfl
                    (try simp only [Act.put, List.getElem_toArray, List.getElem_cons_zero, List.setIfInBounds_toArray, List.set_cons_zero, List.set_cons_succ])
                    refine wpAnyH_take (i := 1) (v := ?_) rfl (by kernel_rfl) (by kernel_rfl) (by kernel_rfl) (fun _ _ _ h => h) (Or.inl ⟨by rfl, fun w hSw => ?_⟩) hHeld ?_
                    rotate_left
                    · (try dsimp only at hSw); go_split_ands; go_simp <;> with_reducible rfl
                    (try simp only [Act.put, List.getElem_toArray, List.getElem_cons_succ, List.getElem_cons_zero, List.setIfInBounds_toArray, List.set_cons_zero, List.set_cons_succ])
                    refine wpAnyH_take (i := 2) (v := ?_) rfl (by kernel_rfl) (by kernel_rfl) (by kernel_rfl) (fun _ _ _ h => h) (Or.inl ⟨by rfl, fun w hSw => ?_⟩) hHeld ?_
                    rotate_left
                    · (try dsimp only at hSw); go_split_ands; go_simp <;> with_reducible rfl
                    (try simp only [Act.put, List.getElem_toArray, List.getElem_cons_succ, List.getElem_cons_zero, List.setIfInBounds_toArray, List.set_cons_zero, List.set_cons_succ])
                    refine wpAnyH_take (i := 3) (v := ?_) rfl (by kernel_rfl) (by kernel_rfl) (by kernel_rfl) (fun _ _ _ h => h) (Or.inl ⟨by rfl, fun w hSw => ?_⟩) hHeld ?_
                    rotate_left
                    · (try dsimp only at hSw); go_split_ands; go_simp <;> with_reducible rfl
                    (try simp only [Act.put, List.getElem_toArray, List.getElem_cons_succ, List.getElem_cons_zero, List.setIfInBounds_toArray, List.set_cons_zero, List.set_cons_succ])
                    refine wpAnyH_take (i := 4) (v := ?_) rfl (by kernel_rfl) (by kernel_rfl) (by kernel_rfl) (fun _ _ _ h => h) (Or.inl ⟨by rfl, fun w hSw => ?_⟩) hHeld ?_
                    rotate_left
                    · (try dsimp only at hSw); go_split_ands; go_simp <;> with_reducible rfl
                    (try simp only [Act.put, List.getElem_toArray, List.getElem_cons_succ, List.getElem_cons_zero, List.setIfInBounds_toArray, List.set_cons_zero, List.set_cons_succ])
                    refine wpAnyH_take (i := 5) (v := ?_) rfl (by kernel_rfl) (by kernel_rfl) (by kernel_rfl) (fun _ _ _ h => h) (Or.inl ⟨by rfl, fun w hSw => ?_⟩) hHeld ?_
                    rotate_left
                    · (try dsimp only at hSw); go_split_ands; go_simp <;> with_reducible rfl
                    (try simp only [Act.put, List.getElem_toArray, List.getElem_cons_succ, List.getElem_cons_zero, List.setIfInBounds_toArray, List.set_cons_zero, List.set_cons_succ])
                    refine wpAnyH_take (i := 7) (v := ?_) rfl (by kernel_rfl) (by kernel_rfl) (by kernel_rfl) (fun _ _ _ h => h) (Or.inl ⟨by rfl, fun w hSw => ?_⟩) hHeld ?_
                    rotate_left
                    · (try dsimp only at hSw); go_split_ands; go_simp <;> with_reducible rfl
                    (try simp only [Act.put, List.getElem_toArray, List.getElem_cons_succ, List.getElem_cons_zero, List.setIfInBounds_toArray, List.set_cons_zero, List.set_cons_succ])
                    refine wpAnyH_ready (rs := [6]) (by kernel_rfl) (by simp) (AllReadyH.cons rfl (fun K hK => ?_) AllReadyH.nil)
                    go_simp
                    (go_at_call 32; (with_reducible refine (hPO _).mono ?_); rintro e' w5 ⟨rfl, hb5a⟩; have hb5 : Below wd.heap.size wd w5 := (Below.refl _ _).drew.trans hb5a)
                    refine hK.out _ _ ⟨cellKeep hb5 e0, cellKeep hb5 e1, cellKeep hb5 e2, cellKeep hb5 e3, cellKeep hb5 e4, cellKeep hb5 e5, cellKeep hb5 e6, cellKeep hb5 e7, cellKeep hb5 e8, cellKeep hb5 m2, cellKeep hb5 m11, cellKeep hb5 m12, cellKeep hb5 mc, hb5⟩ (fun hHeld2 => ?_)
                    clear hK K
                    (try simp only [Act.put, List.getElem_toArray, List.getElem_cons_succ, List.getElem_cons_zero, List.setIfInBounds_toArray, List.set_cons_zero, List.set_cons_succ])
                    refine wpAnyH_take (i := 8) (v := ?_) rfl (by kernel_rfl) (by kernel_rfl) (by kernel_rfl) (fun _ _ _ h => h) (Or.inl ⟨by rfl, fun w hSw => ?_⟩) hHeld2 ?_
                    rotate_left
                    · (try dsimp only at hSw); go_split_ands; go_simp <;> with_reducible rfl
                    (try simp only [Act.put, List.getElem_toArray, List.getElem_cons_succ, List.getElem_cons_zero, List.setIfInBounds_toArray, List.set_cons_zero, List.set_cons_succ])
                    refine wpAnyH_take (i := 9) (v := ?_) rfl (by kernel_rfl) (by kernel_rfl) (by kernel_rfl) (fun _ _ _ h => h) (Or.inl ⟨by rfl, fun w hSw => ?_⟩) hHeld2 ?_
                    rotate_left
                    · (try dsimp only at hSw); go_split_ands; go_simp <;> with_reducible rfl
                    (try simp only [Act.put, List.getElem_toArray, List.getElem_cons_succ, List.getElem_cons_zero, List.setIfInBounds_toArray, List.set_cons_zero, List.set_cons_succ])
                    refine wpAnyH_take (i := 10) (v := undef) rfl (by kernel_rfl) (by kernel_rfl) (by kernel_rfl) (fun _ _ _ h => h) (Or.inr ⟨by rfl, rfl⟩) hHeld2 ?_
                    (try simp only [Act.put, List.getElem_toArray, List.getElem_cons_succ, List.getElem_cons_zero, List.setIfInBounds_toArray, List.set_cons_zero, List.set_cons_succ])
                    refine wpAnyH_take (i := 11) (v := undef) rfl (by kernel_rfl) (by kernel_rfl) (by kernel_rfl) (fun _ _ _ h => h) (Or.inr ⟨by rfl, rfl⟩) hHeld2 ?_
                    (try simp only [Act.put, List.getElem_toArray, List.getElem_cons_succ, List.getElem_cons_zero, List.setIfInBounds_toArray, List.set_cons_zero, List.set_cons_succ])
                    refine wpAnyH_take (i := 12) (v := undef) rfl (by kernel_rfl) (by kernel_rfl) (by kernel_rfl) (fun _ _ _ h => h) (Or.inr ⟨by rfl, rfl⟩) hHeld2 ?_
                    (try simp only [Act.put, List.getElem_toArray, List.getElem_cons_succ, List.getElem_cons_zero, List.setIfInBounds_toArray, List.set_cons_zero, List.set_cons_succ])
                    refine wpAnyH_take (i := 13) (v := undef) rfl (by kernel_rfl) (by kernel_rfl) (by kernel_rfl) (fun _ _ _ h => h) (Or.inr ⟨by rfl, rfl⟩) hHeld2 ?_
                    (try simp only [Act.put, List.getElem_toArray, List.getElem_cons_succ, List.getElem_cons_zero, List.setIfInBounds_toArray, List.set_cons_zero, List.set_cons_succ])
                    refine wpAnyH_take (i := 14) (v := undef) rfl (by kernel_rfl) (by kernel_rfl) (by kernel_rfl) (fun _ _ _ h => h) (Or.inr ⟨by rfl, rfl⟩) hHeld2 ?_
                    (try simp only [Act.put, List.getElem_toArray, List.getElem_cons_succ, List.getElem_cons_zero, List.setIfInBounds_toArray, List.set_cons_zero, List.set_cons_succ])
                    refine wpAnyH_take (i := 15) (v := undef) rfl (by kernel_rfl) (by kernel_rfl) (by kernel_rfl) (fun _ _ _ h => h) (Or.inr ⟨by rfl, rfl⟩) hHeld2 ?_
                    (try simp only [Act.put, List.getElem_toArray, List.getElem_cons_succ, List.getElem_cons_zero, List.setIfInBounds_toArray, List.set_cons_zero, List.set_cons_succ])
                    refine wpAnyH_take (i := 16) (v := undef) rfl (by kernel_rfl) (by kernel_rfl) (by kernel_rfl) (fun _ _ _ h => h) (Or.inr ⟨by rfl, rfl⟩) hHeld2 ?_
                    (try simp only [Act.put, List.getElem_toArray, List.getElem_cons_succ, List.getElem_cons_zero, List.setIfInBounds_toArray, List.set_cons_zero, List.set_cons_succ])
                    refine wpAnyH_take (i := 17) (v := undef) rfl (by kernel_rfl) (by kernel_rfl) (by kernel_rfl) (fun _ _ _ h => h) (Or.inr ⟨by rfl, rfl⟩) hHeld2 ?_
                    (try simp only [Act.put, List.getElem_toArray, List.getElem_cons_succ, List.getElem_cons_zero, List.setIfInBounds_toArray, List.set_cons_zero, List.set_cons_succ])
                    refine wpAnyH_take (i := 18) (v := undef) rfl (by kernel_rfl) (by kernel_rfl) (by kernel_rfl) (fun _ _ _ h => h) (Or.inr ⟨by rfl, rfl⟩) hHeld2 ?_
                    (try simp only [Act.put, List.getElem_toArray, List.getElem_cons_succ, List.getElem_cons_zero, List.setIfInBounds_toArray, List.set_cons_zero, List.set_cons_succ])
                    refine wpAnyH_take (i := 19) (v := ?_) rfl (by kernel_rfl) (by kernel_rfl) (by kernel_rfl) (fun _ _ _ h => h) (Or.inl ⟨by rfl, fun w hSw => ?_⟩) hHeld2 ?_
                    rotate_left
                    · (try dsimp only at hSw); go_split_ands; go_simp <;> with_reducible rfl
                    (try simp only [Act.put, List.getElem_toArray, List.getElem_cons_succ, List.getElem_cons_zero, List.setIfInBounds_toArray, List.set_cons_zero, List.set_cons_succ])
                    refine wpAnyH_done (by kernel_rfl) ?_ _
                    obtain ⟨_, _, _, _, _, _, _, _, _, _, m11', m12', mc', hbw⟩ := hHeld2
                    clear hHeld hb5 hb5a hPO m2 m11 m12 mc e0 e1 e2 e3 e4 e5 e6 e7 e8
                    go_wp2_with fail
                    go_quiet (fail)
                    go_wp2_with fail
                    obtain ⟨Ma, hbz⟩ := And.intro XGM.out.2.2.1 (fun q => below_drewN hbw q)
                    exact ⟨⟨i + 1, t1, lost1, _, _, _, _, _, by go_num, by go_num, by go_num, by omega, by omega, XGM.out.1.below (hbz _), XGM.out.2.1.keep (Keeps.below (fun _ => False) ρ (hbz _)) id, Ma.past HX0.out HXP.out HTO.out htn hth HHO.out.lt (by omega) hchn.2 hccp.2.1⟩, by simp [intOf]; omega⟩
                · have p3 : ¬ ((k : Int) < (n2 : Int)) := by omega
                  go_wp2_with (first | (refine wpList_load_mid rfl 102 (.tmp 66) rfl gm (i * 22) rfl cs dm HR.out hdm hrow HS.out ?_) | (refine wpList_store_mid rfl 102 (.tmp 13) (.tmp 67) rfl wr.heap.size 0 cs.toArray rfl rfl HB.out.1 hsz2 (all_oneCell_toArray hone) ?_; obtain ⟨hra, hba, hza⟩ := HB.out.2; generalize World.setCells _ _ _ _ = wa at hra hba hza ⊢; have Xa := HXG.out.1.below hba; have Ga := HXG.out.2.1.keep (Keeps.below (fun _ => False) ρ hba) id; have Ma := HXG.out.2.2; have ma := HCV.out wa hra; have m11 := ma.m11; obtain ⟨l6, l7⟩ := load_cells HPO.out Xa.load.1; have x2 := Xa.confc.e2; have cy := HCY.out wa Xa.bel; have XGM := Lib.hid (And.intro Xa (And.intro Ga (And.intro Ma ma))); clear HCV HR HB HXG hra hba Xa Ga Ma ma))
                  clear l6 l7 cy
                  try clear m11
                  try clear x2
                  obtain ⟨Xa, Ga, Ma, ma⟩ := XGM.out
                  obtain ⟨e0, e1, e2, e3, e4, e5, e6, e7, e8⟩ := Xa.confc
                  have mc := (Xa.markc hk).1
                  obtain ⟨c, hcm⟩ : ∃ c, mk (k : Nat) = c := ⟨_, rfl⟩
                  have hc16 := Ma.base.few (k : Nat)
                  rw [hcm] at mc hc16
                  obtain ⟨en, hen⟩ : ∃ en, e.num = en := ⟨_, rfl⟩
                  have hen2 : en = (c : Int) + 1 := by rw [← hen, HE.out.2, hcm]; omega
                  have m2 := ma.m2
                  have m11 := ma.m11
                  have m12 := ma.m12
                  rw [hen] at m12
                  have HEN := Lib.hid (And.intro hen hcm)
                  have HMK := Lib.hid (And.intro hen2 hc16)
                  have hPO : ∀ w', Calls Try.prog 32 #[.agg #[.int .i64 (n : Nat), .int .i64 (N : Nat), .int .i64 (cp : Nat), .int .i64 1, .int .i64 16, .int .i64 (cap : Nat), .int .i64 64, .int .i64 100, .slice none 0 0], .int .i64 (k : Nat), .int .i64 tx] w' fun e' w'' => e' = .returned (.int .i64 (tn : Nat)) ∧ Below w'.heap.size w' w'' := fun w' => by
                    have := placeOf_any w' n N cp cap k tx hc (by omega)
                    rw [HPL.out] at this
                    exact this
                  have p6 : decide ((c : Int) + 1 < en) = false := by simp; omega
                  have p7 : IntKind.u64.wrap ((c : Int) + 1) = (c : Int) + 1 := by rw [IntKind.wrap_u64]; omega
                  have p9 : (en == (c : Int) + 1) = true := by simp; omega
                  have p10 : (0 : Int) ≤ (c : Int) := by omega
                  have p11 : (c : Int) < 17 := by omega
                  have p8 : (k : Int) < (N : Int) := by omega
                  have hkey : ((tn : Int) != 0) = !decide (tn = hol k) := by
                    rw [Bool.eq_iff_iff]
                    simp
                    first | omega | (have := HHO.out.far k (by omega); omega)
                  clear Xa Ga Ma ma hen hcm hen2 hc16 r0
                  by_cases hth : tn = hol k
                  · have htz : tn = 0 := by rw [hth]; exact HHO.out.far k (by omega)
                    subst htz
                    have HTH := Lib.hid hth
                    clear hth
                    have hth := HTH.out
                    clear hth
                    clear hkey
                    refine wp_region_held_drew (S := fun w' => w'.cell? ⟨bc, 0, none⟩ = some (.int .i64 (n : Nat)) ∧ w'.cell? ⟨bc, 1, none⟩ = some (.int .i64 (N : Nat)) ∧ w'.cell? ⟨bc, 2, none⟩ = some (.int .i64 (cp : Nat)) ∧ w'.cell? ⟨bc, 3, none⟩ = some (.int .i64 1) ∧ w'.cell? ⟨bc, 4, none⟩ = some (.int .i64 16) ∧ w'.cell? ⟨bc, 5, none⟩ = some (.int .i64 (cap : Nat)) ∧ w'.cell? ⟨bc, 6, none⟩ = some (.int .i64 64) ∧ w'.cell? ⟨bc, 7, none⟩ = some (.int .i64 100) ∧ w'.cell? ⟨bc, 8, none⟩ = some (.slice none 0 0) ∧ w'.cell? ⟨wr.heap.size, 2, none⟩ = some (.int .i64 tx) ∧ w'.cell? ⟨wr.heap.size, 11, none⟩ = some (.int .i64 (k : Nat)) ∧ w'.cell? ⟨wr.heap.size, 12, none⟩ = some (.int .u64 en) ∧ w'.cell? ⟨mb, k, none⟩ = some (.int .u64 (c : Nat)) ∧ Below wa.heap.size wa w') (by kernel_rfl) ⟨e0, e1, e2, e3, e4, e5, e6, e7, e8, m2, m11, m12, mc, (Below.refl _ _).drew⟩ (fun hHeld => ?_)
                    refine wpAnyH_take (i := 0) (v := ?_) rfl (by kernel_rfl) (by kernel_rfl) (by kernel_rfl) (fun _ _ _ h => h) (Or.inl ⟨by rfl, fun w hSw => ?_⟩) hHeld ?_
                    rotate_left
                    · (try dsimp only at hSw); go_split_ands; go_simp <;> with_reducible rfl
                    (try simp only [Act.put, List.getElem_toArray, List.getElem_cons_zero, List.setIfInBounds_toArray, List.set_cons_zero, List.set_cons_succ])
                    refine wpAnyH_take (i := 1) (v := ?_) rfl (by kernel_rfl) (by kernel_rfl) (by kernel_rfl) (fun _ _ _ h => h) (Or.inl ⟨by rfl, fun w hSw => ?_⟩) hHeld ?_
                    rotate_left
                    · (try dsimp only at hSw); go_split_ands; go_simp <;> with_reducible rfl
                    (try simp only [Act.put, List.getElem_toArray, List.getElem_cons_succ, List.getElem_cons_zero, List.setIfInBounds_toArray, List.set_cons_zero, List.set_cons_succ])
                    refine wpAnyH_take (i := 2) (v := ?_) rfl (by kernel_rfl) (by kernel_rfl) (by kernel_rfl) (fun _ _ _ h => h) (Or.inl ⟨by rfl, fun w hSw => ?_⟩) hHeld ?_
                    rotate_left
                    · (try dsimp only at hSw); go_split_ands; go_simp <;> with_reducible rfl
                    (try simp only [Act.put, List.getElem_toArray, List.getElem_cons_succ, List.getElem_cons_zero, List.setIfInBounds_toArray, List.set_cons_zero, List.set_cons_succ])
                    refine wpAnyH_take (i := 3) (v := ?_) rfl (by kernel_rfl) (by kernel_rfl) (by kernel_rfl) (fun _ _ _ h => h) (Or.inl ⟨by rfl, fun w hSw => ?_⟩) hHeld ?_
                    rotate_left
                    · (try dsimp only at hSw); go_split_ands; go_simp <;> with_reducible rfl
                    (try simp only [Act.put, List.getElem_toArray, List.getElem_cons_succ, List.getElem_cons_zero, List.setIfInBounds_toArray, List.set_cons_zero, List.set_cons_succ])
                    refine wpAnyH_take (i := 4) (v := ?_) rfl (by kernel_rfl) (by kernel_rfl) (by kernel_rfl) (fun _ _ _ h => h) (Or.inl ⟨by rfl, fun w hSw => ?_⟩) hHeld ?_
                    rotate_left
                    · (try dsimp only at hSw); go_split_ands; go_simp <;> with_reducible rfl
                    (try simp only [Act.put, List.getElem_toArray, List.getElem_cons_succ, List.getElem_cons_zero, List.setIfInBounds_toArray, List.set_cons_zero, List.set_cons_succ])
                    refine wpAnyH_take (i := 5) (v := ?_) rfl (by kernel_rfl) (by kernel_rfl) (by kernel_rfl) (fun _ _ _ h => h) (Or.inl ⟨by rfl, fun w hSw => ?_⟩) hHeld ?_
                    rotate_left
                    · (try dsimp only at hSw); go_split_ands; go_simp <;> with_reducible rfl
                    (try simp only [Act.put, List.getElem_toArray, List.getElem_cons_succ, List.getElem_cons_zero, List.setIfInBounds_toArray, List.set_cons_zero, List.set_cons_succ])
                    refine wpAnyH_take (i := 7) (v := ?_) rfl (by kernel_rfl) (by kernel_rfl) (by kernel_rfl) (fun _ _ _ h => h) (Or.inl ⟨by rfl, fun w hSw => ?_⟩) hHeld ?_
                    rotate_left
                    · (try dsimp only at hSw); go_split_ands; go_simp <;> with_reducible rfl
                    (try simp only [Act.put, List.getElem_toArray, List.getElem_cons_succ, List.getElem_cons_zero, List.setIfInBounds_toArray, List.set_cons_zero, List.set_cons_succ])
                    refine wpAnyH_ready (rs := [6]) (by kernel_rfl) (by simp) (AllReadyH.cons rfl (fun K hK => ?_) AllReadyH.nil)
                    go_simp
                    (go_at_call 32; (with_reducible refine (hPO _).mono ?_); rintro e' w5 ⟨rfl, hb5a⟩; have hb5 : Below wa.heap.size wa w5 := (Below.refl _ _).drew.trans hb5a)
                    refine hK.out _ _ ⟨cellKeep hb5 e0, cellKeep hb5 e1, cellKeep hb5 e2, cellKeep hb5 e3, cellKeep hb5 e4, cellKeep hb5 e5, cellKeep hb5 e6, cellKeep hb5 e7, cellKeep hb5 e8, cellKeep hb5 m2, cellKeep hb5 m11, cellKeep hb5 m12, cellKeep hb5 mc, hb5⟩ (fun hHeld2 => ?_)
                    clear hK K
                    (try simp only [Act.put, List.getElem_toArray, List.getElem_cons_succ, List.getElem_cons_zero, List.setIfInBounds_toArray, List.set_cons_zero, List.set_cons_succ])
                    refine wpAnyH_take (i := 8) (v := ?_) rfl (by kernel_rfl) (by kernel_rfl) (by kernel_rfl) (fun _ _ _ h => h) (Or.inl ⟨by rfl, fun w hSw => ?_⟩) hHeld2 ?_
                    rotate_left
                    · (try dsimp only at hSw); go_split_ands; go_simp <;> with_reducible rfl
                    (try simp only [Act.put, List.getElem_toArray, List.getElem_cons_succ, List.getElem_cons_zero, List.setIfInBounds_toArray, List.set_cons_zero, List.set_cons_succ])
                    refine wpAnyH_take (i := 9) (v := ?_) rfl (by kernel_rfl) (by kernel_rfl) (by kernel_rfl) (fun _ _ _ h => h) (Or.inl ⟨by rfl, fun w hSw => ?_⟩) hHeld2 ?_
                    rotate_left
                    · (try dsimp only at hSw); go_split_ands; go_simp <;> with_reducible rfl
                    (try simp only [Act.put, List.getElem_toArray, List.getElem_cons_succ, List.getElem_cons_zero, List.setIfInBounds_toArray, List.set_cons_zero, List.set_cons_succ])
                    refine wpAnyH_take (i := 10) (v := ?_) rfl (by kernel_rfl) (by kernel_rfl) (by kernel_rfl) (fun _ _ _ h => h) (Or.inl ⟨by rfl, fun w hSw => ?_⟩) hHeld2 ?_
                    rotate_left
                    · (try dsimp only at hSw); go_split_ands; go_simp <;> with_reducible rfl
                    (try simp only [Act.put, List.getElem_toArray, List.getElem_cons_succ, List.getElem_cons_zero, List.setIfInBounds_toArray, List.set_cons_zero, List.set_cons_succ])
                    refine wpAnyH_take (i := 11) (v := ?_) rfl (by kernel_rfl) (by kernel_rfl) (by kernel_rfl) (fun _ _ _ h => h) (Or.inl ⟨by rfl, fun w hSw => ?_⟩) hHeld2 ?_
                    rotate_left
                    · (try dsimp only at hSw); go_split_ands; go_simp <;> with_reducible rfl
                    (try simp only [Act.put, List.getElem_toArray, List.getElem_cons_succ, List.getElem_cons_zero, List.setIfInBounds_toArray, List.set_cons_zero, List.set_cons_succ])
                    refine wpAnyH_take (i := 12) (v := ?_) rfl (by kernel_rfl) (by kernel_rfl) (by kernel_rfl) (fun _ _ _ h => h) (Or.inl ⟨by rfl, fun w hSw => ?_⟩) hHeld2 ?_
                    rotate_left
                    · (try dsimp only at hSw); go_split_ands; go_simp <;> with_reducible rfl
                    (try simp only [Act.put, List.getElem_toArray, List.getElem_cons_succ, List.getElem_cons_zero, List.setIfInBounds_toArray, List.set_cons_zero, List.set_cons_succ])
                    refine wpAnyH_take (i := 13) (v := ?_) rfl (by kernel_rfl) (by kernel_rfl) (by kernel_rfl) (fun _ _ _ h => h) (Or.inl ⟨by rfl, fun w hSw => ?_⟩) hHeld2 ?_
                    rotate_left
                    · (try dsimp only at hSw); go_split_ands; go_simp <;> with_reducible rfl
                    (try simp only [Act.put, List.getElem_toArray, List.getElem_cons_succ, List.getElem_cons_zero, List.setIfInBounds_toArray, List.set_cons_zero, List.set_cons_succ])
                    refine wpAnyH_take (i := 14) (v := ?_) rfl (by kernel_rfl) (by kernel_rfl) (by kernel_rfl) (fun _ _ _ h => h) (Or.inl ⟨by rfl, fun w hSw => ?_⟩) hHeld2 ?_
                    rotate_left
                    · (try dsimp only at hSw); go_split_ands; go_simp <;> with_reducible rfl
                    (try simp only [Act.put, List.getElem_toArray, List.getElem_cons_succ, List.getElem_cons_zero, List.setIfInBounds_toArray, List.set_cons_zero, List.set_cons_succ])
                    refine wpAnyH_take (i := 15) (v := ?_) rfl (by kernel_rfl) (by kernel_rfl) (by kernel_rfl) (fun _ _ _ h => h) (Or.inl ⟨by rfl, fun w hSw => ?_⟩) hHeld2 ?_
                    rotate_left
                    · (try dsimp only at hSw); go_split_ands; go_simp <;> with_reducible rfl
                    (try simp only [Act.put, List.getElem_toArray, List.getElem_cons_succ, List.getElem_cons_zero, List.setIfInBounds_toArray, List.set_cons_zero, List.set_cons_succ])
                    refine wpAnyH_take (i := 16) (v := ?_) rfl (by kernel_rfl) (by kernel_rfl) (by kernel_rfl) (fun _ _ _ h => h) (Or.inl ⟨by rfl, fun w hSw => ?_⟩) hHeld2 ?_
                    rotate_left
                    · (try dsimp only at hSw); go_split_ands; go_simp <;> with_reducible rfl
                    (try simp only [Act.put, List.getElem_toArray, List.getElem_cons_succ, List.getElem_cons_zero, List.setIfInBounds_toArray, List.set_cons_zero, List.set_cons_succ])
                    refine wpAnyH_take (i := 17) (v := ?_) rfl (by kernel_rfl) (by kernel_rfl) (by kernel_rfl) (fun _ _ _ h => h) (Or.inl ⟨by rfl, fun w hSw => ?_⟩) hHeld2 ?_
                    rotate_left
                    · (try dsimp only at hSw); go_split_ands; go_simp <;> with_reducible rfl
                    (try simp only [Act.put, List.getElem_toArray, List.getElem_cons_succ, List.getElem_cons_zero, List.setIfInBounds_toArray, List.set_cons_zero, List.set_cons_succ])
                    refine wpAnyH_take (i := 18) (v := ?_) rfl (by kernel_rfl) (by kernel_rfl) (by kernel_rfl) (fun _ _ _ h => h) (Or.inl ⟨by rfl, fun w hSw => ?_⟩) hHeld2 ?_
                    rotate_left
                    · (try dsimp only at hSw); go_split_ands; go_simp <;> with_reducible rfl
                    (try simp only [Act.put, List.getElem_toArray, List.getElem_cons_succ, List.getElem_cons_zero, List.setIfInBounds_toArray, List.set_cons_zero, List.set_cons_succ])
                    refine wpAnyH_take (i := 19) (v := ?_) rfl (by kernel_rfl) (by kernel_rfl) (by kernel_rfl) (fun _ _ _ h => h) (Or.inl ⟨by rfl, fun w hSw => ?_⟩) hHeld2 ?_
                    rotate_left
                    · (try dsimp only at hSw); go_split_ands; go_simp <;> with_reducible rfl
                    (try simp only [Act.put, List.getElem_toArray, List.getElem_cons_succ, List.getElem_cons_zero, List.setIfInBounds_toArray, List.set_cons_zero, List.set_cons_succ])
                    refine wpAnyH_done (by kernel_rfl) ?_ _
                    obtain ⟨_, _, _, _, _, _, _, _, _, _, m11', m12', mc', hbw⟩ := hHeld2
                    clear hHeld hb5 hb5a hPO m2 m11 m12 mc e0 e1 e2 e3 e4 e5 e6 e7 e8
                    go_wp2_with fail
                    go_quiet (fail)
                    clear m11' m12' mc'
                    generalize hw7 : w5.drewN _ = w7
                    have hb7 : Below wa.heap.size wa w7 := by rw [← hw7]; exact below_drewN hbw _
                    clear hw7 hbw
                    obtain ⟨Xa, Ga, Ma, ma⟩ := XGM.out
                    have Xw := Xa.below hb7
                    have Gw := Ga.keep (Keeps.below (fun _ => False) ρ hb7) id
                    have mw := ma.below hb7
                    have m11 := mw.m11
                    obtain ⟨mc, mf⟩ := Xw.markc hk
                    rw [HEN.out.2] at mc
                    obtain ⟨Xm, Km⟩ := Xw.mark k
                    rw [HEN.out.2, show ((c + 1 : Nat) : Int) = (c : Int) + 1 from by omega] at Xm Km
                    have Gm := Gw.keep Km (by omega)
                    have n11 := (World.cell?_of_block (a := ⟨wr.heap.size, 11, none⟩) (Below.heap_setCell w7 ⟨mb, k, none⟩ (.int .u64 ((c : Int) + 1)) wr.heap.size (by show wr.heap.size ≠ mb; omega))).trans m11
                    have HZ := Lib.hid (And.intro Xm (And.intro Gm (And.intro Ma n11)))
                    clear Xa Ga Ma ma Xw Gw mw Xm Gm Km n11 hb7 XGM
                    go_wp2_with fail
                    clear m11 mc mf
                    obtain ⟨Xm, Gm, Ma, n11⟩ := HZ.out
                    generalize w7.setCell ⟨mb, k, none⟩ (.int .u64 ((c : Int) + 1)) = w8 at Xm Gm n11 ⊢
                    clear HZ
                    have nc := (Xm.markc hk).1
                    have hbk : ((bump mk k (k : Nat) : Nat) : Int) = (c : Int) + 1 := by unfold bump; rw [if_pos rfl, HEN.out.2]; omega
                    rw [hbk] at nc
                    have hany : Q1.any (wantsB k ((c : Int) + 1)) = true := by
                      rw [List.any_eq_true]
                      obtain ⟨j, hj, hpj⟩ := firstE_peer HE.out.1
                      refine ⟨e, List.mem_of_getElem? hj, ?_⟩
                      unfold wantsB
                      rw [hpj, HE.out.2, HEN.out.2]
                      simp
                    have hq16 := Ma.base.len.1
                    have hW : ∀ w', Below w8.heap.size w8 w' → Calls Try.prog 34 #[.pointer (some ⟨S, 0, none⟩), .int .i64 (k : Nat), .int .u64 ((c : Int) + 1)] w' fun e' w'' => e' = .returned (.bool true) ∧ Below w'.heap.size w' w'' := fun w' hb => by
                      have := settle_wants w' w.heap.size 40 S N W wc k ((c : Int) + 1) ρ 0 sh ws1 sq1 Q1 (Xm.below hb).set hk hks (by omega)
                      rw [hany] at this
                      exact this
                    have hH : ∀ w', Below w8.heap.size w8 w' → Calls Try.prog 35 #[.slice Aq1 Q1.length cq1, .int .i64 (k : Nat), .int .u64 ((c : Int) + 1)] w' fun e' w'' => e' = .returned (.bool true) ∧ Below w'.heap.size w' w'' := fun w' hb =>
                      has_true w' _ Q1 k ((c : Int) + 1) e (One.hasQ (Xm.below hb).q rfl) (by omega) HE.out.1 (by rw [HEN.out.1, HMK.out.1]; omega)
                    obtain ⟨Qn, hQn⟩ : ∃ Qn, Q1.filter (leftB k ((c : Int) + 1)) = Qn := ⟨_, rfl⟩
                    have hQn16 : Qn.length ≤ 16 := by
                      rw [← hQn]
                      have := List.length_filter_le (leftB k ((c : Int) + 1)) Q1
                      omega
                    have hMc := Ma.credit HX0.out HXP.out hk hks HE.out.1 HHO.out.lt hccap.1
                    rw [HEN.out.2, show ((c + 1 : Nat) : Int) = (c : Int) + 1 from by omega, hQn] at hMc
                    have hO : ∀ w', Below w8.heap.size w8 w' → Calls Try.prog 36 #[.slice Aq1 Q1.length cq1, .int .i64 (k : Nat), .int .u64 ((c : Int) + 1)] w' fun e' w'' => ∃ u, e' = .returned u ∧ One w'' w'.heap.size 104 4 u Qn.length (cQ Qn) ∧ Below w'.heap.size w' w'' := fun w' hb => by
                      have := without_any w' _ Q1 k ((c : Int) + 1) (One.hasQ (Xm.below hb).q rfl) (by omega)
                      rw [hQn] at this
                      exact this
                    have HXG2 := Lib.hid (And.intro Xm Gm)
                    have HMa := Lib.hid hMc
                    have HW := Lib.hid (And.intro hW (And.intro hH hO))
                    clear Xm Gm Ma hMc hQn hany hbk hW hH hO
                    go_region_held3 (fun w' => w'.cell? ⟨wr.heap.size, 11, none⟩ = some (.int .i64 (k : Nat)) ∧ w'.cell? ⟨mb, k, none⟩ = some (.int .u64 ((c : Int) + 1)) ∧ Below w8.heap.size w8 w')
                      (first | exact ⟨n11, nc, (Below.refl _ _).drew⟩ | (go_split_ands; exact ⟨by assumption, by assumption, by assumption⟩) | (go_split_ands; exact ⟨cellKeep hb9 n11, cellKeep hb9 nc, hb9⟩))
                      ((first | (go_at_call 34; go_split_ands; (with_reducible refine (HW.out.1 _ (by assumption)).mono ?_); rintro e' w9 ⟨rfl, hb9a⟩; have hb9 : Below w8.heap.size w8 w9 := Below.trans (by assumption) (hb9a.mono (Below.size (by assumption)))) | (go_at_call 35; go_split_ands; (with_reducible refine (HW.out.2.1 _ (by assumption)).mono ?_); rintro e' w9 ⟨rfl, hb9a⟩; have hb9 : Below w8.heap.size w8 w9 := Below.trans (by assumption) (hb9a.mono (Below.size (by assumption))))))
                    all_goals
                      go_wp2_with fail
                      have y11 := cellKeep hb9 n11
                      have yc := cellKeep hb9 nc
                      go_region_held3 (fun w' => w'.cell? ⟨wr.heap.size, 11, none⟩ = some (.int .i64 (k : Nat)) ∧ w'.cell? ⟨mb, k, none⟩ = some (.int .u64 ((c : Int) + 1)) ∧ Below w8.heap.size w8 w')
                        (first | exact ⟨y11, yc, hb9.drew⟩ | (go_split_ands; exact ⟨by assumption, by assumption, by assumption⟩) | (go_split_ands; exact ⟨cellKeep hb10 n11, cellKeep hb10 nc, hb10⟩))
                        ((go_at_call 36; (with_reducible refine (HW.out.2.2 _ hb9.drew).mono ?_); rintro e' w10 ⟨u, rfl, ho10, hb10a⟩; obtain ⟨Au, cu, rfl⟩ := OneN.len ho10; have hb10 : Below w8.heap.size w8 w10 := hb9.drew.trans (hb10a.mono hb9.drew.size); obtain ⟨ρq, Xq, Kq⟩ := (HXG2.out.1.below hb9.drew).newQ hb10a ho10; have HQ2 := Lib.hid (And.intro Xq ((HXG2.out.2.keep (Keeps.below (fun _ => False) ρ hb9.drew) id).keep Kq id)); clear ho10 hb10a Xq Kq))
                      clear y11 yc n11 nc hb9 hb10
                      go_wp2_with (go_at_call 30; (with_reducible refine (settle_look w10 w.heap.size 40 S N W wc ρq 0 sh sh ws1 sq1 Q1 HQ2.out.1.set HQ2.out.1.free Au Qn.length cu Qn (One.hasQ HQ2.out.1.q rfl) (by omega) none none none none 0 0 0 0 0 0 0 0).mono ?_); rintro e' w11 ⟨rfl, ρ11, sq11, s11, K11, F11, L11⟩; have HQ3 := Lib.hid (And.intro (HQ2.out.1.sets s11 K11 F11 L11) (HQ2.out.2.keep K11 (by omega))); clear s11 K11 F11 L11 HQ2)
                      exact ⟨⟨i + 1, t1, lost1, _, _, _, _, _, by go_num, by go_num, by go_num, by omega, by omega, HQ3.out.1, HQ3.out.2, HMa.out⟩, by simp [intOf]; omega⟩
                  · have p5 : ((tn : Int) != 0) = true := by rw [hkey, decide_eq_false hth]; rfl
                    clear hkey
                    refine wp_region_held_drew (S := fun w' => w'.cell? ⟨bc, 0, none⟩ = some (.int .i64 (n : Nat)) ∧ w'.cell? ⟨bc, 1, none⟩ = some (.int .i64 (N : Nat)) ∧ w'.cell? ⟨bc, 2, none⟩ = some (.int .i64 (cp : Nat)) ∧ w'.cell? ⟨bc, 3, none⟩ = some (.int .i64 1) ∧ w'.cell? ⟨bc, 4, none⟩ = some (.int .i64 16) ∧ w'.cell? ⟨bc, 5, none⟩ = some (.int .i64 (cap : Nat)) ∧ w'.cell? ⟨bc, 6, none⟩ = some (.int .i64 64) ∧ w'.cell? ⟨bc, 7, none⟩ = some (.int .i64 100) ∧ w'.cell? ⟨bc, 8, none⟩ = some (.slice none 0 0) ∧ w'.cell? ⟨wr.heap.size, 2, none⟩ = some (.int .i64 tx) ∧ w'.cell? ⟨wr.heap.size, 11, none⟩ = some (.int .i64 (k : Nat)) ∧ w'.cell? ⟨wr.heap.size, 12, none⟩ = some (.int .u64 en) ∧ w'.cell? ⟨mb, k, none⟩ = some (.int .u64 (c : Nat)) ∧ Below wa.heap.size wa w') (by kernel_rfl) ⟨e0, e1, e2, e3, e4, e5, e6, e7, e8, m2, m11, m12, mc, (Below.refl _ _).drew⟩ (fun hHeld => ?_)
                    refine wpAnyH_take (i := 0) (v := ?_) rfl (by kernel_rfl) (by kernel_rfl) (by kernel_rfl) (fun _ _ _ h => h) (Or.inl ⟨by rfl, fun w hSw => ?_⟩) hHeld ?_
                    rotate_left
                    · (try dsimp only at hSw); go_split_ands; go_simp <;> with_reducible rfl
                    (try simp only [Act.put, List.getElem_toArray, List.getElem_cons_zero, List.setIfInBounds_toArray, List.set_cons_zero, List.set_cons_succ])
                    refine wpAnyH_take (i := 1) (v := ?_) rfl (by kernel_rfl) (by kernel_rfl) (by kernel_rfl) (fun _ _ _ h => h) (Or.inl ⟨by rfl, fun w hSw => ?_⟩) hHeld ?_
                    rotate_left
                    · (try dsimp only at hSw); go_split_ands; go_simp <;> with_reducible rfl
                    (try simp only [Act.put, List.getElem_toArray, List.getElem_cons_succ, List.getElem_cons_zero, List.setIfInBounds_toArray, List.set_cons_zero, List.set_cons_succ])
                    refine wpAnyH_take (i := 2) (v := ?_) rfl (by kernel_rfl) (by kernel_rfl) (by kernel_rfl) (fun _ _ _ h => h) (Or.inl ⟨by rfl, fun w hSw => ?_⟩) hHeld ?_
                    rotate_left
                    · (try dsimp only at hSw); go_split_ands; go_simp <;> with_reducible rfl
                    (try simp only [Act.put, List.getElem_toArray, List.getElem_cons_succ, List.getElem_cons_zero, List.setIfInBounds_toArray, List.set_cons_zero, List.set_cons_succ])
                    refine wpAnyH_take (i := 3) (v := ?_) rfl (by kernel_rfl) (by kernel_rfl) (by kernel_rfl) (fun _ _ _ h => h) (Or.inl ⟨by rfl, fun w hSw => ?_⟩) hHeld ?_
                    rotate_left
                    · (try dsimp only at hSw); go_split_ands; go_simp <;> with_reducible rfl
                    (try simp only [Act.put, List.getElem_toArray, List.getElem_cons_succ, List.getElem_cons_zero, List.setIfInBounds_toArray, List.set_cons_zero, List.set_cons_succ])
                    refine wpAnyH_take (i := 4) (v := ?_) rfl (by kernel_rfl) (by kernel_rfl) (by kernel_rfl) (fun _ _ _ h => h) (Or.inl ⟨by rfl, fun w hSw => ?_⟩) hHeld ?_
                    rotate_left
                    · (try dsimp only at hSw); go_split_ands; go_simp <;> with_reducible rfl
                    (try simp only [Act.put, List.getElem_toArray, List.getElem_cons_succ, List.getElem_cons_zero, List.setIfInBounds_toArray, List.set_cons_zero, List.set_cons_succ])
                    refine wpAnyH_take (i := 5) (v := ?_) rfl (by kernel_rfl) (by kernel_rfl) (by kernel_rfl) (fun _ _ _ h => h) (Or.inl ⟨by rfl, fun w hSw => ?_⟩) hHeld ?_
                    rotate_left
                    · (try dsimp only at hSw); go_split_ands; go_simp <;> with_reducible rfl
                    (try simp only [Act.put, List.getElem_toArray, List.getElem_cons_succ, List.getElem_cons_zero, List.setIfInBounds_toArray, List.set_cons_zero, List.set_cons_succ])
                    refine wpAnyH_take (i := 7) (v := ?_) rfl (by kernel_rfl) (by kernel_rfl) (by kernel_rfl) (fun _ _ _ h => h) (Or.inl ⟨by rfl, fun w hSw => ?_⟩) hHeld ?_
                    rotate_left
                    · (try dsimp only at hSw); go_split_ands; go_simp <;> with_reducible rfl
                    (try simp only [Act.put, List.getElem_toArray, List.getElem_cons_succ, List.getElem_cons_zero, List.setIfInBounds_toArray, List.set_cons_zero, List.set_cons_succ])
                    refine wpAnyH_ready (rs := [6]) (by kernel_rfl) (by simp) (AllReadyH.cons rfl (fun K hK => ?_) AllReadyH.nil)
                    go_simp
                    (go_at_call 32; (with_reducible refine (hPO _).mono ?_); rintro e' w5 ⟨rfl, hb5a⟩; have hb5 : Below wa.heap.size wa w5 := (Below.refl _ _).drew.trans hb5a)
                    refine hK.out _ _ ⟨cellKeep hb5 e0, cellKeep hb5 e1, cellKeep hb5 e2, cellKeep hb5 e3, cellKeep hb5 e4, cellKeep hb5 e5, cellKeep hb5 e6, cellKeep hb5 e7, cellKeep hb5 e8, cellKeep hb5 m2, cellKeep hb5 m11, cellKeep hb5 m12, cellKeep hb5 mc, hb5⟩ (fun hHeld2 => ?_)
                    clear hK K
                    (try simp only [Act.put, List.getElem_toArray, List.getElem_cons_succ, List.getElem_cons_zero, List.setIfInBounds_toArray, List.set_cons_zero, List.set_cons_succ])
                    refine wpAnyH_take (i := 8) (v := ?_) rfl (by kernel_rfl) (by kernel_rfl) (by kernel_rfl) (fun _ _ _ h => h) (Or.inl ⟨by rfl, fun w hSw => ?_⟩) hHeld2 ?_
                    rotate_left
                    · (try dsimp only at hSw); go_split_ands; go_simp <;> with_reducible rfl
                    (try simp only [Act.put, List.getElem_toArray, List.getElem_cons_succ, List.getElem_cons_zero, List.setIfInBounds_toArray, List.set_cons_zero, List.set_cons_succ])
                    refine wpAnyH_take (i := 9) (v := ?_) rfl (by kernel_rfl) (by kernel_rfl) (by kernel_rfl) (fun _ _ _ h => h) (Or.inl ⟨by rfl, fun w hSw => ?_⟩) hHeld2 ?_
                    rotate_left
                    · (try dsimp only at hSw); go_split_ands; go_simp <;> with_reducible rfl
                    (try simp only [Act.put, List.getElem_toArray, List.getElem_cons_succ, List.getElem_cons_zero, List.setIfInBounds_toArray, List.set_cons_zero, List.set_cons_succ])
                    refine wpAnyH_take (i := 10) (v := undef) rfl (by kernel_rfl) (by kernel_rfl) (by kernel_rfl) (fun _ _ _ h => h) (Or.inr ⟨by rfl, rfl⟩) hHeld2 ?_
                    (try simp only [Act.put, List.getElem_toArray, List.getElem_cons_succ, List.getElem_cons_zero, List.setIfInBounds_toArray, List.set_cons_zero, List.set_cons_succ])
                    refine wpAnyH_take (i := 11) (v := undef) rfl (by kernel_rfl) (by kernel_rfl) (by kernel_rfl) (fun _ _ _ h => h) (Or.inr ⟨by rfl, rfl⟩) hHeld2 ?_
                    (try simp only [Act.put, List.getElem_toArray, List.getElem_cons_succ, List.getElem_cons_zero, List.setIfInBounds_toArray, List.set_cons_zero, List.set_cons_succ])
                    refine wpAnyH_take (i := 12) (v := undef) rfl (by kernel_rfl) (by kernel_rfl) (by kernel_rfl) (fun _ _ _ h => h) (Or.inr ⟨by rfl, rfl⟩) hHeld2 ?_
                    (try simp only [Act.put, List.getElem_toArray, List.getElem_cons_succ, List.getElem_cons_zero, List.setIfInBounds_toArray, List.set_cons_zero, List.set_cons_succ])
                    refine wpAnyH_take (i := 13) (v := undef) rfl (by kernel_rfl) (by kernel_rfl) (by kernel_rfl) (fun _ _ _ h => h) (Or.inr ⟨by rfl, rfl⟩) hHeld2 ?_
                    (try simp only [Act.put, List.getElem_toArray, List.getElem_cons_succ, List.getElem_cons_zero, List.setIfInBounds_toArray, List.set_cons_zero, List.set_cons_succ])
                    refine wpAnyH_take (i := 14) (v := undef) rfl (by kernel_rfl) (by kernel_rfl) (by kernel_rfl) (fun _ _ _ h => h) (Or.inr ⟨by rfl, rfl⟩) hHeld2 ?_
                    (try simp only [Act.put, List.getElem_toArray, List.getElem_cons_succ, List.getElem_cons_zero, List.setIfInBounds_toArray, List.set_cons_zero, List.set_cons_succ])
                    refine wpAnyH_take (i := 15) (v := undef) rfl (by kernel_rfl) (by kernel_rfl) (by kernel_rfl) (fun _ _ _ h => h) (Or.inr ⟨by rfl, rfl⟩) hHeld2 ?_
                    (try simp only [Act.put, List.getElem_toArray, List.getElem_cons_succ, List.getElem_cons_zero, List.setIfInBounds_toArray, List.set_cons_zero, List.set_cons_succ])
                    refine wpAnyH_take (i := 16) (v := undef) rfl (by kernel_rfl) (by kernel_rfl) (by kernel_rfl) (fun _ _ _ h => h) (Or.inr ⟨by rfl, rfl⟩) hHeld2 ?_
                    (try simp only [Act.put, List.getElem_toArray, List.getElem_cons_succ, List.getElem_cons_zero, List.setIfInBounds_toArray, List.set_cons_zero, List.set_cons_succ])
                    refine wpAnyH_take (i := 17) (v := undef) rfl (by kernel_rfl) (by kernel_rfl) (by kernel_rfl) (fun _ _ _ h => h) (Or.inr ⟨by rfl, rfl⟩) hHeld2 ?_
                    (try simp only [Act.put, List.getElem_toArray, List.getElem_cons_succ, List.getElem_cons_zero, List.setIfInBounds_toArray, List.set_cons_zero, List.set_cons_succ])
                    refine wpAnyH_take (i := 18) (v := undef) rfl (by kernel_rfl) (by kernel_rfl) (by kernel_rfl) (fun _ _ _ h => h) (Or.inr ⟨by rfl, rfl⟩) hHeld2 ?_
                    (try simp only [Act.put, List.getElem_toArray, List.getElem_cons_succ, List.getElem_cons_zero, List.setIfInBounds_toArray, List.set_cons_zero, List.set_cons_succ])
                    refine wpAnyH_take (i := 19) (v := ?_) rfl (by kernel_rfl) (by kernel_rfl) (by kernel_rfl) (fun _ _ _ h => h) (Or.inl ⟨by rfl, fun w hSw => ?_⟩) hHeld2 ?_
                    rotate_left
                    · (try dsimp only at hSw); go_split_ands; go_simp <;> with_reducible rfl
                    (try simp only [Act.put, List.getElem_toArray, List.getElem_cons_succ, List.getElem_cons_zero, List.setIfInBounds_toArray, List.set_cons_zero, List.set_cons_succ])
                    refine wpAnyH_done (by kernel_rfl) ?_ _
                    obtain ⟨_, _, _, _, _, _, _, _, _, _, m11', m12', mc', hbw⟩ := hHeld2
                    clear hHeld hb5 hb5a hPO m2 m11 m12 mc e0 e1 e2 e3 e4 e5 e6 e7 e8
                    go_wp2_with fail
                    go_quiet (fail)
                    go_wp2_with fail
                    obtain ⟨Ma, hbz⟩ := And.intro XGM.out.2.2.1 (fun q => below_drewN hbw q)
                    exact ⟨⟨i + 1, t1, lost1, _, _, _, _, _, by go_num, by go_num, by go_num, by omega, by omega, XGM.out.1.below (hbz _), XGM.out.2.1.keep (Keeps.below (fun _ => False) ρ (hbz _)) id, Ma.past HX0.out HXP.out HTO.out htn hth HHO.out.lt (by omega) hchn.2 hccp.2.1⟩, by simp [intOf]; omega⟩
            · have hie : i = ms.length := by omega
              subst hie
              have qn : ¬ ((ms.length : Int) < (ms.length : Int)) := by omega
              have hmeas : (200 - lost1) * (lim + 2) + (lim + 1 - (t1 + 1)) < (200 - lost) * (lim + 2) + (lim + 1 - t) := by
                rcases hcs with ⟨e1, e2⟩ | ⟨e1, e2, e3⟩
                · subst e1 e2
                  omega
                · have h1 := Nat.mul_le_mul_right (lim + 2) (show 200 - lost1 + 1 ≤ 200 - lost by omega)
                  rw [Nat.add_mul, Nat.one_mul] at h1
                  generalize (200 - lost1) * (lim + 2) = A at h1 ⊢
                  generalize (200 - lost) * (lim + 2) = B at h1 ⊢
                  omega
              have hME := Lib.hid hmeas
              have hFN := Lib.hid (And.intro hX hM)
              have q9 : (t1 : Int) < 100000 := by omega
              have q8 : (0 : Int) ≤ (t1 : Int) := by omega
              clear hmeas hX hM hG
              go_wp2_with fail
              exact ⟨⟨t1 + 1, lost1, _, _, _, _, _, by go_num, rfl, by omega, by omega, hFN.out.1, hFN.out.2.base, hFN.out.2.done⟩, by simpa [intOf] using hME.out⟩
      · have hQe : Q = [] := by
          rcases Nat.lt_or_ge lim t with h1 | h1
          · obtain rfl : t = lim + 1 := by omega
            exact hP.empty hB
          · exact List.eq_nil_of_length_eq_zero (by omega)
        subst hQe
        have hid := hP.idle 0
        have HT := Lib.hid (settle_tick wr w.heap.size 40 S N W wc ρ 0 sh ws sq [] hD.set hD.free)
        have hbel := Lib.hid hD.bel
        clear hD hP hB hgo ht
        simp only [List.length_nil]
        by_cases h1 : (t : Int) ≤ (lim : Int)
        all_goals
          go_wp2_with (go_at_call 29; (with_reducible refine HT.out.mono ?_); rintro e w6 ⟨v6, ρ6, rfl, s6, o6, r6, K6, F6, L6⟩; rw [hid] at o6; obtain ⟨A6, c6, rfl⟩ := OneN.len o6; simp only [List.length_nil])
          go_ret
          exact ⟨rfl, hbel.out.trans L6⟩
end Go.Proofs.Ytbgojhjlmlbfpaa
