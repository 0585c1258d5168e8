/- settle's Look: its closure at one peer. -/
import Derived.Test.YtbgojhjlmlbfpaaSeG
import Derived.Test.YtbgojhjlmlbfpaaPacC
namespace Go.Proofs.Ytbgojhjlmlbfpaa
open Go.RowKit

/-- A peer's first entry. -/
def firstE (Q : List Ent) (p : Int) : Option Ent := (Q.findIdx? (fun e => e.peer == p)).bind (fun k => Q[k]?)
def Way.look (y : Way) (i : Nat) (Q : List Ent) : Way :=
  match firstE Q i with
  | none => { y with there := false }
  | some e => if y.there = true ∧ y.e.num = e.num then { y with e := e, there := true } else { y with l := 0, g := 1, e := e, there := true }
structure LookAt (w : World) (base : Nat) (ρ : Nat → Nat) (r0 S : Nat) (node shard : Int) (N : Nat) (ws : Nat → Way) (wv qv : Value) (Q : List Ent) (b1 : Nat) : Prop where
  set : SetAt w base ρ r0 S node shard N ws wv qv Q
  o1 : Objr w ρ (r0 + 5) b1 (.cells #[.pointer (some ⟨S, 0, none⟩)] 83 (0, 0))
  free : Free w ρ
  lo : base ≤ b1
theorem LookAt.sets {R : Nat → Prop} {w w' : World} {base r0 S N b1 : Nat} {ρ ρ' : Nat → Nat} {node shard : Int} {ws ws' : Nat → Way} {wv qv : Value} {Q : List Ent} (h : LookAt w base ρ r0 S node shard N ws wv qv Q b1) (hs : SetAt w' base ρ' r0 S node shard N ws' wv qv Q) (hK : Keeps R w ρ w' ρ') (hf : Free w' ρ') (hR : ¬ R (r0 + 5)) :
    LookAt w' base ρ' r0 S node shard N ws' wv qv Q b1 := ⟨hs, h.o1.keep hK hR, hf, h.lo⟩
theorem idxZ_none : idxZ none = -1 := rfl
theorem idxZ_some (k : Nat) : idxZ (some k) = (k : Nat) := rfl

theorem updW_updW {ws : Nat → Way} {i : Nat} {a b : Way} : updW (updW ws i a) i b = updW ws i b := by
  funext k
  unfold updW
  split <;> rfl
theorem updW_self {ws : Nat → Way} {i : Nat} : updW ws i (ws i) = ws := by
  funext k
  unfold updW
  split
  · rename_i e; rw [e]
  · rfl
theorem SetAt.put' {w : World} {base r0 S N W cap i j : Nat} {ρ : Nat → Nat} {node shard : Int} {ws : Nat → Way} {qv v : Value} {Q : List Ent} {y : Way} (h : SetAt w base ρ r0 S node shard N (updW ws i y) (.slice (some ⟨W, 0, none⟩) N cap) qv Q) (hj : j < 8) (y' : Way)
    (hy : ∀ k, k < 8 → y'.cell k = if k = j then v else y.cell k) (h1 : y'.pb = y.pb ∧ y'.c = y.c ∧ y'.l = y.l ∧ y'.g = y.g ∧ y'.cv = y.cv ∧ y'.L = y.L) (h2 : y'.turn = y.turn) (hi : i < N) :
    SetAt (w.setCell ⟨W, i * 8 + j, none⟩ v) base ρ r0 S node shard N (updW ws i y') (.slice (some ⟨W, 0, none⟩) N cap) qv Q ∧ Keeps (fun r => r = r0 + 2) w ρ (w.setCell ⟨W, i * 8 + j, none⟩ v) ρ ∧ Below base w (w.setCell ⟨W, i * 8 + j, none⟩ v) ∧ (w.setCell ⟨W, i * 8 + j, none⟩ v).heap.size = w.heap.size := by
  have hf := h.num.2.2 i hi
  rw [updW_eq] at hf
  have := h.put hj y' (by rw [updW_eq]; exact hy) (by rw [updW_eq]; exact h1) (fun _ => ⟨by rw [h1.2.1]; exact hf.c1, by rw [h1.2.2.1]; exact hf.l1, by rw [h1.2.2.2.1]; exact hf.g1, by rw [h2, h1.2.2.2.2.2]; exact hf.t1⟩)
  rw [updW_updW] at this
  exact this
/-- A way's entry and its mark that there is one, put anew. -/
theorem SetAt.putE {w : World} {base r0 S N W cap i : Nat} {ρ : Nat → Nat} {node shard : Int} {ws : Nat → Way} {qv : Value} {Q : List Ent} {y : Way} (h : SetAt w base ρ r0 S node shard N (updW ws i y) (.slice (some ⟨W, 0, none⟩) N cap) qv Q) (hi : i < N) (en : Ent) (w' : World)
    (hw' : w' = ((((w.setCell ⟨W, i * 8 + 3, none⟩ (.int .i64 en.peer)).setCell ⟨W, i * 8 + 3 + 1, none⟩ (.int .u64 en.num)).setCell ⟨W, i * 8 + 3 + 2, none⟩ (.string en.name)).setCell ⟨W, i * 8 + 3 + 3, none⟩ (.int .u64 en.amt)).setCell ⟨W, i * 8 + 7, none⟩ (.bool true)) :
    SetAt w' base ρ r0 S node shard N (updW ws i { y with e := en, there := true }) (.slice (some ⟨W, 0, none⟩) N cap) qv Q ∧ Keeps (fun r => r = r0 + 2) w ρ w' ρ ∧ Below base w w' ∧ w'.heap.size = w.heap.size := by
  subst hw'
  have sp : ∀ {y y' : Way} {v : Value} {j : Nat}, (y'.cell 0 = if 0 = j then v else y.cell 0) → (y'.cell 1 = if 1 = j then v else y.cell 1) → (y'.cell 2 = if 2 = j then v else y.cell 2) → (y'.cell 3 = if 3 = j then v else y.cell 3) → (y'.cell 4 = if 4 = j then v else y.cell 4) → (y'.cell 5 = if 5 = j then v else y.cell 5) → (y'.cell 6 = if 6 = j then v else y.cell 6) → (y'.cell 7 = if 7 = j then v else y.cell 7) → ∀ k, k < 8 → y'.cell k = if k = j then v else y.cell k :=
    fun a0 a1 a2 a3 a4 a5 a6 a7 k hk => match k, hk with
      | 0, _ => a0
      | 1, _ => a1
      | 2, _ => a2
      | 3, _ => a3
      | 4, _ => a4
      | 5, _ => a5
      | 6, _ => a6
      | 7, _ => a7
  obtain ⟨s1, K1, L1, z1⟩ := h.put' (j := 3) (v := .int .i64 en.peer) (by omega) { y with e := { y.e with peer := en.peer } } (sp rfl rfl rfl rfl rfl rfl rfl rfl) ⟨rfl, rfl, rfl, rfl, rfl, rfl⟩ rfl hi
  obtain ⟨s2, K2, L2, z2⟩ := s1.put' (j := 4) (v := .int .u64 en.num) (by omega) { y with e := { y.e with peer := en.peer, num := en.num } } (sp rfl rfl rfl rfl rfl rfl rfl rfl) ⟨rfl, rfl, rfl, rfl, rfl, rfl⟩ rfl hi
  obtain ⟨s3, K3, L3, z3⟩ := s2.put' (j := 5) (v := .string en.name) (by omega) { y with e := { en with amt := y.e.amt } } (sp rfl rfl rfl rfl rfl rfl rfl rfl) ⟨rfl, rfl, rfl, rfl, rfl, rfl⟩ rfl hi
  obtain ⟨s4, K4, L4, z4⟩ := s3.put' (j := 6) (v := .int .u64 en.amt) (by omega) { y with e := en } (sp rfl rfl rfl rfl rfl rfl rfl rfl) ⟨rfl, rfl, rfl, rfl, rfl, rfl⟩ rfl hi
  obtain ⟨s5, K5, L5, z5⟩ := s4.put' (j := 7) (v := .bool true) (by omega) { y with e := en, there := true } (sp rfl rfl rfl rfl rfl rfl rfl rfl) ⟨rfl, rfl, rfl, rfl, rfl, rfl⟩ rfl hi
  exact ⟨s5, (((K1.trans K2).trans K3).trans K4).trans K5, (((L1.trans L2).trans L3).trans L4).trans L5, z5.trans (z4.trans (z3.trans (z2.trans z1)))⟩
set_option maxRecDepth 100000 in
set_option maxHeartbeats 1000000 in
theorem look1_none (w : World) (base r0 S N W cap i b1 : Nat) (ρ : Nat → Nat) (node shard : Int) (ws : Nat → Way) (qv : Value) (Q : List Ent) (h : LookAt w base ρ r0 S node shard N ws (.slice (some ⟨W, 0, none⟩) N cap) qv Q b1)
    (hi : i < N) (hQ : Q.findIdx? (fun e => e.peer == ((i : Nat) : Int)) = none) (hq : Q.length ≤ 3518437208780) :
    Calls Try.prog 64 #[.int .i64 (i : Nat), .pointer (some ⟨W, i * 8, none⟩), .pointer (some ⟨b1, 0, none⟩)] w fun e w' => e = .returned (.tuple #[]) ∧
      ∃ ρ', LookAt w' base ρ' r0 S node shard N (updW ws i ((ws i).look i Q)) (.slice (some ⟨W, 0, none⟩) N cap) qv Q b1 ∧ Keeps (fun r => r0 + 1 ≤ r ∧ r < r0 + 28) w ρ w' ρ' ∧ Below base w w' := by
  have hbase : base ≤ w.heap.size := by have := h.lo; have := lt_of_obj h.o1.1; omega
  have hb1 : Below w.heap.size w (w.alloc (.cells #[.int .i64 (i : Nat)] 3)) := (Below.refl _ _).alloc (Nat.le_refl _) _
  have hc0 : (w.alloc (.cells #[.int .i64 (i : Nat)] 3)).cell? ⟨w.heap.size, 0, none⟩ = some (.int .i64 (i : Nat)) := by
    rw [cell_of_obj (heap_alloc_new w _) 0]; rfl
  have hQ1 := (h.set.que.hasQ rfl).below hb1
  have hI := index_look _ qv Q w.heap.size i hc0 hQ1 (by omega)
  rw [hQ, idxZ_none] at hI
  have k1 := cell_of_obj h.o1.1 0
  simp at k1
  obtain ⟨_, _, _, k4⟩ := h.set.cells
  have k1b := cellKeep hb1 k1
  have k4b := cellKeep hb1 k4
  have H := Lib.hid h
  have HI := Lib.hid hI
  clear hI h hQ1
  have hmf : ∀ (fn : Fn) (first cap : Array Value) (w : World), (Instr.makeFunc fn first cap).run Try.prog w = .ok (.func fn first cap) w := fun _ _ _ _ => rfl
  go_enter Try.func64, Try.ntmps64
  go_wp2_with (go_at_call 65; (with_reducible refine (HI.out).mono ?_); rintro e w2 ⟨rfl, hb2⟩; have hb02 := hb1.trans (hb2.mono hb1.size); have K2 := Keeps.below (fun _ => False) ρ hb02; have s2 := H.out.set.keep K2 (fun _ _ _ _ => id); have f7 := OneN.free s2.row (i * 8 + 7); have y7 := s2.way i 7 hi (by omega))
  refine bodyPost_ret (results_none rfl _ _ _) rfl ?_
  have hfit := s2.num.2.2 i hi
  obtain ⟨s3, K3, L3, z3⟩ := s2.put (i := i) (j := 7) (v := .bool false) (by omega) { ws i with there := false } (by
    intro k hk
    match k, hk with
    | 0, _ => rfl
    | 1, _ => rfl
    | 2, _ => rfl
    | 3, _ => rfl
    | 4, _ => rfl
    | 5, _ => rfl
    | 6, _ => rfl
    | 7, _ => rfl) ⟨rfl, rfl, rfl, rfl, rfl, rfl⟩ (fun _ => ⟨hfit.c1, hfit.l1, hfit.g1, hfit.t1⟩)
  have F2 := H.out.free.le K2.1
  have F3 := F2.le K3.1
  have K23 := (K2.mono (R' := fun r => r = r0 + 2) (fun _ hr => hr.elim)).trans K3
  have t3 := H.out.sets s3 K23 F3 (by omega)
  have hl : (ws i).look i Q = { ws i with there := false } := by
    unfold Way.look firstE
    rw [hQ]
    rfl
  rw [hl]
  exact ⟨rfl, ρ, t3, K23.mono (fun r hr => by omega), (hb02.mono hbase).trans L3⟩
set_option maxRecDepth 100000 in
set_option maxHeartbeats 1000000 in
theorem look1_some (w : World) (base r0 S N W cap i b1 q : Nat) (ρ : Nat → Nat) (node shard : Int) (ws : Nat → Way) (qv : Value) (Q : List Ent) (en : Ent) (h : LookAt w base ρ r0 S node shard N ws (.slice (some ⟨W, 0, none⟩) N cap) qv Q b1)
    (hi : i < N) (hQ : Q.findIdx? (fun e => e.peer == ((i : Nat) : Int)) = some q) (hen : Q[q]? = some en) (hq : Q.length ≤ 3518437208780) :
    Calls Try.prog 64 #[.int .i64 (i : Nat), .pointer (some ⟨W, i * 8, none⟩), .pointer (some ⟨b1, 0, none⟩)] w fun e w' => e = .returned (.tuple #[]) ∧
      ∃ ρ', LookAt w' base ρ' r0 S node shard N (updW ws i ((ws i).look i Q)) (.slice (some ⟨W, 0, none⟩) N cap) qv Q b1 ∧ Keeps (fun r => r0 + 1 ≤ r ∧ r < r0 + 28) w ρ w' ρ' ∧ Below base w w' := by
  have hbase : base ≤ w.heap.size := by have := h.lo; have := lt_of_obj h.o1.1; omega
  have hb1 : Below w.heap.size w (w.alloc (.cells #[.int .i64 (i : Nat)] 3)) := (Below.refl _ _).alloc (Nat.le_refl _) _
  have hc0 : (w.alloc (.cells #[.int .i64 (i : Nat)] 3)).cell? ⟨w.heap.size, 0, none⟩ = some (.int .i64 (i : Nat)) := by
    rw [cell_of_obj (heap_alloc_new w _) 0]; rfl
  have hQ0 := h.set.que.hasQ rfl
  have hQ1 := hQ0.below hb1
  have hI := index_look _ qv Q w.heap.size i hc0 hQ1 (by omega)
  rw [hQ, idxZ_some] at hI
  have k1 := cell_of_obj h.o1.1 0
  simp at k1
  obtain ⟨_, _, _, k4⟩ := h.set.cells
  obtain ⟨A, cpq, hqv, _, hall⟩ := hQ0
  obtain ⟨gq, off, rfl, c0, c1, c2, c3⟩ := hall q en hen
  have hqn := (List.getElem?_eq_some_iff.1 hen).1
  obtain ⟨nq, hnq⟩ : ∃ n, Q.length = n := ⟨_, rfl⟩
  rw [hnq] at hqv hqn hq
  rw [hqv] at k4 hI
  have k1b := cellKeep hb1 k1
  have k4b := cellKeep hb1 k4
  have H := Lib.hid h
  have HI := Lib.hid hI
  have HQV := Lib.hid hqv
  clear hI h hQ1 hall hqv
  have q0 : ¬ ((q : Int) < 0) := by omega
  have q1 : (q : Int) < (nq : Int) := by omega
  have hmf : ∀ (fn : Fn) (first cap : Array Value) (w : World), (Instr.makeFunc fn first cap).run Try.prog w = .ok (.func fn first cap) w := fun _ _ _ _ => rfl
  go_enter Try.func64, Try.ntmps64
  go_wp2_with (go_at_call 65; (with_reducible refine (HI.out).mono ?_); rintro e w2 ⟨rfl, hb2⟩; have hb02 := hb1.trans (hb2.mono hb1.size); have K2 := Keeps.below (fun _ => False) ρ hb02; have s2 := H.out.set.keep K2 (fun _ _ _ _ => id); have y7 := s2.way i 7 hi (by omega))
  have e1 := s2.way i 4 hi (by omega)
  have e2 := s2.way i 3 hi (by omega)
  have e3 := s2.way i 5 hi (by omega)
  have e4 := s2.way i 6 hi (by omega)
  have e0 := s2.way i 0 hi (by omega)
  simp only [Way.cell, Ent.cell] at e1 y7 e0 e2 e3 e4
  rw [Nat.add_zero] at e0
  have a1 := cellKeep hb02 k1
  have a4 := cellKeep hb02 k4
  have c0' := cellKeep hb02 c0
  have c1' := cellKeep hb02 c1
  have c2' := cellKeep hb02 c2
  have c3' := cellKeep hb02 c3
  have hrp := (s2.pace i hi).2
  have hn1 : b1 ≠ (ws i).pb := fun e => by have := H.out.o1.2; rw [e, hrp] at this; omega
  have hn2 : S ≠ (ws i).pb := fun e => by have := s2.obj.2; rw [e, hrp] at this; omega
  have hn3 : W ≠ (ws i).pb := fun e => by have := s2.rowr W rfl; rw [e, hrp] at this; omega
  have hn4 : gq ≠ (ws i).pb := fun e => by have := s2.quer gq (by rw [HQV.out]; rfl); rw [e, hrp] at this; omega
  have S2 := Lib.hid s2
  clear s2 k1 k4 c0 c1 c2 c3 k1b k4b hrp
  cases hth : (ws i).there with
  | false =>
    rw [hth] at y7
    go_quiet (fail)
    generalize hwd : w2.drewN _ = wd
    have hbd : Below w2.heap.size w2 wd := hwd ▸ below_drewN (Below.refl _ w2) _
    have sd := S2.out.keep (Keeps.below (fun _ => False) ρ hbd) (fun _ _ _ _ => id)
    have a1 := cellKeep hbd a1
    have a4 := cellKeep hbd a4
    have c0' := cellKeep hbd c0'
    have c1' := cellKeep hbd c1'
    have c2' := cellKeep hbd c2'
    have c3' := cellKeep hbd c3'
    have e0 := cellKeep hbd e0
    have e1 := cellKeep hbd e1
    have e2 := cellKeep hbd e2
    have e3 := cellKeep hbd e3
    have e4 := cellKeep hbd e4
    have y7 := cellKeep hbd y7
    have K2d := (K2.mono (R' := fun r => r0 + 1 ≤ r ∧ r < r0 + 28 ∧ r ≠ r0 + 5) (fun _ hr => hr.elim)).trans (Keeps.below (fun r => r0 + 1 ≤ r ∧ r < r0 + 28 ∧ r ≠ r0 + 5) ρ hbd)
    have Fd := H.out.free.le K2d.1
    have Ld := (hb02.mono hbase).trans (hbd.mono (Nat.le_trans hbase K2.1))
    have hN8 := S2.out.num.2.1
    have hR := reset_at _ _ _ _ wd (sd.pace i hi).1
    have SD := Lib.hid sd
    clear sd hbd
    go_wp2_with (go_at_call 67; (with_reducible refine hR.mono ?_); rintro e w3 ⟨rfl, ht3⟩; have a13 := (OnlyB.cell ht3 (a := ⟨b1, 0, none⟩) hn1).trans a1; have a43 := (OnlyB.cell ht3 (a := ⟨S, 3, none⟩) hn2).trans a4; have c03 := (OnlyB.cell ht3 (a := ⟨gq, off + q * 4, none⟩) hn4).trans c0'; have c13 := (OnlyB.cell ht3 (a := ⟨gq, off + q * 4 + 1, none⟩) hn4).trans c1'; have c23 := (OnlyB.cell ht3 (a := ⟨gq, off + q * 4 + 2, none⟩) hn4).trans c2'; have c33 := (OnlyB.cell ht3 (a := ⟨gq, off + q * 4 + 3, none⟩) hn4).trans c3'; have T3 := Lib.hid (SD.out.turn hi ht3 (by omega) (by omega)); have y33 := (OnlyB.cell ht3 (a := ⟨W, i * 8 + 3, none⟩) hn3).trans e2; have y43 := (OnlyB.cell ht3 (a := ⟨W, i * 8 + 4, none⟩) hn3).trans e1; have y53 := (OnlyB.cell ht3 (a := ⟨W, i * 8 + 5, none⟩) hn3).trans e3; have y63 := (OnlyB.cell ht3 (a := ⟨W, i * 8 + 6, none⟩) hn3).trans e4; have y73 := (OnlyB.cell ht3 (a := ⟨W, i * 8 + 7, none⟩) hn3).trans y7; have f33 := OneN.free T3.out.1.row (i * 8 + 3); have f43 := OneN.free T3.out.1.row (i * 8 + 4); have f53 := OneN.free T3.out.1.row (i * 8 + 5); have f63 := OneN.free T3.out.1.row (i * 8 + 6); have f73 := OneN.free T3.out.1.row (i * 8 + 7))
    go_end0
    obtain ⟨t3, K3, L3, z3⟩ := T3.out
    obtain ⟨s4, K4, L4, z4⟩ := t3.putE hi en _ rfl
    have F5 := Fd.le (Nat.le_of_eq (z3.symm.trans z4.symm))
    have K5 := (K2d.trans (K3.mono (fun r hr => by omega))).trans (K4.mono (fun r hr => by omega))
    have hl : (ws i).look i Q = { ws i with l := 0, g := 1, e := en, there := true } := by
      unfold Way.look firstE
      rw [hQ]
      simp only [Option.bind_some, hen]
      rw [if_neg (fun h => by rw [hth] at h; exact absurd h.1 (by simp))]
    rw [hl]
    exact ⟨rfl, ρ, H.out.sets s4 K5 F5 (by omega), K5.mono (fun r hr => ⟨hr.1, hr.2.1⟩), (Ld.trans L3).trans L4⟩
  | true =>
    rw [hth] at y7
    by_cases hnum : (ws i).e.num = en.num
    · have hne : ((ws i).e.num != en.num) = false := by simp [hnum]
      rw [hnum] at e1
      go_quiet (fail)
      generalize hwd : w2.drewN _ = wd
      have hbd : Below w2.heap.size w2 wd := hwd ▸ below_drewN (Below.refl _ w2) _
      have sd := S2.out.keep (Keeps.below (fun _ => False) ρ hbd) (fun _ _ _ _ => id)
      have a1 := cellKeep hbd a1
      have a4 := cellKeep hbd a4
      have c0' := cellKeep hbd c0'
      have c1' := cellKeep hbd c1'
      have c2' := cellKeep hbd c2'
      have c3' := cellKeep hbd c3'
      have e0 := cellKeep hbd e0
      have e1 := cellKeep hbd e1
      have e2 := cellKeep hbd e2
      have e3 := cellKeep hbd e3
      have e4 := cellKeep hbd e4
      have y7 := cellKeep hbd y7
      have K2d := (K2.mono (R' := fun r => r0 + 1 ≤ r ∧ r < r0 + 28 ∧ r ≠ r0 + 5) (fun _ hr => hr.elim)).trans (Keeps.below (fun r => r0 + 1 ≤ r ∧ r < r0 + 28 ∧ r ≠ r0 + 5) ρ hbd)
      have Fd := H.out.free.le K2d.1
      have Ld := (hb02.mono hbase).trans (hbd.mono (Nat.le_trans hbase K2.1))
      have hN8 := S2.out.num.2.1
      rw [← updW_self (ws := ws) (i := i)] at sd
      have f33 := OneN.free sd.row (i * 8 + 3)
      have f43 := OneN.free sd.row (i * 8 + 4)
      have f53 := OneN.free sd.row (i * 8 + 5)
      have f63 := OneN.free sd.row (i * 8 + 6)
      have f73 := OneN.free sd.row (i * 8 + 7)
      have SD := Lib.hid sd
      clear sd hbd
      go_wp2
      go_end0
      obtain ⟨s4, K4, L4, z4⟩ := SD.out.putE hi en _ rfl
      have F5 := Fd.le (Nat.le_of_eq z4.symm)
      have K5 := K2d.trans (K4.mono (fun r hr => by omega))
      have hl : (ws i).look i Q = { ws i with e := en, there := true } := by
        unfold Way.look firstE
        rw [hQ]
        simp only [Option.bind_some, hen]
        rw [if_pos ⟨hth, hnum⟩]
      rw [hl]
      exact ⟨rfl, ρ, H.out.sets s4 K5 F5 (by omega), K5.mono (fun r hr => ⟨hr.1, hr.2.1⟩), Ld.trans L4⟩
    · have hne : ((ws i).e.num != en.num) = true := by simp [hnum]
      go_quiet (fail)
      generalize hwd : w2.drewN _ = wd
      have hbd : Below w2.heap.size w2 wd := hwd ▸ below_drewN (Below.refl _ w2) _
      have sd := S2.out.keep (Keeps.below (fun _ => False) ρ hbd) (fun _ _ _ _ => id)
      have a1 := cellKeep hbd a1
      have a4 := cellKeep hbd a4
      have c0' := cellKeep hbd c0'
      have c1' := cellKeep hbd c1'
      have c2' := cellKeep hbd c2'
      have c3' := cellKeep hbd c3'
      have e0 := cellKeep hbd e0
      have e1 := cellKeep hbd e1
      have e2 := cellKeep hbd e2
      have e3 := cellKeep hbd e3
      have e4 := cellKeep hbd e4
      have y7 := cellKeep hbd y7
      have K2d := (K2.mono (R' := fun r => r0 + 1 ≤ r ∧ r < r0 + 28 ∧ r ≠ r0 + 5) (fun _ hr => hr.elim)).trans (Keeps.below (fun r => r0 + 1 ≤ r ∧ r < r0 + 28 ∧ r ≠ r0 + 5) ρ hbd)
      have Fd := H.out.free.le K2d.1
      have Ld := (hb02.mono hbase).trans (hbd.mono (Nat.le_trans hbase K2.1))
      have hN8 := S2.out.num.2.1
      have hR := reset_at _ _ _ _ wd (sd.pace i hi).1
      have SD := Lib.hid sd
      clear sd hbd
      go_wp2_with (go_at_call 67; (with_reducible refine hR.mono ?_); rintro e w3 ⟨rfl, ht3⟩; have a13 := (OnlyB.cell ht3 (a := ⟨b1, 0, none⟩) hn1).trans a1; have a43 := (OnlyB.cell ht3 (a := ⟨S, 3, none⟩) hn2).trans a4; have c03 := (OnlyB.cell ht3 (a := ⟨gq, off + q * 4, none⟩) hn4).trans c0'; have c13 := (OnlyB.cell ht3 (a := ⟨gq, off + q * 4 + 1, none⟩) hn4).trans c1'; have c23 := (OnlyB.cell ht3 (a := ⟨gq, off + q * 4 + 2, none⟩) hn4).trans c2'; have c33 := (OnlyB.cell ht3 (a := ⟨gq, off + q * 4 + 3, none⟩) hn4).trans c3'; have T3 := Lib.hid (SD.out.turn hi ht3 (by omega) (by omega)); have y33 := (OnlyB.cell ht3 (a := ⟨W, i * 8 + 3, none⟩) hn3).trans e2; have y43 := (OnlyB.cell ht3 (a := ⟨W, i * 8 + 4, none⟩) hn3).trans e1; have y53 := (OnlyB.cell ht3 (a := ⟨W, i * 8 + 5, none⟩) hn3).trans e3; have y63 := (OnlyB.cell ht3 (a := ⟨W, i * 8 + 6, none⟩) hn3).trans e4; have y73 := (OnlyB.cell ht3 (a := ⟨W, i * 8 + 7, none⟩) hn3).trans y7; have f33 := OneN.free T3.out.1.row (i * 8 + 3); have f43 := OneN.free T3.out.1.row (i * 8 + 4); have f53 := OneN.free T3.out.1.row (i * 8 + 5); have f63 := OneN.free T3.out.1.row (i * 8 + 6); have f73 := OneN.free T3.out.1.row (i * 8 + 7))
      go_end0
      obtain ⟨t3, K3, L3, z3⟩ := T3.out
      obtain ⟨s4, K4, L4, z4⟩ := t3.putE hi en _ rfl
      have F5 := Fd.le (Nat.le_of_eq (z3.symm.trans z4.symm))
      have K5 := (K2d.trans (K3.mono (fun r hr => by omega))).trans (K4.mono (fun r hr => by omega))
      have hl : (ws i).look i Q = { ws i with l := 0, g := 1, e := en, there := true } := by
        unfold Way.look firstE
        rw [hQ]
        simp only [Option.bind_some, hen]
        rw [if_neg (fun h => hnum h.2)]
      rw [hl]
      exact ⟨rfl, ρ, H.out.sets s4 K5 F5 (by omega), K5.mono (fun r hr => ⟨hr.1, hr.2.1⟩), (Ld.trans L3).trans L4⟩
end Go.Proofs.Ytbgojhjlmlbfpaa
