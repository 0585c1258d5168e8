/- tallyref13's Look. -/
import Derived.Test.YtbgojhjlmlbfpaaSfE
namespace Go.Proofs.Ytbgojhjlmlbfpaa
open Go.RowKit

/-- What Look makes of a peer. -/
def thereP (shard : Int) (Q : List Ent) (i : Nat) : Bool := (firstE Q i).isSome && !((i : Int) == shard)
def entP (Q : List Ent) (i : Nat) : Ent := (firstE Q i).getD zeroEnt
def RP.look (y : RP) (shard : Int) (Q : List Ent) (i : Nat) : RP :=
  if thereP shard Q i = true ∧ ¬ (y.there = true ∧ y.e.num = (entP Q i).num) then { y with n := 0, e := entP Q i, there := thereP shard Q i } else { y with e := entP Q i, there := thereP shard Q i }
def lookP (shard : Int) (Q : List Ent) (ps : Nat → RP) (i : Nat) : Nat → RP := fun j => if j < i then (ps j).look shard Q j else ps j
theorem lookP_zero (shard : Int) (Q : List Ent) (ps : Nat → RP) : lookP shard Q ps 0 = ps := by funext j; exact if_neg (by omega)
theorem lookP_at (shard : Int) (Q : List Ent) (ps : Nat → RP) (i : Nat) : lookP shard Q ps i i = ps i := if_neg (by omega)
theorem lookP_next (shard : Int) (Q : List Ent) (ps : Nat → RP) (i : Nat) : updP (lookP shard Q ps i) i ((ps i).look shard Q i) = lookP shard Q ps (i + 1) := by
  funext j
  by_cases h : j = i
  · subst h
    rw [updP_eq]
    unfold lookP
    rw [if_pos (by omega)]
  · rw [updP_ne h]
    unfold lookP
    by_cases h2 : j < i
    · rw [if_pos h2, if_pos (by omega)]
    · rw [if_neg h2, if_neg (by omega)]
theorem RSet.put' {w : World} {base r0 R W cap i j : Nat} {ρ : Nat → Nat} {c : Conf} {node shard : Int} {ps : Nat → RP} {qv v : Value} {Q : List Ent} {y : RP} (h : RSet w base ρ r0 R c node shard (updP ps i y) (.slice (some ⟨W, 0, none⟩) c.N cap) qv Q) (hj : j < 8) (y' : RP)
    (hy : ∀ k, k < 8 → y'.cell k = if k = j then v else y.cell k) :
    RSet (w.setCell ⟨W, i * 8 + j, none⟩ v) base ρ r0 R c node shard (updP ps i y') (.slice (some ⟨W, 0, none⟩) c.N cap) qv Q ∧ Keeps (fun r => r = r0 + 32) w ρ (w.setCell ⟨W, i * 8 + j, none⟩ v) ρ ∧ Below base w (w.setCell ⟨W, i * 8 + j, none⟩ v) ∧ (w.setCell ⟨W, i * 8 + j, none⟩ v).heap.size = w.heap.size := by
  have := h.put hj y' (fun k hk => by rw [updP_eq]; exact hy k hk)
  rw [updP_twice] at this
  exact this
theorem cells8 {y y' : RP} {v : Value} {j : Nat} (a0 : y'.cell 0 = if 0 = j then v else y.cell 0) (a1 : y'.cell 1 = if 1 = j then v else y.cell 1) (a2 : y'.cell 2 = if 2 = j then v else y.cell 2) (a3 : y'.cell 3 = if 3 = j then v else y.cell 3) (a4 : y'.cell 4 = if 4 = j then v else y.cell 4) (a5 : y'.cell 5 = if 5 = j then v else y.cell 5) (a6 : y'.cell 6 = if 6 = j then v else y.cell 6) (a7 : y'.cell 7 = if 7 = j then v else y.cell 7) :
    ∀ k, k < 8 → y'.cell k = if k = j then v else y.cell k := fun k hk => match k, hk with
  | 0, _ => a0
  | 1, _ => a1
  | 2, _ => a2
  | 3, _ => a3
  | 4, _ => a4
  | 5, _ => a5
  | 6, _ => a6
  | 7, _ => a7
/-- A peer's first entry and its mark that there is one, put anew. -/
theorem RSet.putE {w : World} {base r0 R W cap i : Nat} {ρ : Nat → Nat} {c : Conf} {node shard : Int} {ps : Nat → RP} {qv : Value} {Q : List Ent} {y : RP} (h : RSet w base ρ r0 R c node shard (updP ps i y) (.slice (some ⟨W, 0, none⟩) c.N cap) qv Q) (en : Ent) (b : Bool) (w' : World)
    (hw' : w' = ((((w.setCell ⟨W, i * 8 + 3, none⟩ (.int .i64 en.peer)).setCell ⟨W, i * 8 + 3 + 1, none⟩ (.int .u64 en.num)).setCell ⟨W, i * 8 + 3 + 2, none⟩ (.string en.name)).setCell ⟨W, i * 8 + 3 + 3, none⟩ (.int .u64 en.amt)).setCell ⟨W, i * 8 + 7, none⟩ (.bool b)) :
    RSet w' base ρ r0 R c node shard (updP ps i { y with e := en, there := b }) (.slice (some ⟨W, 0, none⟩) c.N cap) qv Q ∧ Keeps (fun r => r = r0 + 32) w ρ w' ρ ∧ Below base w w' ∧ w'.heap.size = w.heap.size := by
  subst hw'
  obtain ⟨s1, K1, L1, z1⟩ := h.put' (j := 3) (v := .int .i64 en.peer) (by omega) { y with e := { y.e with peer := en.peer } } (cells8 rfl rfl rfl rfl rfl rfl rfl rfl)
  obtain ⟨s2, K2, L2, z2⟩ := s1.put' (j := 4) (v := .int .u64 en.num) (by omega) { y with e := { y.e with peer := en.peer, num := en.num } } (cells8 rfl rfl rfl rfl rfl rfl rfl rfl)
  obtain ⟨s3, K3, L3, z3⟩ := s2.put' (j := 5) (v := .string en.name) (by omega) { y with e := { en with amt := y.e.amt } } (cells8 rfl rfl rfl rfl rfl rfl rfl rfl)
  obtain ⟨s4, K4, L4, z4⟩ := s3.put' (j := 6) (v := .int .u64 en.amt) (by omega) { y with e := en } (cells8 rfl rfl rfl rfl rfl rfl rfl rfl)
  obtain ⟨s5, K5, L5, z5⟩ := s4.put' (j := 7) (v := .bool b) (by omega) { y with e := en, there := b } (cells8 rfl rfl rfl rfl rfl rfl rfl rfl)
  exact ⟨s5, (((K1.trans K2).trans K3).trans K4).trans K5, (((L1.trans L2).trans L3).trans L4).trans L5, z5.trans (z4.trans (z3.trans (z2.trans z1)))⟩
theorem updP_self (ps : Nat → RP) (i : Nat) : updP ps i (ps i) = ps := by
  funext j
  by_cases h : j = i
  · rw [h, updP_eq]
  · rw [updP_ne h]
def RLookRel (w : World) (base : Nat) (ρ ρ' : Nat → Nat) (r0 R : Nat) (c : Conf) (node shard : Int) (ps : Nat → RP) (W cap : Nat) (qv : Value) (Q : List Ent) (iv : Value) (wr : World) : Prop :=
  ∃ i : Nat, iv = .int .i64 i ∧ i ≤ c.N ∧ RSet wr base ρ' r0 R c node shard (lookP shard Q ps i) (.slice (some ⟨W, 0, none⟩) c.N cap) qv Q ∧ Keeps (fun r => r0 + 31 ≤ r ∧ r ≤ r0 + 33) w ρ wr ρ' ∧ Free wr ρ' ∧ Below base w wr
/-- The end of a round. -/
theorem look_round {w wd : World} {base r0 R W cap i : Nat} {ρ ρ' : Nat → Nat} {c : Conf} {node shard : Int} {ps : Nat → RP} {qv : Value} {Q : List Ent} (b : Bool) (y : RP) (hy : { y with e := entP Q i, there := b } = (ps i).look shard Q i) (hi : i < c.N)
    (h : RSet wd base ρ' r0 R c node shard (updP (lookP shard Q ps i) i y) (.slice (some ⟨W, 0, none⟩) c.N cap) qv Q) (hK : Keeps (fun r => r0 + 31 ≤ r ∧ r ≤ r0 + 33) w ρ wd ρ') (hf : Free wd ρ') (hB : Below base w wd) (w' : World)
    (hw' : w' = ((((wd.setCell ⟨W, i * 8 + 3, none⟩ (.int .i64 (entP Q i).peer)).setCell ⟨W, i * 8 + 3 + 1, none⟩ (.int .u64 (entP Q i).num)).setCell ⟨W, i * 8 + 3 + 2, none⟩ (.string (entP Q i).name)).setCell ⟨W, i * 8 + 3 + 3, none⟩ (.int .u64 (entP Q i).amt)).setCell ⟨W, i * 8 + 7, none⟩ (.bool b)) :
    RLookRel w base ρ ρ' r0 R c node shard ps W cap qv Q (.int .i64 ((i : Int) + 1)) w' := by
  obtain ⟨s, K, L, z⟩ := h.putE (entP Q i) b w' hw'
  rw [hy, lookP_next] at s
  exact ⟨i + 1, by go_num, by omega, s, hK.trans (K.mono (fun r hr => by omega)), hf.le (Nat.le_of_eq z.symm), hB.trans L⟩
theorem far_cell {w w4 : World} {W k E j : Nat} {v : Value} (h : w.setCell ⟨W, k, none⟩ v = w4) (hne : E ≠ W) : w4.cell? ⟨E, j, none⟩ = w.cell? ⟨E, j, none⟩ := by
  subst h
  refine World.cell?_of_block ?_
  simp [World.setCell, Array.getElem?_modify, Ne.symm hne]
set_option maxRecDepth 100000 in
set_option maxHeartbeats 16000000 in
theorem ref_look (w : World) (base r0 R W cap : Nat) (ρ : Nat → Nat) (c : Conf) (node shard sh : Int) (ps : Nat → RP) (qv : Value) (Q0 : List Ent) (h : RSet w base ρ r0 R c node shard ps (.slice (some ⟨W, 0, none⟩) c.N cap) qv Q0) (hf : Free w ρ)
    (A : Option Addr) (n cp : Nat) (Q : List Ent) (hQ : HasQ w (.slice A n cp) Q) (hq : Q.length ≤ 3518437208780) (a1 a3 a4 a5 : Option Addr) (n1 n3 n4 n5 c1 c3 c4 c5 : Nat) :
    Calls Try.prog 103 #[.pointer (some ⟨R, 0, none⟩), .agg #[.int .i64 sh, .slice a1 n1 c1, .slice A n cp, .slice a3 n3 c3, .slice a4 n4 c4, .slice a5 n5 c5]] w fun e w' => e = .returned (.tuple #[]) ∧
      ∃ ρ' qv', RSet w' base ρ' r0 R c node shard (lookP shard Q ps c.N) (.slice (some ⟨W, 0, none⟩) c.N cap) qv' Q ∧ Keeps (fun r => r0 + 31 ≤ r ∧ r ≤ r0 + 33) w ρ w' ρ' ∧ Free w' ρ' ∧ Below base w w' := by
  have hbase : base ≤ w.heap.size := by have := h.lo; have := lt_of_obj h.obj.1; omega
  have hb0 : Below w.heap.size w ((w.alloc (.cells #[.int .i64 sh, .slice a1 n1 c1, .slice A n cp, .slice a3 n3 c3, .slice a4 n4 c4, .slice a5 n5 c5] 91)).alloc (.cells #[] 104)) := ((Below.refl _ _).alloc (Nat.le_refl _) _).alloc (by simp) _
  have hE : One ((w.alloc (.cells #[.int .i64 sh, .slice a1 n1 c1, .slice A n cp, .slice a3 n3 c3, .slice a4 n4 c4, .slice a5 n5 c5] 91)).alloc (.cells #[] 104)) w.heap.size 104 4 (.slice (some ⟨w.heap.size + 1, 0, none⟩) 0 0) 0 (cQ Q) :=
    .inr ⟨w.heap.size + 1, 0, #[], rfl, by omega, by have := heap_alloc_new (w.alloc (.cells #[.int .i64 sh, .slice a1 n1 c1, .slice A n cp, .slice a3 n3 c3, .slice a4 n4 c4, .slice a5 n5 c5] 91)) (.cells #[] 104); rw [World.size_alloc] at this; exact this, Nat.le_refl _, by unfold maxLen; omega, rfl, fun k hk => by omega⟩
  obtain ⟨v1, w1, r1, o1, g1, a1'⟩ := append_ents _ w.heap.size 80 _ 0 (cQ Q) hE _ Q (hQ.below hb0) (by omega) (by simp; omega) (fun k _ => by rw [Nat.zero_mul, Nat.zero_add])
  rw [Nat.zero_add] at o1
  have hb1 : Below w.heap.size w w1 := hb0.grown g1 (by simp; omega) (fun q hq => by
    have e : w.heap.size + 1 = q := by simpa [Value.ownBlock] using hq
    omega)
  obtain ⟨Av, mv, cv, rfl⟩ := OneN.slice o1
  obtain ⟨ρ', K1, F1, o1', r1'⟩ := label_new (r := r0 + 33) hb1 o1 hbase hf
  have h1 := h.keep K1 (fun _ _ _ h => h)
  obtain ⟨s1, K2, z2, L2⟩ := h.setQ (K1.mono (fun _ hr => hr.elim)) o1' r1'
  have c12 : w1.cell? ⟨R, 12, none⟩ = some qv := h1.cell 12 (by omega)
  have f12 := h1.freeR 12
  have HS := Lib.hid (And.intro s1 (And.intro K2 (And.intro (F1.le (Nat.le_of_eq z2.symm)) ((hb1.mono hbase).trans L2))))
  have HR1 := Lib.hid r1
  clear h h1 hQ hb0 hE r1 o1 g1 a1' hb1 K1 F1 o1' r1' s1 K2 z2 L2
  go_enter Try.func103, Try.ntmps103
  go_wp2_with (at_builtin; refine wpList_append_by rfl (.tmp 9) (.tmp 11) 80 rfl rfl rfl HR1.out ?_)
  go_loopw [4] (fun iv wr => RLookRel w base ρ ρ' r0 R c node shard ps W cap (.slice Av mv cv) Q iv wr) (fun iv _ => (c.N - intOf iv).toNat)
  case atStart =>
    obtain ⟨s1, K, F, L⟩ := HS.out
    exact ⟨0, rfl, Nat.zero_le _, by rw [lookP_zero]; exact s1, K.mono (fun r hr => by omega), F, L⟩
  case round =>
    clear c12 f12
    obtain ⟨i, rfl, hi, hS, hK, hF, hB⟩ := hrel
    have c11 : wr.cell? ⟨R, 11, none⟩ = some (.slice (some ⟨W, 0, none⟩) c.N cap) := hS.cell 11 (by omega)
    by_cases hlt : i < c.N
    · have c12 : wr.cell? ⟨R, 12, none⟩ = some (.slice Av mv cv) := hS.cell 12 (by omega)
      have hFi := refFirst_any wr (.slice Av mv cv) Q i (hS.que.hasQ rfl) (by omega)
      obtain ⟨E, hE⟩ : ∃ E, entP Q i = E := ⟨_, rfl⟩
      obtain ⟨b0, hb0⟩ : ∃ b, (firstE Q i).isSome = b := ⟨_, rfl⟩
      have hE' : (firstE Q (i : Int)).getD zeroEnt = E := hE
      rw [hE', hb0] at hFi
      unfold entV at hFi
      have HFI := Lib.hid hFi
      have HS2 := Lib.hid hS
      obtain ⟨y, hy⟩ : ∃ y, lookP shard Q ps i i = y := ⟨_, rfl⟩
      have hyp : ps i = y := by rw [← hy, lookP_at]
      have q1 : (i : Int) < (c.N : Int) := by omega
      have hN8 : c.N ≤ 8 := hS.num.2
      clear hFi hE'
      by_cases his : (i : Int) = shard
      · have q2 : ((i : Int) == shard) = true := by simp [his]
        have hth : thereP shard Q i = false := by unfold thereP; rw [q2]; simp
        have HTH := Lib.hid hth
        clear his hth
        go_wp2_with (go_at_call 129; (with_reducible refine HFI.out.mono ?_); rintro e w2 ⟨rfl, hb2⟩; have hb3 : Below w2.heap.size w2 (w2.alloc (.cells #[.int .i64 E.peer, .int .u64 E.num, .string E.name, .int .u64 E.amt] 104)) := (Below.refl _ _).alloc (Nat.le_refl _) _; have hb13 := hb2.trans (hb3.mono hb2.size); have s3 := HS2.out.below hb13; have c10' : (w2.alloc (.cells #[.int .i64 E.peer, .int .u64 E.num, .string E.name, .int .u64 E.amt] 104)).cell? ⟨R, 10, none⟩ = some (.int .i64 shard) := s3.cell 10 (by omega); have y7 : (w2.alloc (.cells #[.int .i64 E.peer, .int .u64 E.num, .string E.name, .int .u64 E.amt] 104)).cell? ⟨W, i * 8 + 7, none⟩ = some (.bool y.there) := hy ▸ s3.peer i 7 hlt (by omega); have y4 : (w2.alloc (.cells #[.int .i64 E.peer, .int .u64 E.num, .string E.name, .int .u64 E.amt] 104)).cell? ⟨W, i * 8 + 4, none⟩ = some (.int .u64 y.e.num) := hy ▸ s3.peer i 4 hlt (by omega); have x0 : (w2.alloc (.cells #[.int .i64 E.peer, .int .u64 E.num, .string E.name, .int .u64 E.amt] 104)).cell? ⟨w2.heap.size, 0, none⟩ = some (.int .i64 E.peer) := cell_of_obj (heap_alloc_new w2 _) 0; have x1 : (w2.alloc (.cells #[.int .i64 E.peer, .int .u64 E.num, .string E.name, .int .u64 E.amt] 104)).cell? ⟨w2.heap.size, 1, none⟩ = some (.int .u64 E.num) := cell_of_obj (heap_alloc_new w2 _) 1; have x2 : (w2.alloc (.cells #[.int .i64 E.peer, .int .u64 E.num, .string E.name, .int .u64 E.amt] 104)).cell? ⟨w2.heap.size, 2, none⟩ = some (.string E.name) := cell_of_obj (heap_alloc_new w2 _) 2; have x3 : (w2.alloc (.cells #[.int .i64 E.peer, .int .u64 E.num, .string E.name, .int .u64 E.amt] 104)).cell? ⟨w2.heap.size, 3, none⟩ = some (.int .u64 E.amt) := cell_of_obj (heap_alloc_new w2 _) 3; have hWE : w2.heap.size ≠ W := (by have h1 := (HS2.out.row.block (g := W) rfl).2; have h2 := hb2.size; omega); have S3 := Lib.hid s3; clear s3)
        go_quiet (fail)
        generalize hwd : World.drewN _ _ = wd
        have hbd : Below (w2.alloc (.cells #[.int .i64 E.peer, .int .u64 E.num, .string E.name, .int .u64 E.amt] 104)).heap.size (w2.alloc (.cells #[.int .i64 E.peer, .int .u64 E.num, .string E.name, .int .u64 E.amt] 104)) wd := hwd ▸ below_drewN (Below.refl _ _) _
        have sd := S3.out.below hbd
        have x0 := cellKeep hbd x0
        have x1 := cellKeep hbd x1
        have x2 := cellKeep hbd x2
        have x3 := cellKeep hbd x3
        have hKd := Keeps.below (fun _ => False) ρ' (hb13.trans (hbd.mono hb13.size))
        have HKd := Lib.hid (hK.trans (hKd.mono (R' := fun r => r0 + 31 ≤ r ∧ r ≤ r0 + 33) (fun _ hr => hr.elim)))
        have HFd := Lib.hid (hF.le hKd.1)
        have HBd := Lib.hid (hB.trans ((hb13.trans (hbd.mono hb13.size)).mono (by have := hS.lo; have := lt_of_obj hS.obj.1; omega)))
        have SD := Lib.hid sd
        clear hbd sd hKd y7 y4 hwd
        have e3 : wd.cell? ⟨W, i * 8 + 3, none⟩ = some _ := SD.out.peer i 3 hlt (by omega)
        have e4 : wd.cell? ⟨W, i * 8 + 4, none⟩ = some _ := SD.out.peer i 4 hlt (by omega)
        have e5 : wd.cell? ⟨W, i * 8 + 5, none⟩ = some _ := SD.out.peer i 5 hlt (by omega)
        have e6 : wd.cell? ⟨W, i * 8 + 6, none⟩ = some _ := SD.out.peer i 6 hlt (by omega)
        have e7 : wd.cell? ⟨W, i * 8 + 7, none⟩ = some _ := SD.out.peer i 7 hlt (by omega)
        have fr : ∀ k, wd.frozen? ⟨W, k, none⟩ = false := SD.out.free
        go_wp2_with fail
        refine ⟨look_round (w := w) (ps := ps) (shard := shard) (Q := Q) (i := i) false y (by rw [hyp, hE]; unfold RP.look; rw [HTH.out, if_neg (fun h => absurd h.1 (by decide)), hE]) hlt (by rw [← hy, updP_self]; exact SD.out) HKd.out HFd.out HBd.out _ (by rw [hE]), ?_⟩; (simp [intOf]; omega)
      · have q2 : ((i : Int) == shard) = false := by rw [beq_eq_false_iff_ne]; exact his
        have hth : thereP shard Q i = b0 := by unfold thereP; rw [q2, hb0]; simp
        have HTH := Lib.hid hth
        clear his hth hb0
        cases b0 with
        | false =>
          go_wp2_with (go_at_call 129; (with_reducible refine HFI.out.mono ?_); rintro e w2 ⟨rfl, hb2⟩; have hb3 : Below w2.heap.size w2 (w2.alloc (.cells #[.int .i64 E.peer, .int .u64 E.num, .string E.name, .int .u64 E.amt] 104)) := (Below.refl _ _).alloc (Nat.le_refl _) _; have hb13 := hb2.trans (hb3.mono hb2.size); have s3 := HS2.out.below hb13; have c10' : (w2.alloc (.cells #[.int .i64 E.peer, .int .u64 E.num, .string E.name, .int .u64 E.amt] 104)).cell? ⟨R, 10, none⟩ = some (.int .i64 shard) := s3.cell 10 (by omega); have y7 : (w2.alloc (.cells #[.int .i64 E.peer, .int .u64 E.num, .string E.name, .int .u64 E.amt] 104)).cell? ⟨W, i * 8 + 7, none⟩ = some (.bool y.there) := hy ▸ s3.peer i 7 hlt (by omega); have y4 : (w2.alloc (.cells #[.int .i64 E.peer, .int .u64 E.num, .string E.name, .int .u64 E.amt] 104)).cell? ⟨W, i * 8 + 4, none⟩ = some (.int .u64 y.e.num) := hy ▸ s3.peer i 4 hlt (by omega); have x0 : (w2.alloc (.cells #[.int .i64 E.peer, .int .u64 E.num, .string E.name, .int .u64 E.amt] 104)).cell? ⟨w2.heap.size, 0, none⟩ = some (.int .i64 E.peer) := cell_of_obj (heap_alloc_new w2 _) 0; have x1 : (w2.alloc (.cells #[.int .i64 E.peer, .int .u64 E.num, .string E.name, .int .u64 E.amt] 104)).cell? ⟨w2.heap.size, 1, none⟩ = some (.int .u64 E.num) := cell_of_obj (heap_alloc_new w2 _) 1; have x2 : (w2.alloc (.cells #[.int .i64 E.peer, .int .u64 E.num, .string E.name, .int .u64 E.amt] 104)).cell? ⟨w2.heap.size, 2, none⟩ = some (.string E.name) := cell_of_obj (heap_alloc_new w2 _) 2; have x3 : (w2.alloc (.cells #[.int .i64 E.peer, .int .u64 E.num, .string E.name, .int .u64 E.amt] 104)).cell? ⟨w2.heap.size, 3, none⟩ = some (.int .u64 E.amt) := cell_of_obj (heap_alloc_new w2 _) 3; have hWE : w2.heap.size ≠ W := (by have h1 := (HS2.out.row.block (g := W) rfl).2; have h2 := hb2.size; omega); have S3 := Lib.hid s3; clear s3)
          go_quiet (fail)
          generalize hwd : World.drewN _ _ = wd
          have hbd : Below (w2.alloc (.cells #[.int .i64 E.peer, .int .u64 E.num, .string E.name, .int .u64 E.amt] 104)).heap.size (w2.alloc (.cells #[.int .i64 E.peer, .int .u64 E.num, .string E.name, .int .u64 E.amt] 104)) wd := hwd ▸ below_drewN (Below.refl _ _) _
          have sd := S3.out.below hbd
          have x0 := cellKeep hbd x0
          have x1 := cellKeep hbd x1
          have x2 := cellKeep hbd x2
          have x3 := cellKeep hbd x3
          have hKd := Keeps.below (fun _ => False) ρ' (hb13.trans (hbd.mono hb13.size))
          have HKd := Lib.hid (hK.trans (hKd.mono (R' := fun r => r0 + 31 ≤ r ∧ r ≤ r0 + 33) (fun _ hr => hr.elim)))
          have HFd := Lib.hid (hF.le hKd.1)
          have HBd := Lib.hid (hB.trans ((hb13.trans (hbd.mono hb13.size)).mono (by have := hS.lo; have := lt_of_obj hS.obj.1; omega)))
          have SD := Lib.hid sd
          clear hbd sd hKd y7 y4 hwd
          have e3 : wd.cell? ⟨W, i * 8 + 3, none⟩ = some _ := SD.out.peer i 3 hlt (by omega)
          have e4 : wd.cell? ⟨W, i * 8 + 4, none⟩ = some _ := SD.out.peer i 4 hlt (by omega)
          have e5 : wd.cell? ⟨W, i * 8 + 5, none⟩ = some _ := SD.out.peer i 5 hlt (by omega)
          have e6 : wd.cell? ⟨W, i * 8 + 6, none⟩ = some _ := SD.out.peer i 6 hlt (by omega)
          have e7 : wd.cell? ⟨W, i * 8 + 7, none⟩ = some _ := SD.out.peer i 7 hlt (by omega)
          have fr : ∀ k, wd.frozen? ⟨W, k, none⟩ = false := SD.out.free
          go_wp2_with fail
          refine ⟨look_round (w := w) (ps := ps) (shard := shard) (Q := Q) (i := i) false y (by rw [hyp, hE]; unfold RP.look; rw [HTH.out, if_neg (fun h => absurd h.1 (by decide)), hE]) hlt (by rw [← hy, updP_self]; exact SD.out) HKd.out HFd.out HBd.out _ (by rw [hE]), ?_⟩; (simp [intOf]; omega)
        | true =>
          cases hyt : y.there with
          | false =>
            go_wp2_with (go_at_call 129; (with_reducible refine HFI.out.mono ?_); rintro e w2 ⟨rfl, hb2⟩; have hb3 : Below w2.heap.size w2 (w2.alloc (.cells #[.int .i64 E.peer, .int .u64 E.num, .string E.name, .int .u64 E.amt] 104)) := (Below.refl _ _).alloc (Nat.le_refl _) _; have hb13 := hb2.trans (hb3.mono hb2.size); have s3 := HS2.out.below hb13; have c10' : (w2.alloc (.cells #[.int .i64 E.peer, .int .u64 E.num, .string E.name, .int .u64 E.amt] 104)).cell? ⟨R, 10, none⟩ = some (.int .i64 shard) := s3.cell 10 (by omega); have y7 : (w2.alloc (.cells #[.int .i64 E.peer, .int .u64 E.num, .string E.name, .int .u64 E.amt] 104)).cell? ⟨W, i * 8 + 7, none⟩ = some (.bool y.there) := hy ▸ s3.peer i 7 hlt (by omega); have y4 : (w2.alloc (.cells #[.int .i64 E.peer, .int .u64 E.num, .string E.name, .int .u64 E.amt] 104)).cell? ⟨W, i * 8 + 4, none⟩ = some (.int .u64 y.e.num) := hy ▸ s3.peer i 4 hlt (by omega); have x0 : (w2.alloc (.cells #[.int .i64 E.peer, .int .u64 E.num, .string E.name, .int .u64 E.amt] 104)).cell? ⟨w2.heap.size, 0, none⟩ = some (.int .i64 E.peer) := cell_of_obj (heap_alloc_new w2 _) 0; have x1 : (w2.alloc (.cells #[.int .i64 E.peer, .int .u64 E.num, .string E.name, .int .u64 E.amt] 104)).cell? ⟨w2.heap.size, 1, none⟩ = some (.int .u64 E.num) := cell_of_obj (heap_alloc_new w2 _) 1; have x2 : (w2.alloc (.cells #[.int .i64 E.peer, .int .u64 E.num, .string E.name, .int .u64 E.amt] 104)).cell? ⟨w2.heap.size, 2, none⟩ = some (.string E.name) := cell_of_obj (heap_alloc_new w2 _) 2; have x3 : (w2.alloc (.cells #[.int .i64 E.peer, .int .u64 E.num, .string E.name, .int .u64 E.amt] 104)).cell? ⟨w2.heap.size, 3, none⟩ = some (.int .u64 E.amt) := cell_of_obj (heap_alloc_new w2 _) 3; have hWE : w2.heap.size ≠ W := (by have h1 := (HS2.out.row.block (g := W) rfl).2; have h2 := hb2.size; omega); have S3 := Lib.hid s3; clear s3)
            rw [hyt] at y7
            go_quiet (fail)
            generalize hwd : World.drewN _ _ = wd
            have hbd : Below (w2.alloc (.cells #[.int .i64 E.peer, .int .u64 E.num, .string E.name, .int .u64 E.amt] 104)).heap.size (w2.alloc (.cells #[.int .i64 E.peer, .int .u64 E.num, .string E.name, .int .u64 E.amt] 104)) wd := hwd ▸ below_drewN (Below.refl _ _) _
            have sd := S3.out.below hbd
            have x0 := cellKeep hbd x0
            have x1 := cellKeep hbd x1
            have x2 := cellKeep hbd x2
            have x3 := cellKeep hbd x3
            have hKd := Keeps.below (fun _ => False) ρ' (hb13.trans (hbd.mono hb13.size))
            have HKd := Lib.hid (hK.trans (hKd.mono (R' := fun r => r0 + 31 ≤ r ∧ r ≤ r0 + 33) (fun _ hr => hr.elim)))
            have HFd := Lib.hid (hF.le hKd.1)
            have HBd := Lib.hid (hB.trans ((hb13.trans (hbd.mono hb13.size)).mono (by have := hS.lo; have := lt_of_obj hS.obj.1; omega)))
            have SD := Lib.hid sd
            clear hbd sd hKd y7 y4 hwd
            have e1 : wd.cell? ⟨W, i * 8 + 1, none⟩ = some _ := SD.out.peer i 1 hlt (by omega)
            have fr1 := SD.out.free (i * 8 + 1)
            have hR := Lib.hid (refReset_at W (i * 8) _ wd e1 fr1)
            have P4 := SD.out.put (i := i) (j := 1) (v := .int .i64 0) (by omega) { y with n := 0 } (by rw [hy]; exact cells8 rfl rfl rfl rfl rfl rfl rfl rfl)
            have H4 := Lib.hid P4
            clear P4 e1
            go_wp2_with (go_at_call 130; (with_reducible refine hR.out.mono ?_); rintro e w4 ⟨rfl, hw4⟩; have P4 := H4.out; rw [hw4] at P4; have S4 := Lib.hid P4.1; have x0 := (far_cell hw4 hWE).trans x0; have x1 := (far_cell hw4 hWE).trans x1; have x2 := (far_cell hw4 hWE).trans x2; have x3 := (far_cell hw4 hWE).trans x3; have HK4 := Lib.hid (HKd.out.trans (P4.2.1.mono (R' := fun r => r0 + 31 ≤ r ∧ r ≤ r0 + 33) (fun r hr => by omega))); have HF4 := Lib.hid (HFd.out.le (Nat.le_of_eq P4.2.2.2.symm)); have HB4 := Lib.hid (HBd.out.trans P4.2.2.1); have e3 : w4.cell? ⟨W, i * 8 + 3, none⟩ = some _ := S4.out.peer i 3 hlt (by omega); have e4 : w4.cell? ⟨W, i * 8 + 4, none⟩ = some _ := S4.out.peer i 4 hlt (by omega); have e5 : w4.cell? ⟨W, i * 8 + 5, none⟩ = some _ := S4.out.peer i 5 hlt (by omega); have e6 : w4.cell? ⟨W, i * 8 + 6, none⟩ = some _ := S4.out.peer i 6 hlt (by omega); have e7 : w4.cell? ⟨W, i * 8 + 7, none⟩ = some _ := S4.out.peer i 7 hlt (by omega); have fr : ∀ k, w4.frozen? ⟨W, k, none⟩ = false := S4.out.free; clear P4 hw4)
            refine ⟨look_round (w := w) (ps := ps) (shard := shard) (Q := Q) (i := i) true { y with n := 0 } (by rw [hyp, hE]; unfold RP.look; rw [HTH.out, if_pos ⟨rfl, fun h => by rw [hyt] at h; exact absurd h.1 (by decide)⟩, hE]) hlt S4.out HK4.out HF4.out HB4.out _ (by rw [hE]), ?_⟩; (simp [intOf]; omega)
          | true =>
            by_cases hnum : y.e.num = E.num
            · have q3 : (y.e.num != E.num) = false := by simp [hnum]
              have HNUM := Lib.hid hnum
              clear hnum
              go_wp2_with (go_at_call 129; (with_reducible refine HFI.out.mono ?_); rintro e w2 ⟨rfl, hb2⟩; have hb3 : Below w2.heap.size w2 (w2.alloc (.cells #[.int .i64 E.peer, .int .u64 E.num, .string E.name, .int .u64 E.amt] 104)) := (Below.refl _ _).alloc (Nat.le_refl _) _; have hb13 := hb2.trans (hb3.mono hb2.size); have s3 := HS2.out.below hb13; have c10' : (w2.alloc (.cells #[.int .i64 E.peer, .int .u64 E.num, .string E.name, .int .u64 E.amt] 104)).cell? ⟨R, 10, none⟩ = some (.int .i64 shard) := s3.cell 10 (by omega); have y7 : (w2.alloc (.cells #[.int .i64 E.peer, .int .u64 E.num, .string E.name, .int .u64 E.amt] 104)).cell? ⟨W, i * 8 + 7, none⟩ = some (.bool y.there) := hy ▸ s3.peer i 7 hlt (by omega); have y4 : (w2.alloc (.cells #[.int .i64 E.peer, .int .u64 E.num, .string E.name, .int .u64 E.amt] 104)).cell? ⟨W, i * 8 + 4, none⟩ = some (.int .u64 y.e.num) := hy ▸ s3.peer i 4 hlt (by omega); have x0 : (w2.alloc (.cells #[.int .i64 E.peer, .int .u64 E.num, .string E.name, .int .u64 E.amt] 104)).cell? ⟨w2.heap.size, 0, none⟩ = some (.int .i64 E.peer) := cell_of_obj (heap_alloc_new w2 _) 0; have x1 : (w2.alloc (.cells #[.int .i64 E.peer, .int .u64 E.num, .string E.name, .int .u64 E.amt] 104)).cell? ⟨w2.heap.size, 1, none⟩ = some (.int .u64 E.num) := cell_of_obj (heap_alloc_new w2 _) 1; have x2 : (w2.alloc (.cells #[.int .i64 E.peer, .int .u64 E.num, .string E.name, .int .u64 E.amt] 104)).cell? ⟨w2.heap.size, 2, none⟩ = some (.string E.name) := cell_of_obj (heap_alloc_new w2 _) 2; have x3 : (w2.alloc (.cells #[.int .i64 E.peer, .int .u64 E.num, .string E.name, .int .u64 E.amt] 104)).cell? ⟨w2.heap.size, 3, none⟩ = some (.int .u64 E.amt) := cell_of_obj (heap_alloc_new w2 _) 3; have hWE : w2.heap.size ≠ W := (by have h1 := (HS2.out.row.block (g := W) rfl).2; have h2 := hb2.size; omega); have S3 := Lib.hid s3; clear s3)
              rw [hyt] at y7
              go_quiet (fail)
              generalize hwd : World.drewN _ _ = wd
              have hbd : Below (w2.alloc (.cells #[.int .i64 E.peer, .int .u64 E.num, .string E.name, .int .u64 E.amt] 104)).heap.size (w2.alloc (.cells #[.int .i64 E.peer, .int .u64 E.num, .string E.name, .int .u64 E.amt] 104)) wd := hwd ▸ below_drewN (Below.refl _ _) _
              have sd := S3.out.below hbd
              have x0 := cellKeep hbd x0
              have x1 := cellKeep hbd x1
              have x2 := cellKeep hbd x2
              have x3 := cellKeep hbd x3
              have hKd := Keeps.below (fun _ => False) ρ' (hb13.trans (hbd.mono hb13.size))
              have HKd := Lib.hid (hK.trans (hKd.mono (R' := fun r => r0 + 31 ≤ r ∧ r ≤ r0 + 33) (fun _ hr => hr.elim)))
              have HFd := Lib.hid (hF.le hKd.1)
              have HBd := Lib.hid (hB.trans ((hb13.trans (hbd.mono hb13.size)).mono (by have := hS.lo; have := lt_of_obj hS.obj.1; omega)))
              have SD := Lib.hid sd
              clear hbd sd hKd y7 y4 hwd
              have e3 : wd.cell? ⟨W, i * 8 + 3, none⟩ = some _ := SD.out.peer i 3 hlt (by omega)
              have e4 : wd.cell? ⟨W, i * 8 + 4, none⟩ = some _ := SD.out.peer i 4 hlt (by omega)
              have e5 : wd.cell? ⟨W, i * 8 + 5, none⟩ = some _ := SD.out.peer i 5 hlt (by omega)
              have e6 : wd.cell? ⟨W, i * 8 + 6, none⟩ = some _ := SD.out.peer i 6 hlt (by omega)
              have e7 : wd.cell? ⟨W, i * 8 + 7, none⟩ = some _ := SD.out.peer i 7 hlt (by omega)
              have fr : ∀ k, wd.frozen? ⟨W, k, none⟩ = false := SD.out.free
              go_wp2_with fail
              refine ⟨look_round (w := w) (ps := ps) (shard := shard) (Q := Q) (i := i) true y (by rw [hyp, hE]; unfold RP.look; rw [HTH.out, hE, if_neg (fun h => h.2 ⟨hyt, HNUM.out⟩)]) hlt (by rw [← hy, updP_self]; exact SD.out) HKd.out HFd.out HBd.out _ (by rw [hE]), ?_⟩; (simp [intOf]; omega)
            · have q3 : (y.e.num != E.num) = true := by simp [hnum]
              have HNUM := Lib.hid hnum
              clear hnum
              go_wp2_with (go_at_call 129; (with_reducible refine HFI.out.mono ?_); rintro e w2 ⟨rfl, hb2⟩; have hb3 : Below w2.heap.size w2 (w2.alloc (.cells #[.int .i64 E.peer, .int .u64 E.num, .string E.name, .int .u64 E.amt] 104)) := (Below.refl _ _).alloc (Nat.le_refl _) _; have hb13 := hb2.trans (hb3.mono hb2.size); have s3 := HS2.out.below hb13; have c10' : (w2.alloc (.cells #[.int .i64 E.peer, .int .u64 E.num, .string E.name, .int .u64 E.amt] 104)).cell? ⟨R, 10, none⟩ = some (.int .i64 shard) := s3.cell 10 (by omega); have y7 : (w2.alloc (.cells #[.int .i64 E.peer, .int .u64 E.num, .string E.name, .int .u64 E.amt] 104)).cell? ⟨W, i * 8 + 7, none⟩ = some (.bool y.there) := hy ▸ s3.peer i 7 hlt (by omega); have y4 : (w2.alloc (.cells #[.int .i64 E.peer, .int .u64 E.num, .string E.name, .int .u64 E.amt] 104)).cell? ⟨W, i * 8 + 4, none⟩ = some (.int .u64 y.e.num) := hy ▸ s3.peer i 4 hlt (by omega); have x0 : (w2.alloc (.cells #[.int .i64 E.peer, .int .u64 E.num, .string E.name, .int .u64 E.amt] 104)).cell? ⟨w2.heap.size, 0, none⟩ = some (.int .i64 E.peer) := cell_of_obj (heap_alloc_new w2 _) 0; have x1 : (w2.alloc (.cells #[.int .i64 E.peer, .int .u64 E.num, .string E.name, .int .u64 E.amt] 104)).cell? ⟨w2.heap.size, 1, none⟩ = some (.int .u64 E.num) := cell_of_obj (heap_alloc_new w2 _) 1; have x2 : (w2.alloc (.cells #[.int .i64 E.peer, .int .u64 E.num, .string E.name, .int .u64 E.amt] 104)).cell? ⟨w2.heap.size, 2, none⟩ = some (.string E.name) := cell_of_obj (heap_alloc_new w2 _) 2; have x3 : (w2.alloc (.cells #[.int .i64 E.peer, .int .u64 E.num, .string E.name, .int .u64 E.amt] 104)).cell? ⟨w2.heap.size, 3, none⟩ = some (.int .u64 E.amt) := cell_of_obj (heap_alloc_new w2 _) 3; have hWE : w2.heap.size ≠ W := (by have h1 := (HS2.out.row.block (g := W) rfl).2; have h2 := hb2.size; omega); have S3 := Lib.hid s3; clear s3)
              rw [hyt] at y7
              go_quiet (fail)
              generalize hwd : World.drewN _ _ = wd
              have hbd : Below (w2.alloc (.cells #[.int .i64 E.peer, .int .u64 E.num, .string E.name, .int .u64 E.amt] 104)).heap.size (w2.alloc (.cells #[.int .i64 E.peer, .int .u64 E.num, .string E.name, .int .u64 E.amt] 104)) wd := hwd ▸ below_drewN (Below.refl _ _) _
              have sd := S3.out.below hbd
              have x0 := cellKeep hbd x0
              have x1 := cellKeep hbd x1
              have x2 := cellKeep hbd x2
              have x3 := cellKeep hbd x3
              have hKd := Keeps.below (fun _ => False) ρ' (hb13.trans (hbd.mono hb13.size))
              have HKd := Lib.hid (hK.trans (hKd.mono (R' := fun r => r0 + 31 ≤ r ∧ r ≤ r0 + 33) (fun _ hr => hr.elim)))
              have HFd := Lib.hid (hF.le hKd.1)
              have HBd := Lib.hid (hB.trans ((hb13.trans (hbd.mono hb13.size)).mono (by have := hS.lo; have := lt_of_obj hS.obj.1; omega)))
              have SD := Lib.hid sd
              clear hbd sd hKd y7 y4 hwd
              have e1 : wd.cell? ⟨W, i * 8 + 1, none⟩ = some _ := SD.out.peer i 1 hlt (by omega)
              have fr1 := SD.out.free (i * 8 + 1)
              have hR := Lib.hid (refReset_at W (i * 8) _ wd e1 fr1)
              have P4 := SD.out.put (i := i) (j := 1) (v := .int .i64 0) (by omega) { y with n := 0 } (by rw [hy]; exact cells8 rfl rfl rfl rfl rfl rfl rfl rfl)
              have H4 := Lib.hid P4
              clear P4 e1
              go_wp2_with (go_at_call 130; (with_reducible refine hR.out.mono ?_); rintro e w4 ⟨rfl, hw4⟩; have P4 := H4.out; rw [hw4] at P4; have S4 := Lib.hid P4.1; have x0 := (far_cell hw4 hWE).trans x0; have x1 := (far_cell hw4 hWE).trans x1; have x2 := (far_cell hw4 hWE).trans x2; have x3 := (far_cell hw4 hWE).trans x3; have HK4 := Lib.hid (HKd.out.trans (P4.2.1.mono (R' := fun r => r0 + 31 ≤ r ∧ r ≤ r0 + 33) (fun r hr => by omega))); have HF4 := Lib.hid (HFd.out.le (Nat.le_of_eq P4.2.2.2.symm)); have HB4 := Lib.hid (HBd.out.trans P4.2.2.1); have e3 : w4.cell? ⟨W, i * 8 + 3, none⟩ = some _ := S4.out.peer i 3 hlt (by omega); have e4 : w4.cell? ⟨W, i * 8 + 4, none⟩ = some _ := S4.out.peer i 4 hlt (by omega); have e5 : w4.cell? ⟨W, i * 8 + 5, none⟩ = some _ := S4.out.peer i 5 hlt (by omega); have e6 : w4.cell? ⟨W, i * 8 + 6, none⟩ = some _ := S4.out.peer i 6 hlt (by omega); have e7 : w4.cell? ⟨W, i * 8 + 7, none⟩ = some _ := S4.out.peer i 7 hlt (by omega); have fr : ∀ k, w4.frozen? ⟨W, k, none⟩ = false := S4.out.free; clear P4 hw4)
              refine ⟨look_round (w := w) (ps := ps) (shard := shard) (Q := Q) (i := i) true { y with n := 0 } (by rw [hyp, hE]; unfold RP.look; rw [HTH.out, hE, if_pos ⟨rfl, fun h => HNUM.out h.2⟩]) hlt S4.out HK4.out HF4.out HB4.out _ (by rw [hE]), ?_⟩; (simp [intOf]; omega)
    · obtain rfl : i = c.N := by omega
      go_wp2_with fail
      go_end0
      exact ⟨rfl, ρ', _, hS, hK, hF, hB⟩
end Go.Proofs.Ytbgojhjlmlbfpaa
