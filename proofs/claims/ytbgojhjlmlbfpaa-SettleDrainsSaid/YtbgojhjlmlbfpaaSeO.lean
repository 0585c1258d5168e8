/- tallylaw13's Load.laid: the queue that it lays. -/
import Derived.Test.YtbgojhjlmlbfpaaSeN
import Derived.Deep.RegionHeld3
import Derived.Laws.BytesArg
import Derived.Deep.RegionLaw
namespace Go.Proofs.Ytbgojhjlmlbfpaa
open Go.RowKit

/-- How many of a peer's are in the queue. -/
def cnt (Q : List Ent) (p : Int) : Nat := Q.countP (fun e => e.peer == p)
/-- A queue as laid lays it. -/
structure QOk (Q : List Ent) (N : Nat) (shard : Int) : Prop where
  len : Q.length ≤ 16
  peer : ∀ (k : Nat) (e : Ent), Q[k]? = some e → ∃ p : Nat, e.peer = p ∧ p < N ∧ (p : Int) ≠ shard
  num : ∀ (k : Nat) (e : Ent), Q[k]? = some e → e.num = ((cnt (Q.take k) e.peer + 1 : Nat) : Int)
theorem QOk.nil (N : Nat) (shard : Int) : QOk [] N shard := ⟨by simp, fun k e h => by simp at h, fun k e h => by simp at h⟩
theorem last_at' {α : Type} {V : List α} {v u : α} {i : Nat} (h : (V ++ [v])[i]? = some u) : (i < V.length ∧ V[i]? = some u) ∨ (i = V.length ∧ u = v) := by
  by_cases hi : i < V.length
  · rw [List.getElem?_append_left hi] at h
    exact .inl ⟨hi, h⟩
  · rw [List.getElem?_append_right (by omega)] at h
    have e : i = V.length := by
      rcases Nat.lt_or_ge (i - V.length) 1 with h' | h'
      · omega
      · rw [List.getElem?_eq_none (by simpa using h')] at h; cases h
    subst e
    simp at h
    exact .inr ⟨rfl, h.symm⟩
theorem QOk.add {Q : List Ent} {N : Nat} {shard : Int} (h : QOk Q N shard) (hl : Q.length < 16) (p : Nat) (hp : p < N) (hs : (p : Int) ≠ shard) (name : ByteArray) (amt : Int) : QOk (Q ++ [⟨p, ((cnt Q p + 1 : Nat) : Int), name, amt⟩]) N shard := by
  refine ⟨by simp; omega, fun k e hk => ?_, fun k e hk => ?_⟩
  · rcases last_at' hk with ⟨_, hk⟩ | ⟨_, rfl⟩
    · exact h.peer k e hk
    · exact ⟨p, rfl, hp, hs⟩
  · rcases last_at' hk with ⟨hlt, hk⟩ | ⟨rfl, rfl⟩
    · rw [List.take_append_of_le_length (by omega)]
      exact h.num k e hk
    · simp
theorem cnt_add (Q : List Ent) (e : Ent) (p : Int) : cnt (Q ++ [e]) p = cnt Q p + if e.peer = p then 1 else 0 := by
  unfold cnt
  rw [List.countP_append]
  by_cases h : e.peer = p
  · simp [h]
  · simp [h]
theorem cnt_le (Q : List Ent) (p : Int) : cnt Q p ≤ Q.length := List.countP_le_length
theorem w64_info : (Try.prog.info? 95).map (fun i => (i.zero, i.size, i.bytes)) = some (some (.int .u64 0), 1, 8) := by kernel_rfl
theorem makes_words (n : Nat) (hn : n ≤ 1000) (w : World) : (Instr.makeSlice 88 (.int .i64 (n : Int)) (.int .i64 (n : Int))).run Try.prog w = .ok (.slice (some ⟨w.heap.size, 0, none⟩) n n) (w.alloc (cellsObj 95 n (fun _ => .int .u64 0))) := by
  obtain ⟨i0, hi, hz0, hz1, hz2⟩ := info_parts w64_info
  rw [run_make w _ _ i0 _ Try.underlying88 hi hz0 .i64 .i64 n n (by omega) (by omega) (by rw [hz2]; omega) (by omega)]
  rw [hz1]
  have : (madeCells (Value.int .u64 0).cells (((n : Int)).toNat * 1)) = ((List.range n).map fun _ => Value.int .u64 0).toArray := by
    apply Array.ext'
    rw [Int.toNat_natCast, Nat.mul_one]
    show (madeCells #[.int .u64 0] n).toList = _
    rw [toList_madeCells_one]
    apply List.ext_getElem?
    intro k
    by_cases hk : k < n
    · simp [hk]
    · simp [hk]
  rw [this]
  rfl
def loadObj (a b c d s : Int) (A1 A2 A3 : Option Addr) (n1 n2 n3 c1 c2 c3 : Nat) : Obj := .cells #[.int .i64 a, .int .i64 b, .int .i64 c, .int .i64 d, .int .i64 s, .slice A1 n1 c1, .slice A2 n2 c2, .slice A3 n3 c3] 76 (0, 0)
def confArr (n N cp cap : Nat) : Array Value := #[.int .i64 (n : Nat), .int .i64 (N : Nat), .int .i64 (cp : Nat), .int .i64 1, .int .i64 16, .int .i64 (cap : Nat), .int .i64 64, .int .i64 100, .slice none 0 0]
/-- What laid has before a round: its blocks, the queue so far. -/
structure LaidAt (w wr : World) (ρ : Nat → Nat) (b1 b2 b3 b4 : Nat) (o1 : Obj) (n N cp cap : Nat) (shard : Int) (Q : List Ent) (qv : Value) : Prop where
  o1 : Objr wr ρ 1 b1 o1
  o2 : Objr wr ρ 2 b2 (.cells #[.int .i64 0, .int .i64 0, .int .i64 0, .int .i64 0, .int .i64 0, .int .i64 0, .int .i64 0, .int .i64 0, .slice none 0 0] 79 (0, 0))
  o3 : Objr wr ρ 3 b3 (.cells (confArr n N cp cap) 79 (0, 0))
  o4 : Objr wr ρ 4 b4 (cellsObj 95 N (fun j => .int .u64 (cnt Q (j : Nat) : Nat)))
  q : One wr w.heap.size 104 4 qv Q.length (cQ Q)
  qr : ∀ g, qv.ownBlock = some g → ρ g = 5
  free : Free wr ρ
  bel : Below w.heap.size w wr
  ok : QOk Q N shard
  lo : w.heap.size ≤ b4
theorem LaidAt.keep {R : Nat → Prop} {w wr w' : World} {ρ ρ' : Nat → Nat} {b1 b2 b3 b4 n N cp cap : Nat} {o1 : Obj} {shard : Int} {Q : List Ent} {qv : Value} (h : LaidAt w wr ρ b1 b2 b3 b4 o1 n N cp cap shard Q qv) (hK : Keeps R wr ρ w' ρ') (hf : Free w' ρ') (hb : Below w.heap.size wr w') (hR : ∀ r, 1 ≤ r → r ≤ 5 → ¬ R r) :
    LaidAt w w' ρ' b1 b2 b3 b4 o1 n N cp cap shard Q qv := by
  obtain ⟨a1, a2⟩ := OneN.keep h.q h.qr hK (hR _ (by omega) (by omega))
  exact ⟨h.o1.keep hK (hR _ (by omega) (by omega)), h.o2.keep hK (hR _ (by omega) (by omega)), h.o3.keep hK (hR _ (by omega) (by omega)), h.o4.keep hK (hR _ (by omega) (by omega)), a1, a2, hf, h.bel.trans hb, h.ok, h.lo⟩
theorem unflipS {P : Program} {f : FuncId} {args : Array Value} {w : World} {R : Ending → Prop} (h : Calls P f args w fun e w' => R e ∧ w = w') : Calls P f args w fun e w' => R e ∧ w' = w :=
  h.mono fun _ _ ⟨a, b⟩ => ⟨a, b.symm⟩
def LaidRel (w : World) (b1 b2 b3 b4 : Nat) (o1 : Obj) (n N cp cap : Nat) (shard : Int) (nm : Nat) (qv iv : Value) (wr : World) : Prop :=
  ∃ (i : Nat) (ρ : Nat → Nat) (Q : List Ent), iv = .int .i64 i ∧ i ≤ nm ∧ LaidAt w wr ρ b1 b2 b3 b4 o1 n N cp cap shard Q qv
theorem OneN.len {w : World} {base sz n : Nat} {e : TypeId} {v : Value} {c : Nat → Value} (h : One w base e sz v n c) : ∃ A cap, v = .slice A n cap := by
  rcases h with ⟨rfl, rfl⟩ | ⟨g, cap, cur, k1, _⟩
  · exact ⟨_, _, rfl⟩
  · exact ⟨_, _, k1⟩
set_option maxRecDepth 100000 in
set_option maxHeartbeats 2000000 in
theorem laid_any (w : World) (a b c d s : Int) (A1 A2 A3 : Option Addr) (n1 n2 n3 c1 c2 c3 : Nat) (hM : ∀ i, i < n1 → ∃ g off x, A1 = some ⟨g, off, none⟩ ∧ g < w.heap.size ∧ w.cell? ⟨g, off + i, none⟩ = some (.int .i64 x)) (hn1 : n1 ≤ 9223372036854775807) :
    Calls Try.prog 26 #[.agg #[.int .i64 a, .int .i64 b, .int .i64 c, .int .i64 d, .int .i64 s, .slice A1 n1 c1, .slice A2 n2 c2, .slice A3 n3 c3]] w fun e w' =>
      ∃ (n N cp cap sh : Nat) (Q : List Ent) (v : Value), e = .returned (.tuple #[confV n N cp cap, .int .i64 (sh : Nat), v]) ∧ ConfOk n N cp cap ∧ sh < N ∧ QOk Q N sh ∧ One w' w.heap.size 104 4 v Q.length (cQ Q) ∧ Below w.heap.size w w' := by
  have hbA : Below w.heap.size w ((w.alloc (.cells #[.int .i64 a, .int .i64 b, .int .i64 c, .int .i64 d, .int .i64 s, .slice A1 n1 c1, .slice A2 n2 c2, .slice A3 n3 c3] 76)).alloc (.cells #[.int .i64 0, .int .i64 0, .int .i64 0, .int .i64 0, .int .i64 0, .int .i64 0, .int .i64 0, .int .i64 0, .slice none 0 0] 79)) := ((Below.refl _ _).alloc (Nat.le_refl _) _).alloc (by simp) _
  have hzA : ((w.alloc (.cells #[.int .i64 a, .int .i64 b, .int .i64 c, .int .i64 d, .int .i64 s, .slice A1 n1 c1, .slice A2 n2 c2, .slice A3 n3 c3] 76)).alloc (.cells #[.int .i64 0, .int .i64 0, .int .i64 0, .int .i64 0, .int .i64 0, .int .i64 0, .int .i64 0, .int .i64 0, .slice none 0 0] 79)).heap.size = w.heap.size + 2 := by simp
  have hA1 : ((w.alloc (.cells #[.int .i64 a, .int .i64 b, .int .i64 c, .int .i64 d, .int .i64 s, .slice A1 n1 c1, .slice A2 n2 c2, .slice A3 n3 c3] 76)).alloc (.cells #[.int .i64 0, .int .i64 0, .int .i64 0, .int .i64 0, .int .i64 0, .int .i64 0, .int .i64 0, .int .i64 0, .slice none 0 0] 79)).heap[w.heap.size]? = some (loadObj a b c d s A1 A2 A3 n1 n2 n3 c1 c2 c3) := by
    rw [Below.heap_alloc _ _ _ (by simp)]; exact heap_alloc_new w _
  have hA2 : ((w.alloc (.cells #[.int .i64 a, .int .i64 b, .int .i64 c, .int .i64 d, .int .i64 s, .slice A1 n1 c1, .slice A2 n2 c2, .slice A3 n3 c3] 76)).alloc (.cells #[.int .i64 0, .int .i64 0, .int .i64 0, .int .i64 0, .int .i64 0, .int .i64 0, .int .i64 0, .int .i64 0, .slice none 0 0] 79)).heap[w.heap.size + 1]? = some (.cells #[.int .i64 0, .int .i64 0, .int .i64 0, .int .i64 0, .int .i64 0, .int .i64 0, .int .i64 0, .int .i64 0, .slice none 0 0] 79 (0, 0)) := by
    have e := heap_alloc_new (w.alloc (.cells #[.int .i64 a, .int .i64 b, .int .i64 c, .int .i64 d, .int .i64 s, .slice A1 n1 c1, .slice A2 n2 c2, .slice A3 n3 c3] 76)) (.cells #[.int .i64 0, .int .i64 0, .int .i64 0, .int .i64 0, .int .i64 0, .int .i64 0, .int .i64 0, .int .i64 0, .slice none 0 0] 79)
    rw [World.size_alloc] at e
    exact e
  have HC := config_any a b c d ((w.alloc (.cells #[.int .i64 a, .int .i64 b, .int .i64 c, .int .i64 d, .int .i64 s, .slice A1 n1 c1, .slice A2 n2 c2, .slice A3 n3 c3] 76)).alloc (.cells #[.int .i64 0, .int .i64 0, .int .i64 0, .int .i64 0, .int .i64 0, .int .i64 0, .int .i64 0, .int .i64 0, .slice none 0 0] 79))
  go_enter Try.func26, Try.ntmps26
  go_wp2_with fail
  generalize ((w.alloc (.cells #[.int .i64 a, .int .i64 b, .int .i64 c, .int .i64 d, .int .i64 s, .slice A1 n1 c1, .slice A2 n2 c2, .slice A3 n3 c3] 76)).alloc (.cells #[.int .i64 0, .int .i64 0, .int .i64 0, .int .i64 0, .int .i64 0, .int .i64 0, .int .i64 0, .int .i64 0, .slice none 0 0] 79)) = wA at hbA hzA hA1 hA2 HC ⊢
  refine HC.mono ?_
  rintro e w1 ⟨n, N, cp, cap, rfl, hc, hN, hb1⟩
  clear hN
  obtain ⟨sh, hsh, hshN⟩ := emod_nat s N hc.hN.1
  have hI := fun w => into13 s N w (by have := hc.hN; omega) (by have := hc.hN; omega)
  rw [hsh] at hI
  have hz1 : w.heap.size + 2 ≤ w1.heap.size := by have := hb1.size; omega
  have hB1 := (hb1.block _ (by omega)).trans hA1
  have hB2 := (hb1.block _ (by omega)).trans hA2
  have hb01 := hbA.trans (hb1.mono (by omega))
  have hbC : Below w1.heap.size w1 (w1.alloc (.cells (confArr n N cp cap) 79)) := (Below.refl _ _).alloc (Nat.le_refl _) _
  have hC3 := heap_alloc_new w1 (.cells (confArr n N cp cap) 79)
  have d4 := cellKeep hbC (cell_of_obj hB1 4)
  have d5 := cell_of_obj hC3 1
  have hmk := fun w => makes_words N (by have := hc.hN; omega) w
  unfold confV
  unfold confArr at hbC hC3 d4 d5
  simp only [List.getElem?_toArray, List.getElem?_cons_zero, List.getElem?_cons_succ] at d4 d5
  go_wp2_with (go_at_call 33; (with_reducible refine (hI _).mono ?_); rintro e w9 ⟨rfl, rfl⟩)
  go_loopw [7, 9] (fun qv iv wr => LaidRel w w.heap.size (w.heap.size + 1) w1.heap.size (w1.heap.size + 1) (loadObj a b c d s A1 A2 A3 n1 n2 n3 c1 c2 c3) n N cp cap sh n1 qv iv wr) (fun _ iv _ => (n1 - intOf iv).toNat)
  case atStart =>
    have hb2 : Below w1.heap.size w1 ((w1.alloc (.cells (confArr n N cp cap) 79)).alloc (cellsObj 95 N (fun _ => .int .u64 0))) := ((Below.refl _ _).alloc (Nat.le_refl _) _).alloc (by simp) _
    have hz2 : ((w1.alloc (.cells (confArr n N cp cap) 79)).alloc (cellsObj 95 N (fun _ => .int .u64 0))).heap.size = w1.heap.size + 2 := by simp
    have h3 : ((w1.alloc (.cells (confArr n N cp cap) 79)).alloc (cellsObj 95 N (fun _ => .int .u64 0))).heap[w1.heap.size]? = some (.cells (confArr n N cp cap) 79 (0, 0)) := by
      rw [Below.heap_alloc _ _ _ (by simp)]; exact heap_alloc_new w1 _
    have h4 : ((w1.alloc (.cells (confArr n N cp cap) 79)).alloc (cellsObj 95 N (fun _ => .int .u64 0))).heap[w1.heap.size + 1]? = some (cellsObj 95 N (fun _ => .int .u64 0)) := by
      have e := heap_alloc_new (w1.alloc (.cells (confArr n N cp cap) 79)) (cellsObj 95 N (fun _ => .int .u64 0))
      rw [World.size_alloc] at e
      exact e
    refine ⟨0, lab (lab (lab (lab (fun _ => 0) w.heap.size 1) (w.heap.size + 1) 2) w1.heap.size 3) (w1.heap.size + 1) 4, [], rfl, by omega, ⟨⟨(hb2.block _ (by omega)).trans hB1, ?_⟩, ⟨(hb2.block _ (by omega)).trans hB2, ?_⟩, ⟨h3, ?_⟩, ⟨h4, lab_eq⟩, .inl ⟨rfl, rfl⟩, fun g hg => by simp [Value.ownBlock] at hg, fun k hk => ?_, hb01.trans (hb2.mono (by omega)), QOk.nil _ _, by omega⟩⟩
    · rw [lab_ne (by omega), lab_ne (by omega), lab_ne (by omega), lab_eq]
    · rw [lab_ne (by omega), lab_ne (by omega), lab_eq]
    · rw [lab_ne (by omega), lab_eq]
    · have hk2 := Nat.le_trans (Nat.le_of_eq hz2.symm) hk
      rw [lab_ne (by omega), lab_ne (by omega), lab_ne (by omega), lab_ne (by omega)]
  case round =>
    obtain ⟨i, ρ, Q, rfl, hi, hA⟩ := hrel
    clear hB1 hB2 hb01 hbC hC3 d4 d5 hmk hI hA1 hA2 hbA
    obtain ⟨Aq, cq, rfl⟩ := OneN.len hA.q
    obtain ⟨m, hm⟩ : ∃ m, Q.length = m := ⟨_, rfl⟩
    have e15 := cell_of_obj hA.o1.1 5
    unfold loadObj at e15
    simp only [List.getElem?_toArray, List.getElem?_cons_zero, List.getElem?_cons_succ] at e15
    by_cases hcond : i < n1 ∧ m < 16
    · obtain ⟨hin, hm16⟩ := hcond
      obtain ⟨g, off, x, rfl, hgl, hcx⟩ := hM i hin
      have hcx' := cellKeep hA.bel hcx
      have e31 := cell_of_obj hA.o3.1 1
      unfold confArr at e31
      simp only [List.getElem?_toArray, List.getElem?_cons_zero, List.getElem?_cons_succ] at e31
      obtain ⟨p, hp, hpN⟩ := emod_nat x N hc.hN.1
      have hI := fun w => into13 x N w (by have := hc.hN; omega) (by have := hc.hN; omega)
      rw [hp] at hI
      have q1 : (i : Int) < (n1 : Int) := by omega
      have q2 : (m : Int) < 16 := by omega
      have q0 : (0 : Int) ≤ (i : Int) := by omega
      rw [hm] at hA ⊢
      have HA := Lib.hid hA
      clear hA hM hcx hp
      go_wp2_with fail
      go_quiet ((go_at_call 33; first | exact Calls.quiet_of_same (unflipS (hI _)) | exact quietAddSame (unflipS (hI _))))
      have hA := HA.out
      clear HA hI
      generalize hwd : wr.drewN _ = wd
      have hbd : Below wr.heap.size wr wd := by rw [← hwd]; exact below_drewN (Below.refl _ wr) _
      have hbase : w.heap.size ≤ wr.heap.size := hA.bel.size
      have KD : Keeps (fun _ => False) wr ρ wd ρ := Keeps.below _ ρ hbd
      have AD := hA.keep KD (hA.free.le KD.1) (hbd.mono hbase) (fun _ _ _ => id)
      clear hwd hbd KD hA e15 e31 hcx'
      by_cases hps : (p : Int) = (sh : Int)
      · go_wp2
        exact ⟨⟨i + 1, ρ, Q, by go_num, by omega, AD⟩, by simp [intOf]; omega⟩
      · obtain ⟨cn, hcn⟩ : ∃ cn, cnt Q (p : Nat) = cn := ⟨_, rfl⟩
        have hcn16 : cn ≤ 16 := by have := cnt_le Q (p : Nat); omega
        have qp0 : (0 : Int) ≤ (p : Int) := by omega
        have qp1 : (p : Int) < (N : Int) := by omega
        have e4 : wd.cell? ⟨w1.heap.size + 1, p, none⟩ = some (.int .u64 (cn : Nat)) := by
          have := obj_cell AD.o4.1 p hpN
          rw [hcn] at this
          exact this
        have f4 := free_of_obj AD.o4.1 p
        go_wp2_with fail
        have o6 : OnlyB wd (wd.setCell ⟨w1.heap.size + 1, p, none⟩ (.int .u64 ((cn : Int) + 1))) (w1.heap.size + 1) (cellsObj 95 N (setc (fun j => .int .u64 (cnt Q (j : Nat) : Nat)) p (.int .u64 ((cn : Int) + 1)))) := OnlyB.objSet AD.o4.1 p _
        have K6 : Keeps (fun r => r = 4) wd ρ (wd.setCell ⟨w1.heap.size + 1, p, none⟩ (.int .u64 ((cn : Int) + 1))) ρ := Keeps.only ρ o6 AD.o4.2
        have L6 := o6.below AD.lo
        have O6 := o6.at_ (lt_of_obj AD.o4.1)
        generalize wd.setCell ⟨w1.heap.size + 1, p, none⟩ (.int .u64 ((cn : Int) + 1)) = w6 at o6 K6 L6 O6 ⊢
        have c6 : w6.cell? ⟨w1.heap.size + 1, p, none⟩ = some (.int .u64 ((cn : Int) + 1)) := by
          have := obj_cell O6 p hpN
          rw [setc_eq] at this
          exact this
        have hcv : ∀ W : World, W.cell? ⟨w6.heap.size, 0, none⟩ = some (.int .u8 (IntKind.u8.wrap (97 + IntKind.u8.wrap (m : Int)))) → (convert 98 9 (.slice (some ⟨w6.heap.size, 0, none⟩) 1 1)).run Try.prog W = .ok (.string (strOfNums [(IntKind.u8.wrap (97 + IntKind.u8.wrap (m : Int)))])) W := fun W hW =>
          run_convert_bytes_arg W 98 5 Try.underlying98 Try.underlying5 w6.heap.size 0 1 1 [(IntKind.u8.wrap (97 + IntKind.u8.wrap (m : Int)))] rfl (fun i hi => by
            obtain rfl : i = 0 := by omega
            exact hW) 9 Try.underlying9
        have hb7 : Below w6.heap.size w6 ((w6.alloc (.cells #[.int .u8 (IntKind.u8.wrap (97 + IntKind.u8.wrap (m : Int)))] 5)).alloc (.cells #[.int .i64 p, .int .u64 ((cn : Int) + 1), .string (strOfNums [(IntKind.u8.wrap (97 + IntKind.u8.wrap (m : Int)))]), .int .u64 (IntKind.u64.wrap (IntKind.i64.wrap (10 + (m : Int))))] 104)) := ((Below.refl _ _).alloc (Nat.le_refl _) _).alloc (by simp) _
        have K7 := K6.trans (Keeps.below _ ρ hb7)
        have F7 := AD.free.le K7.1
        have hb67 : w.heap.size ≤ w6.heap.size := Nat.le_trans AD.bel.size L6.size
        have L7 := L6.trans (hb7.mono hb67)
        have n7 : ∀ j u, [.int .i64 p, .int .u64 ((cn : Int) + 1), .string (strOfNums [(IntKind.u8.wrap (97 + IntKind.u8.wrap (m : Int)))]), .int .u64 (IntKind.u64.wrap (IntKind.i64.wrap (10 + (m : Int))))][j]? = some u → ((w6.alloc (.cells #[.int .u8 (IntKind.u8.wrap (97 + IntKind.u8.wrap (m : Int)))] 5)).alloc (.cells #[.int .i64 p, .int .u64 ((cn : Int) + 1), .string (strOfNums [(IntKind.u8.wrap (97 + IntKind.u8.wrap (m : Int)))]), .int .u64 (IntKind.u64.wrap (IntKind.i64.wrap (10 + (m : Int))))] 104)).cell? ((⟨w6.heap.size + 1, 0, none⟩ : Addr).add j) = some u := by
          have := World.news_of_block (heap_alloc_new (w6.alloc (.cells #[.int .u8 (IntKind.u8.wrap (97 + IntKind.u8.wrap (m : Int)))] 5)) (.cells #[.int .i64 p, .int .u64 ((cn : Int) + 1), .string (strOfNums [(IntKind.u8.wrap (97 + IntKind.u8.wrap (m : Int)))]), .int .u64 (IntKind.u64.wrap (IntKind.i64.wrap (10 + (m : Int))))] 104))
          rw [World.size_alloc] at this
          exact this
        obtain ⟨en, hen⟩ : ∃ en : Ent, en = ⟨p, ((cn + 1 : Nat) : Int), (strOfNums [(IntKind.u8.wrap (97 + IntKind.u8.wrap (m : Int)))]), (IntKind.u64.wrap (IntKind.i64.wrap (10 + (m : Int))))⟩ := ⟨_, rfl⟩
        have hq7 : One ((w6.alloc (.cells #[.int .u8 (IntKind.u8.wrap (97 + IntKind.u8.wrap (m : Int)))] 5)).alloc (.cells #[.int .i64 p, .int .u64 ((cn : Int) + 1), .string (strOfNums [(IntKind.u8.wrap (97 + IntKind.u8.wrap (m : Int)))]), .int .u64 (IntKind.u64.wrap (IntKind.i64.wrap (10 + (m : Int))))] 104)) w.heap.size 104 4 (.slice Aq m cq) m (cQ (Q ++ [en])) := by
          have h1 := (OneN.keep AD.q AD.qr K7 (by omega)).1
          rw [hm] at h1
          exact h1.congr fun k hk => by
            unfold cQ
            rw [List.getElem?_append_left (by omega)]
        have hnc : ∀ k, k < 1 * 4 → [.int .i64 p, .int .u64 ((cn : Int) + 1), .string (strOfNums [(IntKind.u8.wrap (97 + IntKind.u8.wrap (m : Int)))]), .int .u64 (IntKind.u64.wrap (IntKind.i64.wrap (10 + (m : Int))))][k]? = some (cQ (Q ++ [en]) (m * 4 + k)) := fun k hk => by
          rw [cQ_at (Q ++ [en]) m k (by omega) (e := en) (by rw [← hm]; simp)]
          subst hen
          match k, hk with
          | 0, _ => rfl
          | 1, _ => rfl
          | 2, _ => rfl
          | 3, _ => rfl
        have hsz7 : w.heap.size ≤ ((w6.alloc (.cells #[.int .u8 (IntKind.u8.wrap (97 + IntKind.u8.wrap (m : Int)))] 5)).alloc (.cells #[.int .i64 p, .int .u64 ((cn : Int) + 1), .string (strOfNums [(IntKind.u8.wrap (97 + IntKind.u8.wrap (m : Int)))]), .int .u64 (IntKind.u64.wrap (IntKind.i64.wrap (10 + (m : Int))))] 104)).heap.size := Nat.le_trans hb67 hb7.size
        have hfin : ∀ (g8 cap8 : Nat) (w8 : World), One w8 w.heap.size 104 4 (.slice (some ⟨g8, 0, none⟩) (m + 1) cap8) (m + 1) (cQ (Q ++ [en])) → World.grownBy ((w6.alloc (.cells #[.int .u8 (IntKind.u8.wrap (97 + IntKind.u8.wrap (m : Int)))] 5)).alloc (.cells #[.int .i64 p, .int .u64 ((cn : Int) + 1), .string (strOfNums [(IntKind.u8.wrap (97 + IntKind.u8.wrap (m : Int)))]), .int .u64 (IntKind.u64.wrap (IntKind.i64.wrap (10 + (m : Int))))] 104)) w8 (Value.slice Aq m cq).ownBlock → ((Value.slice Aq m cq).ownBlock = some g8 ∨ g8 = ((w6.alloc (.cells #[.int .u8 (IntKind.u8.wrap (97 + IntKind.u8.wrap (m : Int)))] 5)).alloc (.cells #[.int .i64 p, .int .u64 ((cn : Int) + 1), .string (strOfNums [(IntKind.u8.wrap (97 + IntKind.u8.wrap (m : Int)))]), .int .u64 (IntKind.u64.wrap (IntKind.i64.wrap (10 + (m : Int))))] 104)).heap.size) →
            LaidAt w w8 (lab ρ g8 5) w.heap.size (w.heap.size + 1) w1.heap.size (w1.heap.size + 1) (loadObj a b c d s (some ⟨g, off, none⟩) A2 A3 n1 n2 n3 c1 c2 c3) n N cp cap sh (Q ++ [en]) (.slice (some ⟨g8, 0, none⟩) (m + 1) cap8) := by
          intro g8 cap8 w8 ho8 hg8 hat8
          have hlt := (ho8.block (g := g8) rfl).2
          have K8 : Keeps (fun r => r = 5) ((w6.alloc (.cells #[.int .u8 (IntKind.u8.wrap (97 + IntKind.u8.wrap (m : Int)))] 5)).alloc (.cells #[.int .i64 p, .int .u64 ((cn : Int) + 1), .string (strOfNums [(IntKind.u8.wrap (97 + IntKind.u8.wrap (m : Int)))]), .int .u64 (IntKind.u64.wrap (IntKind.i64.wrap (10 + (m : Int))))] 104)) ρ w8 (lab ρ g8 5) := Keeps.grown hg8 AD.qr rfl hat8
          have K9 := (K7.mono (R' := fun r => r = 4 ∨ r = 5) (fun r hr => .inl hr)).trans (K8.mono (fun r hr => .inr hr))
          have o4 : Objr w8 (lab ρ g8 5) 4 _ _ := Objr.keep (Objr.keep ⟨O6, AD.o4.2⟩ (Keeps.below (fun _ => False) ρ hb7) id) K8 (by omega)
          have hcs : setc (fun j => Value.int .u64 (cnt Q (j : Nat) : Nat)) p (.int .u64 ((cn : Int) + 1)) = fun j => .int .u64 (cnt (Q ++ [en]) (j : Nat) : Nat) := by
            funext j
            rw [cnt_add]
            by_cases hj : j = p
            · subst hj
              rw [setc_eq, hcn, if_pos (by rw [hen]), Int.natCast_add]
              rfl
            · rw [setc_ne hj, if_neg (by rw [hen]; intro e; apply hj; have e' : (p : Int) = (j : Int) := e; omega), Nat.add_zero]
          rw [hcs] at o4
          have hle : (Q ++ [en]).length = m + 1 := by simp [hm]
          refine ⟨AD.o1.keep K9 (by omega), AD.o2.keep K9 (by omega), AD.o3.keep K9 (by omega), o4, by rw [hle]; exact ho8, fun g' hg' => ?_, F7.lab hg8.size hlt _, (AD.bel.trans L7).trans (grown_belowN hg8 (fun g' hg' => (AD.q.block hg').1) hsz7), ?_, AD.lo⟩
          · simp [Value.ownBlock] at hg'
            subst hg'
            exact lab_eq
          · rw [hen, ← hcn]
            exact AD.ok.add (by omega) p hpN hps _ _
        obtain ⟨k0', hkk, kz0, kz1, kz2⟩ := info_parts ent_info
        have HF := Lib.hid hfin
        have HN := Lib.hid hnc
        have c7 : (w6.alloc (.cells #[.int .u8 (IntKind.u8.wrap (97 + IntKind.u8.wrap (m : Int)))] 5)).cell? ⟨w1.heap.size + 1, p, none⟩ = some (.int .u64 ((cn : Int) + 1)) := cellKeep ((Below.refl _ _).alloc (Nat.le_refl _) _) c6
        have c8 := cellKeep hb7 c6
        have hlt4 := Nat.lt_of_lt_of_le (lt_of_obj O6) hb7.size
        have hne4 : ∀ x, (Value.slice Aq m cq).ownBlock = some x → x ≠ w1.heap.size + 1 := fun x hx e => by
          have h5 := AD.qr x hx
          have h4 := AD.o4.2
          rw [e] at h5
          omega
        clear hnc hb7 L6 K6 hen o6 AD hfin L7 F7 K7 hne4 hlt4 c8
        go_region_law ((first | (refine step_append_marked _ (by rfl) (.tmp 57) (.tmp 74) 80 (by rfl) w.heap.size 104 k0' entZero 4 40 Try.underlying80 hkk kz0 kz1 kz2 rfl (by decide) (.slice Aq m cq) m (cQ (Q ++ [en])) (by rfl) hq7 ⟨w6.heap.size + 1, 0, none⟩ 1 1 [.int .i64 p, .int .u64 ((cn : Int) + 1), .string (strOfNums [(IntKind.u8.wrap (97 + IntKind.u8.wrap (m : Int)))]), .int .u64 (IntKind.u64.wrap (IntKind.i64.wrap (10 + (m : Int))))] (by rfl) (by rfl) HN.out n7 (by simp [Value.oneCell']) (by omega) (by unfold maxLen; omega) (by omega) hsz7 ?_; intro g8 cap8 w8 ho8 hgrow8 hat8) | fail))
        all_goals
          go_wp2
          exact ⟨⟨i + 1, _, Q ++ [en], by go_num, by omega, HF.out _ _ _ ho8 (by first | exact hgrow8 | exact ⟨hgrow8.os, hgrow8.tape, hgrow8.output, hgrow8.size, hgrow8.block⟩) (by simpa using hat8)⟩, by simp [intOf]; omega⟩
    · have hcond' : ¬ ((i : Int) < (n1 : Int)) ∨ (((i : Int) < (n1 : Int)) ∧ ¬ ((m : Int) < 16)) := by omega
      have e30 := cell_of_obj hA.o3.1 0
      have e31 := cell_of_obj hA.o3.1 1
      have e32 := cell_of_obj hA.o3.1 2
      have e33 := cell_of_obj hA.o3.1 3
      have e34 := cell_of_obj hA.o3.1 4
      have e35 := cell_of_obj hA.o3.1 5
      have e36 := cell_of_obj hA.o3.1 6
      have e37 := cell_of_obj hA.o3.1 7
      have e38 := cell_of_obj hA.o3.1 8
      unfold confArr at e30 e31 e32 e33 e34 e35 e36 e37 e38
      simp only [List.getElem?_toArray, List.getElem?_cons_zero, List.getElem?_cons_succ] at e30 e31 e32 e33 e34 e35 e36 e37 e38
      have e20 := cell_of_obj hA.o2.1 0
      have e21 := cell_of_obj hA.o2.1 1
      have e22 := cell_of_obj hA.o2.1 2
      have e23 := cell_of_obj hA.o2.1 3
      have e24 := cell_of_obj hA.o2.1 4
      have e25 := cell_of_obj hA.o2.1 5
      have e26 := cell_of_obj hA.o2.1 6
      have e27 := cell_of_obj hA.o2.1 7
      have e28 := cell_of_obj hA.o2.1 8
      simp only [List.getElem?_toArray, List.getElem?_cons_zero, List.getElem?_cons_succ] at e20 e21 e22 e23 e24 e25 e26 e27 e28
      have f20 := free_of_obj hA.o2.1 0
      have f21 := free_of_obj hA.o2.1 1
      have f22 := free_of_obj hA.o2.1 2
      have f23 := free_of_obj hA.o2.1 3
      have f24 := free_of_obj hA.o2.1 4
      have f25 := free_of_obj hA.o2.1 5
      have f26 := free_of_obj hA.o2.1 6
      have f27 := free_of_obj hA.o2.1 7
      have f28 := free_of_obj hA.o2.1 8
      rw [hm] at hA ⊢
      have p0 : OnlyB wr (wr.setCell ⟨w.heap.size + 1, 0, none⟩ (.int .i64 (n : Nat))) (w.heap.size + 1) (.cells #[.int .i64 (n : Nat), .int .i64 0, .int .i64 0, .int .i64 0, .int .i64 0, .int .i64 0, .int .i64 0, .int .i64 0, .slice none 0 0] 79 (0, 0)) := OnlyB.set (OnlyB.refl hA.o2.1) (lt_of_obj hA.o2.1) 0 _
      have p1 : OnlyB wr ((wr.setCell ⟨w.heap.size + 1, 0, none⟩ (.int .i64 (n : Nat))).setCell ⟨w.heap.size + 1, 1, none⟩ (.int .i64 (N : Nat))) (w.heap.size + 1) (.cells #[.int .i64 (n : Nat), .int .i64 (N : Nat), .int .i64 0, .int .i64 0, .int .i64 0, .int .i64 0, .int .i64 0, .int .i64 0, .slice none 0 0] 79 (0, 0)) := OnlyB.set p0 (lt_of_obj hA.o2.1) 1 _
      have p2 : OnlyB wr (((wr.setCell ⟨w.heap.size + 1, 0, none⟩ (.int .i64 (n : Nat))).setCell ⟨w.heap.size + 1, 1, none⟩ (.int .i64 (N : Nat))).setCell ⟨w.heap.size + 1, 2, none⟩ (.int .i64 (cp : Nat))) (w.heap.size + 1) (.cells #[.int .i64 (n : Nat), .int .i64 (N : Nat), .int .i64 (cp : Nat), .int .i64 0, .int .i64 0, .int .i64 0, .int .i64 0, .int .i64 0, .slice none 0 0] 79 (0, 0)) := OnlyB.set p1 (lt_of_obj hA.o2.1) 2 _
      have p3 : OnlyB wr ((((wr.setCell ⟨w.heap.size + 1, 0, none⟩ (.int .i64 (n : Nat))).setCell ⟨w.heap.size + 1, 1, none⟩ (.int .i64 (N : Nat))).setCell ⟨w.heap.size + 1, 2, none⟩ (.int .i64 (cp : Nat))).setCell ⟨w.heap.size + 1, 3, none⟩ (.int .i64 1)) (w.heap.size + 1) (.cells #[.int .i64 (n : Nat), .int .i64 (N : Nat), .int .i64 (cp : Nat), .int .i64 1, .int .i64 0, .int .i64 0, .int .i64 0, .int .i64 0, .slice none 0 0] 79 (0, 0)) := OnlyB.set p2 (lt_of_obj hA.o2.1) 3 _
      have p4 : OnlyB wr (((((wr.setCell ⟨w.heap.size + 1, 0, none⟩ (.int .i64 (n : Nat))).setCell ⟨w.heap.size + 1, 1, none⟩ (.int .i64 (N : Nat))).setCell ⟨w.heap.size + 1, 2, none⟩ (.int .i64 (cp : Nat))).setCell ⟨w.heap.size + 1, 3, none⟩ (.int .i64 1)).setCell ⟨w.heap.size + 1, 4, none⟩ (.int .i64 16)) (w.heap.size + 1) (.cells #[.int .i64 (n : Nat), .int .i64 (N : Nat), .int .i64 (cp : Nat), .int .i64 1, .int .i64 16, .int .i64 0, .int .i64 0, .int .i64 0, .slice none 0 0] 79 (0, 0)) := OnlyB.set p3 (lt_of_obj hA.o2.1) 4 _
      have p5 : OnlyB wr ((((((wr.setCell ⟨w.heap.size + 1, 0, none⟩ (.int .i64 (n : Nat))).setCell ⟨w.heap.size + 1, 1, none⟩ (.int .i64 (N : Nat))).setCell ⟨w.heap.size + 1, 2, none⟩ (.int .i64 (cp : Nat))).setCell ⟨w.heap.size + 1, 3, none⟩ (.int .i64 1)).setCell ⟨w.heap.size + 1, 4, none⟩ (.int .i64 16)).setCell ⟨w.heap.size + 1, 5, none⟩ (.int .i64 (cap : Nat))) (w.heap.size + 1) (.cells #[.int .i64 (n : Nat), .int .i64 (N : Nat), .int .i64 (cp : Nat), .int .i64 1, .int .i64 16, .int .i64 (cap : Nat), .int .i64 0, .int .i64 0, .slice none 0 0] 79 (0, 0)) := OnlyB.set p4 (lt_of_obj hA.o2.1) 5 _
      have p6 : OnlyB wr (((((((wr.setCell ⟨w.heap.size + 1, 0, none⟩ (.int .i64 (n : Nat))).setCell ⟨w.heap.size + 1, 1, none⟩ (.int .i64 (N : Nat))).setCell ⟨w.heap.size + 1, 2, none⟩ (.int .i64 (cp : Nat))).setCell ⟨w.heap.size + 1, 3, none⟩ (.int .i64 1)).setCell ⟨w.heap.size + 1, 4, none⟩ (.int .i64 16)).setCell ⟨w.heap.size + 1, 5, none⟩ (.int .i64 (cap : Nat))).setCell ⟨w.heap.size + 1, 6, none⟩ (.int .i64 64)) (w.heap.size + 1) (.cells #[.int .i64 (n : Nat), .int .i64 (N : Nat), .int .i64 (cp : Nat), .int .i64 1, .int .i64 16, .int .i64 (cap : Nat), .int .i64 64, .int .i64 0, .slice none 0 0] 79 (0, 0)) := OnlyB.set p5 (lt_of_obj hA.o2.1) 6 _
      have p7 : OnlyB wr ((((((((wr.setCell ⟨w.heap.size + 1, 0, none⟩ (.int .i64 (n : Nat))).setCell ⟨w.heap.size + 1, 1, none⟩ (.int .i64 (N : Nat))).setCell ⟨w.heap.size + 1, 2, none⟩ (.int .i64 (cp : Nat))).setCell ⟨w.heap.size + 1, 3, none⟩ (.int .i64 1)).setCell ⟨w.heap.size + 1, 4, none⟩ (.int .i64 16)).setCell ⟨w.heap.size + 1, 5, none⟩ (.int .i64 (cap : Nat))).setCell ⟨w.heap.size + 1, 6, none⟩ (.int .i64 64)).setCell ⟨w.heap.size + 1, 7, none⟩ (.int .i64 100)) (w.heap.size + 1) (.cells #[.int .i64 (n : Nat), .int .i64 (N : Nat), .int .i64 (cp : Nat), .int .i64 1, .int .i64 16, .int .i64 (cap : Nat), .int .i64 64, .int .i64 100, .slice none 0 0] 79 (0, 0)) := OnlyB.set p6 (lt_of_obj hA.o2.1) 7 _
      have p8 : OnlyB wr (((((((((wr.setCell ⟨w.heap.size + 1, 0, none⟩ (.int .i64 (n : Nat))).setCell ⟨w.heap.size + 1, 1, none⟩ (.int .i64 (N : Nat))).setCell ⟨w.heap.size + 1, 2, none⟩ (.int .i64 (cp : Nat))).setCell ⟨w.heap.size + 1, 3, none⟩ (.int .i64 1)).setCell ⟨w.heap.size + 1, 4, none⟩ (.int .i64 16)).setCell ⟨w.heap.size + 1, 5, none⟩ (.int .i64 (cap : Nat))).setCell ⟨w.heap.size + 1, 6, none⟩ (.int .i64 64)).setCell ⟨w.heap.size + 1, 7, none⟩ (.int .i64 100)).setCell ⟨w.heap.size + 1, 8, none⟩ (.slice none 0 0)) (w.heap.size + 1) (.cells #[.int .i64 (n : Nat), .int .i64 (N : Nat), .int .i64 (cp : Nat), .int .i64 1, .int .i64 16, .int .i64 (cap : Nat), .int .i64 64, .int .i64 100, .slice none 0 0] 79 (0, 0)) := OnlyB.set p7 (lt_of_obj hA.o2.1) 8 _
      have o9 : OnlyB wr (((((((((wr.setCell ⟨w.heap.size + 1, 0, none⟩ (.int .i64 (n : Nat))).setCell ⟨w.heap.size + 1, 1, none⟩ (.int .i64 (N : Nat))).setCell ⟨w.heap.size + 1, 2, none⟩ (.int .i64 (cp : Nat))).setCell ⟨w.heap.size + 1, 3, none⟩ (.int .i64 1)).setCell ⟨w.heap.size + 1, 4, none⟩ (.int .i64 16)).setCell ⟨w.heap.size + 1, 5, none⟩ (.int .i64 (cap : Nat))).setCell ⟨w.heap.size + 1, 6, none⟩ (.int .i64 64)).setCell ⟨w.heap.size + 1, 7, none⟩ (.int .i64 100)).setCell ⟨w.heap.size + 1, 8, none⟩ (.slice none 0 0)) (w.heap.size + 1) (.cells (confArr n N cp cap) 79 (0, 0)) := p8
      clear p0 p1 p2 p3 p4 p5 p6 p7 p8
      have HA := Lib.hid hA
      have H9 := Lib.hid o9
      clear hA hM o9
      rcases hcond' with hcc | ⟨hcc, hcc2⟩
      all_goals
        go_wp2
        have o9 := H9.out
        have L9 := o9.below (B := w.heap.size) (by omega)
        have q9 := (OneN.keep HA.out.q HA.out.qr (Keeps.only (R := fun r => r = 2) ρ o9 HA.out.o2.2) (by omega)).1
        have hbl := HA.out.bel.trans L9
        generalize (((((((((wr.setCell ⟨w.heap.size + 1, 0, none⟩ (.int .i64 (n : Nat))).setCell ⟨w.heap.size + 1, 1, none⟩ (.int .i64 (N : Nat))).setCell ⟨w.heap.size + 1, 2, none⟩ (.int .i64 (cp : Nat))).setCell ⟨w.heap.size + 1, 3, none⟩ (.int .i64 1)).setCell ⟨w.heap.size + 1, 4, none⟩ (.int .i64 16)).setCell ⟨w.heap.size + 1, 5, none⟩ (.int .i64 (cap : Nat))).setCell ⟨w.heap.size + 1, 6, none⟩ (.int .i64 64)).setCell ⟨w.heap.size + 1, 7, none⟩ (.int .i64 100)).setCell ⟨w.heap.size + 1, 8, none⟩ (.slice none 0 0)) = w9 at o9 q9 hbl ⊢
        have x9 := o9.at_ (lt_of_obj HA.out.o2.1)
        clear L9
        have x0 := cell_of_obj x9 0
        have x1 := cell_of_obj x9 1
        have x2 := cell_of_obj x9 2
        have x3 := cell_of_obj x9 3
        have x4 := cell_of_obj x9 4
        have x5 := cell_of_obj x9 5
        have x6 := cell_of_obj x9 6
        have x7 := cell_of_obj x9 7
        have x8 := cell_of_obj x9 8
        unfold confArr at x0 x1 x2 x3 x4 x5 x6 x7 x8
        simp only [List.getElem?_toArray, List.getElem?_cons_zero, List.getElem?_cons_succ] at x0 x1 x2 x3 x4 x5 x6 x7 x8
        refine bodyPost_ret (v := .tuple #[confV n N cp cap, .int .i64 (sh : Nat), .slice Aq m cq]) (by simp [confV, results, Try.results26, go_sem, x0, x1, x2, x3, x4, x5, x6, x7, x8]) rfl ⟨n, N, cp, cap, sh, Q, _, rfl, hc, hshN, HA.out.ok, q9, hbl⟩
end Go.Proofs.Ytbgojhjlmlbfpaa
