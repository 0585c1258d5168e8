/- tallylaw3.Shelf that keeps lists of ints alone: what it holds ('ShelfI'), holds, Same. -/
import Derived.Test.YtbgojhjlmlbfpaaShelfB
import Derived.Test.YtbgojhjlmlbfpaaPlD
namespace Go.Proofs.Ytbgojhjlmlbfpaa
open Go.RowKit

def ints (L : List Int) : List Value := L.map (Value.int .i64)
structure ShelfI (w : World) (base : Nat) (ρ : Nat → Nat) (S : Nat) (f : Nat → Value) (V O : List Value) (D : List (List Int)) : Prop where
  blk : Objr w ρ 1 S (cellsObj 30 11 f)
  rest : ∀ k, 3 ≤ k → k < 11 → f k = .slice none 0 0
  iv : Lst w base ρ 2 31 (f 1) V.length (lst V)
  ov : Lst w base ρ 3 31 (f 2) O.length (lst O)
  vals : ∀ (i : Nat) (v : Value), V[i]? = some v → ∃ L, D[i]? = some L ∧ L.length ≤ 100 ∧ Lst w base ρ (9 + i) 3 v L.length (lst (ints L))
  olds : ∀ (i : Nat) (v : Value), O[i]? = some v → ∃ L, D[i]? = some L ∧ Lst w base ρ 4 3 v L.length (lst (ints L))
theorem ShelfI.keep {R : Nat → Prop} {w w' : World} {base S : Nat} {ρ ρ' : Nat → Nat} {f : Nat → Value} {V O : List Value} {D : List (List Int)} (h : ShelfI w base ρ S f V O D) (hK : Keeps R w ρ w' ρ')
    (h1 : ¬ R 1) (h2 : ¬ R 2) (h3 : ¬ R 3) (h4 : ¬ R 4) (h9 : ∀ r, 9 ≤ r → ¬ R r) : ShelfI w' base ρ' S f V O D :=
  ⟨h.blk.keep hK h1, h.rest, h.iv.keep hK h2, h.ov.keep hK h3, fun i v hi => by
    obtain ⟨L, a, b, c⟩ := h.vals i v hi
    exact ⟨L, a, b, c.keep hK (h9 _ (by omega))⟩, fun i v hi => by
    obtain ⟨L, a, c⟩ := h.olds i v hi
    exact ⟨L, a, c.keep hK h4⟩⟩
theorem ShelfI.more {w : World} {base S : Nat} {ρ : Nat → Nat} {f : Nat → Value} {V O : List Value} {D : List (List Int)} (h : ShelfI w base ρ S f V O D) (L : List Int) : ShelfI w base ρ S f V O (D ++ [L]) :=
  ⟨h.blk, h.rest, h.iv, h.ov, fun i v hi => by
    obtain ⟨L', a, b, c⟩ := h.vals i v hi
    exact ⟨L', by rw [List.getElem?_append_left (List.getElem?_eq_some_iff.1 a).1]; exact a, b, c⟩, fun i v hi => by
    obtain ⟨L', a, c⟩ := h.olds i v hi
    exact ⟨L', by rw [List.getElem?_append_left (List.getElem?_eq_some_iff.1 a).1]; exact a, c⟩⟩
/-- The shelf's block put anew, its lists as they were. -/
theorem ShelfI.only {w w' : World} {base S : Nat} {ρ : Nat → Nat} {f f' : Nat → Value} {V O : List Value} {D : List (List Int)} (h : ShelfI w base ρ S f V O D) (o : OnlyB w w' S (cellsObj 30 11 f')) (hr : ∀ k, 1 ≤ k → f' k = f k) :
    ShelfI w' base ρ S f' V O D ∧ Keeps (fun r => r = 1) w ρ w' ρ := by
  have hK : Keeps (fun r => r = 1) w ρ w' ρ := Keeps.only ρ o h.blk.2
  refine ⟨⟨⟨o.at_ (lt_of_obj h.blk.1), h.blk.2⟩, fun k a b => by rw [hr k (by omega)]; exact h.rest k a b, by rw [hr 1 (by omega)]; exact h.iv.keep hK (by omega), by rw [hr 2 (by omega)]; exact h.ov.keep hK (by omega), fun i v hi => ?_, fun i v hi => ?_⟩, hK⟩
  · obtain ⟨L, a, b, c⟩ := h.vals i v hi
    exact ⟨L, a, b, c.keep hK (by omega)⟩
  · obtain ⟨L, a, c⟩ := h.olds i v hi
    exact ⟨L, a, c.keep hK (by omega)⟩
theorem last_at {α : Type} {V : List α} {v u : α} {i : Nat} (h : (V ++ [v])[i]? = some u) : (i < V.length ∧ V[i]? = some u) ∨ (i = V.length ∧ u = v) := by
  by_cases hi : i < V.length
  · rw [List.getElem?_append_left hi] at h
    exact .inl ⟨hi, h⟩
  · rw [List.getElem?_append_right (by omega)] at h
    have e : i = V.length := by
      rcases Nat.lt_or_ge (i - V.length) 1 with h' | h'
      · omega
      · rw [List.getElem?_eq_none (by simpa using h')] at h; cases h
    subst e
    simp at h
    exact .inr ⟨rfl, h.symm⟩
/-- x.ints = append(x.ints, v). -/
theorem ShelfI.pushV {w w' : World} {base S g cap N : Nat} {ρ : Nat → Nat} {f : Nat → Value} {V O : List Value} {D : List (List Int)} {L : List Int} {v : Value} (h : ShelfI w base ρ S f V O D) (hN : V.length = N)
    (hown : w'.ownsRow base 31 1 (.slice (some ⟨g, 0, none⟩) (N + 1) cap) (N + 1) (V ++ [v])) (hg : w.grownBy w' (f 1).ownBlock) (hat : (f 1).ownBlock = some g ∨ g = w.heap.size) (hlt : g < w'.heap.size)
    (hv : Lst w base ρ (9 + N) 3 v L.length (lst (ints L))) (hL : L.length ≤ 100) (hD : D[N]? = some L) (hfree : Free w ρ) (hS : base ≤ S) :
    w'.heap[S]? = some (cellsObj 30 11 f) ∧ ShelfI (w'.setCell ⟨S, 1, none⟩ (.slice (some ⟨g, 0, none⟩) (N + 1) cap)) base (lab ρ g 2) S (setc f 1 (.slice (some ⟨g, 0, none⟩) (N + 1) cap)) (V ++ [v]) O D ∧
      Keeps (fun r => r = 1 ∨ r = 2) w ρ (w'.setCell ⟨S, 1, none⟩ (.slice (some ⟨g, 0, none⟩) (N + 1) cap)) (lab ρ g 2) ∧ Free (w'.setCell ⟨S, 1, none⟩ (.slice (some ⟨g, 0, none⟩) (N + 1) cap)) (lab ρ g 2) ∧
      Below base w (w'.setCell ⟨S, 1, none⟩ (.slice (some ⟨g, 0, none⟩) (N + 1) cap)) := by
  have hK : Keeps (fun r => r = 2) w ρ w' (lab ρ g 2) := Keeps.grown hg h.iv.2 rfl hat
  have hZ := h.blk.keep hK (by omega)
  have ho := OnlyB.objSet hZ.1 1 (.slice (some ⟨g, 0, none⟩) (N + 1) cap)
  have hK2 : Keeps (fun r => r = 1) w' (lab ρ g 2) (w'.setCell ⟨S, 1, none⟩ (.slice (some ⟨g, 0, none⟩) (N + 1) cap)) (lab ρ g 2) := Keeps.only _ ho hZ.2
  have hlS := lt_of_obj h.blk.1
  have hrow : Lst w' base (lab ρ g 2) 2 31 (.slice (some ⟨g, 0, none⟩) (N + 1) cap) (N + 1) (lst (V ++ [v])) := Lst.ofRow hown (fun g' hg' => by
    simp [Value.ownBlock] at hg'
    subst hg'
    exact lab_eq)
  have hK3 : Keeps (fun r => r = 1 ∨ r = 2) w ρ (w'.setCell ⟨S, 1, none⟩ (.slice (some ⟨g, 0, none⟩) (N + 1) cap)) (lab ρ g 2) := (hK.mono fun r hr => .inr hr).trans (hK2.mono fun r hr => .inl hr)
  refine ⟨hZ.1, ⟨⟨ho.at_ (lt_of_obj hZ.1), hZ.2⟩, fun k a b => by rw [setc_ne (by omega)]; exact h.rest k a b, ?_, ?_, ?_, ?_⟩, hK3, (hfree.lab hg.size hlt 2).le (by rw [ho.size]; exact Nat.le_refl _), (grown_belowL hg (fun g' hg' => (h.iv.1.block hg').1) (by omega)).trans (ho.below hS)⟩
  · rw [setc_eq]
    have := hrow.keep hK2 (by omega)
    simpa [hN] using this
  · rw [setc_ne (by omega)]
    exact h.ov.keep hK3 (by omega)
  · intro i u hi
    rcases last_at hi with ⟨_, hi⟩ | ⟨rfl, rfl⟩
    · obtain ⟨L', a, b, c⟩ := h.vals i u hi
      exact ⟨L', a, b, c.keep hK3 (by omega)⟩
    · rw [hN]
      exact ⟨L, hD, hL, hv.keep hK3 (by omega)⟩
  · intro i u hi
    obtain ⟨L', a, c⟩ := h.olds i u hi
    exact ⟨L', a, c.keep hK3 (by omega)⟩
/-- x.old = append(x.old, o). -/
theorem ShelfI.pushO {w w' : World} {base S g cap N : Nat} {ρ : Nat → Nat} {f : Nat → Value} {V O : List Value} {D : List (List Int)} {L : List Int} {v : Value} (h : ShelfI w base ρ S f V O D) (hN : O.length = N)
    (hown : w'.ownsRow base 31 1 (.slice (some ⟨g, 0, none⟩) (N + 1) cap) (N + 1) (O ++ [v])) (hg : w.grownBy w' (f 2).ownBlock) (hat : (f 2).ownBlock = some g ∨ g = w.heap.size) (hlt : g < w'.heap.size)
    (hv : Lst w base ρ 4 3 v L.length (lst (ints L))) (hD : D[N]? = some L) (hfree : Free w ρ) (hS : base ≤ S) :
    w'.heap[S]? = some (cellsObj 30 11 f) ∧ ShelfI (w'.setCell ⟨S, 2, none⟩ (.slice (some ⟨g, 0, none⟩) (N + 1) cap)) base (lab ρ g 3) S (setc f 2 (.slice (some ⟨g, 0, none⟩) (N + 1) cap)) V (O ++ [v]) D ∧
      Keeps (fun r => r = 1 ∨ r = 3) w ρ (w'.setCell ⟨S, 2, none⟩ (.slice (some ⟨g, 0, none⟩) (N + 1) cap)) (lab ρ g 3) ∧ Free (w'.setCell ⟨S, 2, none⟩ (.slice (some ⟨g, 0, none⟩) (N + 1) cap)) (lab ρ g 3) ∧
      Below base w (w'.setCell ⟨S, 2, none⟩ (.slice (some ⟨g, 0, none⟩) (N + 1) cap)) := by
  have hK : Keeps (fun r => r = 3) w ρ w' (lab ρ g 3) := Keeps.grown hg h.ov.2 rfl hat
  have hZ := h.blk.keep hK (by omega)
  have ho := OnlyB.objSet hZ.1 2 (.slice (some ⟨g, 0, none⟩) (N + 1) cap)
  have hK2 : Keeps (fun r => r = 1) w' (lab ρ g 3) (w'.setCell ⟨S, 2, none⟩ (.slice (some ⟨g, 0, none⟩) (N + 1) cap)) (lab ρ g 3) := Keeps.only _ ho hZ.2
  have hlS := lt_of_obj h.blk.1
  have hrow : Lst w' base (lab ρ g 3) 3 31 (.slice (some ⟨g, 0, none⟩) (N + 1) cap) (N + 1) (lst (O ++ [v])) := Lst.ofRow hown (fun g' hg' => by
    simp [Value.ownBlock] at hg'
    subst hg'
    exact lab_eq)
  have hK3 : Keeps (fun r => r = 1 ∨ r = 3) w ρ (w'.setCell ⟨S, 2, none⟩ (.slice (some ⟨g, 0, none⟩) (N + 1) cap)) (lab ρ g 3) := (hK.mono fun r hr => .inr hr).trans (hK2.mono fun r hr => .inl hr)
  refine ⟨hZ.1, ⟨⟨ho.at_ (lt_of_obj hZ.1), hZ.2⟩, fun k a b => by rw [setc_ne (by omega)]; exact h.rest k a b, ?_, ?_, ?_, ?_⟩, hK3, (hfree.lab hg.size hlt 3).le (by rw [ho.size]; exact Nat.le_refl _), (grown_belowL hg (fun g' hg' => (h.ov.1.block hg').1) (by omega)).trans (ho.below hS)⟩
  · rw [setc_ne (by omega)]
    exact h.iv.keep hK3 (by omega)
  · rw [setc_eq]
    have := hrow.keep hK2 (by omega)
    simpa [hN] using this
  · intro i u hi
    obtain ⟨L', a, b, c⟩ := h.vals i u hi
    exact ⟨L', a, b, c.keep hK3 (by omega)⟩
  · intro i u hi
    rcases last_at hi with ⟨_, hi⟩ | ⟨rfl, rfl⟩
    · obtain ⟨L', a, c⟩ := h.olds i u hi
      exact ⟨L', a, c.keep hK3 (by omega)⟩
    · rw [hN]
      exact ⟨L, hD, hv.keep hK3 (by omega)⟩

theorem One.hasInts {w : World} {base : Nat} {e : TypeId} {v : Value} {L : List Int} (h : One w base e 1 v L.length (lst (ints L))) : HasInts w v L := by
  obtain ⟨A, cap, rfl⟩ := h.len
  refine ⟨A, cap, rfl, fun k hk => ?_⟩
  obtain ⟨g, rfl, hc⟩ := h.get hk
  refine ⟨g, 0, rfl, (h.block rfl).2, ?_⟩
  rw [Nat.zero_add, hc]
  simp [lst, ints, List.getElem?_eq_getElem hk]

set_option maxRecDepth 100000 in
theorem shelfHolds (w : World) (S s c : Nat) (f : Nat → Value) (h : w.heap[S]? = some (cellsObj 30 11 f)) (h0 : f 0 = .int .i64 s) (hs : s + c + 50 ≤ 4194304) :
    Calls Try.prog 42 #[.pointer (some ⟨S, 0, none⟩), .int .i64 c] w fun e w' => e = .returned (.bool true) ∧ OnlyB w w' S (cellsObj 30 11 (setc f 0 (.int .i64 ((s + c + 50 : Nat) : Int)))) := by
  have c0 := obj_cell h 0 (by omega)
  rw [h0] at c0
  have hf := free_of_obj h 0
  have HS := Lib.hid (OnlyB.objSet h 0 (.int .i64 ((s + c + 50 : Nat) : Int)))
  have hd : ((s : Int) + (c : Int) + 50 ≤ 4194304) := by omega
  go_enter Try.func42, Try.ntmps42
  go_wp2
  go_ret
  refine ⟨rfl, ?_⟩
  have := HS.out
  rw [Int.natCast_add, Int.natCast_add] at this
  exact this

def DRel (w : World) (N : Nat) (iv : Value) (wr : World) : Prop := ∃ i q : Nat, iv = .int .i64 i ∧ i ≤ N ∧ wr = w.drewN q
set_option maxRecDepth 100000 in
set_option maxHeartbeats 1000000 in
theorem same_ints (w : World) (base S N : Nat) (ρ : Nat → Nat) (f : Nat → Value) (V O : List Value) (D : List (List Int)) (h : ShelfI w base ρ S f V O D) (hV : V.length = N) (hO : O.length = N) (hN : N ≤ 100000) :
    Calls Try.prog 43 #[.pointer (some ⟨S, 0, none⟩)] w fun e w' => e = .returned (.bool true) ∧ ∃ m, w' = w.drewN m := by
  have c1 := obj_cell h.blk.1 1 (by omega)
  have c2 := obj_cell h.blk.1 2 (by omega)
  have c3 := obj_cell h.blk.1 3 (by omega)
  have c5 := obj_cell h.blk.1 5 (by omega)
  have c7 := obj_cell h.blk.1 7 (by omega)
  have c9 := obj_cell h.blk.1 9 (by omega)
  rw [h.rest 3 (by omega) (by omega)] at c3
  rw [h.rest 5 (by omega) (by omega)] at c5
  rw [h.rest 7 (by omega) (by omega)] at c7
  rw [h.rest 9 (by omega) (by omega)] at c9
  obtain ⟨A1, cap1, e1⟩ := h.iv.1.len
  obtain ⟨A2, cap2, e2⟩ := h.ov.1.len
  have hiv := h.iv.1
  have hov := h.ov.1
  rw [e1] at c1 hiv
  rw [e2] at c2 hov
  rw [hV] at c1 hiv
  rw [hO] at c2 hov
  have hvals := h.vals
  have holds := h.olds
  clear h e1 e2
  go_enter Try.func43, Try.ntmps43
  go_wp2
  go_loopw [3] (fun iv wr => DRel w N iv wr) (fun iv _ => (N - intOf iv).toNat)
  case atStart => exact ⟨0, 0, rfl, by omega, rfl⟩
  case round =>
    obtain ⟨i, q, rfl, hi, rfl⟩ := hrel
    by_cases hiN : i < N
    · obtain ⟨v, hv⟩ : ∃ p, V[i]? = some p := ⟨V[i]'(by omega), List.getElem?_eq_getElem _⟩
      obtain ⟨o, ho⟩ : ∃ p, O[i]? = some p := ⟨O[i]'(by omega), List.getElem?_eq_getElem _⟩
      obtain ⟨g1, rfl, x1⟩ := hiv.get hiN
      obtain ⟨g2, rfl, x2⟩ := hov.get hiN
      rw [lst_at hv] at x1
      rw [lst_at ho] at x2
      obtain ⟨L, a1, a2, a3⟩ := hvals i v hv
      obtain ⟨L', b1, b3⟩ := holds i o ho
      obtain rfl : L = L' := by rw [a1] at b1; injection b1
      have q3 : (0 : Int) ≤ (i : Int) := by omega
      have q4 : (i : Int) < (N : Int) := by omega
      have hE := fun m => eqInts_same v o L (w.drewN m) (a3.1.hasInts.drewN m) (b3.1.hasInts.drewN m) (by omega)
      clear hvals holds hiv hov a3 b3 a1 b1
      go_wp2_with fail
      go_quiet ((go_at_call 25; first | exact hE _ | exact quietAdd (hE _)))
      go_wp2
      exact ⟨⟨i + 1, _, by go_num, by omega, rfl⟩, by simp [intOf]; omega⟩
    · go_wp2
      repeat (refine wp_loop_rounds 1 ?_; rw [rounds_succ]; go_wp2)
      go_ret
      exact ⟨rfl, _, rfl⟩
end Go.Proofs.Ytbgojhjlmlbfpaa
