/- tallylaw1.Book that keeps lists of ints alone: Ints. -/
import Derived.Test.YtbgojhjlmlbfpaaBookF
namespace Go.Proofs.Ytbgojhjlmlbfpaa
open Go.RowKit

/-- A list that is new to the Book is taken up: its block is put anew so that it holds its mark. -/
theorem BookI.adopt {w w1 : World} {B base H n m : Nat} {f : Nat → Value} {V : List Value} {M : List Nat} {X : List (Value × Nat × Nat)} {v : Value} (h : BookI w B base f V M X)
    (hB : B < H) (h9 : ∀ g, (f 9).ownBlock = some g → g < H) (h10 : ∀ g, (f 10).ownBlock = some g → g < H) (hX : ∀ p ∈ X, ∀ g, p.1.ownBlock = some g → g < H)
    (hv : ∀ g, v.ownBlock = some g → H ≤ g) (hfar : ∀ k, k < w.heap.size → (∀ g, v.ownBlock = some g → k ≠ g) → w1.heap[k]? = w.heap[k]?)
    (h1 : One w1 base 3 1 v n (fun _ => .int .i64 (1000 + (m : Nat)))) (hn : n ≤ 1000000) (hm : m ≤ 1000000) : BookI w1 B base f V M ((v, n, m) :: X) := by
  obtain ⟨ρ, r0, r1, r2, r3⟩ := h.sep
  obtain ⟨s1, s2, s3⟩ := h.small
  have hlo : ∀ k, k < w.heap.size → k < H → w1.heap[k]? = w.heap[k]? := fun k hk hH => hfar k hk fun g hg e => by have := hv g hg; omega
  refine ⟨(hlo B (lt_of_obj h.blk) hB).trans h.blk, h.rest, ownsRow_keep h.iv fun g hg => hlo g (ownsRow_lt h.iv hg).2 (h9 g hg), ownsRow_keep h.ov fun g hg => hlo g (ownsRow_lt h.ov hg).2 (h10 g hg), ?_, ?_, ?_, s1, s2, ?_⟩
  · intro p hp
    rcases List.mem_cons.1 hp with rfl | hp
    · exact h1
    · exact (h.one p hp).same fun g hg => hlo g ((h.one p hp).block hg).2 (hX p hp g hg)
  · refine ⟨fun k => if H ≤ k then 3 + m else ρ k, ?_, ?_, ?_, ?_⟩
    · simp only
      rw [if_neg (by omega)]; exact r0
    · intro g hg
      have := h9 g hg
      simp only
      rw [if_neg (by omega)]; exact r1 g hg
    · intro g hg
      have := h10 g hg
      simp only
      rw [if_neg (by omega)]; exact r2 g hg
    · intro p hp g hg
      rcases List.mem_cons.1 hp with rfl | hp
      · have := hv g hg
        simp only
        rw [if_pos (by omega)]
      · have := hX p hp g hg
        simp only
        rw [if_neg (by omega)]; exact r3 p hp g hg
  · intro i v' m' hi hm'
    obtain ⟨k, hk⟩ := h.pairs i v' m' hi hm'
    exact ⟨k, List.mem_cons_of_mem _ hk⟩
  · intro p hp
    rcases List.mem_cons.1 hp with rfl | hp
    · exact ⟨hn, hm⟩
    · exact s3 p hp

/-- The list while it is filled: the first i cells hold the mark. -/
structure Fill (w wr : World) (base n : Nat) (v : Value) (m i : Nat) : Prop where
  row : (v = .slice none 0 0 ∧ n = 0 ∧ wr = w) ∨ ∃ g cap cur, v = .slice (some ⟨g, 0, none⟩) n cap ∧ base ≤ g ∧ g < w.heap.size ∧ OnlyB w wr g (.cells cur 3 (0, 0)) ∧ n ≤ cap ∧ cap ≤ maxLen ∧ cur.size = cap * 1 ∧ ∀ k, k < i → cur[k]? = some (.int .i64 (1000 + (m : Nat)))
theorem Fill.start {w : World} {base n m : Nat} {v : Value} {xs : List Value} (h : w.ownsRow base 3 1 v n xs) : Fill w w base n v m 0 := by
  rcases h.2 with ⟨rfl, rfl⟩ | ⟨g, cap, cur, rfl, k2, k3, k4, k5, k6, _⟩
  · exact ⟨.inl ⟨rfl, rfl, rfl⟩⟩
  · exact ⟨.inr ⟨g, cap, cur, rfl, k2, lt_of_obj k3, OnlyB.refl k3, k4, k5, k6, fun k hk => by omega⟩⟩
theorem Fill.done {w wr : World} {base n m : Nat} {v : Value} (h : Fill w wr base n v m n) : One wr base 3 1 v n (fun _ => .int .i64 (1000 + (m : Nat))) := by
  rcases h.row with ⟨rfl, rfl, _⟩ | ⟨g, cap, cur, rfl, k2, k3, k4, k5, k6, k7, k8⟩
  · exact .inl ⟨rfl, rfl⟩
  · exact .inr ⟨g, cap, cur, rfl, k2, k4.at_ k3, k5, k6, k7, fun k hk => k8 k (by omega)⟩
theorem Fill.far {w wr : World} {base n m i : Nat} {v : Value} (h : Fill w wr base n v m i) : ∀ k, (∀ g, v.ownBlock = some g → k ≠ g) → wr.heap[k]? = w.heap[k]? := by
  intro k hk
  rcases h.row with ⟨rfl, rfl, rfl⟩ | ⟨g, cap, cur, rfl, k2, k3, k4, _⟩
  · rfl
  · exact k4.far (hk g rfl)
theorem Fill.below {w wr : World} {base n m i : Nat} {v : Value} (h : Fill w wr base n v m i) : Below base w wr := by
  rcases h.row with ⟨rfl, rfl, rfl⟩ | ⟨g, cap, cur, rfl, k2, k3, k4, _⟩
  · exact Below.refl _ _
  · exact k4.below k2
theorem Fill.put {w wr : World} {base n m i cap g : Nat} (h : Fill w wr base n (.slice (some ⟨g, 0, none⟩) n cap) m i) (hi : i < n) :
    Fill w (wr.setCell ⟨g, i, none⟩ (.int .i64 (1000 + (m : Nat)))) base n (.slice (some ⟨g, 0, none⟩) n cap) m (i + 1) := by
  rcases h.row with ⟨k, _⟩ | ⟨g', cap', cur, k1, k2, k3, k4, k5, k6, k7, k8⟩
  · cases k
  · injection k1 with k1 _ k9
    injection k1 with k1
    injection k1 with k1
    subst k1 k9
    refine ⟨.inr ⟨g, cap, _, rfl, k2, k3, k4.set k3 i _, k5, k6, by simpa using k7, ?_⟩⟩
    intro k hk
    rw [Array.getElem?_setIfInBounds]
    by_cases hki : i = k
    · rw [if_pos hki, if_pos (by omega)]
    · rw [if_neg hki]
      exact k8 k (by omega)
end Go.Proofs.Ytbgojhjlmlbfpaa
