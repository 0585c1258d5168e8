/- The groups of an amount's whole: the first one is its beginning; together they are no longer than it. -/
import Derived.Test.YthkifgjmhpppkaaDoorTxC
namespace Go.Proofs.YthkifgjmhpppkaaDoor
open Go.RowKit

theorem split_first (sep : ByteArray) (k : Nat) (s : ByteArray) : ∃ g r t, Lib.splitB sep 0 k s = g :: r ∧ s.data.toList = g.data.toList ++ t := by
  cases k with
  | zero => exact ⟨s, [], [], rfl, by simp⟩
  | succ k =>
    unfold Lib.splitB
    by_cases h : (Lib.indexB s sep == -1) = true
    · rw [if_pos h]
      exact ⟨s, [], [], rfl, by simp⟩
    · rw [if_neg h]
      refine ⟨_, _, s.data.toList.drop ((Lib.indexB s sep).toNat + 0), rfl, ?_⟩
      rw [Lib.extract_data]
      simp
theorem split_sum (sep : ByteArray) : ∀ (k : Nat) (s : ByteArray), ((Lib.splitB sep 0 k s).map (·.data.toList)).flatten.length ≤ s.size
  | 0, s => by simp [Lib.splitB]
  | k + 1, s => by
    unfold Lib.splitB
    by_cases h : (Lib.indexB s sep == -1) = true
    · rw [if_pos h]
      simp
    · rw [if_neg h]
      have ih := split_sum sep k (s.extract ((Lib.indexB s sep).toNat + sep.size) s.size)
      rw [List.map_cons, List.flatten_cons, List.length_append, Lib.extract_data]
      have h2 : (s.extract ((Lib.indexB s sep).toNat + sep.size) s.size).size ≤ s.size - ((Lib.indexB s sep).toNat + sep.size) := by simp
      have h3 : s.data.toList.length = s.size := rfl
      simp only [List.length_take, List.length_drop]
      omega
theorem join_flat (xs : List (List UInt8)) : Lib.join xs [] = xs.flatten := by
  cases xs with
  | nil => rfl
  | cons x r =>
    rw [Lib.join_cons]
    unfold Lib.joinTail
    simp
/-- The groups' digits. -/
theorem figs_all {l : List UInt8} (h : figsL l = true) : l.all digB = true := by
  unfold figsL at h
  rw [Bool.and_eq_true] at h
  exact h.2
theorem flat_digits {G : List ByteArray} (h : grpsOk G = true) : ((G.map (·.data.toList)).flatten).all digB = true := by
  rw [List.all_eq_true]
  intro x hx
  obtain ⟨l, hl, hxl⟩ := List.mem_flatten.1 hx
  obtain ⟨g, hg, rfl⟩ := List.mem_map.1 hl
  obtain ⟨i, hi, rfl⟩ := List.mem_iff_getElem.1 hg
  unfold grpsOk at h
  rw [List.all_eq_true] at h
  have h1 := h i (List.mem_range.2 hi)
  rw [List.getD_eq_getElem?_getD, List.getElem?_eq_getElem hi] at h1
  unfold grpOk at h1
  rw [Bool.and_eq_true] at h1
  exact List.all_eq_true.1 (figs_all h1.1) x hxl
theorem amtD_digits {b1 b2 : ByteArray} {dot : Bool} (h : grpsOk (grps b1) = true) (h2 : dot = true → figsL b2.data.toList = true) : (amtD b1 b2 dot).all digB = true := by
  unfold amtD
  rw [List.all_append, flat_digits h, Bool.true_and]
  cases dot with
  | false =>
    rw [if_neg (by decide)]
    decide
  | true => exact figs_all (h2 rfl)
/-- The number, digit by digit. -/
theorem amtN_next (l : List UInt8) (x : UInt8) : amtN (l ++ [x]) = min (10 * amtN l + (x.toNat - 48)) amtC := by
  unfold amtN
  rw [List.foldl_append]
  rfl
theorem amtN_le : ∀ l : List UInt8, amtN l ≤ amtC := by
  intro l
  rcases List.eq_nil_or_concat l with rfl | ⟨l', x, rfl⟩
  · decide
  · rw [List.concat_eq_append, amtN_next]
    exact Nat.min_le_right _ _
end Go.Proofs.YthkifgjmhpppkaaDoor
