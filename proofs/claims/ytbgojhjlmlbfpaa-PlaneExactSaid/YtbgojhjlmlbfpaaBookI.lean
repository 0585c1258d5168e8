/- tallylaw1.Book: a new one. -/
import Derived.Test.YtbgojhjlmlbfpaaBookH
namespace Go.Proofs.Ytbgojhjlmlbfpaa
open Go.RowKit

def newBook : Nat → Value := fun k => if k % 3 = 2 ∨ 36 ≤ k then .int .i64 0 else .slice none 0 0
theorem BookAt.new (w : World) (base : Nat) (hb : base ≤ w.heap.size) : BookAt (w.alloc (bookObj newBook)) w.heap.size base 0 (w.heap.size + 1) := by
  have e9 : newBook 9 = .slice none 0 0 := rfl
  have e10 : newBook 10 = .slice none 0 0 := rfl
  refine ⟨newBook, [], [], [], 0, 0, 0, ⟨⟨heap_alloc_new w _, ?_, ⟨rfl, .inl ⟨e9, rfl⟩⟩, ⟨rfl, .inl ⟨e10, rfl⟩⟩, by simp, ⟨fun _ => 0, rfl, ?_, ?_, by simp⟩, by simp, by simp⟩, rfl, rfl, Nat.le_refl _, by simp, by simp, rfl, rfl, rfl, by omega, hb, by omega, ?_, ?_, by simp⟩⟩
  · intro k hk
    simp at hk
    rcases hk with rfl | rfl | rfl | rfl | rfl | rfl | rfl | rfl | rfl | rfl | rfl <;> exact ⟨rfl, rfl⟩
  all_goals
    intro g hg
    first | rw [e9] at hg | rw [e10] at hg
    simp [Value.ownBlock] at hg
end Go.Proofs.Ytbgojhjlmlbfpaa
