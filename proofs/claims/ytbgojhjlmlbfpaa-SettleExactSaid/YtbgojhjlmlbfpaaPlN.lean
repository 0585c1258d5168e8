/- The document's Copies where it refuses; both Copies of any three numbers. -/
import Derived.Test.YtbgojhjlmlbfpaaPlM
namespace Go.Proofs.Ytbgojhjlmlbfpaa
open Go.RowKit Fl

set_option maxRecDepth 100000 in
theorem refCopies_bad (s n c : Int) (w : World) (h : n < 1 ∨ 9 < n ∨ c < 1 ∨ min n 7 < c ∨ c % 2 = 0 ∨ s < 0 ∨ 8 ≤ s) :
    Calls Try.prog 50 #[.int .i64 s, .int .i64 n, .int .i64 c] w fun e w' => e = .returned (.tuple #[.slice none 0 0, .int .i64 30]) ∧ w = w' := by
  by_cases h1 : n < 1
  · go_enter Try.func50, Try.ntmps50
    go_wp2
    go_ret2
    exact ⟨rfl, rfl⟩
  by_cases h2 : 9 < n
  · go_enter Try.func50, Try.ntmps50
    go_wp2
    go_ret2
    exact ⟨rfl, rfl⟩
  by_cases h3 : c < 1
  · go_enter Try.func50, Try.ntmps50
    go_wp2
    go_ret2
    exact ⟨rfl, rfl⟩
  by_cases h4 : 7 < c
  · clear h
    go_enter Try.func50, Try.ntmps50
    go_wp2
    go_ret2
    exact ⟨rfl, rfl⟩
  have hx : (c % 2 == 0) = true ∨ ((c % 2 == 0) = false ∧ (n < c ∨ (¬ n < c ∧ (s < 0 ∨ (¬ s < 0 ∧ 8 ≤ s))))) := by
    by_cases h5 : c % 2 = 0
    · left; exact beq_iff_eq.2 h5
    · right; exact ⟨beq_eq_false_iff_ne.2 h5, by omega⟩
  clear h
  rcases hx with hx | ⟨hx, h6 | ⟨h6, h7 | ⟨h7, h8⟩⟩⟩
  all_goals
    go_enter Try.func50, Try.ntmps50
    go_wp2
    go_ret2
    exact ⟨rfl, rfl⟩

/-- What both Copies answer: the list, or nil and 30. -/
def CopiesAny (w w' : World) (s n c : Int) (e : Ending) : Prop :=
  (e = .returned (.tuple #[.slice none 0 0, .int .i64 30]) ∧ w = w' ∧ (n < 1 ∨ 9 < n ∨ c < 1 ∨ min n 7 < c ∨ c % 2 = 0 ∨ s < 0 ∨ 8 ≤ s)) ∨
  ∃ s' n' c' : Nat, s = s' ∧ n = n' ∧ c = c' ∧ 1 ≤ c' ∧ c' ≤ n' ∧ n' ≤ 9 ∧ CopiesOk w w' e (copiesL s' n' c')
theorem copies_cases (s n c : Int) : (n < 1 ∨ 9 < n ∨ c < 1 ∨ min n 7 < c ∨ c % 2 = 0 ∨ s < 0 ∨ 8 ≤ s) ∨ ∃ s' n' c' : Nat, s = s' ∧ n = n' ∧ c = c' ∧ 1 ≤ n' ∧ n' ≤ 9 ∧ 1 ≤ c' ∧ c' ≤ n' ∧ c' ≤ 7 ∧ c' % 2 = 1 ∧ s' < 8 := by
  by_cases h : n < 1 ∨ 9 < n ∨ c < 1 ∨ min n 7 < c ∨ c % 2 = 0 ∨ s < 0 ∨ 8 ≤ s
  · exact .inl h
  · exact .inr ⟨s.toNat, n.toNat, c.toNat, by omega, by omega, by omega, by omega, by omega, by omega, by omega, by omega, by omega, by omega⟩
theorem copies_any (s n c : Int) (w : World) : Calls Try.prog 11 #[.int .i64 s, .int .i64 n, .int .i64 c] w fun e w' => CopiesAny w w' s n c e := by
  rcases copies_cases s n c with h | ⟨s', n', c', rfl, rfl, rfl, h1, h2, h3, h4, h5, h6, h7⟩
  · exact (copies_bad s n c w h).mono fun e w' ⟨h1, h2⟩ => .inl ⟨h1, h2, h⟩
  · exact (copies_ok s' n' c' w h1 h2 h3 h4 h5 h6 h7).mono fun e w' k => .inr ⟨s', n', c', rfl, rfl, rfl, h3, h4, h2, k⟩
theorem refCopies_any (s n c : Int) (w : World) : Calls Try.prog 50 #[.int .i64 s, .int .i64 n, .int .i64 c] w fun e w' => CopiesAny w w' s n c e := by
  rcases copies_cases s n c with h | ⟨s', n', c', rfl, rfl, rfl, h1, h2, h3, h4, h5, h6, h7⟩
  · exact (refCopies_bad s n c w h).mono fun e w' ⟨h1, h2⟩ => .inl ⟨h1, h2, h⟩
  · exact (refCopies_ok s' n' c' w h1 h2 h3 h4 h5 h6 h7).mono fun e w' k => .inr ⟨s', n', c', rfl, rfl, rfl, h3, h4, h2, k⟩
end Go.Proofs.Ytbgojhjlmlbfpaa
