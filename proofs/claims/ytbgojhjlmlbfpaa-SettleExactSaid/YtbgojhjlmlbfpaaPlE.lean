/- tallylaw3: near, point; and PlaneTurns: the walk. -/
import Derived.Test.YtbgojhjlmlbfpaaPlD
namespace Go.Proofs.Ytbgojhjlmlbfpaa
open Go.RowKit Fl

/-- A number brought near. -/
def nearZ (n : Int) : Int := n.tmod 33554433
theorem near_range (n : Int) : -33554432 ≤ nearZ n ∧ nearZ n ≤ 33554432 := by
  unfold nearZ
  have h2 := Int.tmod_lt_of_pos n (show (0 : Int) < 33554433 by omega)
  have h1 := Int.lt_tmod_of_pos n (show (0 : Int) < 33554433 by omega)
  omega
set_option maxRecDepth 100000 in
theorem near_any (n : Int) (w : World) : Calls Try.prog 57 #[.int .i64 n] w fun e w' => e = .returned (.int .i64 (nearZ n)) ∧ w = w' := by
  obtain ⟨h1, h2⟩ := near_range n
  have hr : n.tmod 33554433 = nearZ n := rfl
  obtain ⟨r, e⟩ : ∃ r, nearZ n = r := ⟨_, rfl⟩
  rw [e] at h1 h2 hr ⊢
  clear e
  go_enter Try.func57, Try.ntmps57
  go_wp2
  go_ret
  exact ⟨rfl, rfl⟩

set_option maxRecDepth 100000 in
set_option maxHeartbeats 1000000 in
theorem point_any (x y : Int) (w : World) : Calls Try.prog 22 #[.agg #[.int .i64 x, .int .i64 y]] w fun e w' =>
    e = .returned (.tuple #[.agg #[.int .i64 (nearZ x), .int .i64 (nearZ y)], .complex .f64 (ff (nearZ x)) (ff (nearZ y))]) ∧ Below w.heap.size w w' := by
  go_enter Try.func22, Try.ntmps22
  go_wp2
  go_region_held3 (fun w' => w'.cell? ⟨w.heap.size, 0, none⟩ = some (.int .i64 x) ∧ w'.cell? ⟨w.heap.size, 1, none⟩ = some (.int .i64 y)) (go_keep)
    (first | (go_at_call 57; (with_reducible refine (near_any _ _).mono ?_); rintro e w1 ⟨rfl, rfl⟩))
  all_goals go_wp2
  all_goals go_region
  all_goals go_wp2
  all_goals refine bodyPost_ret (v := .tuple #[.agg #[.int .i64 (nearZ x), .int .i64 (nearZ y)], .complex .f64 (floatOfInt .f64 (nearZ x)) (floatOfInt .f64 (nearZ y))]) (by simp [results, Try.results22, go_sem]) rfl ⟨rfl, ?_⟩
  all_goals repeat (first | exact Below.refl _ _ | refine Below.drew ?_ | refine Below.setCell ?_ (by simp <;> omega) _ | refine Below.alloc ?_ (by simp <;> omega) _)
end Go.Proofs.Ytbgojhjlmlbfpaa
