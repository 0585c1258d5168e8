/- The document's pace at a place in a row: Tick, Reset. -/
import Derived.Test.YtbgojhjlmlbfpaaSfB
import Derived.Deep.QuietTactic
import Derived.BigQuiet
namespace Go.Proofs.Ytbgojhjlmlbfpaa
open Go.RowKit

theorem refReset_at (W o : Nat) (x : Value) (w : World) (h : w.cell? ⟨W, o + 1, none⟩ = some x) (hf : w.frozen? ⟨W, o + 1, none⟩ = false) :
    Calls Try.prog 130 #[.pointer (some ⟨W, o, none⟩)] w fun e w' => e = .returned (.tuple #[]) ∧ w.setCell ⟨W, o + 1, none⟩ (.int .i64 0) = w' := by
  go_enter Try.func130, Try.ntmps130
  go_wp2
  go_end0
  exact ⟨rfl, rfl⟩
def TickEnd (W o n : Nat) (c : Int) (w : World) (e : Ending) (w' : World) : Prop := e = .returned (.bool (decide (sA c n ≤ (n : Int) + 1))) ∧ ∃ i j, ((w.drewN i).setCell ⟨W, o + 1, none⟩ (.int .i64 ((n : Int) + 1))).drewN j = w'
theorem refTick_at (W o : Nat) (c : Int) (n : Nat) (w : World) (h0 : w.cell? ⟨W, o, none⟩ = some (.int .i64 c)) (h1 : w.cell? ⟨W, o + 1, none⟩ = some (.int .i64 (n : Nat))) (f1 : w.frozen? ⟨W, o + 1, none⟩ = false) (hc : 1 ≤ c) (hc2 : c ≤ 64) (hN : n ≤ 4000) :
    Calls Try.prog 132 #[.pointer (some ⟨W, o, none⟩)] w (TickEnd W o n c w) := by
  have e : decide (sK c n < sK c (n + 1)) = decide (sA c n ≤ (n : Int) + 1) := by
    have := s_succ c n
    by_cases hs : sA c n ≤ (n : Int) + 1
    · have := this.1 hs; rw [decide_eq_true hs]; simp; omega
    · have := this.2 hs; rw [decide_eq_false hs]; simp; omega
  have HE := Lib.hid e
  clear e
  go_enter Try.func132, Try.ntmps132
  go_wp2
  go_quiet ((go_at_call 135; exact Calls.quiet_of_same (times_any c n _ hc hc2 (by omega))))
  go_wp2
  go_quiet ((go_at_call 135; exact Calls.quiet_of_same (times_int c _ (n + 1) _ (by omega) hc hc2 (by omega))))
  go_wp2
  go_ret
  exact ⟨by rw [← HE.out]; rfl, _, _, rfl⟩
end Go.Proofs.Ytbgojhjlmlbfpaa
