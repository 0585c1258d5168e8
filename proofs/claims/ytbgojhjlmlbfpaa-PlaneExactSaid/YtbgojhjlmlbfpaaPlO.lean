/- PlaneExact (tallylaw3): both Spirals of any number. -/
import Derived.Test.YtbgojhjlmlbfpaaPlN
import Derived.Test.YtbgojhjlmlbfpaaBookI
namespace Go.Proofs.Ytbgojhjlmlbfpaa
open Go.RowKit Fl

theorem spirals (k : Int) : ∃ x y : Int, -1048576 ≤ x ∧ x ≤ 1048576 ∧ -1048576 ≤ y ∧ y ≤ 1048576 ∧
    (∀ w, Calls Try.prog 19 #[.int .i64 k] w fun e w' => e = .returned (.complex .f64 (ff x) (ff y)) ∧ w = w') ∧
    ∀ w, Calls Try.prog 47 #[.int .i64 k] w fun e w' => e = .returned (.agg #[.int .i64 x, .int .i64 y]) ∧ Below w.heap.size w w' := by
  by_cases h : 0 ≤ k ∧ k ≤ 1099511627776
  · obtain ⟨x, y, hxy⟩ := Spi.On.exists_ k.toNat
    rw [show ((k.toNat : Nat) : Int) = k by omega] at hxy
    obtain ⟨b1, b2, b3, b4⟩ := hxy.bound h.2
    exact ⟨x, y, b1, b2, b3, b4, fun w => spiral_on k x y w hxy h.1 h.2, fun w => refSpiral_on k x y w hxy h.1 h.2⟩
  · exact ⟨0, 0, by omega, by omega, by omega, by omega, fun w => flipW (spiral_out k w (by omega)), fun w => refSpiral_out k w (by omega)⟩
end Go.Proofs.Ytbgojhjlmlbfpaa
