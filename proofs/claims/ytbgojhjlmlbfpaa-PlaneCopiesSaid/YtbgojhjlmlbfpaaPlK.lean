/- PlaneCopies: the argument opened, and the walk taken. -/
import Derived.Test.YtbgojhjlmlbfpaaPlG
import Derived.Test.YtbgojhjlmlbfpaaPlJ
namespace Go.Proofs.Ytbgojhjlmlbfpaa
open Go.ChangeShapes Go.WideShapes Go.ChangeAt Go.RowKit

theorem list3 {α : Type} {l : List α} (h : l.length = 3) : ∃ a b c, l = [a, b, c] := by
  match l, h with
  | [a, b, c], _ => exact ⟨a, b, c, rfl⟩
set_option maxRecDepth 100000 in
theorem law_PlaneCopies {H : Type} (enc : TypeId × Value → H) (W : World) {base : Nat} (v : Value) (d : DataW H) (ps : List MemPlace)
    (hok : Value.okWide Try.prog W .any base 70 v) (h : DataW.Trod enc Try.prog W 0 (fun _ => true) true 70 v d ps)
    (_hsz : (DataW.weightsEach Try.prog [70] [d]).all (· ≤ reachBytes) = true) :
    Calls Try.prog 6 #[v] W fun e W' => e = .returned (.bool true) ∧ Below W.heap.size W W' := by
  obtain ⟨cs, rfl, hsz⟩ := okWide_struct Try.underlying70 hok
  have hT := Tr.of h
  obtain ⟨cs⟩ := cs
  simp only [Value.cells] at hT
  have hc3 : Try.prog.cellsOf 70 = 3 := by kernel_rfl
  obtain ⟨a, b, c, rfl⟩ := list3 (hsz.trans hc3)
  have h0 := Tr.field Try.underlying70 hT 0 rfl (n := 1) (by kernel_rfl)
  have h1 := Tr.field Try.underlying70 hT 1 rfl (n := 1) (by kernel_rfl)
  have h2 := Tr.field Try.underlying70 hT 2 rfl (n := 1) (by kernel_rfl)
  obtain ⟨x, e0, _⟩ := h0.int Try.underlying3
  obtain ⟨y, e1, _⟩ := h1.int Try.underlying3
  obtain ⟨z, e2, _⟩ := h2.int Try.underlying3
  simp at e0 e1 e2
  subst e0 e1 e2
  exact copies_walk x y z W
end Go.Proofs.Ytbgojhjlmlbfpaa
