/- PlaneOnce: the arguments opened, and the walk taken. -/
import Derived.Test.YtbgojhjlmlbfpaaPlG
import Derived.Test.YtbgojhjlmlbfpaaPlH
namespace Go.Proofs.Ytbgojhjlmlbfpaa
open Go.ChangeShapes Go.WideShapes Go.ChangeAt Go.RowKit

set_option maxRecDepth 100000 in
theorem law_PlaneOnce {H : Type} (enc : TypeId × Value → H) (W : World) {base : Nat} (v : Value) (d : DataW H) (ps : List MemPlace)
    (hok : Value.okWide Try.prog W .any base 36 v) (h : DataW.Trod enc Try.prog W 0 (fun _ => true) true 36 v d ps)
    (v1 : Value) (d1 : DataW H) (ps1 : List MemPlace) (_hok1 : Value.okWide Try.prog W .any base 3 v1) (h1 : DataW.Trod enc Try.prog W 0 (fun _ => true) true 3 v1 d1 ps1)
    (_hsz : (DataW.weightsEach Try.prog [36, 3] [d, d1]).all (· ≤ reachBytes) = true) :
    Calls Try.prog 4 #[v, v1] W fun e W' => e = .returned (.bool true) ∧ Below W.heap.size W W' := by
  obtain ⟨cs, rfl, hsz⟩ := okWide_struct Try.underlying36 hok
  have hT := Tr.of h
  obtain ⟨cs⟩ := cs
  simp only [Value.cells] at hT
  obtain ⟨a, b, e⟩ := spot_open hT
  subst e
  obtain ⟨k, rfl, rfl, rfl, _⟩ := open_int Try.underlying3 _hok1 h1
  exact once_walk a b k W
end Go.Proofs.Ytbgojhjlmlbfpaa
