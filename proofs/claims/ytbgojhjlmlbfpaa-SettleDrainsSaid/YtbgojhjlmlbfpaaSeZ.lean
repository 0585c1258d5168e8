/- SettleDrains: the argument opened, and the walk taken. -/
import Derived.Test.YtbgojhjlmlbfpaaSeY
import Derived.Test.YtbgojhjlmlbfpaaRead
namespace Go.Proofs.Ytbgojhjlmlbfpaa
open Go.ChangeShapes Go.WideShapes Go.ChangeAt Go.RowKit

set_option maxRecDepth 100000 in
theorem law_SettleDrains {H : Type} (enc : TypeId × Value → H) (W : World) {base : Nat} (v : Value) (d : DataW H) (ps : List MemPlace)
    (hok : Value.okWide Try.prog W .any base 76 v) (h : DataW.Trod enc Try.prog W 0 (fun _ => true) true 76 v d ps)
    (_hsz : (DataW.weightsEach Try.prog [76] [d]).all (· ≤ reachBytes) = true) :
    Calls Try.prog 8 #[v] W fun e W' => e = .returned (.bool true) ∧ Below W.heap.size W W' := by
  obtain ⟨cs, rfl, hsz⟩ := okWide_struct Try.underlying76 hok
  have hT := Tr.of h
  obtain ⟨cs⟩ := cs
  simp only [Value.cells] at hT
  obtain ⟨a, b, c, d', s, A1, A2, A3, n1, n2, n3, c1, c2, c3, rfl, ⟨k1, i1⟩, ⟨k2, i2⟩, _, i3⟩ := load_open hT
  exact drains_walk W a b c d' s A1 A2 A3 n1 n2 n3 c1 c2 c3 i1 k1 i2 k2 i3
end Go.Proofs.Ytbgojhjlmlbfpaa
