/- DiskFull's law. -/
import Derived.Test.YtgkpobajafjdeaaDtC
namespace Go.Proofs.Ytgkpobajafjdeaa
open Go.ChangeShapes Go.WideShapes Go.ChangeAt Go.RowKit

set_option maxRecDepth 100000 in
theorem law_DiskFull {H : Type} (enc : TypeId × Value → H) (W : World) {base : Nat} (v : Value) (d : DataW H) (ps : List MemPlace)
    (hok : Value.okWide Try.prog W .any base 65 v) (h : DataW.Trod enc Try.prog W 0 (fun _ => true) true 65 v d ps)
    (hsz0 : (DataW.weightsEach Try.prog [65] [d]).all (· ≤ reachBytes) = true) :
    Calls Try.prog 6 #[v] W fun e W' => e = .returned (.bool true) ∧ Below W.heap.size W W' := by
  obtain ⟨cs, rfl, hsz⟩ := okWide_struct Try.underlying65 hok
  have hT := TrW.of h hsz0
  obtain ⟨cs⟩ := cs
  simp only [Value.cells] at hT
  obtain ⟨A0, c0, off, Ap, cp, A1, c1, An, cn, l, l1, ps, ns, hcs, hA, hq, _, _, hcp, hP, _⟩ := power_open hT
  obtain rfl : cs = (powerC A0 l.length c0 off Ap ps.length cp A1 l1.length c1 An ns.length cn).toList := hcs
  exact full_walk W A0 l.length c0 off Ap ps.length cp A1 l1.length c1 An ns.length cn l rfl hA hq ps rfl hcp hP
end Go.Proofs.Ytgkpobajafjdeaa
