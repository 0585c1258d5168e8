/- DiskRoom: its argument opened. -/
import Derived.Test.YtgkpobajafjdeaaDlV
import Derived.Test.YtgkpobajafjdeaaP7
namespace Go.Proofs.Ytgkpobajafjdeaa
open Go.ChangeShapes Go.WideShapes Go.ChangeAt Go.RowKit

set_option maxRecDepth 100000 in
theorem law_DiskRoom {H : Type} (enc : TypeId × Value → H) (W : World) {base : Nat} (v : Value) (d : DataW H) (ps : List MemPlace)
    (hok : Value.okWide Try.prog W .any base 50 v) (h : DataW.Trod enc Try.prog W 0 (fun _ => true) true 50 v d ps)
    (hsz0 : (DataW.weightsEach Try.prog [50] [d]).all (· ≤ reachBytes) = true) :
    Calls Try.prog 4 #[v] W fun e W' => e = .returned (.bool true) ∧ Below W.heap.size W W' := by
  obtain ⟨cs, rfl, hsz⟩ := okWide_struct Try.underlying50 hok
  have hT := TrW.of h hsz0
  obtain ⟨cs⟩ := cs
  simp only [Value.cells] at hT
  have hl := (TrW.struct Try.underlying50 hT).1
  obtain ⟨x0, x1, hcs⟩ := list2 (hl.trans (by kernel_rfl : _ = 2))
  obtain rfl : cs = [x0, x1] := hcs
  obtain ⟨rm, e0, _⟩ := (TrW.field Try.underlying50 hT 0 rfl (n := 1) (by kernel_rfl)).tr.int Try.underlying3
  obtain ⟨A, c, l, e1, hc, hA, hq⟩ := ops_in (TrW.field Try.underlying50 hT 1 rfl (n := 1) (by kernel_rfl))
  simp at e0 e1
  subst e0 e1
  exact room_walk W rm A l.length c l rfl hA hq
end Go.Proofs.Ytgkpobajafjdeaa
