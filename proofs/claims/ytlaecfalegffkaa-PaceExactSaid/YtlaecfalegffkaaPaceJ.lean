/- PaceExact: the argument opened (two caps, a slice of steps of three numbers), and the walk taken. -/
import Derived.Test.YtlaecfalegffkaaRows
import Derived.Test.YtlaecfalegffkaaPaceI
import Derived.Test.YtlaecfalegffkaaRead
namespace Go.Proofs.Ytlaecfalegffkaa
open Go.ChangeShapes Go.WideShapes Go.ChangeAt Go.RowKit

theorem list3 {α : Type} {l : List α} (h : l.length = 3) : ∃ a b c, l = [a, b, c] := by
  match l, h with
  | [a, b, c], _ => exact ⟨a, b, c, rfl⟩
theorem op_open {W : World} {es : List Value} (h : Tr Try.prog W 34 es) : ∃ a b c : Int, es = [.int .i64 a, .int .i64 b, .int .i64 c] := by
  have hl := (Tr.struct Try.underlying34 h).1
  obtain ⟨x, y, z, rfl⟩ := list3 (hl.trans (by kernel_rfl : _ = 3))
  have h0 := Tr.field Try.underlying34 h 0 rfl (n := 1) (by kernel_rfl)
  have h1 := Tr.field Try.underlying34 h 1 rfl (n := 1) (by kernel_rfl)
  have h2 := Tr.field Try.underlying34 h 2 rfl (n := 1) (by kernel_rfl)
  obtain ⟨a, e0, _⟩ := h0.int Try.underlying3
  obtain ⟨b, e1, _⟩ := h1.int Try.underlying3
  obtain ⟨c, e2, _⟩ := h2.int Try.underlying3
  simp at e0 e1 e2
  subst e0 e1 e2
  exact ⟨a, b, c, rfl⟩

theorem law_PaceExact {H : Type} (enc : TypeId × Value → H) (W : World) {base : Nat} (v : Value) (d : DataW H) (ps : List MemPlace)
    (hok : Value.okWide Try.prog W .any base 25 v) (h : DataW.Trod enc Try.prog W 0 (fun _ => true) true 25 v d ps)
    (_hsz : (DataW.weightsEach Try.prog [25] [d]).all (· ≤ reachBytes) = true) :
    Calls Try.prog 3 #[v] W fun e W' => e = .returned (.bool true) ∧ Below W.heap.size W W' := by
  obtain ⟨cs, rfl, hsz⟩ := okWide_struct Try.underlying25 hok
  have hT := Tr.of h
  obtain ⟨cs⟩ := cs
  simp only [Value.cells] at hT
  obtain ⟨x, y, z, rfl⟩ := list3 (l := cs) (hsz.trans (by kernel_rfl : _ = 3))
  have h0 := Tr.field Try.underlying25 hT 0 rfl (n := 2) (by kernel_rfl)
  have h1 := Tr.field Try.underlying25 hT 1 rfl (n := 1) (by kernel_rfl)
  have k0 := (Tr.array Try.underlying22 h0).2 0 (by omega)
  have k1 := (Tr.array Try.underlying22 h0).2 1 (by omega)
  rw [(by kernel_rfl : Try.prog.cellsOf 3 = 1)] at k0 k1
  obtain ⟨a, e0, _⟩ := k0.int Try.underlying3
  obtain ⟨b, e1, _⟩ := k1.int Try.underlying3
  obtain ⟨A, n, cap, e2, hn, hc, hall⟩ := h1.slice Try.underlying23 (size := 3) (by kernel_rfl) (by omega)
  simp at e0 e1 e2
  subst e0 e1 e2
  unfold maxLen at hc
  refine paceExact_walk a b A n cap W (fun k hk => ?_) (by omega)
  obtain ⟨bb, off, rfl, es, _, hb, hcell, ht⟩ := hall k hk
  obtain ⟨p, q, r, rfl⟩ := op_open ht
  exact ⟨bb, off, p, q, r, rfl, hb, hcell 0 (by simp), hcell 1 (by simp), hcell 2 (by simp)⟩
end Go.Proofs.Ytlaecfalegffkaa
