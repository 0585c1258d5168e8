/- PlaneTurns, PlaneOnce, PlaneCopies: the arguments opened, and the walks taken. -/
import Derived.Test.YtbgojhjlmlbfpaaRows
import Derived.Test.YtbgojhjlmlbfpaaPlF
import Derived.Test.YtbgojhjlmlbfpaaRead
namespace Go.Proofs.Ytbgojhjlmlbfpaa
open Go.ChangeShapes Go.WideShapes Go.ChangeAt Go.RowKit

theorem list2 {α : Type} {l : List α} (h : l.length = 2) : ∃ a b, l = [a, b] := by
  match l, h with
  | [a, b], _ => exact ⟨a, b, rfl⟩
theorem list6 {α : Type} {l : List α} (h : l.length = 6) : ∃ a b c d e f, l = [a, b, c, d, e, f] := by
  match l, h with
  | [a, b, c, d, e, f], _ => exact ⟨a, b, c, d, e, f, rfl⟩
theorem spot_open {W : World} {es : List Value} (h : Tr Try.prog W 36 es) : ∃ a b : Int, es = [.int .i64 a, .int .i64 b] := by
  have hl := (Tr.struct Try.underlying36 h).1
  obtain ⟨x, y, rfl⟩ := list2 (hl.trans (by kernel_rfl : _ = 2))
  have h0 := Tr.field Try.underlying36 h 0 rfl (n := 1) (by kernel_rfl)
  have h1 := Tr.field Try.underlying36 h 1 rfl (n := 1) (by kernel_rfl)
  obtain ⟨a, e0, _⟩ := h0.int Try.underlying3
  obtain ⟨b, e1, _⟩ := h1.int Try.underlying3
  simp at e0 e1
  subst e0 e1
  exact ⟨a, b, rfl⟩

set_option maxRecDepth 100000 in
theorem law_PlaneTurns {H : Type} (enc : TypeId × Value → H) (W : World) {base : Nat} (v : Value) (d : DataW H) (ps : List MemPlace)
    (hok : Value.okWide Try.prog W .any base 64 v) (h : DataW.Trod enc Try.prog W 0 (fun _ => true) true 64 v d ps)
    (_hsz : (DataW.weightsEach Try.prog [64] [d]).all (· ≤ reachBytes) = true) :
    Calls Try.prog 5 #[v] W fun e W' => e = .returned (.bool true) ∧ Below W.heap.size W W' := by
  obtain ⟨cs, rfl, hsz⟩ := okWide_struct Try.underlying64 hok
  have hT := Tr.of h
  obtain ⟨cs⟩ := cs
  simp only [Value.cells] at hT
  have hc6 : Try.prog.cellsOf 64 = 6 := by kernel_rfl
  have hl6 : cs.length = 6 := hsz.trans hc6
  obtain ⟨a, b, c, d', e, f, rfl⟩ := list6 hl6
  have h0 := Tr.field Try.underlying64 hT 0 rfl (n := 2) (by kernel_rfl)
  have h1 := Tr.field Try.underlying64 hT 1 rfl (n := 2) (by kernel_rfl)
  have h2 := Tr.field Try.underlying64 hT 2 rfl (n := 1) (by kernel_rfl)
  have h3 := Tr.field Try.underlying64 hT 3 rfl (n := 1) (by kernel_rfl)
  obtain ⟨p, q, e0⟩ := spot_open h0
  obtain ⟨r, s, e1⟩ := spot_open h1
  obtain ⟨x, e2, _⟩ := h2.int Try.underlying3
  obtain ⟨y, e3, _⟩ := h3.int Try.underlying3
  simp at e0 e1 e2 e3
  obtain ⟨rfl, rfl⟩ := e0
  obtain ⟨rfl, rfl⟩ := e1
  subst e2 e3
  exact turns_walk p q r s x y W
end Go.Proofs.Ytbgojhjlmlbfpaa
