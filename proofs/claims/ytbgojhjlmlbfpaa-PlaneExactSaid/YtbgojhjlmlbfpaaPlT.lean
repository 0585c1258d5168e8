/- PlaneExact: the argument opened (a slice of asks), and the walk taken. -/
import Derived.Test.YtbgojhjlmlbfpaaRows
import Derived.Test.YtbgojhjlmlbfpaaPlS
import Derived.Test.YtbgojhjlmlbfpaaRead
namespace Go.Proofs.Ytbgojhjlmlbfpaa
open Go.ChangeShapes Go.WideShapes Go.ChangeAt Go.RowKit

theorem list8 {α : Type} {l : List α} (h : l.length = 8) : ∃ a b c d e f g i, l = [a, b, c, d, e, f, g, i] := by
  match l, h with
  | [a, b, c, d, e, f, g, i], _ => exact ⟨a, b, c, d, e, f, g, i, rfl⟩
theorem ask_open {W : World} {es : List Value} (h : Tr Try.prog W 38 es) : ∃ x0 x1 x2 x3 x4 x5 x6 x7 : Int, es = [.int .i64 x0, .int .i64 x1, .int .i64 x2, .int .i64 x3, .int .i64 x4, .int .i64 x5, .int .i64 x6, .int .i64 x7] := by
  have hl := (Tr.struct Try.underlying38 h).1
  obtain ⟨a0, a1, a2, a3, a4, a5, a6, a7, rfl⟩ := list8 (hl.trans (by kernel_rfl : _ = 8))
  have h0 := Tr.field Try.underlying38 h 0 rfl (n := 1) (by kernel_rfl)
  have h1 := Tr.field Try.underlying38 h 1 rfl (n := 1) (by kernel_rfl)
  have h2 := Tr.field Try.underlying38 h 2 rfl (n := 1) (by kernel_rfl)
  have h3 := Tr.field Try.underlying38 h 3 rfl (n := 1) (by kernel_rfl)
  have h4 := Tr.field Try.underlying38 h 4 rfl (n := 2) (by kernel_rfl)
  have h5 := Tr.field Try.underlying38 h 5 rfl (n := 2) (by kernel_rfl)
  have p0 := Tr.field Try.underlying36 h4 0 rfl (n := 1) (by kernel_rfl)
  have p1 := Tr.field Try.underlying36 h4 1 rfl (n := 1) (by kernel_rfl)
  have q0 := Tr.field Try.underlying36 h5 0 rfl (n := 1) (by kernel_rfl)
  have q1 := Tr.field Try.underlying36 h5 1 rfl (n := 1) (by kernel_rfl)
  obtain ⟨x0, e0, _⟩ := h0.int Try.underlying3
  obtain ⟨x1, e1, _⟩ := h1.int Try.underlying3
  obtain ⟨x2, e2, _⟩ := h2.int Try.underlying3
  obtain ⟨x3, e3, _⟩ := h3.int Try.underlying3
  obtain ⟨x4, e4, _⟩ := p0.int Try.underlying3
  obtain ⟨x5, e5, _⟩ := p1.int Try.underlying3
  obtain ⟨x6, e6, _⟩ := q0.int Try.underlying3
  obtain ⟨x7, e7, _⟩ := q1.int Try.underlying3
  simp at e0 e1 e2 e3 e4 e5 e6 e7
  subst e0 e1 e2 e3 e4 e5 e6 e7
  exact ⟨x0, x1, x2, x3, x4, x5, x6, x7, rfl⟩

set_option maxRecDepth 100000 in
theorem law_PlaneExact {H : Type} (enc : TypeId × Value → H) (W : World) {base : Nat} (v : Value) (d : DataW H) (ps : List MemPlace)
    (hok : Value.okWide Try.prog W .any base 22 v) (h : DataW.Trod enc Try.prog W 0 (fun _ => true) true 22 v d ps)
    (_hsz : (DataW.weightsEach Try.prog [22] [d]).all (· ≤ reachBytes) = true) :
    Calls Try.prog 3 #[v] W fun e W' => e = .returned (.bool true) ∧ Below W.heap.size W W' := by
  obtain ⟨a0, l0, c0, rfl⟩ := okWide_slice Try.underlying22 hok
  have hT := Tr.of h
  simp only [Value.cells] at hT
  obtain ⟨A, n, cap, e2, hn, hc, hall⟩ := hT.slice Try.underlying22 (size := 8) (by kernel_rfl) (by omega)
  simp at e2
  obtain ⟨rfl, rfl, rfl⟩ := e2
  unfold maxLen at hc
  refine exact_walk _ _ _ W (fun k hk => ?_) (by omega)
  obtain ⟨bb, off, rfl, es, _, hb, hcell, ht⟩ := hall k hk
  obtain ⟨x0, x1, x2, x3, x4, x5, x6, x7, rfl⟩ := ask_open ht
  exact ⟨bb, off, x0, x1, x2, x3, x4, x5, x6, x7, rfl, hb, hcell 0 (by simp), hcell 1 (by simp), hcell 2 (by simp), hcell 3 (by simp), hcell 4 (by simp), hcell 5 (by simp), hcell 6 (by simp), hcell 7 (by simp)⟩
end Go.Proofs.Ytbgojhjlmlbfpaa
