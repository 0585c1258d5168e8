/- The argument of SettleSends and SettleDrains opened: five numbers, three lists of ints. -/
import Derived.Test.YtbgojhjlmlbfpaaSeS
import Derived.Test.YtbgojhjlmlbfpaaRead
namespace Go.Proofs.Ytbgojhjlmlbfpaa
open Go.ChangeShapes Go.WideShapes Go.ChangeAt Go.RowKit

theorem list8 {α : Type} {l : List α} (h : l.length = 8) : ∃ a b c d e f g i, l = [a, b, c, d, e, f, g, i] := by
  match l, h with
  | [a, b, c, d, e, f, g, i], _ => exact ⟨a, b, c, d, e, f, g, i, rfl⟩
/-- A list of ints that came in. -/
def IntsIn (W : World) (A : Option Addr) (n : Nat) : Prop := ∀ i, i < n → ∃ g off x, A = some ⟨g, off, none⟩ ∧ g < W.heap.size ∧ W.cell? ⟨g, off + i, none⟩ = some (.int .i64 x)
theorem ints_in {W : World} {cs : List Value} (h : Tr Try.prog W 31 cs) : ∃ A n c, cs = [.slice A n c] ∧ n ≤ 9223372036854775807 ∧ IntsIn W A n := by
  obtain ⟨A, n, c, rfl, h1, h2, h3⟩ := Tr.slice Try.underlying31 (size := 1) (by kernel_rfl) (by omega) h
  refine ⟨A, n, c, rfl, by unfold maxLen at h2; omega, fun i hi => ?_⟩
  obtain ⟨b, off, hA, es, hes, h4, h5, h6⟩ := h3 i hi
  obtain ⟨x, rfl, _⟩ := h6.int Try.underlying3
  exact ⟨b, off, x, hA, h4, by have := h5 0 (by simp); simpa using this⟩
theorem load_open {W : World} {es : List Value} (h : Tr Try.prog W 76 es) : ∃ (a b c d s : Int) (A1 A2 A3 : Option Addr) (n1 n2 n3 c1 c2 c3 : Nat),
    es = [.int .i64 a, .int .i64 b, .int .i64 c, .int .i64 d, .int .i64 s, .slice A1 n1 c1, .slice A2 n2 c2, .slice A3 n3 c3] ∧ (n1 ≤ 9223372036854775807 ∧ IntsIn W A1 n1) ∧ (n2 ≤ 9223372036854775807 ∧ IntsIn W A2 n2) ∧ n3 ≤ 9223372036854775807 ∧ IntsIn W A3 n3 := by
  have hl := (Tr.struct Try.underlying76 h).1
  obtain ⟨x0, x1, x2, x3, x4, x5, x6, x7, rfl⟩ := list8 (hl.trans (by kernel_rfl : _ = 8))
  have h0 := Tr.field Try.underlying76 h 0 rfl (n := 1) (by kernel_rfl)
  have h1 := Tr.field Try.underlying76 h 1 rfl (n := 1) (by kernel_rfl)
  have h2 := Tr.field Try.underlying76 h 2 rfl (n := 1) (by kernel_rfl)
  have h3 := Tr.field Try.underlying76 h 3 rfl (n := 1) (by kernel_rfl)
  have h4 := Tr.field Try.underlying76 h 4 rfl (n := 1) (by kernel_rfl)
  have h5 := Tr.field Try.underlying76 h 5 rfl (n := 1) (by kernel_rfl)
  have h6 := Tr.field Try.underlying76 h 6 rfl (n := 1) (by kernel_rfl)
  have h7 := Tr.field Try.underlying76 h 7 rfl (n := 1) (by kernel_rfl)
  obtain ⟨a, e0, _⟩ := h0.int Try.underlying3
  obtain ⟨b, e1, _⟩ := h1.int Try.underlying3
  obtain ⟨c, e2, _⟩ := h2.int Try.underlying3
  obtain ⟨d, e3, _⟩ := h3.int Try.underlying3
  obtain ⟨s, e4, _⟩ := h4.int Try.underlying3
  obtain ⟨A1, n1, c1, e5, i1⟩ := ints_in h5
  obtain ⟨A2, n2, c2, e6, i2⟩ := ints_in h6
  obtain ⟨A3, n3, c3, e7, i3⟩ := ints_in h7
  simp at e0 e1 e2 e3 e4 e5 e6 e7
  subst e0 e1 e2 e3 e4 e5 e6 e7
  exact ⟨a, b, c, d, s, A1, A2, A3, n1, n2, n3, c1, c2, c3, rfl, i1, i2, i3⟩

set_option maxRecDepth 100000 in
theorem law_SettleSends {H : Type} (enc : TypeId × Value → H) (W : World) {base : Nat} (v : Value) (d : DataW H) (ps : List MemPlace)
    (hok : Value.okWide Try.prog W .any base 76 v) (h : DataW.Trod enc Try.prog W 0 (fun _ => true) true 76 v d ps)
    (_hsz : (DataW.weightsEach Try.prog [76] [d]).all (· ≤ reachBytes) = true) :
    Calls Try.prog 7 #[v] W fun e W' => e = .returned (.bool true) ∧ Below W.heap.size W W' := by
  obtain ⟨cs, rfl, hsz⟩ := okWide_struct Try.underlying76 hok
  have hT := Tr.of h
  obtain ⟨cs⟩ := cs
  simp only [Value.cells] at hT
  obtain ⟨a, b, c, d', s, A1, A2, A3, n1, n2, n3, c1, c2, c3, rfl, ⟨k1, i1⟩, _, _⟩ := load_open hT
  exact sends_walk W a b c d' s A1 A2 A3 n1 n2 n3 c1 c2 c3 i1 k1
end Go.Proofs.Ytbgojhjlmlbfpaa
