/- What an argument's reading gives a walk: cells of memory at the world of the call, layer by layer ('Tr': these cells read as a value of that type). -/
import Derived.WalkKit
import Derived.ProofKit
import Derived.OpenShut
import Derived.Deep.Slices
import Derived.Below
namespace Go.Proofs.Ytbgojhjlmlbfpaa
open Go.ChangeShapes Go.WideShapes Go.ChangeAt Go.RowKit

/-- At world W the cells read as a value of type t (whatever the reading's tokens are). -/
def Tr (P : Program) (W : World) (t : TypeId) (cs : List Value) : Prop :=
  ∃ (H : Type) (enc : TypeId × Value → H) (fuel : Nat) (x : DataW H × List MemPlace), DataW.trod enc P W 0 (fun _ => true) true fuel t cs = some x

section
variable {P : Program} {W : World} {t : TypeId} {cs : List Value}

theorem Tr.of {H : Type} {enc : TypeId × Value → H} {v : Value} {d : DataW H} {ps : List MemPlace} (h : DataW.Trod enc P W 0 (fun _ => true) true t v d ps) : Tr P W t v.cells.toList := by
  obtain ⟨fuel, hf⟩ := h
  exact ⟨H, enc, fuel, _, hf⟩
theorem Tr.int {k : IntKind} (hu : P.underlying t = some (.int k)) (h : Tr P W t cs) : ∃ n, cs = [.int k n] ∧ (Lit.int k n).wf = true := by
  obtain ⟨H, enc, fuel, x, hf⟩ := h
  obtain ⟨n, h1, _, h2⟩ := DataW.trod_int hu hf
  exact ⟨n, h1, h2⟩
theorem Tr.bool (hu : P.underlying t = some .bool) (h : Tr P W t cs) : ∃ b, cs = [.bool b] := by
  obtain ⟨H, enc, fuel, x, hf⟩ := h
  obtain ⟨n, h1, _⟩ := DataW.trod_bool hu hf
  exact ⟨n, h1⟩
theorem Tr.string (hu : P.underlying t = some .string) (h : Tr P W t cs) : ∃ s : ByteArray, cs = [.string s] ∧ s.size ≤ maxLen := by
  obtain ⟨H, enc, fuel, x, hf⟩ := h
  obtain ⟨s, h1, _, h2⟩ := DataW.trod_string hu hf
  exact ⟨s, h1, h2⟩
/-- The value of a struct or an array as one value. -/
theorem Tr.struct {fs : Array Field} (hu : P.underlying t = some (.struct fs)) (h : Tr P W t cs) :
    cs.length = P.cellsOf t ∧ ∀ (i : Nat) (f : Field), fs[i]? = some f → Tr P W f.type ((cs.drop f.offset).take (P.cellsOf f.type)) := by
  obtain ⟨H, enc, fuel, x, hf⟩ := h
  obtain ⟨xs, n, _, _, hl, hx, hall⟩ := DataW.trod_struct hu hf
  refine ⟨hl, fun i f hi => ?_⟩
  have hlt : i < xs.length := by rw [hx]; exact (Array.getElem?_eq_some_iff.1 hi).1
  exact ⟨H, enc, n, xs[i], (hall i f hi).trans (List.getElem?_eq_getElem hlt)⟩
theorem Tr.field {fs : Array Field} (hu : P.underlying t = some (.struct fs)) (h : Tr P W t cs) (i : Nat) {ty off n : Nat} (hf : fs[i]?.map (fun f => (f.type, f.offset)) = some (ty, off)) (hn : P.cellsOf ty = n) :
    Tr P W ty ((cs.drop off).take n) := by
  cases hx : fs[i]? with
  | none => rw [hx] at hf; cases hf
  | some f =>
    rw [hx] at hf
    simp only [Option.map_some, Option.some.injEq, Prod.mk.injEq] at hf
    have := (Tr.struct hu h).2 i f hx
    rw [hf.1, hf.2, hn] at this
    exact this
theorem Tr.array {n : Nat} {e : TypeId} (hu : P.underlying t = some (.array n e)) (h : Tr P W t cs) :
    cs.length = P.cellsOf t ∧ ∀ i, i < n → Tr P W e ((cs.drop (i * P.cellsOf e)).take (P.cellsOf e)) := by
  obtain ⟨H, enc, fuel, x, hf⟩ := h
  obtain ⟨xs, m, _, _, hl, hx, hall⟩ := DataW.trod_array hu hf
  refine ⟨hl, fun i hi => ?_⟩
  have hlt : i < xs.length := by omega
  exact ⟨H, enc, m, xs[i], (hall i hi).trans (List.getElem?_eq_getElem hlt)⟩

/-- Cells of memory that read as a value of type e, at a place of a row. -/
def At (P : Program) (W : World) (e : TypeId) (b off : Nat) (cs : List Value) : Prop :=
  b < W.heap.size ∧ (∀ j, j < cs.length → W.cell? ⟨b, off + j, none⟩ = cs[j]?) ∧ Tr P W e cs
theorem At.later {e : TypeId} {b off : Nat} {w : World} (h : At P W e b off cs) (hb : Below W.heap.size W w) {j : Nat} (hj : j < cs.length) : w.cell? ⟨b, off + j, none⟩ = cs[j]? :=
  (hb.cell (p := ⟨b, off + j, none⟩) h.1).trans (h.2.1 j hj)

theorem add_spot (b off n : Nat) : (⟨b, off, none⟩ : Addr).add n = ⟨b, off + n, none⟩ := by unfold Addr.add; split <;> simp_all
theorem spot_of_add {a : Addr} {n : Nat} {w : World} {v : Value} (h : w.cell? a = some v) (_hn : n = 0) : a.spot = none := World.cell?_spot h

/-- A slice: nil, or a row whose elements read. (An element takes 'size' cells, one at least.) -/
theorem Tr.slice {e : TypeId} (hu : P.underlying t = some (.slice e)) {size : Nat} (he : P.cellsOf e = size) (hs : 0 < size) (h : Tr P W t cs) :
    ∃ (A : Option Addr) (len cap : Nat), cs = [.slice A len cap] ∧ len ≤ cap ∧ cap ≤ maxLen ∧ ∀ i, i < len → ∃ b off, A = some ⟨b, off, none⟩ ∧ ∃ es, es.length = size ∧ At P W e b (off + i * size) es := by
  obtain ⟨H, enc, fuel, x, hf⟩ := h
  rcases Go.Deep.open_slice hu hf with ⟨rfl, _⟩ | ⟨a, len, cap, m, n, D, Pl, rfl, _, hl, hm, hmm, _, hall⟩
  · exact ⟨none, 0, 0, rfl, by omega, by unfold maxLen; omega, fun i hi => by omega⟩
  · simp only [if_true] at hmm
    refine ⟨some a, len, cap, rfl, hl, hm, fun i hi => ?_⟩
    have hsp : a.spot = none := by
      obtain ⟨c0, h0, _⟩ := hall 0 (by omega)
      obtain ⟨k1, k2, k3⟩ := World.cells?_some h0
      have hz := k3 0 (by omega)
      rw [Nat.zero_mul] at hz
      have hz' : W.cell? a = c0[0]? := by simpa [Addr.add] using hz
      rw [List.getElem?_eq_getElem (by omega)] at hz'
      exact World.cell?_spot hz'
    obtain ⟨b, off, sp⟩ := a
    simp only at hsp
    subst hsp
    obtain ⟨es, h0, h1⟩ := hall i (by omega)
    obtain ⟨k1, k2, k3⟩ := World.cells?_some h0
    rw [he] at h0 k2 k3
    refine ⟨b, off, rfl, es, k2, ?_, fun j hj => ?_, H, enc, n, _, h1⟩
    · have := World.cells?_block h0 hs
      rwa [add_spot] at this
    · have hz := k3 j (by omega)
      rw [add_spot, add_spot] at hz
      exact hz
end
end Go.Proofs.Ytbgojhjlmlbfpaa
