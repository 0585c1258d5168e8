/- As Read, with the reach beside it ('TrW': these cells read as a value of that type, and each slice and string in it takes at most reachBytes). -/
import Derived.Test.YtbgojhjlmlbfpaaRead
import Derived.SizedLaws
namespace Go.Proofs.Ytbgojhjlmlbfpaa
open Go.ChangeShapes Go.WideShapes Go.ChangeAt Go.RowKit

def TrW (P : Program) (W : World) (t : TypeId) (cs : List Value) : Prop :=
  ∃ (H : Type) (enc : TypeId × Value → H) (fuel : Nat) (x : DataW H × List MemPlace), DataW.trod enc P W 0 (fun _ => true) true fuel t cs = some x ∧ ∀ n ∈ x.1.weights P t, n ≤ reachBytes

section
variable {P : Program} {W : World} {t : TypeId} {cs : List Value}
theorem TrW.tr (h : TrW P W t cs) : Tr P W t cs := by
  obtain ⟨H, enc, fuel, x, hf, _⟩ := h
  exact ⟨H, enc, fuel, x, hf⟩
theorem TrW.of {H : Type} {enc : TypeId × Value → H} {v : Value} {d : DataW H} {ps : List MemPlace} (h : DataW.Trod enc P W 0 (fun _ => true) true t v d ps) (hs : (DataW.weightsEach P [t] [d]).all (· ≤ reachBytes) = true) : TrW P W t v.cells.toList := by
  obtain ⟨fuel, hf⟩ := h
  refine ⟨H, enc, fuel, _, hf, fun n hn => ?_⟩
  have := List.all_eq_true.1 hs n (by simp only [DataW.weightsEach, List.append_nil]; exact hn)
  simpa using this
theorem weightsAll_mem {H : Type} {e : TypeId} {d : DataW H} {n : Nat} : ∀ {ds : List (DataW H)}, d ∈ ds → n ∈ d.weights P e → n ∈ DataW.weightsAll P e ds
  | x :: r, hm, hn => by
    simp only [DataW.weightsAll, List.mem_append]
    rcases List.mem_cons.1 hm with rfl | hm
    · exact .inl hn
    · exact .inr (weightsAll_mem hm hn)
theorem TrW.struct {fs : Array Field} (hu : P.underlying t = some (.struct fs)) (h : TrW P W t cs) :
    cs.length = P.cellsOf t ∧ ∀ (i : Nat) (f : Field), fs[i]? = some f → TrW P W f.type ((cs.drop f.offset).take (P.cellsOf f.type)) := by
  obtain ⟨H, enc, fuel, x, hf, hw⟩ := h
  obtain ⟨xs, n, _, rfl, hl, hx, hall⟩ := DataW.trod_struct hu hf
  refine ⟨hl, fun i f hi => ?_⟩
  have hlt : i < xs.length := by rw [hx]; exact (Array.getElem?_eq_some_iff.1 hi).1
  refine ⟨H, enc, n, xs[i], (hall i f hi).trans (List.getElem?_eq_getElem hlt), fun m hm => hw m ?_⟩
  simp only [DataW.weights, hu]
  refine DataW.weights_mem_each (j := i) (t := f.type) (d := xs[i].1) ?_ ?_ m hm
  · rw [List.getElem?_map, Array.getElem?_toList, hi]; rfl
  · rw [List.getElem?_map, List.getElem?_eq_getElem hlt]; rfl
theorem TrW.field {fs : Array Field} (hu : P.underlying t = some (.struct fs)) (h : TrW P W t cs) (i : Nat) {ty off n : Nat} (hf : fs[i]?.map (fun f => (f.type, f.offset)) = some (ty, off)) (hn : P.cellsOf ty = n) :
    TrW P W ty ((cs.drop off).take n) := by
  cases hx : fs[i]? with
  | none => rw [hx] at hf; cases hf
  | some f =>
    rw [hx] at hf
    simp only [Option.map_some, Option.some.injEq, Prod.mk.injEq] at hf
    have := (TrW.struct hu h).2 i f hx
    rw [hf.1, hf.2, hn] at this
    exact this
/-- Cells of memory that read as a value of type e, at a place of a row. -/
def AtW (P : Program) (W : World) (e : TypeId) (b off : Nat) (cs : List Value) : Prop :=
  b < W.heap.size ∧ (∀ j, j < cs.length → W.cell? ⟨b, off + j, none⟩ = cs[j]?) ∧ TrW P W e cs
theorem TrW.slice {e : TypeId} (hu : P.underlying t = some (.slice e)) {size : Nat} (he : P.cellsOf e = size) (hs : 0 < size) (h : TrW P W t cs) :
    ∃ (A : Option Addr) (len cap : Nat), cs = [.slice A len cap] ∧ len ≤ cap ∧ cap ≤ maxLen ∧ len * P.bytesOf e ≤ reachBytes ∧ (A = none → cap = 0) ∧ ∀ i, i < len → ∃ b off, A = some ⟨b, off, none⟩ ∧ ∃ es, es.length = size ∧ AtW P W e b (off + i * size) es := by
  obtain ⟨H, enc, fuel, x, hf, hw⟩ := h
  rcases Go.Deep.open_slice hu hf with ⟨rfl, _⟩ | ⟨a, len, cap, m, n, D, Pl, rfl, _, hl, hm, hmm, rfl, hall⟩
  · exact ⟨none, 0, 0, rfl, by omega, by unfold maxLen; omega, by simp, fun _ => rfl, fun i hi => by omega⟩
  · simp only [if_true] at hmm
    have hweigh : (len + (m - len)) * P.bytesOf e ≤ reachBytes := by
      refine hw _ ?_
      simp only [DataW.weights, hu, List.length_map, List.length_range]
      exact List.mem_cons_self
    refine ⟨some a, len, cap, rfl, hl, hm, Nat.le_trans (Nat.mul_le_mul_right _ (by omega)) hweigh, (fun h => by cases h), fun i hi => ?_⟩
    have hsp : a.spot = none := by
      obtain ⟨c0, h0, _⟩ := hall 0 (by omega)
      obtain ⟨k1, k2, k3⟩ := World.cells?_some h0
      have hz := k3 0 (by omega)
      rw [Nat.zero_mul] at hz
      have hz' : W.cell? a = c0[0]? := by simpa [Addr.add] using hz
      rw [List.getElem?_eq_getElem (by omega)] at hz'
      exact World.cell?_spot hz'
    obtain ⟨b, off, sp⟩ := a
    simp only at hsp
    subst hsp
    obtain ⟨es, h0, h1⟩ := hall i (by omega)
    obtain ⟨k1, k2, k3⟩ := World.cells?_some h0
    rw [he] at h0 k2 k3
    refine ⟨b, off, rfl, es, k2, ?_, fun j hj => ?_, H, enc, n, _, h1, fun q hq => hw q ?_⟩
    · have := World.cells?_block h0 hs
      rwa [add_spot] at this
    · have hz := k3 j (by omega)
      rw [add_spot, add_spot] at hz
      exact hz
    · simp only [DataW.weights, hu]
      refine List.mem_cons_of_mem _ (List.mem_append.2 (.inl (weightsAll_mem (d := D i) ?_ hq)))
      exact List.mem_map.2 ⟨i, List.mem_range.2 hi, rfl⟩
end
end Go.Proofs.Ytbgojhjlmlbfpaa
