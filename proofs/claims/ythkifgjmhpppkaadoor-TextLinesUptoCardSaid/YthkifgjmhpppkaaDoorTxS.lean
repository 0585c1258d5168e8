/- What an argument's reading gives: slices of texts and of numbers, with what they weigh. -/
import Derived.Test.YthkifgjmhpppkaaDoorTxQ
import Derived.Test.YthkifgjmhpppkaaDoorTxO
import Derived.Lib.SmallJoins
import Derived.SliceStrings
namespace Go.Proofs.YthkifgjmhpppkaaDoor
open Go.ChangeShapes Go.WideShapes Go.ChangeAt Go.RowKit Go.Joins

/-- A slice of numbers of kind k that reads as a list. -/
def RI (k : IntKind) (w : World) (A : Option Addr) (l : List Int) : Prop := l.length ≤ 9223372036854775807 ∧ (0 < l.length → ∃ ad, A = some ad ∧ ∀ (j : Nat) (n : Int), l[j]? = some n → w.cell? (ad.add j) = some (.int k n))
theorem RI.below {k : IntKind} {w w' : World} {A : Option Addr} {l : List Int} (h : RI k w A l) (hb : Below w.heap.size w w') : RI k w' A l :=
  ⟨h.1, fun h0 => by
    obtain ⟨ad, e, hc⟩ := h.2 h0
    exact ⟨ad, e, fun j s hs => (hb.cell (World.block_lt_of_cell? w _ (hc j s hs))).trans (hc j s hs)⟩⟩
theorem bulk_mem {H : Type} {d : DataW H} {l : List (DataW H)} (h : d ∈ l) : Rows.uptoBulk d ≤ Rows.uptoBulkAll l := by
  induction l with
  | nil => cases h
  | cons x r ih =>
    simp only [Rows.uptoBulkAll]
    cases List.mem_cons.1 h with
    | inl e => subst e; omega
    | inr e => have := ih e; omega
theorem bulk_one {H : Type} (d : DataW H) : 1 ≤ Rows.uptoBulk d := by
  cases d with
  | lit l => cases l <;> simp [Rows.uptoBulk]
  | nil => simp [Rows.uptoBulk]
  | ptr d => simp [Rows.uptoBulk]
  | slice elems spare => simp [Rows.uptoBulk]
  | agg parts => simp [Rows.uptoBulk]
  | iface t d => simp [Rows.uptoBulk]
  | map entries => simp [Rows.uptoBulk]
  | held h => simp [Rows.uptoBulk]
theorem bulk_len {H : Type} (l : List (DataW H)) : l.length ≤ Rows.uptoBulkAll l := by
  induction l with
  | nil => simp [Rows.uptoBulkAll]
  | cons x r ih => have := bulk_one x; simp only [Rows.uptoBulkAll, List.length_cons]; omega
theorem bulk_strs {H : Type} (l : List ByteArray) : l.length ≤ Rows.uptoBulkAll (strs (H := H) l) ∧ ∀ s ∈ l, s.size ≤ Rows.uptoBulkAll (strs (H := H) l) := by
  have hb : ∀ s ∈ l, s.size ≤ Rows.uptoBulkAll (strs (H := H) l) := fun s hs => by
    have hm : (DataW.lit (.string s.data.toList) : DataW H) ∈ strs l := List.mem_map.2 ⟨s, hs, rfl⟩
    have h1 := bulk_mem hm
    have h2 : Rows.uptoBulk (DataW.lit (H := H) (.string s.data.toList)) = s.data.toList.length + 1 := by simp [Rows.uptoBulk]
    have h3 : s.data.toList.length = s.size := rfl
    omega
  refine ⟨?_, hb⟩
  have := bulk_len (strs (H := H) l)
  have h2 : (strs (H := H) l).length = l.length := by unfold strs; simp
  omega
theorem add_get (a : Addr) (ss : List ByteArray) (w : World) (len : Nat) (h : ∀ i, i < ss.length → w.cell? (a.add i) = some (.string (ss.getD i ByteArray.empty))) : ∀ (j : Nat) (s : ByteArray), (ss.take len)[j]? = some s → w.cell? (a.add j) = some (.string s) := fun j s hs => by
  rw [List.getElem?_take] at hs
  by_cases hj : j < len
  · rw [if_pos hj] at hs
    obtain ⟨hl, he⟩ := List.getElem?_eq_some_iff.1 hs
    rw [h j hl, List.getD_eq_getElem?_getD, List.getElem?_eq_getElem hl, he]
    rfl
  · rw [if_neg hj] at hs
    cases hs
/-- A slice of texts. -/
theorem strs_of {H : Type} {enc : TypeId × Value → H} {W : World} {fuel : Nat} {v : Value} {x : DataW H × List MemPlace} (h : DataW.trod enc Tryd.prog W 0 (fun _ => true) true fuel 22 [v] = some x) :
    ∃ (A : Option Addr) (l : List ByteArray) (cap : Nat), v = .slice A l.length cap ∧ l.length ≤ cap ∧ RS W A l ∧ l.length + 1 ≤ Rows.uptoBulk x.1 ∧ ∀ s ∈ l, s.size ≤ Rows.uptoBulk x.1 := by
  rcases open_strings Tryd.underlying22 Tryd.underlying9 (by kernel_rfl) h with ⟨hcs, hx⟩ | ⟨a, len, cap, ss, hcs, _, hl, hm, hz, hx, hcell, _⟩
  · injection hcs with hcs
    subst hcs
    subst hx
    exact ⟨none, [], 0, rfl, Nat.le_refl _, ⟨by simp, fun h => absurd h (by simp)⟩, by simp [Rows.uptoBulk], by simp⟩
  · injection hcs with hcs
    subst hcs
    simp only [if_true] at hz
    unfold maxLen at hm
    have hlt : (ss.take len).length = len := by rw [List.length_take]; omega
    have hb := bulk_strs (H := H) (ss.take len)
    have hx1 : x.1 = .slice (strs (ss.take len)) (strs (ss.drop len)) := by rw [hx]
    have hB : Rows.uptoBulk x.1 = Rows.uptoBulkAll (strs (H := H) (ss.take len)) + Rows.uptoBulkAll (strs (H := H) (ss.drop len)) + 1 := by rw [hx1]; simp [Rows.uptoBulk]
    refine ⟨some a, ss.take len, cap, by rw [hlt], by omega, ⟨by omega, fun _ => ⟨a, rfl, add_get a ss W len hcell⟩⟩, by omega, fun s hs => ?_⟩
    have := hb.2 s hs
    omega
/-- A slice of numbers. -/
theorem ints_of {H : Type} {enc : TypeId × Value → H} {W : World} {fuel : Nat} {t e : TypeId} {k : IntKind} {v : Value} {x : DataW H × List MemPlace} (ht : Tryd.prog.underlying t = some (.slice e)) (he : Tryd.prog.underlying e = some (.int k)) (hc : Tryd.prog.cellsOf e = 1)
    (h : DataW.trod enc Tryd.prog W 0 (fun _ => true) true fuel t [v] = some x) :
    ∃ (A : Option Addr) (l : List Int) (cap : Nat), v = .slice A l.length cap ∧ l.length ≤ cap ∧ RI k W A l ∧ (∀ n ∈ l, (Lit.int k n).wf = true) ∧ l.length + 1 ≤ Rows.uptoBulk x.1 := by
  rcases open_ints ht he hc h with ⟨hcs, hx⟩ | ⟨a, len, cap, zs, hcs, _, hl, hm, hz, hx, hcell, hwf⟩
  · injection hcs with hcs
    subst hcs
    subst hx
    exact ⟨none, [], 0, rfl, Nat.le_refl _, ⟨by simp, fun h => absurd h (by simp)⟩, by simp, by simp [Rows.uptoBulk]⟩
  · injection hcs with hcs
    subst hcs
    simp only [if_true] at hz
    unfold maxLen at hm
    have hlt : (zs.take len).length = len := by rw [List.length_take]; omega
    have hx1 : x.1 = .slice (lits k (zs.take len)) (lits k (zs.drop len)) := by rw [hx]
    have hb := bulk_len (lits (H := H) k (zs.take len))
    have hb2 : (lits (H := H) k (zs.take len)).length = len := by unfold lits; rw [List.length_map, hlt]
    have hB : Rows.uptoBulk x.1 = Rows.uptoBulkAll (lits (H := H) k (zs.take len)) + Rows.uptoBulkAll (lits (H := H) k (zs.drop len)) + 1 := by rw [hx1]; simp [Rows.uptoBulk]
    refine ⟨some a, zs.take len, cap, by rw [hlt], by omega, ⟨by omega, fun _ => ⟨a, rfl, fun j n hn => ?_⟩⟩, fun n hn => hwf n (List.mem_of_mem_take hn), by omega⟩
    rw [List.getElem?_take] at hn
    by_cases hj : j < len
    · rw [if_pos hj] at hn
      obtain ⟨hl2, he2⟩ := List.getElem?_eq_some_iff.1 hn
      rw [hcell j hl2, List.getD_eq_getElem?_getD, List.getElem?_eq_getElem hl2, he2]
      rfl
    · rw [if_neg hj] at hn
      cases hn
end Go.Proofs.YthkifgjmhpppkaaDoor
