/- Words for memory: one block put anew and nothing else turned ('OnlyB'); a row of whole numbers in a block. -/
import Derived.WalkKit
import Derived.BigRegion
import Derived.ChangeAlike
import Derived.Outline
import Derived.Laws.EntriesVeiled
import Derived.WalkLawsBesides
import Derived.Below
import Derived.Deep.Draws
import Derived.Lib.Hide
import Derived.WalkSmall
import Derived.Deep.QuietTactic
import Derived.BigQuiet
import Derived.Deep.RegionHeld3
import Derived.Deep.AppendLies
import Derived.OwnWalk
namespace Go.Proofs.Ytbgojhjlmlbfpaa
open Go.RowKit

structure OnlyB (w w' : World) (b : Nat) (o : Obj) : Prop where
  os : w'.os = w.os
  tape : w'.tape = w.tape
  output : w'.output = w.output
  heap : w'.heap = w.heap.setIfInBounds b o

theorem cell_of_obj {w : World} {b : Nat} {cs : Array Value} {t : TypeId} (h : w.heap[b]? = some (.cells cs t (0, 0))) (i : Nat) : w.cell? ⟨b, i, none⟩ = cs[i]? := by simp [World.cell?, h]
theorem free_of_obj {w : World} {b : Nat} {cs : Array Value} {t : TypeId} (h : w.heap[b]? = some (.cells cs t (0, 0))) (i : Nat) : w.frozen? ⟨b, i, none⟩ = false := by simp [World.frozen?, h]
theorem set_obj {w : World} {b : Nat} {cs : Array Value} {t : TypeId} (h : w.heap[b]? = some (.cells cs t (0, 0))) (i : Nat) (v : Value) : (w.setCell ⟨b, i, none⟩ v).heap[b]? = some (.cells (cs.setIfInBounds i v) t (0, 0)) := by
  simp [World.setCell, Array.getElem?_modify, h]
theorem set_heap {w : World} {b : Nat} {cs : Array Value} {t : TypeId} (h : w.heap[b]? = some (.cells cs t (0, 0))) (i : Nat) (v : Value) : (w.setCell ⟨b, i, none⟩ v).heap = w.heap.setIfInBounds b (.cells (cs.setIfInBounds i v) t (0, 0)) := by
  apply Array.ext_getElem?
  intro j
  simp only [World.setCell, Array.getElem?_modify, Array.getElem?_setIfInBounds]
  have hb : b < w.heap.size := by
    rcases Nat.lt_or_ge b w.heap.size with h1 | h1
    · exact h1
    · rw [Array.getElem?_eq_none h1] at h; cases h
  by_cases hj : b = j
  · subst hj
    rw [Array.getElem?_eq_getElem hb] at h
    simp only [Option.some.injEq] at h
    simp [hb, h]
  · simp [hj]

theorem OnlyB.refl {w : World} {b : Nat} {o : Obj} (h : w.heap[b]? = some o) : OnlyB w w b o :=
  ⟨rfl, rfl, rfl, by
    apply Array.ext_getElem?
    intro j
    have hb : b < w.heap.size := (Array.getElem?_eq_some_iff.1 h).1
    rw [Array.getElem?_setIfInBounds]
    by_cases hj : b = j
    · subst hj; rw [if_pos rfl, if_pos hb, h]
    · rw [if_neg hj]⟩
theorem OnlyB.set {w w1 : World} {b : Nat} {cs : Array Value} {t : TypeId} (h : OnlyB w w1 b (.cells cs t (0, 0))) (hb : b < w.heap.size) (i : Nat) (v : Value) : OnlyB w (w1.setCell ⟨b, i, none⟩ v) b (.cells (cs.setIfInBounds i v) t (0, 0)) := by
  have h1 : w1.heap[b]? = some (.cells cs t (0, 0)) := by rw [h.heap, Array.getElem?_setIfInBounds, if_pos rfl, if_pos hb]
  refine ⟨h.os, h.tape, h.output, ?_⟩
  rw [set_heap h1, h.heap, Array.setIfInBounds_setIfInBounds]
theorem OnlyB.drew {w w1 : World} {b : Nat} {o : Obj} (h : OnlyB w w1 b o) : OnlyB w w1.drew b o := ⟨h.os, h.tape, h.output, h.heap⟩
theorem OnlyB.drewN {w w1 : World} {b : Nat} {o : Obj} (h : OnlyB w w1 b o) (n : Nat) : OnlyB w (w1.drewN n) b o := ⟨h.os, h.tape, h.output, h.heap⟩
theorem OnlyB.at_ {w w1 : World} {b : Nat} {o : Obj} (h : OnlyB w w1 b o) (hb : b < w.heap.size) : w1.heap[b]? = some o := by
  rw [h.heap, Array.getElem?_setIfInBounds, if_pos rfl, if_pos hb]
theorem OnlyB.far {w w1 : World} {b : Nat} {o : Obj} (h : OnlyB w w1 b o) {k : Nat} (hk : k ≠ b) : w1.heap[k]? = w.heap[k]? := by
  rw [h.heap, Array.getElem?_setIfInBounds, if_neg (fun e => hk e.symm)]
theorem OnlyB.size {w w1 : World} {b : Nat} {o : Obj} (h : OnlyB w w1 b o) : w1.heap.size = w.heap.size := by rw [h.heap, Array.size_setIfInBounds]
theorem lt_of_obj {w : World} {b : Nat} {o : Obj} (h : w.heap[b]? = some o) : b < w.heap.size := (Array.getElem?_eq_some_iff.1 h).1
theorem OnlyB.below {w w1 : World} {b : Nat} {o : Obj} (h : OnlyB w w1 b o) {B : Nat} (hB : B ≤ b) : Below B w w1 :=
  ⟨h.os, h.tape, h.output, by rw [h.size]; exact Nat.le_refl _, fun k hk => h.far (by omega)⟩

theorem OnlyB.trans {w w1 w2 : World} {b : Nat} {o o' : Obj} (h : OnlyB w w1 b o) (k : OnlyB w1 w2 b o') : OnlyB w w2 b o' := by
  refine ⟨k.os.trans h.os, k.tape.trans h.tape, k.output.trans h.output, ?_⟩
  rw [k.heap, h.heap, Array.setIfInBounds_setIfInBounds]
theorem OnlyB.of_drewN {w w1 : World} {b n : Nat} {o : Obj} (h : OnlyB (w.drewN n) w1 b o) : OnlyB w w1 b o := ⟨h.os, h.tape, h.output, h.heap⟩
theorem OnlyB.cell {w w1 : World} {b : Nat} {o : Obj} (h : OnlyB w w1 b o) {a : Addr} (ha : a.block ≠ b) : w1.cell? a = w.cell? a := World.cell?_of_block (w := w) (h.far ha)

/-- Behind a call that makes memory: old cells and old marks read as before (the walk takes the two as rules). -/
theorem bcell {W w1 : World} (hb : Below W.heap.size W w1) : (∀ b o, b < W.heap.size → w1.cell? ⟨b, o, none⟩ = W.cell? ⟨b, o, none⟩) ∧ (∀ b o, b < W.heap.size → w1.frozen? ⟨b, o, none⟩ = W.frozen? ⟨b, o, none⟩) :=
  ⟨fun b o h => hb.cell (p := ⟨b, o, none⟩) h, fun b o h => hb.frozen (p := ⟨b, o, none⟩) h⟩
theorem cellKeep {W w1 : World} (hb : Below W.heap.size W w1) {a : Addr} {v : Value} (h : W.cell? a = some v) : w1.cell? a = some v := (hb.cell (World.block_lt_of_cell? W a h)).trans h
/-- A contract that leaves the world alone, the other way round: so that a walk keeps its world's name. -/
theorem flipW {P : Program} {f : FuncId} {args : Array Value} {w : World} {R : Ending → Prop} (h : Calls P f args w fun e w' => R e ∧ w' = w) : Calls P f args w fun e w' => R e ∧ w = w' :=
  h.mono fun _ _ ⟨a, b⟩ => ⟨a, b.symm⟩
/-- Quiet calls behind draws that have been joined. -/
theorem quietAdd {P : Program} {f : FuncId} {args : Array Value} {w : World} {a n : Nat} {v : Value}
    (h : Calls P f args (w.drewN (a + n)) fun e w' => e = .returned v ∧ ∃ m, w' = (w.drewN (a + n)).drewN m) :
    Calls P f args (w.drewN (a + n)) fun e w'' => e = .returned v ∧ ∃ m, w'' = w.drewN (a + m) :=
  h.mono fun _ _ ⟨he, m, hm⟩ => ⟨he, n + m, by rw [hm, World.drewN_drewN, Nat.add_assoc]⟩
theorem quietAddSame {P : Program} {f : FuncId} {args : Array Value} {w : World} {a n : Nat} {v : Value}
    (h : Calls P f args (w.drewN (a + n)) fun e w' => e = .returned v ∧ w' = w.drewN (a + n)) :
    Calls P f args (w.drewN (a + n)) fun e w'' => e = .returned v ∧ ∃ m, w'' = w.drewN (a + m) :=
  h.mono fun _ _ ⟨he, hm⟩ => ⟨he, n, hm⟩
/-- A block of ints. -/
def rowObj (t : TypeId) (L : List Int) : Obj := .cells (L.map (Value.int .i64)).toArray t (0, 0)
theorem row_cell {w : World} {g t : Nat} {L : List Int} (h : w.heap[g]? = some (rowObj t L)) (j : Nat) (hj : j < L.length) : w.cell? ⟨g, j, none⟩ = some (.int .i64 (L.getD j 0)) := by
  rw [cell_of_obj h j]
  simp [List.getElem?_eq_getElem hj]
theorem row_free {w : World} {g t : Nat} {L : List Int} (h : w.heap[g]? = some (rowObj t L)) (j : Nat) : w.frozen? ⟨g, j, none⟩ = false := free_of_obj h j
theorem row_set (t : TypeId) (L : List Int) (j : Nat) (v : Int) : Obj.cells ((L.map (Value.int .i64)).toArray.setIfInBounds j (.int .i64 v)) t (0, 0) = rowObj t (L.set j v) := by
  unfold rowObj
  congr 1
  simp [List.map_set]
end Go.Proofs.Ytbgojhjlmlbfpaa
