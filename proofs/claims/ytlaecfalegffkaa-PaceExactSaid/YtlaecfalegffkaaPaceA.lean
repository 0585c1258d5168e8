/- What the methods of a pace do to its block: contracts by walking (New, Tick, send, wait, Reset, Wait, into). -/
import Derived.Test.YtlaecfalegffkaaProg
import Derived.WalkKit
import Derived.BigRegion
import Derived.ChangeAlike
import Derived.Outline
import Derived.Laws.EntriesVeiled
import Derived.WalkLawsBesides
import Derived.Below
import Derived.Deep.Draws
import Derived.Lib.Hide
namespace Go.Proofs.Ytlaecfalegffkaa
open Go.RowKit

/-- The block of a pace: cap, left, gap, and whether the next tick is a time. -/
def paceFn (b : Nat) (s : Bool) : Value := .func (.func (match s with | true => 18 | false => 19)) #[.pointer (some ⟨b, 0, none⟩)] #[]
def paceObj (b : Nat) (c l g : Int) (s : Bool) : Obj := .cells #[.int .i64 c, .int .i64 l, .int .i64 g, paceFn b s] 49 (0, 0)

/-- The world with one block put anew. -/
def putB (w : World) (b : Nat) (o : Obj) : World := { w with heap := w.heap.setIfInBounds b o }

structure OnlyB (w w' : World) (b : Nat) (o : Obj) : Prop where
  os : w'.os = w.os
  tape : w'.tape = w.tape
  output : w'.output = w.output
  heap : w'.heap = w.heap.setIfInBounds b o

theorem cell_of_obj {w : World} {b : Nat} {cs : Array Value} {t : TypeId} (h : w.heap[b]? = some (.cells cs t (0, 0))) (i : Nat) : w.cell? ⟨b, i, none⟩ = cs[i]? := by simp [World.cell?, h]
theorem free_of_obj {w : World} {b : Nat} {cs : Array Value} {t : TypeId} (h : w.heap[b]? = some (.cells cs t (0, 0))) (i : Nat) : w.frozen? ⟨b, i, none⟩ = false := by simp [World.frozen?, h]
theorem set_obj {w : World} {b : Nat} {cs : Array Value} {t : TypeId} (h : w.heap[b]? = some (.cells cs t (0, 0))) (i : Nat) (v : Value) : (w.setCell ⟨b, i, none⟩ v).heap[b]? = some (.cells (cs.setIfInBounds i v) t (0, 0)) := by
  simp [World.setCell, Array.getElem?_modify, h]
theorem set_heap {w : World} {b : Nat} {cs : Array Value} {t : TypeId} (h : w.heap[b]? = some (.cells cs t (0, 0))) (i : Nat) (v : Value) : (w.setCell ⟨b, i, none⟩ v).heap = w.heap.setIfInBounds b (.cells (cs.setIfInBounds i v) t (0, 0)) := by
  apply Array.ext_getElem?
  intro j
  simp only [World.setCell, Array.getElem?_modify, Array.getElem?_setIfInBounds]
  have hb : b < w.heap.size := by
    rcases Nat.lt_or_ge b w.heap.size with h1 | h1
    · exact h1
    · rw [Array.getElem?_eq_none h1] at h; cases h
  by_cases hj : b = j
  · subst hj
    rw [Array.getElem?_eq_getElem hb] at h
    simp only [Option.some.injEq] at h
    simp [hb, h]
  · simp [hj]

theorem OnlyB.refl {w : World} {b : Nat} {o : Obj} (h : w.heap[b]? = some o) : OnlyB w w b o :=
  ⟨rfl, rfl, rfl, by
    apply Array.ext_getElem?
    intro j
    have hb : b < w.heap.size := (Array.getElem?_eq_some_iff.1 h).1
    rw [Array.getElem?_setIfInBounds]
    by_cases hj : b = j
    · subst hj; rw [if_pos rfl, if_pos hb, h]
    · rw [if_neg hj]⟩
theorem OnlyB.set {w w1 : World} {b : Nat} {cs : Array Value} {t : TypeId} (h : OnlyB w w1 b (.cells cs t (0, 0))) (hb : b < w.heap.size) (i : Nat) (v : Value) : OnlyB w (w1.setCell ⟨b, i, none⟩ v) b (.cells (cs.setIfInBounds i v) t (0, 0)) := by
  have h1 : w1.heap[b]? = some (.cells cs t (0, 0)) := by rw [h.heap, Array.getElem?_setIfInBounds, if_pos rfl, if_pos hb]
  refine ⟨h.os, h.tape, h.output, ?_⟩
  rw [set_heap h1, h.heap, Array.setIfInBounds_setIfInBounds]
theorem OnlyB.drew {w w1 : World} {b : Nat} {o : Obj} (h : OnlyB w w1 b o) : OnlyB w w1.drew b o := ⟨h.os, h.tape, h.output, h.heap⟩
theorem OnlyB.drewN {w w1 : World} {b : Nat} {o : Obj} (h : OnlyB w w1 b o) (n : Nat) : OnlyB w (w1.drewN n) b o := ⟨h.os, h.tape, h.output, h.heap⟩
theorem OnlyB.at_ {w w1 : World} {b : Nat} {o : Obj} (h : OnlyB w w1 b o) (hb : b < w.heap.size) : w1.heap[b]? = some o := by
  rw [h.heap, Array.getElem?_setIfInBounds, if_pos rfl, if_pos hb]
theorem OnlyB.far {w w1 : World} {b : Nat} {o : Obj} (h : OnlyB w w1 b o) {k : Nat} (hk : k ≠ b) : w1.heap[k]? = w.heap[k]? := by
  rw [h.heap, Array.getElem?_setIfInBounds, if_neg (fun e => hk e.symm)]
theorem OnlyB.size {w w1 : World} {b : Nat} {o : Obj} (h : OnlyB w w1 b o) : w1.heap.size = w.heap.size := by rw [h.heap, Array.size_setIfInBounds]
theorem lt_of_obj {w : World} {b : Nat} {o : Obj} (h : w.heap[b]? = some o) : b < w.heap.size := (Array.getElem?_eq_some_iff.1 h).1
theorem OnlyB.below {w w1 : World} {b : Nat} {o : Obj} (h : OnlyB w w1 b o) {B : Nat} (hB : B ≤ b) : Below B w w1 :=
  ⟨h.os, h.tape, h.output, by rw [h.size]; exact Nat.le_refl _, fun k hk => h.far (by omega)⟩
end Go.Proofs.Ytlaecfalegffkaa
