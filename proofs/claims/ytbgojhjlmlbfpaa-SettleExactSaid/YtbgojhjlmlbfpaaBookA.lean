/- tallylaw1.Book: its object, and the calls that concern the kinds of lists of which it keeps none. Printed by program (wip/tools/bookgen.py). -/
import Derived.Test.YtbgojhjlmlbfpaaProg
import Derived.Test.YtbgojhjlmlbfpaaLists
namespace Go.Proofs.Ytbgojhjlmlbfpaa
open Go.RowKit

/-- The Book's object, cell by cell. -/
def bookObj (f : Nat → Value) : Obj := .cells ((List.range 39).map f).toArray 52 (0, 0)
theorem book_cell {w : World} {B : Nat} {f : Nat → Value} (h : w.heap[B]? = some (bookObj f)) (k : Nat) (hk : k < 39) : w.cell? ⟨B, k, none⟩ = some (f k) := by
  rw [cell_of_obj h k]
  simp [hk]
/-- One cell put anew. -/
def upd (f : Nat → Value) (k : Nat) (v : Value) : Nat → Value := fun j => if j = k then v else f j
theorem upd_same {f : Nat → Value} {k : Nat} {v : Value} (h : f k = v) : upd f k v = f := by
  funext j
  unfold upd
  split
  · rename_i e; subst e; exact h.symm
  · rfl
theorem book_set (f : Nat → Value) (k : Nat) (v : Value) : Obj.cells (((List.range 39).map f).toArray.setIfInBounds k v) 52 (0, 0) = bookObj (upd f k v) := by
  unfold bookObj upd
  congr 1
  apply Array.ext_getElem?
  intro j
  rw [Array.getElem?_setIfInBounds]
  simp only [List.size_toArray, List.length_map, List.length_range, List.getElem?_toArray, List.getElem?_map]
  by_cases hk : k = j
  · subst hk
    rw [if_pos rfl]
    split
    · simp [List.getElem?_range ‹_›]
    · rw [List.getElem?_eq_none (by simp; omega)]; rfl
  · rw [if_neg hk]
    by_cases hj : j < 39
    · rw [List.getElem?_range hj]
      have : ¬ j = k := fun e => hk e.symm
      simp [this]
    · rw [List.getElem?_eq_none (by simp; omega)]; rfl
theorem OnlyB.book {w w1 : World} {B : Nat} {f : Nat → Value} (h : OnlyB w w1 B (bookObj f)) (hb : B < w.heap.size) (k : Nat) (v : Value) : OnlyB w (w1.setCell ⟨B, k, none⟩ v) B (bookObj (upd f k v)) := by
  have := OnlyB.set h hb k v
  rwa [book_set] at this

set_option maxRecDepth 100000 in
theorem growBytes_none (w : World) (B : Nat) (f : Nat → Value) (h : w.heap[B]? = some (bookObj f)) (h0 : f 0 = .slice none 0 0) (h2 : f 2 = .int .i64 0) :
    Calls Try.prog 90 #[.pointer (some ⟨B, 0, none⟩)] w fun e w' => e = .returned (.tuple #[]) ∧ OnlyB w w' B (bookObj f) := by
  have c0 := book_cell h 0 (by omega)
  have c2 := book_cell h 2 (by omega)
  rw [h0] at c0
  rw [h2] at c2
  have hf := free_of_obj h 2
  have hset := OnlyB.book (OnlyB.refl h) (lt_of_obj h) 2 (.int .i64 0)
  rw [upd_same h2] at hset
  have HS := Lib.hid hset
  clear hset
  go_enter Try.func90, Try.ntmps90
  go_wp2
  refine wp_loop_rounds 1 ?_
  rw [rounds_succ]
  go_wp2
  go_end0
  exact ⟨rfl, HS.out⟩

set_option maxRecDepth 100000 in
theorem growRows_none (w : World) (B : Nat) (f : Nat → Value) (h : w.heap[B]? = some (bookObj f)) (h0 : f 3 = .slice none 0 0) (h2 : f 5 = .int .i64 0) :
    Calls Try.prog 91 #[.pointer (some ⟨B, 0, none⟩)] w fun e w' => e = .returned (.tuple #[]) ∧ OnlyB w w' B (bookObj f) := by
  have c0 := book_cell h 3 (by omega)
  have c2 := book_cell h 5 (by omega)
  rw [h0] at c0
  rw [h2] at c2
  have hf := free_of_obj h 5
  have hset := OnlyB.book (OnlyB.refl h) (lt_of_obj h) 5 (.int .i64 0)
  rw [upd_same h2] at hset
  have HS := Lib.hid hset
  clear hset
  go_enter Try.func91, Try.ntmps91
  go_wp2
  refine wp_loop_rounds 1 ?_
  rw [rounds_succ]
  go_wp2
  go_end0
  exact ⟨rfl, HS.out⟩

set_option maxRecDepth 100000 in
theorem growTexts_none (w : World) (B : Nat) (f : Nat → Value) (h : w.heap[B]? = some (bookObj f)) (h0 : f 6 = .slice none 0 0) (h2 : f 8 = .int .i64 0) :
    Calls Try.prog 92 #[.pointer (some ⟨B, 0, none⟩)] w fun e w' => e = .returned (.tuple #[]) ∧ OnlyB w w' B (bookObj f) := by
  have c0 := book_cell h 6 (by omega)
  have c2 := book_cell h 8 (by omega)
  rw [h0] at c0
  rw [h2] at c2
  have hf := free_of_obj h 8
  have hset := OnlyB.book (OnlyB.refl h) (lt_of_obj h) 8 (.int .i64 0)
  rw [upd_same h2] at hset
  have HS := Lib.hid hset
  clear hset
  go_enter Try.func92, Try.ntmps92
  go_wp2
  refine wp_loop_rounds 1 ?_
  rw [rounds_succ]
  go_wp2
  go_end0
  exact ⟨rfl, HS.out⟩

set_option maxRecDepth 100000 in
theorem growWords_none (w : World) (B : Nat) (f : Nat → Value) (h : w.heap[B]? = some (bookObj f)) (h0 : f 12 = .slice none 0 0) (h2 : f 14 = .int .i64 0) :
    Calls Try.prog 94 #[.pointer (some ⟨B, 0, none⟩)] w fun e w' => e = .returned (.tuple #[]) ∧ OnlyB w w' B (bookObj f) := by
  have c0 := book_cell h 12 (by omega)
  have c2 := book_cell h 14 (by omega)
  rw [h0] at c0
  rw [h2] at c2
  have hf := free_of_obj h 14
  have hset := OnlyB.book (OnlyB.refl h) (lt_of_obj h) 14 (.int .i64 0)
  rw [upd_same h2] at hset
  have HS := Lib.hid hset
  clear hset
  go_enter Try.func94, Try.ntmps94
  go_wp2
  refine wp_loop_rounds 1 ?_
  rw [rounds_succ]
  go_wp2
  go_end0
  exact ⟨rfl, HS.out⟩

set_option maxRecDepth 100000 in
theorem growDones_none (w : World) (B : Nat) (f : Nat → Value) (h : w.heap[B]? = some (bookObj f)) (h0 : f 15 = .slice none 0 0) (h2 : f 17 = .int .i64 0) :
    Calls Try.prog 95 #[.pointer (some ⟨B, 0, none⟩)] w fun e w' => e = .returned (.tuple #[]) ∧ OnlyB w w' B (bookObj f) := by
  have c0 := book_cell h 15 (by omega)
  have c2 := book_cell h 17 (by omega)
  rw [h0] at c0
  rw [h2] at c2
  have hf := free_of_obj h 17
  have hset := OnlyB.book (OnlyB.refl h) (lt_of_obj h) 17 (.int .i64 0)
  rw [upd_same h2] at hset
  have HS := Lib.hid hset
  clear hset
  go_enter Try.func95, Try.ntmps95
  go_wp2
  refine wp_loop_rounds 1 ?_
  rw [rounds_succ]
  go_wp2
  go_end0
  exact ⟨rfl, HS.out⟩

set_option maxRecDepth 100000 in
theorem growAccts_none (w : World) (B : Nat) (f : Nat → Value) (h : w.heap[B]? = some (bookObj f)) (h0 : f 18 = .slice none 0 0) (h2 : f 20 = .int .i64 0) :
    Calls Try.prog 96 #[.pointer (some ⟨B, 0, none⟩)] w fun e w' => e = .returned (.tuple #[]) ∧ OnlyB w w' B (bookObj f) := by
  have c0 := book_cell h 18 (by omega)
  have c2 := book_cell h 20 (by omega)
  rw [h0] at c0
  rw [h2] at c2
  have hf := free_of_obj h 20
  have hset := OnlyB.book (OnlyB.refl h) (lt_of_obj h) 20 (.int .i64 0)
  rw [upd_same h2] at hset
  have HS := Lib.hid hset
  clear hset
  go_enter Try.func96, Try.ntmps96
  go_wp2
  refine wp_loop_rounds 1 ?_
  rw [rounds_succ]
  go_wp2
  go_end0
  exact ⟨rfl, HS.out⟩

set_option maxRecDepth 100000 in
theorem growQueue_none (w : World) (B : Nat) (f : Nat → Value) (h : w.heap[B]? = some (bookObj f)) (h0 : f 21 = .slice none 0 0) (h2 : f 23 = .int .i64 0) :
    Calls Try.prog 97 #[.pointer (some ⟨B, 0, none⟩)] w fun e w' => e = .returned (.tuple #[]) ∧ OnlyB w w' B (bookObj f) := by
  have c0 := book_cell h 21 (by omega)
  have c2 := book_cell h 23 (by omega)
  rw [h0] at c0
  rw [h2] at c2
  have hf := free_of_obj h 23
  have hset := OnlyB.book (OnlyB.refl h) (lt_of_obj h) 23 (.int .i64 0)
  rw [upd_same h2] at hset
  have HS := Lib.hid hset
  clear hset
  go_enter Try.func97, Try.ntmps97
  go_wp2
  refine wp_loop_rounds 1 ?_
  rw [rounds_succ]
  go_wp2
  go_end0
  exact ⟨rfl, HS.out⟩

set_option maxRecDepth 100000 in
theorem growSlots_none (w : World) (B : Nat) (f : Nat → Value) (h : w.heap[B]? = some (bookObj f)) (h0 : f 24 = .slice none 0 0) (h2 : f 26 = .int .i64 0) :
    Calls Try.prog 98 #[.pointer (some ⟨B, 0, none⟩)] w fun e w' => e = .returned (.tuple #[]) ∧ OnlyB w w' B (bookObj f) := by
  have c0 := book_cell h 24 (by omega)
  have c2 := book_cell h 26 (by omega)
  rw [h0] at c0
  rw [h2] at c2
  have hf := free_of_obj h 26
  have hset := OnlyB.book (OnlyB.refl h) (lt_of_obj h) 26 (.int .i64 0)
  rw [upd_same h2] at hset
  have HS := Lib.hid hset
  clear hset
  go_enter Try.func98, Try.ntmps98
  go_wp2
  refine wp_loop_rounds 1 ?_
  rw [rounds_succ]
  go_wp2
  go_end0
  exact ⟨rfl, HS.out⟩

set_option maxRecDepth 100000 in
theorem growMsgs_none (w : World) (B : Nat) (f : Nat → Value) (h : w.heap[B]? = some (bookObj f)) (h0 : f 27 = .slice none 0 0) (h2 : f 29 = .int .i64 0) :
    Calls Try.prog 99 #[.pointer (some ⟨B, 0, none⟩)] w fun e w' => e = .returned (.tuple #[]) ∧ OnlyB w w' B (bookObj f) := by
  have c0 := book_cell h 27 (by omega)
  have c2 := book_cell h 29 (by omega)
  rw [h0] at c0
  rw [h2] at c2
  have hf := free_of_obj h 29
  have hset := OnlyB.book (OnlyB.refl h) (lt_of_obj h) 29 (.int .i64 0)
  rw [upd_same h2] at hset
  have HS := Lib.hid hset
  clear hset
  go_enter Try.func99, Try.ntmps99
  go_wp2
  refine wp_loop_rounds 1 ?_
  rw [rounds_succ]
  go_wp2
  go_end0
  exact ⟨rfl, HS.out⟩

set_option maxRecDepth 100000 in
theorem growFlights_none (w : World) (B : Nat) (f : Nat → Value) (h : w.heap[B]? = some (bookObj f)) (h0 : f 30 = .slice none 0 0) (h2 : f 32 = .int .i64 0) :
    Calls Try.prog 100 #[.pointer (some ⟨B, 0, none⟩)] w fun e w' => e = .returned (.tuple #[]) ∧ OnlyB w w' B (bookObj f) := by
  have c0 := book_cell h 30 (by omega)
  have c2 := book_cell h 32 (by omega)
  rw [h0] at c0
  rw [h2] at c2
  have hf := free_of_obj h 32
  have hset := OnlyB.book (OnlyB.refl h) (lt_of_obj h) 32 (.int .i64 0)
  rw [upd_same h2] at hset
  have HS := Lib.hid hset
  clear hset
  go_enter Try.func100, Try.ntmps100
  go_wp2
  refine wp_loop_rounds 1 ?_
  rw [rounds_succ]
  go_wp2
  go_end0
  exact ⟨rfl, HS.out⟩

set_option maxRecDepth 100000 in
theorem growFiles_none (w : World) (B : Nat) (f : Nat → Value) (h : w.heap[B]? = some (bookObj f)) (h0 : f 33 = .slice none 0 0) (h2 : f 35 = .int .i64 0) :
    Calls Try.prog 101 #[.pointer (some ⟨B, 0, none⟩)] w fun e w' => e = .returned (.tuple #[]) ∧ OnlyB w w' B (bookObj f) := by
  have c0 := book_cell h 33 (by omega)
  have c2 := book_cell h 35 (by omega)
  rw [h0] at c0
  rw [h2] at c2
  have hf := free_of_obj h 35
  have hset := OnlyB.book (OnlyB.refl h) (lt_of_obj h) 35 (.int .i64 0)
  rw [upd_same h2] at hset
  have HS := Lib.hid hset
  clear hset
  go_enter Try.func101, Try.ntmps101
  go_wp2
  refine wp_loop_rounds 1 ?_
  rw [rounds_succ]
  go_wp2
  go_end0
  exact ⟨rfl, HS.out⟩

end Go.Proofs.Ytbgojhjlmlbfpaa
