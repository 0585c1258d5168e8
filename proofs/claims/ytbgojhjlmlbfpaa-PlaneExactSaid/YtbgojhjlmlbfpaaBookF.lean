/- tallylaw1.Book that keeps lists of ints alone: its state between calls ('BookS'), and Look. -/
import Derived.Test.YtbgojhjlmlbfpaaBookE
namespace Go.Proofs.Ytbgojhjlmlbfpaa
open Go.RowKit

/-- The Book between calls: so many lists have been taken (turn); all its blocks lie below H. -/
structure BookS (w : World) (B base turn H : Nat) (f : Nat → Value) (V : List Value) (M : List Nat) (X : List (Value × Nat × Nat)) (at_ done used : Nat) : Prop where
  bk : BookI w B base f V M X
  len : V.length = M.length
  at1 : f 11 = .int .i64 at_
  at2 : at_ ≤ V.length
  cost : V.length + 32 * (V.length - at_) ≤ 33 * turn
  small : ∀ (k : Nat) (v : Value), at_ ≤ k → V[k]? = some v → vlen v ≤ 1000
  turn_ : f 36 = .int .i64 turn
  done_ : f 37 = .int .i64 done
  used_ : f 38 = .int .i64 used
  used2 : used ≤ 16777216
  lo : base ≤ B
  hB : B < H
  h9 : ∀ g, (f 9).ownBlock = some g → g < H
  h10 : ∀ g, (f 10).ownBlock = some g → g < H
  hX : ∀ p ∈ X, ∀ g, p.1.ownBlock = some g → g < H
def BookAt (w : World) (B base turn H : Nat) : Prop := ∃ f V M X at_ done used, BookS w B base turn H f V M X at_ done used
theorem BookS.top {w w' : World} {B base turn H at_ done used : Nat} {f : Nat → Value} {V : List Value} {M : List Nat} {X : List (Value × Nat × Nat)} (h : BookS w B base turn H f V M X at_ done used) (hb : Below w.heap.size w w') : BookS w' B base turn w.heap.size f V M X at_ done used :=
  ⟨h.bk.below hb, h.len, h.at1, h.at2, h.cost, h.small, h.turn_, h.done_, h.used_, h.used2, h.lo, lt_of_obj h.bk.blk, fun _ hg => (ownsRow_lt h.bk.iv hg).2, fun _ hg => (ownsRow_lt h.bk.ov hg).2, fun p hp _ hg => ((h.bk.one p hp).block hg).2⟩
theorem BookAt.top {w w' : World} {B base turn H : Nat} (h : BookAt w B base turn H) (hb : Below w.heap.size w w') : BookAt w' B base turn w.heap.size := by
  obtain ⟨f, V, M, X, a, d, u, h⟩ := h
  exact ⟨f, V, M, X, a, d, u, h.top hb⟩
theorem BookAt.here {w : World} {B base turn H : Nat} (h : BookAt w B base turn H) : BookAt w B base turn w.heap.size := h.top (Below.refl _ _)

set_option maxRecDepth 100000 in
theorem look_any (w : World) (B base turn H : Nat) (h : BookAt w B base turn H) (ht : turn ≤ 20000) :
    Calls Try.prog 17 #[.pointer (some ⟨B, 0, none⟩)] w fun e w' => e = .returned (.bool true) ∧ BookAt w' B base turn w'.heap.size ∧ Below base w w' := by
  obtain ⟨f, V, M, X, at_, done, used, h⟩ := h
  have hbase : base ≤ w.heap.size := Nat.le_trans h.lo (Nat.le_of_lt (lt_of_obj h.bk.blk))
  have c36 := book_cell h.bk.blk 36 (by omega)
  have c37 := book_cell h.bk.blk 37 (by omega)
  rw [h.turn_] at c36
  rw [h.done_] at c37
  have hcost := h.cost
  by_cases hd : done = turn
  · have hdd : ((done : Int) == (turn : Int)) = true := beq_iff_eq.2 (by omega)
    clear hd
    go_enter Try.func17, Try.ntmps17
    go_wp2_with (go_at_call 52; (with_reducible refine (bookHolds_ints _ B base f V M X h.bk h.len).mono ?_); rintro e w1 ⟨rfl, q, rfl⟩)
    go_quiet (fail)
    go_wp2
    go_ret
    have hb := fun j k => below_drewN (below_drewN (Below.refl w.heap.size w) j) k
    exact ⟨rfl, BookAt.here (BookAt.top ⟨f, V, M, X, at_, done, used, h⟩ (hb _ _)), (hb _ _).mono hbase⟩
  · have hdd : ((done : Int) == (turn : Int)) = false := beq_eq_false_iff_ne.2 (by omega)
    clear hd
    go_enter Try.func17, Try.ntmps17
    go_wp2_with (go_at_call 52; (with_reducible refine (bookHolds_ints _ B base f V M X h.bk h.len).mono ?_); rintro e w1 ⟨rfl, q, rfl⟩)
    go_quiet (fail)
    go_wp2_with (first | (go_at_call 53; (with_reducible refine (grow_any _ B base at_ turn f V M X (h.bk.drewN _) h.len h.at1 h.at2 (by omega) (fun k v h1 h2 => Nat.le_trans (h.small k v h1 h2) (by omega)) h.lo h.turn_).mono ?_); rintro e w2 ⟨rfl, f2, E, F, X2, hG⟩; have hl2 : (V ++ E).length = (M ++ F).length := (by rw [List.length_append, List.length_append, hG.len, h.len])) | (go_at_call 52; (with_reducible refine (bookHolds_ints _ B base f2 (V ++ E) (M ++ F) X2 hG.bk hl2).mono ?_); rintro e w3 ⟨rfl, q3, rfl⟩))
    go_ret
    have hb3 := below_drewN (Below.refl w2.heap.size w2) q3
    have hb1 := fun k => below_drewN (Below.refl w.heap.size w) k
    have hS : BookS w2 B base turn w2.heap.size f2 (V ++ E) (M ++ F) X2 (V ++ E).length turn used :=
      ⟨hG.bk, hl2, hG.at_, Nat.le_refl _, (by have := hG.bound; simp; omega), fun k v h1 h2 => (by rw [List.getElem?_eq_none h1] at h2; cases h2), (by rw [hG.same 36 (by omega) (by omega) (by omega) (by omega)]; exact h.turn_), hG.done,
        (by rw [hG.same 38 (by omega) (by omega) (by omega) (by omega)]; exact h.used_), h.used2, h.lo, lt_of_obj hG.bk.blk, fun _ hg => (ownsRow_lt hG.bk.iv hg).2, fun _ hg => (ownsRow_lt hG.bk.ov hg).2, fun p hp _ hg => ((hG.bk.one p hp).block hg).2⟩
    exact ⟨rfl, BookAt.here (BookAt.top ⟨_, _, _, _, _, _, _, hS⟩ hb3), ((hb1 _).mono hbase).trans (hG.bel.trans (hb3.mono (Nat.le_trans h.lo (Nat.le_of_lt (lt_of_obj hG.bk.blk)))))⟩
end Go.Proofs.Ytbgojhjlmlbfpaa
