/- tallylaw1.Book that keeps lists of ints alone: what it holds ('BookI'), and the looks at it: plain, kept, told, held, holds. -/
import Derived.Test.YtbgojhjlmlbfpaaBookA
namespace Go.Proofs.Ytbgojhjlmlbfpaa
open Go.RowKit

/-- The cells of the kinds of which the Book keeps none. -/
def Rest (f : Nat → Value) : Prop := ∀ k ∈ [0, 3, 6, 12, 15, 18, 21, 24, 27, 30, 33], f k = .slice none 0 0 ∧ f (k + 2) = .int .i64 0
/-- The Book's memory: its block; the list of lists of ints (V) and the list of their marks (M); each known list (X: value, length, mark) holds its mark; no two things of different kinds lie in one block ('ρ': what a block is for). -/
structure BookI (w : World) (B base : Nat) (f : Nat → Value) (V : List Value) (M : List Nat) (X : List (Value × Nat × Nat)) : Prop where
  blk : w.heap[B]? = some (bookObj f)
  rest : Rest f
  iv : w.ownsRow base 31 1 (f 9) V.length V
  ov : w.ownsRow base 3 1 (f 10) M.length (M.map fun m => .int .i64 (m : Nat))
  one : ∀ p ∈ X, One w base 3 1 p.1 p.2.1 (fun _ => .int .i64 (1000 + (p.2.2 : Nat)))
  sep : ∃ ρ : Nat → Nat, ρ B = 0 ∧ (∀ g, (f 9).ownBlock = some g → ρ g = 1) ∧ (∀ g, (f 10).ownBlock = some g → ρ g = 2) ∧ ∀ p ∈ X, ∀ g, p.1.ownBlock = some g → ρ g = 3 + p.2.2
  pairs : ∀ (i : Nat) (v : Value) (m : Nat), V[i]? = some v → M[i]? = some m → ∃ n, (v, n, m) ∈ X
  small : V.length ≤ 1000000 ∧ M.length ≤ 1000000 ∧ ∀ p ∈ X, p.2.1 ≤ 1000000 ∧ p.2.2 ≤ 1000000

theorem ownsRow_keep {w w1 : World} {b size n : Nat} {e : TypeId} {v : Value} {xs : List Value} (h : w.ownsRow b e size v n xs) (hb : ∀ g, v.ownBlock = some g → w1.heap[g]? = w.heap[g]?) : w1.ownsRow b e size v n xs := by
  refine ⟨h.1, ?_⟩
  rcases h.2 with k | ⟨g, cap, cur, rfl, k2, k3, k4⟩
  · exact .inl k
  · exact .inr ⟨g, cap, cur, rfl, k2, (hb g rfl).trans k3, k4⟩
theorem ownsRow_lt {w : World} {b size n g : Nat} {e : TypeId} {v : Value} {xs : List Value} (h : w.ownsRow b e size v n xs) (hg : v.ownBlock = some g) : b ≤ g ∧ g < w.heap.size := by
  rcases h.2 with ⟨rfl, _⟩ | ⟨g', cap, cur, rfl, k2, k3, _⟩
  · simp [Value.ownBlock] at hg
  · simp [Value.ownBlock] at hg
    subst hg
    exact ⟨k2, lt_of_obj k3⟩
theorem BookI.below {w w1 : World} {B base : Nat} {f : Nat → Value} {V : List Value} {M : List Nat} {X : List (Value × Nat × Nat)} (h : BookI w B base f V M X) (hb : Below w.heap.size w w1) : BookI w1 B base f V M X :=
  ⟨(hb.block B (lt_of_obj h.blk)).trans h.blk, h.rest, ownsRow_keep h.iv (fun g hg => hb.block g (ownsRow_lt h.iv hg).2), ownsRow_keep h.ov (fun g hg => hb.block g (ownsRow_lt h.ov hg).2),
    fun p hp => (h.one p hp).below hb, h.sep, h.pairs, h.small⟩
theorem BookI.drewN {w : World} {B base : Nat} {f : Nat → Value} {V : List Value} {M : List Nat} {X : List (Value × Nat × Nat)} (h : BookI w B base f V M X) (k : Nat) : BookI (w.drewN k) B base f V M X := h.below (below_drewN (Below.refl _ _) k)

theorem Rest.at {f : Nat → Value} (h : Rest f) (k : Nat) (hk : k ∈ [0, 3, 6, 12, 15, 18, 21, 24, 27, 30, 33]) : f k = .slice none 0 0 := (h k hk).1
theorem Rest.at2 {f : Nat → Value} (h : Rest f) (k : Nat) (hk : k ∈ [0, 3, 6, 12, 15, 18, 21, 24, 27, 30, 33]) : f (k + 2) = .int .i64 0 := (h k hk).2

set_option maxRecDepth 100000 in
theorem intsMark_any (m : Nat) (w : World) (hm : m ≤ 1000000) : Calls Try.prog 84 #[.int .i64 m] w fun e w' => e = .returned (.int .i64 (1000 + (m : Nat))) ∧ w = w' := by
  go_enter Try.func84, Try.ntmps84
  go_wp2
  go_ret
  exact ⟨rfl, rfl⟩
theorem unflipW {P : Program} {f : FuncId} {args : Array Value} {w : World} {R : Ending → Prop} (h : Calls P f args w fun e w' => R e ∧ w = w') : Calls P f args w fun e w' => R e ∧ w' = w :=
  h.mono fun _ _ ⟨a, b⟩ => ⟨a, b.symm⟩
set_option maxRecDepth 100000 in
theorem plain_none (w : World) (B : Nat) (f : Nat → Value) (h : w.heap[B]? = some (bookObj f)) (hr : Rest f) :
    Calls Try.prog 86 #[.pointer (some ⟨B, 0, none⟩)] w fun e w' => e = .returned (.bool true) ∧ w = w' := by
  have c0 := book_cell h 0 (by omega)
  have c3 := book_cell h 3 (by omega)
  rw [hr.at 0 (by simp)] at c0
  rw [hr.at 3 (by simp)] at c3
  go_enter Try.func86, Try.ntmps86
  go_wp2
  repeat (refine wp_loop_rounds 1 ?_; rw [rounds_succ]; go_wp2)
  go_ret
  exact ⟨rfl, rfl⟩
set_option maxRecDepth 100000 in
theorem told_none (w : World) (B : Nat) (f : Nat → Value) (h : w.heap[B]? = some (bookObj f)) (hr : Rest f) :
    Calls Try.prog 88 #[.pointer (some ⟨B, 0, none⟩)] w fun e w' => e = .returned (.bool true) ∧ w = w' := by
  have c0 := book_cell h 18 (by omega)
  have c1 := book_cell h 21 (by omega)
  have c2 := book_cell h 24 (by omega)
  have c3 := book_cell h 27 (by omega)
  rw [hr.at 18 (by simp)] at c0
  rw [hr.at 21 (by simp)] at c1
  rw [hr.at 24 (by simp)] at c2
  rw [hr.at 27 (by simp)] at c3
  go_enter Try.func88, Try.ntmps88
  go_wp2
  repeat (refine wp_loop_rounds 1 ?_; rw [rounds_succ]; go_wp2)
  go_ret
  exact ⟨rfl, rfl⟩
set_option maxRecDepth 100000 in
theorem held_none (w : World) (B : Nat) (f : Nat → Value) (h : w.heap[B]? = some (bookObj f)) (hr : Rest f) :
    Calls Try.prog 89 #[.pointer (some ⟨B, 0, none⟩)] w fun e w' => e = .returned (.bool true) ∧ w = w' := by
  have c0 := book_cell h 30 (by omega)
  have c1 := book_cell h 33 (by omega)
  rw [hr.at 30 (by simp)] at c0
  rw [hr.at 33 (by simp)] at c1
  go_enter Try.func89, Try.ntmps89
  go_wp2
  repeat (refine wp_loop_rounds 1 ?_; rw [rounds_succ]; go_wp2)
  go_ret
  exact ⟨rfl, rfl⟩

def KRel (w : World) (N : Nat) (iv : Value) (wr : World) : Prop := ∃ i q : Nat, iv = .int .i64 i ∧ i ≤ N ∧ wr = w.drewN q
theorem one_len {w : World} {b size n : Nat} {e : TypeId} {v : Value} {c : Nat → Value} (h : One w b e size v n c) : ∃ A cap, v = .slice A n cap := by
  rcases h with ⟨k, rfl⟩ | ⟨g, cap, cur, k1, _⟩
  · exact ⟨_, _, k⟩
  · exact ⟨_, _, k1⟩
theorem One.at {w : World} {b n : Nat} {e : TypeId} {A : Option Addr} {m cap : Nat} {c : Nat → Value} (h : One w b e 1 (.slice A m cap) n c) {k : Nat} (hk : k < n) : ∃ g, A = some ⟨g, 0, none⟩ ∧ w.cell? ⟨g, k, none⟩ = some (c k) := by
  have h' := h
  rcases h with ⟨k1, rfl⟩ | ⟨g, cap, cur, k1, _⟩
  · omega
  · injection k1 with k1 _ _
    subst k1
    exact ⟨g, rfl, h'.cell rfl (by omega)⟩

set_option maxRecDepth 100000 in
set_option maxHeartbeats 1000000 in
theorem kept_ints (w : World) (B base : Nat) (f : Nat → Value) (V : List Value) (M : List Nat) (X : List (Value × Nat × Nat)) (h : BookI w B base f V M X) (hVM : V.length = M.length) :
    Calls Try.prog 87 #[.pointer (some ⟨B, 0, none⟩)] w fun e w' => e = .returned (.bool true) ∧ ∃ m, w' = w.drewN m := by
  have c6 := book_cell h.blk 6 (by omega)
  have c9 := book_cell h.blk 9 (by omega)
  have c10 := book_cell h.blk 10 (by omega)
  have c12 := book_cell h.blk 12 (by omega)
  have c15 := book_cell h.blk 15 (by omega)
  rw [h.rest.at 6 (by simp)] at c6
  rw [h.rest.at 12 (by simp)] at c12
  rw [h.rest.at 15 (by simp)] at c15
  obtain ⟨A9, cap9, e9⟩ : ∃ A cap, f 9 = .slice A V.length cap := by
    rcases h.iv.2 with ⟨k, k0⟩ | ⟨g, cap, cur, k1, _⟩
    · exact ⟨_, _, by rw [k, k0]⟩
    · exact ⟨_, _, k1⟩
  obtain ⟨A10, cap10, e10⟩ : ∃ A cap, f 10 = .slice A M.length cap := by
    rcases h.ov.2 with ⟨k, k0⟩ | ⟨g, cap, cur, k1, _⟩
    · exact ⟨_, _, by rw [k, k0]⟩
    · exact ⟨_, _, k1⟩
  have hiv := h.iv
  have hov := h.ov
  rw [e9] at c9 hiv
  rw [e10] at c10 hov
  have hone := h.one
  have hpairs := h.pairs
  obtain ⟨hs1, _, hs2⟩ := h.small
  obtain ⟨N, hN⟩ : ∃ N, V.length = N := ⟨_, rfl⟩
  have hMN : M.length = N := hVM.symm.trans hN
  rw [hN] at c9 hiv hs1
  rw [hMN] at c10 hov
  clear h e9 e10
  go_enter Try.func87, Try.ntmps87
  go_wp2
  refine wp_loop_rounds 1 ?_
  rw [rounds_succ]
  go_wp2
  go_loopw [5] (fun iv wr => KRel w N iv wr) (fun iv _ => (N - intOf iv).toNat)
  case atStart => exact ⟨0, 0, rfl, by omega, rfl⟩
  case round =>
    obtain ⟨i, q, rfl, hi, rfl⟩ := hrel
    by_cases hiN : i < N
    · obtain ⟨g9, cp9, k9, _, _⟩ := hiv.form (by omega)
      obtain ⟨g10, cp10, k10, _, _⟩ := hov.form (by omega)
      injection k9 with k9 _ _
      injection k10 with k10 _ _
      subst k9 k10
      obtain ⟨v, hv⟩ : ∃ p, V[i]? = some p := ⟨V[i]'(by omega), List.getElem?_eq_getElem _⟩
      obtain ⟨m, hm⟩ : ∃ p, M[i]? = some p := ⟨M[i]'(by omega), List.getElem?_eq_getElem _⟩
      obtain ⟨n, hp⟩ := hpairs i v m hv hm
      have x9 := World.ownsRow.cellAt hiv i (by omega)
      have x10 := World.ownsRow.cellAt hov i (by simp; omega)
      rw [hv] at x9
      rw [List.getElem?_map, hm] at x10
      simp only [Option.map_some] at x10
      have ho := hone _ hp
      obtain ⟨t1, t2⟩ := hs2 _ hp
      simp only at ho t1 t2
      obtain ⟨A, cp, rfl⟩ := one_len ho
      clear hp hone hs2 hpairs
      go_wp2_with fail
      go_loopw [6] (fun kv wr => KRel w n kv wr) (fun kv _ => (n - intOf kv).toNat)
      case atStart => exact ⟨0, q, rfl, by omega, rfl⟩
      case round =>
        obtain ⟨k, q2, rfl, hk, rfl⟩ := hrel
        by_cases hkn : k < n
        · obtain ⟨g, rfl, hc⟩ := ho.at hkn
          have q0 : (0 : Int) ≤ (k : Int) := by omega
          have q1 : (k : Int) < (n : Int) := by omega
          have q3 : (0 : Int) ≤ (i : Int) := by omega
          have q4 : (i : Int) < (N : Int) := by omega
          have hmm : ((1000 + (m : Int)) != (1000 + (m : Int))) = false := by simp
          clear ho hiv hov
          go_wp2_with fail
          go_quiet ((first | (go_at_call 84; first | exact Calls.quiet_of_same (unflipW (intsMark_any m _ t2)) | exact quietAddSame (unflipW (intsMark_any m _ t2)))))
          go_wp2
          exact ⟨⟨k + 1, _, by go_num, by omega, rfl⟩, by simp [intOf]; omega⟩
        · go_wp2
          exact ⟨⟨i + 1, q2, by go_num, by omega, rfl⟩, by simp [intOf]; omega⟩
    · go_wp2
      repeat (refine wp_loop_rounds 1 ?_; rw [rounds_succ]; go_wp2)
      go_ret
      exact ⟨rfl, _, rfl⟩

set_option maxRecDepth 100000 in
theorem bookHolds_ints (w : World) (B base : Nat) (f : Nat → Value) (V : List Value) (M : List Nat) (X : List (Value × Nat × Nat)) (h : BookI w B base f V M X) (hVM : V.length = M.length) :
    Calls Try.prog 52 #[.pointer (some ⟨B, 0, none⟩)] w fun e w' => e = .returned (.bool true) ∧ ∃ m, w' = w.drewN m := by
  go_enter Try.func52, Try.ntmps52
  go_wp2_with (first | (go_at_call 86; (with_reducible refine (plain_none _ _ _ h.blk h.rest).mono ?_); rintro e w1 ⟨rfl, rfl⟩) | (go_at_call 87; (with_reducible refine (kept_ints _ _ _ _ _ _ _ h hVM).mono ?_); rintro e w1 ⟨rfl, q, rfl⟩) | (go_at_call 88; (with_reducible refine (told_none _ _ _ (h.drewN _).blk h.rest).mono ?_); rintro e w1 ⟨rfl, rfl⟩) | (go_at_call 89; (with_reducible refine (held_none _ _ _ (h.drewN _).blk h.rest).mono ?_); rintro e w1 ⟨rfl, rfl⟩))
  go_ret
  exact ⟨rfl, _, rfl⟩

set_option maxRecDepth 100000 in
theorem tight_room (w : World) (B : Nat) (f : Nat → Value) (used n : Nat) (h : w.heap[B]? = some (bookObj f)) (hu : f 38 = .int .i64 used) (hn : used + n ≤ 16777216) :
    Calls Try.prog 85 #[.pointer (some ⟨B, 0, none⟩), .int .i64 n] w fun e w' => e = .returned (.bool false) ∧ OnlyB w w' B (bookObj (upd f 38 (.int .i64 ((used + n : Nat) : Int)))) := by
  have c := book_cell h 38 (by omega)
  rw [hu] at c
  have hf := free_of_obj h 38
  have HS := Lib.hid (OnlyB.book (OnlyB.refl h) (lt_of_obj h) 38 (.int .i64 ((used + n : Nat) : Int)))
  have hd : ¬ (16777216 : Int) < (used : Int) + (n : Int) := by omega
  go_enter Try.func85, Try.ntmps85
  go_wp2
  go_ret
  refine ⟨rfl, ?_⟩
  have := HS.out
  rw [Int.natCast_add] at this
  exact this
set_option maxRecDepth 100000 in
theorem tight_full (w : World) (B : Nat) (f : Nat → Value) (used n : Nat) (h : w.heap[B]? = some (bookObj f)) (hu : f 38 = .int .i64 used) (hu2 : used ≤ 16777216) (hn2 : n ≤ 1000000000) (hn : 16777216 < used + n) :
    Calls Try.prog 85 #[.pointer (some ⟨B, 0, none⟩), .int .i64 n] w fun e w' => e = .returned (.bool true) ∧ w = w' := by
  have c := book_cell h 38 (by omega)
  rw [hu] at c
  have hd : (16777216 : Int) < (used : Int) + (n : Int) := by omega
  go_enter Try.func85, Try.ntmps85
  go_wp2
  go_ret
  exact ⟨rfl, rfl⟩
end Go.Proofs.Ytbgojhjlmlbfpaa
