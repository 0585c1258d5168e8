/- The helpers of tallylaw3: is, near, point, number, EqInts, wakes. -/
import Derived.Test.YtbgojhjlmlbfpaaPlC
namespace Go.Proofs.Ytbgojhjlmlbfpaa
open Go.RowKit Fl

theorem ff_order {x y : Int} (hx : x.natAbs < 9007199254740992) (hy : y.natAbs < 9007199254740992) : (Ieee.double.order (ff x) (ff y) == some .eq) = decide (x = y) := by
  rw [order_is (ff_is x (by omega)) (ff_is y (by omega)) hx hy]
  by_cases h : x = y
  · subst h; simp
  · rw [decide_eq_false h]
    rcases Int.lt_or_gt_of_ne h with h1 | h1
    · rw [Int.compare_eq_lt.2 h1]; rfl
    · rw [Int.compare_eq_gt.2 h1]; rfl
/-- 'is' : the complex number is just that point. -/
def isZ (x y u v : Int) : Bool := decide (x = u) && decide (y = v)
set_option maxRecDepth 100000 in
theorem is_any (x y u v : Int) (w : World) (hx : x.natAbs < 9007199254740992) (hy : y.natAbs < 9007199254740992) (hu : u.natAbs < 9007199254740992) (hv : v.natAbs < 9007199254740992) :
    Calls Try.prog 20 #[.complex .f64 (ff x) (ff y), .agg #[.int .i64 u, .int .i64 v]] w fun e w' => e = .returned (.bool (isZ x y u v)) ∧ Below w.heap.size w w' := by
  have o1 : (FloatKind.f64.format.order (ff x) (floatOfInt .f64 u) == some .eq) = decide (x = u) := ff_order hx hu
  have o2 : (FloatKind.f64.format.order (ff y) (floatOfInt .f64 v) == some .eq) = decide (y = v) := ff_order hy hv
  clear hx hy hu hv
  unfold isZ
  by_cases h1 : x = u
  · rw [decide_eq_true h1] at o1 ⊢
    by_cases h2 : y = v
    · rw [decide_eq_true h2] at o2 ⊢
      clear h1 h2
      go_enter Try.func20, Try.ntmps20
      go_wp2
      go_ret
      exact ⟨rfl, (Below.refl _ _).alloc (Nat.le_refl _) _⟩
    · rw [decide_eq_false h2] at o2 ⊢
      clear h1 h2
      go_enter Try.func20, Try.ntmps20
      go_wp2
      go_ret
      exact ⟨rfl, (Below.refl _ _).alloc (Nat.le_refl _) _⟩
  · rw [decide_eq_false h1] at o1 ⊢
    clear h1 o2
    go_enter Try.func20, Try.ntmps20
    go_wp2
    go_ret
    exact ⟨rfl, (Below.refl _ _).alloc (Nat.le_refl _) _⟩

/-- Ints that a slice holds. -/
def HasInts (w : World) (v : Value) (L : List Int) : Prop := ∃ A cap, v = .slice A L.length cap ∧ ∀ k, k < L.length → ∃ b off, A = some ⟨b, off, none⟩ ∧ b < w.heap.size ∧ w.cell? ⟨b, off + k, none⟩ = some (.int .i64 (L.getD k 0))
theorem HasInts.below {w w' : World} {v : Value} {L : List Int} (h : HasInts w v L) (hb : Below w.heap.size w w') : HasInts w' v L := by
  obtain ⟨A, cap, e, h⟩ := h
  refine ⟨A, cap, e, fun k hk => ?_⟩
  obtain ⟨b, off, h1, h2, h3⟩ := h k hk
  exact ⟨b, off, h1, by have := hb.size; omega, (hb.cell (p := ⟨b, off + k, none⟩) h2).trans h3⟩
theorem HasInts.drewN {w : World} {v : Value} {L : List Int} (h : HasInts w v L) (n : Nat) : HasInts (w.drewN n) v L := h
theorem OwnInts.has {w w' : World} {v : Value} {L : List Int} (h : OwnInts w w' v L) : HasInts w' v L := by
  obtain ⟨gg, cap, rfl, h1, h2, h3⟩ := h
  refine ⟨_, cap, rfl, fun k hk => ⟨gg, 0, rfl, ?_, ?_⟩⟩
  · rcases h3.2 with ⟨h, _⟩ | ⟨g, c, cur, k1, k2, k3, _⟩
    · cases h
    · injection k1 with k1; injection k1 with k1; injection k1 with k1; subst k1
      exact lt_of_obj k3
  · rw [Nat.zero_add, World.ownsRow.cellAt h3 k (by omega)]
    simp [List.getElem?_eq_getElem hk]
theorem OwnInts.below {w w' : World} {v : Value} {L : List Int} (h : OwnInts w w' v L) : Below w.heap.size w w' := by
  obtain ⟨gg, cap, rfl, h1, h2, h3⟩ := h
  exact h2

def EqRel (w : World) (n : Nat) (iv : Value) (wr : World) : Prop := ∃ k m : Nat, iv = .int .i64 k ∧ k ≤ n ∧ wr = w.drewN m
set_option maxRecDepth 100000 in
/-- EqInts of two lists that are one. -/
theorem eqInts_same (v u : Value) (L : List Int) (w : World) (hv : HasInts w v L) (hu : HasInts w u L) (hL : L.length ≤ 1000000) :
    Calls Try.prog 25 #[v, u] w fun e w' => e = .returned (.bool true) ∧ ∃ m, w' = w.drewN m := by
  obtain ⟨A, c, rfl, hA⟩ := hv
  obtain ⟨B, d, rfl, hB⟩ := hu
  obtain ⟨n, hn⟩ : ∃ n, L.length = n := ⟨_, rfl⟩
  rw [hn] at hA hB hL ⊢
  have hne : ((n : Int) != (n : Int)) = false := by simp
  clear hn
  go_enter Try.func25, Try.ntmps25
  go_wp2
  go_loopw [5] (fun iv wr => EqRel w n iv wr) (fun iv _ => (n - intOf iv).toNat)
  case atStart => exact ⟨0, 0, rfl, by omega, rfl⟩
  case round =>
    obtain ⟨k, m, rfl, hk, rfl⟩ := hrel
    by_cases hlt : k < n
    · obtain ⟨b, off, rfl, _, h1⟩ := hA k hlt
      obtain ⟨b2, off2, rfl, _, h2⟩ := hB k hlt
      have q0 : (0 : Int) ≤ (k : Int) := by omega
      have q1 : (k : Int) < (n : Int) := by omega
      obtain ⟨x, hx⟩ : ∃ x, L.getD k 0 = x := ⟨_, rfl⟩
      rw [hx] at h1 h2
      clear hx hA hB
      have hxx : (x != x) = false := by simp
      go_wp2_with fail
      go_quiet (fail)
      go_wp2
      exact ⟨⟨k + 1, _, by go_num, by omega, rfl⟩, by simp [intOf]; omega⟩
    · go_wp2
      go_ret
      exact ⟨rfl, _, rfl⟩

set_option maxRecDepth 100000 in
theorem num_any (x : Int) (w : World) : Calls Try.prog 24 #[.int .i64 x] w fun e w' => e = .returned (.int .i64 x) ∧ w = w' := by
  go_enter Try.func24, Try.ntmps24
  go_wp2
  go_ret
  exact ⟨rfl, rfl⟩

theorem wakes_list : copiesL 0 5 3 = [3, 0, 2] := by decide +kernel

theorem f1 : ff 1 = 4607182418800017408 := by decide +kernel
theorem f2 : ff 2 = 4611686018427387904 := by decide +kernel
theorem f4 : ff 4 = 4616189618054758400 := by decide +kernel
theorem fm2 : ff (-2) = 13835058055282163712 := by decide +kernel
theorem lit_has (w : World) (L : List Int) : HasInts (w.alloc (.cells (L.map (Value.int .i64)).toArray 3)) (.slice (some ⟨w.heap.size, 0, none⟩) L.length L.length) L := by
  refine ⟨_, _, rfl, fun k hk => ⟨w.heap.size, 0, rfl, by simp, ?_⟩⟩
  rw [Nat.zero_add, cell_of_obj (heap_alloc_new w _) k]
  simp [List.getElem?_eq_getElem hk]

theorem wake_turn (w : World) : Calls Try.prog 23 #[.complex .f64 4611686018427387904 4607182418800017408, .int .i64 1] w fun e w' => e = .returned (.complex .f64 13830554455654793216 4611686018427387904) ∧ w = w' := by
  have h := flipW (turn_any 2 1 1 w (by omega) (by omega) (by omega) (by omega))
  rw [f1, f2] at h
  rw [show (13830554455654793216 : Nat) = ff (turnX 2 1 1) by decide +kernel, show (4611686018427387904 : Nat) = ff (turnY 2 1 1) by decide +kernel]
  rw [show ff (turnY 2 1 1) = 4611686018427387904 by decide +kernel] at h ⊢
  exact h
theorem wake_apart (w : World) : Calls Try.prog 21 #[.complex .f64 4607182418800017408 4611686018427387904, .complex .f64 4616189618054758400 13835058055282163712] w fun e w' => e = .returned (.int .i64 25) ∧ w = w' := by
  have h := flipW (apart_any 1 2 4 (-2) w (by omega) (by omega) (by omega) (by omega) (by omega) (by omega) (by omega) (by omega))
  rw [f1, f2, f4, fm2] at h
  exact h
theorem wake_spiral (w : World) : Calls Try.prog 19 #[.int .i64 2] w fun e w' => e = .returned (.complex .f64 4607182418800017408 4607182418800017408) ∧ w = w' := by
  have h := flipW (spiral_at 2 2 w rfl (by omega))
  rw [show ff (ptX 2) = 4607182418800017408 by decide +kernel, show ff (ptY 2) = 4607182418800017408 by decide +kernel] at h
  exact h

set_option maxRecDepth 100000 in
set_option maxHeartbeats 400000 in
theorem wakes_any (w : World) : Calls Try.prog 16 #[] w fun e w' => e = .returned (.bool true) ∧ Below w.heap.size w w' := by
  have HC := Lib.hid (copies_int 0 5 3 0 5 3 w rfl rfl rfl (by omega) (by omega) (by omega) (by omega) (by omega) (by omega) (by omega))
  have q1 : (FloatKind.f64.format.order 4607182418800017408 4607182418800017408 == some .eq) = true := by decide +kernel
  have q2 : (FloatKind.f64.format.order 13830554455654793216 13830554455654793216 == some .eq) = true := by decide +kernel
  have q3 : (FloatKind.f64.format.order 4611686018427387904 4611686018427387904 == some .eq) = true := by decide +kernel
  go_enter Try.func16, Try.ntmps16
  go_wp2_with (first | (go_at_call 11; (with_reducible refine (HC.out).mono ?_); rintro e w1 ⟨v, rfl, hv⟩) | (go_at_call 24; (with_reducible refine (num_any _ _).mono ?_); rintro e w2 ⟨rfl, rfl⟩) | (go_at_call 23; (with_reducible refine (wake_turn _).mono ?_); rintro e w2 ⟨rfl, rfl⟩) | (go_at_call 21; (with_reducible refine (wake_apart _).mono ?_); rintro e w2 ⟨rfl, rfl⟩) | (go_at_call 19; (with_reducible refine (wake_spiral _).mono ?_); rintro e w2 ⟨rfl, rfl⟩))
  have hu := lit_has w1 [3, 0, 2]
  have hv0 : HasInts w1 v [3, 0, 2] := wakes_list ▸ hv.has
  have hv1 := hv0.below ((Below.refl _ w1).alloc (Nat.le_refl _) (.cells #[.int .i64 3, .int .i64 0, .int .i64 2] 3))
  refine (eqInts_same v _ [3, 0, 2] _ hv1 hu (by decide)).mono ?_
  rintro e w3 ⟨rfl, m, rfl⟩
  go_wp2_with (first | (go_at_call 23; (with_reducible refine (wake_turn _).mono ?_); rintro e w2 ⟨rfl, rfl⟩) | (go_at_call 21; (with_reducible refine (wake_apart _).mono ?_); rintro e w2 ⟨rfl, rfl⟩) | (go_at_call 19; (with_reducible refine (wake_spiral _).mono ?_); rintro e w2 ⟨rfl, rfl⟩))
  go_ret
  exact ⟨rfl, below_drewN (hv.below.trans (((Below.refl _ _).alloc (Nat.le_refl _) _).mono hv.below.size)) _⟩
end Go.Proofs.Ytbgojhjlmlbfpaa
