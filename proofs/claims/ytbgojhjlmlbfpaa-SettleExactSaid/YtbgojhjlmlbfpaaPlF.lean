/- PlaneTurns (tallylaw3): the walk. -/
import Derived.Test.YtbgojhjlmlbfpaaPlE
namespace Go.Proofs.Ytbgojhjlmlbfpaa
open Go.RowKit Fl

theorem turn_1 (x y : Int) : turnX x y 1 = -y ∧ turnY x y 1 = x := by
  rcases turn_cases x y 1 with h | h | h | h <;> omega
theorem turn_2 (x y : Int) : turnX x y 2 = -x ∧ turnY x y 2 = -y := by
  rcases turn_cases x y 2 with h | h | h | h <;> omega
theorem turn_4 (x y : Int) : turnX x y 4 = x ∧ turnY x y 4 = y := by
  rcases turn_cases x y 4 with h | h | h | h <;> omega
theorem turn_m1 (x y : Int) : turnX x y (-1) = y ∧ turnY x y (-1) = -x := by
  rcases turn_cases x y (-1) with h | h | h | h <;> omega
theorem turn_turn (x y a b : Int) : turnX x y (a.tmod 4 + b.tmod 4) = turnX (turnX x y a) (turnY x y a) b ∧ turnY x y (a.tmod 4 + b.tmod 4) = turnY (turnX x y a) (turnY x y a) b := by
  have ha := tmod_eq_if a 4
  have hb := tmod_eq_if b 4
  rcases turn_cases x y a with h1 | h1 | h1 | h1 <;> rcases turn_cases (turnX x y a) (turnY x y a) b with h2 | h2 | h2 | h2 <;> rcases turn_cases x y (a.tmod 4 + b.tmod 4) with h3 | h3 | h3 | h3 <;> first | omega | (exfalso; omega)
theorem turn_bound (x y a : Int) (hx1 : -33554432 ≤ x) (hx2 : x ≤ 33554432) (hy1 : -33554432 ≤ y) (hy2 : y ≤ 33554432) : -33554432 ≤ turnX x y a ∧ turnX x y a ≤ 33554432 ∧ -33554432 ≤ turnY x y a ∧ turnY x y a ≤ 33554432 := by
  rcases turn_cases x y a with h | h | h | h <;> omega
theorem sq_neg' {a b : Int} (h : a = -b) : a * a = b * b := by rw [h, Int.neg_mul_neg]
theorem apart_turn (x y u v a : Int) : apartZ (turnX x y a) (turnY x y a) (turnX u v a) (turnY u v a) = apartZ x y u v := by
  unfold apartZ
  rcases turn_cases x y a with ⟨h0, h1, h2⟩ | ⟨h0, h1, h2⟩ | ⟨h0, h1, h2⟩ | ⟨h0, h1, h2⟩ <;> rcases turn_cases u v a with ⟨k0, k1, k2⟩ | ⟨k0, k1, k2⟩ | ⟨k0, k1, k2⟩ | ⟨k0, k1, k2⟩ <;> (try omega) <;> rw [h1, h2, k1, k2]
  · rw [sq_neg' (show -y - -v = -(y - v) by omega)]; omega
  · rw [sq_neg' (show -x - -u = -(x - u) by omega), sq_neg' (show -y - -v = -(y - v) by omega)]
  · rw [sq_neg' (show -x - -u = -(x - u) by omega)]; omega
theorem apart_swap (x y u v : Int) : apartZ u v x y = apartZ x y u v := by
  unfold apartZ
  rw [sq_neg' (show u - x = -(x - u) by omega), sq_neg' (show v - y = -(y - v) by omega)]
theorem sq_pos' {a : Int} (h : a ≠ 0) : 0 < a * a := by
  rcases Int.lt_or_gt_of_ne h with h | h
  · exact Int.mul_pos_of_neg_of_neg h h
  · exact Int.mul_pos h h
theorem sq_nonneg' (a : Int) : 0 ≤ a * a := by
  by_cases h : a = 0
  · subst h; simp
  · exact Int.le_of_lt (sq_pos' h)
theorem apart_zero (x y u v : Int) : 0 ≤ apartZ x y u v ∧ (apartZ x y u v = 0 ↔ x = u ∧ y = v) := by
  unfold apartZ
  have h1 := sq_nonneg' (x - u)
  have h2 := sq_nonneg' (y - v)
  refine ⟨by omega, fun h => ?_, fun ⟨h, k⟩ => by subst h k; simp⟩
  constructor
  · by_cases e : x - u = 0
    · omega
    · have := sq_pos' e; omega
  · by_cases e : y - v = 0
    · omega
    · have := sq_pos' e; omega
theorem ord_same {z : Int} (h1 : -33554432 ≤ z) (h2 : z ≤ 33554432) : (FloatKind.f64.format.order (ff z) (ff z) == some .eq) = true := by
  exact (ff_order (x := z) (y := z) (by omega) (by omega)).trans (by simp)

set_option maxRecDepth 100000 in
set_option maxHeartbeats 2000000 in
theorem turns_walk (px py qx qy A B : Int) (w : World) :
    Calls Try.prog 5 #[.agg #[.int .i64 px, .int .i64 py, .int .i64 qx, .int .i64 qy, .int .i64 A, .int .i64 B]] w fun e w' => e = .returned (.bool true) ∧ Below w.heap.size w w' := by
  obtain ⟨x, hx⟩ : ∃ x, nearZ px = x := ⟨_, rfl⟩
  obtain ⟨y, hy⟩ : ∃ x, nearZ py = x := ⟨_, rfl⟩
  obtain ⟨u, hu⟩ : ∃ x, nearZ qx = x := ⟨_, rfl⟩
  obtain ⟨v, hv⟩ : ∃ x, nearZ qy = x := ⟨_, rfl⟩
  obtain ⟨x1, x2⟩ := near_range px
  obtain ⟨y1, y2⟩ := near_range py
  obtain ⟨u1, u2⟩ := near_range qx
  obtain ⟨v1, v2⟩ := near_range qy
  rw [hx] at x1 x2; rw [hy] at y1 y2; rw [hu] at u1 u2; rw [hv] at v1 v2
  obtain ⟨z1, z2⟩ := apart_zero x y u v
  have sw := apart_swap x y u v
  obtain ⟨n, hn⟩ : ∃ n, apartZ x y u v = n := ⟨_, rfl⟩
  rw [hn] at z1 z2 sw
  obtain ⟨a, ha⟩ : ∃ a, A.tmod 4 = a := ⟨_, rfl⟩
  obtain ⟨b, hb⟩ : ∃ b, B.tmod 4 = b := ⟨_, rfl⟩
  have a1 : -4 < a ∧ a < 4 := by rw [← ha]; exact ⟨Int.lt_tmod_of_pos A (by omega), Int.tmod_lt_of_pos A (by omega)⟩
  have b1 : -4 < b ∧ b < 4 := by rw [← hb]; exact ⟨Int.lt_tmod_of_pos B (by omega), Int.tmod_lt_of_pos B (by omega)⟩
  obtain ⟨a1, a2⟩ := a1
  obtain ⟨b1, b2⟩ := b1
  obtain ⟨tt1, tt2⟩ := turn_turn x y A B
  rw [ha, hb] at tt1 tt2
  obtain ⟨X1, hX1⟩ : ∃ z, turnX x y A = z := ⟨_, rfl⟩
  obtain ⟨Y1, hY1⟩ : ∃ z, turnY x y A = z := ⟨_, rfl⟩
  obtain ⟨U1, hU1⟩ : ∃ z, turnX u v A = z := ⟨_, rfl⟩
  obtain ⟨V1, hV1⟩ : ∃ z, turnY u v A = z := ⟨_, rfl⟩
  have m1 := turn_bound x y A x1 x2 y1 y2
  have m2 := turn_bound u v A u1 u2 v1 v2
  have at1 := apart_turn x y u v A
  rw [hX1, hY1] at tt1 tt2
  rw [hX1, hY1] at m1
  rw [hU1, hV1] at m2
  rw [hX1, hY1, hU1, hV1, hn] at at1
  obtain ⟨m11, m12, m13, m14⟩ := m1
  obtain ⟨m21, m22, m23, m24⟩ := m2
  have m3 := turn_bound X1 Y1 B m11 m12 m13 m14
  obtain ⟨X2, hX2⟩ : ∃ z, turnX X1 Y1 B = z := ⟨_, rfl⟩
  obtain ⟨Y2, hY2⟩ : ∃ z, turnY X1 Y1 B = z := ⟨_, rfl⟩
  rw [hX2, hY2] at m3
  rw [hX2] at tt1
  rw [hY2] at tt2
  obtain ⟨m31, m32, m33, m34⟩ := m3
  have o1 := ord_same m31 m32
  have o2 := ord_same m33 m34
  have o3 := ord_same x1 x2
  have o4 := ord_same y1 y2
  have o5 := ord_same (z := -x) (by omega) (by omega)
  have o6 := ord_same (z := -y) (by omega) (by omega)
  have t1 : turnX x y 1 = -y := (turn_1 x y).1
  have t2 : turnY x y 1 = x := (turn_1 x y).2
  have t3 : turnX x y 2 = -x := (turn_2 x y).1
  have t4 : turnY x y 2 = -y := (turn_2 x y).2
  have t5 : turnX x y 4 = x := (turn_4 x y).1
  have t6 : turnY x y 4 = y := (turn_4 x y).2
  have t7 : turnX (-y) x (-1) = x := (turn_m1 (-y) x).1
  have t8 : turnY (-y) x (-1) = y := by rw [(turn_m1 (-y) x).2]; omega
  have t9 : turnX (-y) x 1 = -x := (turn_1 (-y) x).1
  have t10 : turnY (-y) x 1 = -y := (turn_1 (-y) x).2
  have t11 : turnX (-x) (-y) 2 = x := by rw [(turn_2 (-x) (-y)).1]; omega
  have t12 : turnY (-x) (-y) 2 = y := by rw [(turn_2 (-x) (-y)).2]; omega
  have hnn : ¬ n < 0 := by omega
  have cases3 : ((n == 0) = true ∧ (x == u) = true ∧ (y == v) = true) ∨ ((n == 0) = false ∧ (x == u) = false) ∨ ((n == 0) = false ∧ (x == u) = true ∧ (y == v) = false) := by
    by_cases h1 : x = u
    · by_cases h2 : y = v
      · left; exact ⟨beq_iff_eq.2 (z2.2 ⟨h1, h2⟩), beq_iff_eq.2 h1, beq_iff_eq.2 h2⟩
      · right; right; exact ⟨beq_eq_false_iff_ne.2 (fun h => h2 (z2.1 h).2), beq_iff_eq.2 h1, beq_eq_false_iff_ne.2 h2⟩
    · right; left; exact ⟨beq_eq_false_iff_ne.2 (fun h => h1 (z2.1 h).1), beq_eq_false_iff_ne.2 h1⟩
  have hz : isZ (-y) x (-y) x = true := by simp [isZ]
  have hw : IntKind.i64.wrap (a + b) = a + b := IntWalk.i64_in _ (by omega)
  clear z2
  rcases cases3 with ⟨c1, c2, c3⟩ | ⟨c1, c2⟩ | ⟨c1, c2, c3⟩
  all_goals
    go_enter Try.func5, Try.ntmps5
    go_wp2_with fail
    refine (point_any _ _ _).mono ?_
    rintro e w1 ⟨rfl, hb1⟩
    obtain ⟨hc1, hf1⟩ := bcell hb1
    have hz1 : w.heap.size < w1.heap.size := by have := hb1.size; simp at this; omega
    go_wp2_with fail
    refine (point_any _ _ _).mono ?_
    rintro e w2 ⟨rfl, hb2⟩
    obtain ⟨hc2, hf2⟩ := bcell hb2
    have hz2 : w1.heap.size < w2.heap.size := by have := hb2.size; simp at this; omega
    have hz3 : w.heap.size < w2.heap.size := by omega
    go_wp2_with (first | (go_at_call 21; (with_reducible refine (flipW (apart_any _ _ _ _ _ (by omega) (by omega) (by omega) (by omega) (by omega) (by omega) (by omega) (by omega))).mono ?_); rintro e w9 ⟨rfl, rfl⟩))
    go_quiet ((first | (go_at_call 23; exact Calls.quiet_of_same (turn_any _ _ _ _ (by omega) (by omega) (by omega) (by omega)))))
    go_wp2_with fail
    go_quiet ((first | (go_at_call 23; exact quietAddSame (turn_any _ _ _ _ (by omega) (by omega) (by omega) (by omega))) | (go_at_call 21; exact quietAddSame (apart_any _ _ _ _ _ (by omega) (by omega) (by omega) (by omega) (by omega) (by omega) (by omega) (by omega)))))
    go_wp2_with (first | (go_at_call 21; (with_reducible refine (flipW (apart_any _ _ _ _ _ (by omega) (by omega) (by omega) (by omega) (by omega) (by omega) (by omega) (by omega))).mono ?_); rintro e w9 ⟨rfl, rfl⟩) | (go_at_call 23; (with_reducible refine (flipW (turn_any _ _ _ _ (by omega) (by omega) (by omega) (by omega))).mono ?_); rintro e w9 ⟨rfl, rfl⟩))
    refine (is_any (-y) x (-y) x _ (by omega) (by omega) (by omega) (by omega)).mono ?_
    rintro e w3 ⟨rfl, hb3⟩
    go_wp2_with (go_at_call 16; (with_reducible refine (wakes_any _).mono ?_); rintro e w4 ⟨rfl, hb4⟩)
    go_ret
    have k1 : Below w.heap.size w w1 := ((Below.refl _ _).alloc (Nat.le_refl _) _).trans (hb1.mono (by simp))
    have k2 : Below w.heap.size w w2 := (k1.alloc k1.size _).trans (hb2.mono (by simp; omega))
    have k3 : Below w.heap.size w w3 := (below_drewN (k2.alloc k2.size _) _).trans (hb3.mono (by simp; omega))
    exact ⟨rfl, k3.trans (hb4.mono k3.size)⟩
end Go.Proofs.Ytbgojhjlmlbfpaa
