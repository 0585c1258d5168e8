/- The document's answer of layer 3 (tallyref3): ring, Spiral, Turn, Apart. -/
import Derived.Test.YtbgojhjlmlbfpaaPlH
namespace Go.Proofs.Ytbgojhjlmlbfpaa
open Go.RowKit Fl

def RingRel (k : Int) (lo hi : Value) : Prop := ∃ a b : Int, lo = .int .i64 a ∧ hi = .int .i64 b ∧ 0 ≤ a ∧ a ≤ b ∧ b ≤ 1048576 ∧ (1 ≤ a → 4 * (a * a) - 4 * a + 1 ≤ k) ∧ k < 4 * (b * b) + 4 * b + 1
set_option maxRecDepth 100000 in
theorem ring_any (k : Int) (w : World) (h0 : 1 ≤ k) (h1 : k ≤ 1099511627776) :
    Calls Try.prog 83 #[.int .i64 k] w fun e w' => (∃ r : Int, e = .returned (.int .i64 r) ∧ 1 ≤ r ∧ r ≤ 1048576 ∧ 4 * (r * r) - 4 * r + 1 ≤ k ∧ k < 4 * (r * r) + 4 * r + 1) ∧ w = w' := by
  go_enter Try.func83, Try.ntmps83
  go_wp2
  go_loop [3, 4] (fun lo hi => RingRel k lo hi) (fun lo hi => (intOf hi - intOf lo).toNat)
  case atStart => exact ⟨0, 1048576, rfl, rfl, by omega, by omega, by omega, by omega, by omega⟩
  case round =>
    obtain ⟨a, b, rfl, rfl, h2, h3, h4, h5, h6⟩ := hrel
    by_cases hlt : a < b
    · obtain ⟨m, hm⟩ : ∃ m, (a + b) / 2 = m := ⟨_, rfl⟩
      have hm1 : a ≤ m ∧ m < b := by omega
      obtain ⟨hm1, hm2⟩ := hm1
      have ht : (a + b).tdiv 2 = m := by rw [Int.tdiv_eq_ediv_of_nonneg (by omega)]; exact hm
      have hq : 0 ≤ m * m ∧ m * m ≤ 1099511627776 := ⟨Int.mul_nonneg (by omega) (by omega), by have := Spi.sq_mono (show 0 ≤ m by omega) (show m ≤ 1048576 by omega); omega⟩
      have e1 : (2 * m + 1) * (2 * m + 1) = 4 * (m * m) + 4 * m + 1 := by
        rw [Int.add_mul, Int.mul_add, Int.one_mul, Int.mul_one]
        have : 2 * m * (2 * m) = 4 * (m * m) := by rw [Int.mul_assoc, Int.mul_left_comm m 2 m]; omega
        omega
      have e2 : (m + 1) * (m + 1) = m * m + 2 * m + 1 := Spi.sq_succ m
      obtain ⟨q, hq'⟩ : ∃ q, m * m = q := ⟨_, rfl⟩
      rw [hq'] at hq e1 e2
      obtain ⟨hq0, hq1⟩ := hq
      obtain ⟨z, hz⟩ : ∃ z, 4 * q + 4 * m + 1 = z := ⟨_, rfl⟩
      rw [hz] at e1
      have HQ := Lib.hid hq'
      have HE := Lib.hid e2
      have HZ := Lib.hid hz
      have hz2 : 0 ≤ z ∧ z ≤ 4611686018427387904 := by omega
      obtain ⟨hz3, hz4⟩ := hz2
      clear hz hq' e2
      by_cases hgt : z > k
      · go_wp2
        exact ⟨⟨a, m, rfl, rfl, h2, hm1, by omega, h5, by have := HZ.out; have := HQ.out; omega⟩, by simp [intOf]; omega⟩
      · go_wp2
        exact ⟨⟨m + 1, b, rfl, rfl, by omega, by omega, h4, fun _ => by have := HZ.out; have := HQ.out; have := HE.out; omega, h6⟩, by simp [intOf]; omega⟩
    · obtain rfl : a = b := by omega
      clear h3
      go_wp2
      go_ret
      refine ⟨⟨a, rfl, ?_⟩, rfl⟩
      by_cases ha : 1 ≤ a
      · exact ⟨ha, h4, h5 ha, h6⟩
      · obtain rfl : a = 0 := by omega
        omega

theorem On.of_number {k x y : Int} (h : Spi.number x y = k) : Spi.On k x y := by
  have := Spi.number_on x y
  rw [h] at this
  exact this
def SpiralOk (w w' : World) (e : Ending) (k : Int) : Prop := ∃ x y : Int, e = .returned (.agg #[.int .i64 x, .int .i64 y]) ∧ Spi.On k x y ∧ Below w.heap.size w w'
set_option maxRecDepth 100000 in
set_option maxHeartbeats 1000000 in
theorem refSpiral_pos (k : Int) (w : World) (h0 : 1 ≤ k) (h1 : k ≤ 1099511627776) :
    Calls Try.prog 47 #[.int .i64 k] w fun e w' => SpiralOk w w' e k := by
  have hring := fun w => ring_any k w h0 h1
  go_enter Try.func47, Try.ntmps47
  go_wp2_with fail
  refine (hring _).mono ?_
  rintro e w1 ⟨⟨r, rfl, hr1, hr2, hr3, hr4⟩, rfl⟩
  have e1 : (2 * r - 1) * (2 * r - 1) = 4 * (r * r) - 4 * r + 1 := by
    rw [Int.sub_mul, Int.mul_sub, Int.one_mul, Int.mul_one]
    have : 2 * r * (2 * r) = 4 * (r * r) := by rw [Int.mul_assoc, Int.mul_left_comm r 2 r]; omega
    omega
  have hsq : r ≤ r * r := by have := Int.mul_le_mul (Int.le_refl r) hr1 (by omega) (show 0 ≤ r by omega); omega
  have hsq2 : r * r ≤ 1099511627776 := by have := Spi.sq_mono (show 0 ≤ r by omega) hr2; omega
  obtain ⟨q, hq⟩ : ∃ q, r * r = q := ⟨_, rfl⟩
  obtain ⟨z, hz⟩ : ∃ z, 4 * q - 4 * r + 1 = z := ⟨_, rfl⟩
  obtain ⟨m, hm⟩ : ∃ m, k - z = m := ⟨_, rfl⟩
  rw [hq] at e1 hr3 hr4 hsq hsq2
  rw [hz] at e1
  have hm0 : 0 ≤ m ∧ m < 8 * r ∧ m = k - 4 * q + 4 * r - 1 ∧ 0 ≤ z ∧ z ≤ 4398046511104 := by omega
  obtain ⟨hm0, hm1, hm2, hz0, hz1⟩ := hm0
  have HQ := Lib.hid hq
  have HM := Lib.hid hm2
  clear hq hz hm2 hr3 hr4
  have hr0 : (2 * r == 0) = false := beq_eq_false_iff_ne.2 (by omega)
  have hd : m.tdiv (2 * r) = m / (2 * r) := Int.tdiv_eq_ediv_of_nonneg hm0
  have fin : ∀ x y : Int, max (max x (-x)) (max y (-y)) = r → (if x = r ∧ y > -r then 4 * q - 3 * r + y else if y = r then 4 * q - r - x else if x = -r then 4 * q + r - y else 4 * q + 3 * r + x) = k → Spi.On k x y := by
    intro x y hx hk
    refine On.of_number ?_
    rw [Spi.number_at hx, HQ.out]
    exact hk
  clear hring
  have hjj : (m / (2 * r) = 0 ∧ m < 2 * r) ∨ (m / (2 * r) = 1 ∧ 2 * r ≤ m ∧ m < 4 * r) ∨ (m / (2 * r) = 2 ∧ 4 * r ≤ m ∧ m < 6 * r) ∨ (m / (2 * r) = 3 ∧ 6 * r ≤ m) := by
    have b1 := Int.ediv_nonneg hm0 (show 0 ≤ 2 * r by omega)
    have b2 : m / (2 * r) < 4 := Int.ediv_lt_of_lt_mul (by omega) (by omega)
    have b3 := Int.mul_ediv_add_emod m (2 * r)
    have b4 := Int.emod_nonneg m (show 2 * r ≠ 0 by omega)
    have b5 := Int.emod_lt_of_pos m (show 0 < 2 * r by omega)
    obtain ⟨j, hj⟩ : ∃ j, m / (2 * r) = j := ⟨_, rfl⟩
    rw [hj] at b1 b2 b3 ⊢
    have hj4 : j = 0 ∨ j = 1 ∨ j = 2 ∨ j = 3 := by omega
    rcases hj4 with rfl | rfl | rfl | rfl <;> omega
  rcases hjj with ⟨hdd, c0⟩ | ⟨hdd, c0, c1⟩ | ⟨hdd, c0, c1⟩ | ⟨hdd, c0⟩
  all_goals
    rw [hdd] at hd
    clear hdd
    go_wp2
  · refine bodyPost_ret (v := .agg #[.int .i64 r, .int .i64 (1 - r + m)]) (by simp [results, Try.results47, go_sem]) rfl ⟨r, 1 - r + m, rfl, fin _ _ (by omega) (by have := HM.out; rw [if_pos (by omega)]; omega), ?_⟩
    repeat (first | exact Below.refl _ _ | refine Below.drew ?_ | refine Below.setCell ?_ (by simp <;> omega) _ | refine Below.alloc ?_ (by simp <;> omega) _)
  · refine bodyPost_ret (v := .agg #[.int .i64 (3 * r - 1 - m), .int .i64 r]) (by simp [results, Try.results47, go_sem]) rfl ⟨3 * r - 1 - m, r, rfl, fin _ _ (by omega) (by have := HM.out; rw [if_neg (by omega), if_pos rfl]; omega), ?_⟩
    repeat (first | exact Below.refl _ _ | refine Below.drew ?_ | refine Below.setCell ?_ (by simp <;> omega) _ | refine Below.alloc ?_ (by simp <;> omega) _)
  · refine bodyPost_ret (v := .agg #[.int .i64 (-r), .int .i64 (5 * r - 1 - m)]) (by simp [results, Try.results47, go_sem]) rfl ⟨-r, 5 * r - 1 - m, rfl, fin _ _ (by omega) (by have := HM.out; rw [if_neg (by omega), if_neg (by omega), if_pos rfl]; omega), ?_⟩
    repeat (first | exact Below.refl _ _ | refine Below.drew ?_ | refine Below.setCell ?_ (by simp <;> omega) _ | refine Below.alloc ?_ (by simp <;> omega) _)
  · refine bodyPost_ret (v := .agg #[.int .i64 (m + 1 - 7 * r), .int .i64 (-r)]) (by simp [results, Try.results47, go_sem]) rfl ⟨m + 1 - 7 * r, -r, rfl, fin _ _ (by omega) (by have := HM.out; rw [if_neg (by omega), if_neg (by omega)]; split <;> omega), ?_⟩
    repeat (first | exact Below.refl _ _ | refine Below.drew ?_ | refine Below.setCell ?_ (by simp <;> omega) _ | refine Below.alloc ?_ (by simp <;> omega) _)
set_option maxRecDepth 100000 in
theorem refSpiral_out (k : Int) (w : World) (h : k < 1 ∨ 1099511627776 < k) :
    Calls Try.prog 47 #[.int .i64 k] w fun e w' => e = .returned (.agg #[.int .i64 0, .int .i64 0]) ∧ Below w.heap.size w w' := by
  by_cases h1 : k < 1
  · go_enter Try.func47, Try.ntmps47
    go_wp2
    refine bodyPost_ret (v := .agg #[.int .i64 0, .int .i64 0]) (by simp [results, Try.results47, go_sem]) rfl ⟨rfl, ?_⟩
    repeat (first | exact Below.refl _ _ | refine Below.drew ?_ | refine Below.setCell ?_ (by simp <;> omega) _ | refine Below.alloc ?_ (by simp <;> omega) _)
  · go_enter Try.func47, Try.ntmps47
    go_wp2
    refine bodyPost_ret (v := .agg #[.int .i64 0, .int .i64 0]) (by simp [results, Try.results47, go_sem]) rfl ⟨rfl, ?_⟩
    repeat (first | exact Below.refl _ _ | refine Below.drew ?_ | refine Below.setCell ?_ (by simp <;> omega) _ | refine Below.alloc ?_ (by simp <;> omega) _)
/-- The document's Spiral, where the point is known. -/
theorem refSpiral_on (k x y : Int) (w : World) (hon : Spi.On k x y) (h0 : 0 ≤ k) (h1 : k ≤ 1099511627776) :
    Calls Try.prog 47 #[.int .i64 k] w fun e w' => e = .returned (.agg #[.int .i64 x, .int .i64 y]) ∧ Below w.heap.size w w' := by
  by_cases hk : 1 ≤ k
  · refine (refSpiral_pos k w hk h1).mono ?_
    rintro e w' ⟨a, b, he, hab, hB⟩
    obtain ⟨rfl, rfl⟩ := hab.unique hon
    exact ⟨he, hB⟩
  · obtain rfl : k = 0 := by omega
    have h00 : Spi.On 0 0 0 := On.of_number (by decide)
    obtain ⟨rfl, rfl⟩ := hon.unique h00
    exact refSpiral_out 0 w (.inl (by omega))

set_option maxRecDepth 100000 in
set_option maxHeartbeats 1000000 in
theorem refTurn_any (x y n : Int) (w : World) (hx1 : -67108864 ≤ x) (hx2 : x ≤ 67108864) (hy1 : -67108864 ≤ y) (hy2 : y ≤ 67108864) :
    Calls Try.prog 48 #[.agg #[.int .i64 x, .int .i64 y], .int .i64 n] w fun e w' => e = .returned (.agg #[.int .i64 (turnX x y n), .int .i64 (turnY x y n)]) ∧ Below w.heap.size w w' := by
  obtain ⟨m, hm⟩ : ∃ m, n.tmod 4 = m := ⟨_, rfl⟩
  have hc : (m = 0 ∧ n % 4 = 0) ∨ (m = 1 ∧ n % 4 = 1) ∨ (m = 2 ∧ n % 4 = 2) ∨ (m = 3 ∧ n % 4 = 3) ∨ (m = -1 ∧ n % 4 = 3) ∨ (m = -2 ∧ n % 4 = 2) ∨ (m = -3 ∧ n % 4 = 1) := by
    rcases Int.le_total 0 n with h | h
    · rw [Int.tmod_eq_emod_of_nonneg h] at hm; omega
    · have h2 : n.tmod 4 = -((-n) % 4) := by
        rw [← Int.tmod_eq_emod_of_nonneg (show 0 ≤ -n by omega), Int.neg_tmod]; omega
      omega
  have ht := turn_cases x y n
  obtain ⟨X, hX⟩ : ∃ X, turnX x y n = X := ⟨_, rfl⟩
  obtain ⟨Y, hY⟩ : ∃ Y, turnY x y n = Y := ⟨_, rfl⟩
  rw [hX, hY] at ht ⊢
  clear hX hY
  rcases hc with ⟨rfl, h4⟩ | ⟨rfl, h4⟩ | ⟨rfl, h4⟩ | ⟨rfl, h4⟩ | ⟨rfl, h4⟩ | ⟨rfl, h4⟩ | ⟨rfl, h4⟩
  all_goals
    have hXY : (n % 4 = 0 ∧ X = x ∧ Y = y) ∨ (n % 4 = 1 ∧ X = -y ∧ Y = x) ∨ (n % 4 = 2 ∧ X = -x ∧ Y = -y) ∨ (n % 4 = 3 ∧ X = y ∧ Y = -x) := by omega
    rw [h4] at hXY
    simp at hXY
    obtain ⟨rfl, rfl⟩ := hXY
    clear ht h4
    go_enter Try.func48, Try.ntmps48
    go_wp2
    refine wp_loop_rounds 4 ?_
    repeat (rw [rounds_succ]; go_wp2)
    refine bodyPost_ret (v := _) ?_ rfl ⟨rfl, ?_⟩
    · simp [results, Try.results48, go_sem]
    repeat (first | exact Below.refl _ _ | refine Below.drew ?_ | refine Below.setCell ?_ (by simp <;> omega) _ | refine Below.alloc ?_ (by simp <;> omega) _)

set_option maxRecDepth 100000 in
theorem refApart_any (x y u v : Int) (w : World) (hx1 : -33554432 ≤ x) (hx2 : x ≤ 33554432) (hy1 : -33554432 ≤ y) (hy2 : y ≤ 33554432) (hu1 : -33554432 ≤ u) (hu2 : u ≤ 33554432) (hv1 : -33554432 ≤ v) (hv2 : v ≤ 33554432) :
    Calls Try.prog 49 #[.agg #[.int .i64 x, .int .i64 y], .agg #[.int .i64 u, .int .i64 v]] w fun e w' => e = .returned (.int .i64 (apartZ x y u v)) ∧ Below w.heap.size w w' := by
  have s1 := sq_abs (x - u) (by omega) (by omega)
  have s2 := sq_abs (y - v) (by omega) (by omega)
  unfold apartZ
  obtain ⟨p, hp⟩ : ∃ p, (x - u) * (x - u) = p := ⟨_, rfl⟩
  obtain ⟨q, hq⟩ : ∃ p, (y - v) * (y - v) = p := ⟨_, rfl⟩
  rw [hp] at s1 ⊢
  rw [hq] at s2 ⊢
  go_enter Try.func49, Try.ntmps49
  go_wp2
  go_ret
  exact ⟨rfl, by repeat (first | exact Below.refl _ _ | refine Below.drew ?_ | refine Below.setCell ?_ (by simp <;> omega) _ | refine Below.alloc ?_ (by simp <;> omega) _)⟩
end Go.Proofs.Ytbgojhjlmlbfpaa
