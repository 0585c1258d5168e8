/- plane (the program): way, whole, conj, Spiral, Turn, Apart, as contracts over whole numbers: points are pairs of whole numbers. -/
import Derived.Test.YtbgojhjlmlbfpaaProg
import Derived.Test.YtbgojhjlmlbfpaaFl
import Derived.Test.YtbgojhjlmlbfpaaSpi
import Derived.WalkKit
import Derived.WalkLawsBesides
import Derived.Outline
import Derived.Below
import Derived.Lib.Hide
import Derived.Laws.BitsAllLaws
import Derived.Deep.QuietTactic
import Derived.BigQuiet
namespace Go.Proofs.Ytbgojhjlmlbfpaa
open Go.RowKit Fl

/-- 'n & 3'. -/
theorem and3 (n : Int) : bits .and .i64 n 3 = n % 4 := by
  have e2 : ((BitVec.ofInt 64 n).toNat : Int) = n % 18446744073709551616 := by
    rw [BitVec.toNat_ofInt]; omega
  have e1 : (BitVec.ofInt 64 n &&& BitVec.ofInt 64 3).toNat = (BitVec.ofInt 64 n).toNat % 4 := by
    rw [BitVec.toNat_and]
    have : (BitVec.ofInt 64 3).toNat = 3 := by decide
    rw [this]
    exact nat_mask2 _
  have e3 : (((BitVec.ofInt 64 n &&& BitVec.ofInt 64 3).toNat : Nat) : Int) = n % 4 := by
    rw [e1]; omega
  unfold bits
  show IntKind.wrap .i64 (((BitVec.ofInt 64 n &&& BitVec.ofInt 64 3).toNat : Nat) : Int) = _
  rw [e3]
  exact IntWalk.i64_in _ (by omega)

/-- The four directions, as their bits. -/
def wayRe (n : Int) : Nat := if n % 4 = 0 then 4607182418800017408 else if n % 4 = 2 then 13830554455654793216 else 0
def wayIm (n : Int) : Nat := if n % 4 = 1 then 4607182418800017408 else if n % 4 = 3 then 13830554455654793216 else 0
theorem wayRe_is (n : Int) : IsF (wayRe n) (Spi.dx n) := by
  unfold wayRe Spi.dx
  split
  · exact one_is
  · split
    · exact mone_is
    · exact zero_is
theorem wayIm_is (n : Int) : IsF (wayIm n) (Spi.dy n) := by
  unfold wayIm Spi.dy
  split
  · exact one_is
  · split
    · exact mone_is
    · exact zero_is

set_option maxRecDepth 100000 in
theorem way_any (n : Int) (w : World) :
    Calls Try.prog 54 #[.int .i64 n] w fun e w' => e = .returned (.complex .f64 (wayRe n) (wayIm n)) ∧ w' = w := by
  have ha := and3 n
  have hc : n % 4 = 0 ∨ n % 4 = 1 ∨ n % 4 = 2 ∨ n % 4 = 3 := by omega
  have i0 : ∀ w, (Instr.index 175 (.agg #[.complex .f64 4607182418800017408 0, .complex .f64 0 4607182418800017408, .complex .f64 13830554455654793216 0, .complex .f64 0 13830554455654793216]) (.int .i64 0)).run Try.prog w = .ok (.complex .f64 4607182418800017408 0) w := fun _ => by kernel_rfl
  have i1 : ∀ w, (Instr.index 175 (.agg #[.complex .f64 4607182418800017408 0, .complex .f64 0 4607182418800017408, .complex .f64 13830554455654793216 0, .complex .f64 0 13830554455654793216]) (.int .i64 1)).run Try.prog w = .ok (.complex .f64 0 4607182418800017408) w := fun _ => by kernel_rfl
  have i2 : ∀ w, (Instr.index 175 (.agg #[.complex .f64 4607182418800017408 0, .complex .f64 0 4607182418800017408, .complex .f64 13830554455654793216 0, .complex .f64 0 13830554455654793216]) (.int .i64 2)).run Try.prog w = .ok (.complex .f64 13830554455654793216 0) w := fun _ => by kernel_rfl
  have i3 : ∀ w, (Instr.index 175 (.agg #[.complex .f64 4607182418800017408 0, .complex .f64 0 4607182418800017408, .complex .f64 13830554455654793216 0, .complex .f64 0 13830554455654793216]) (.int .i64 3)).run Try.prog w = .ok (.complex .f64 0 13830554455654793216) w := fun _ => by kernel_rfl
  unfold wayRe wayIm
  rcases hc with hc | hc | hc | hc
  all_goals
    rw [hc] at ha ⊢
    simp only [if_true, Int.reduceEq, if_false]
    clear hc
    go_enter Try.func54, Try.ntmps54
    go_wp2
    go_ret
    exact ⟨rfl, rfl⟩

set_option maxRecDepth 100000 in
theorem whole_any (a b : Nat) (x y : Int) (w : World) (ha : IsF a x) (hb : IsF b y) (hx : x.natAbs < 9007199254740992) (hy : y.natAbs < 9007199254740992) :
    Calls Try.prog 55 #[.complex .f64 a b] w fun e w' => e = .returned (.complex .f64 (ff x) (ff y)) ∧ w' = w := by
  have h1 : ∀ w, (binOp .add 59 (.float .f64 a) (.float .f64 0)).run Try.prog w = .ok (.float .f64 (ff x)) w := fun w => run_float_arith w .add _ .f64 a 0 _ (add_zero ha hx)
  have h2 : ∀ w, (binOp .add 59 (.float .f64 b) (.float .f64 0)).run Try.prog w = .ok (.float .f64 (ff y)) w := fun w => run_float_arith w .add _ .f64 b 0 _ (add_zero hb hy)
  clear ha hb hx hy
  go_enter Try.func55, Try.ntmps55
  go_wp2
  go_ret
  exact ⟨rfl, rfl⟩

set_option maxRecDepth 100000 in
theorem conj_any (a b : Nat) (w : World) :
    Calls Try.prog 56 #[.complex .f64 a b] w fun e w' => e = .returned (.complex .f64 a (Op.negFloat .f64 b)) ∧ w' = w := by
  have hn : Op.unary .neg (.float .f64 b) = pure (.float .f64 (Op.negFloat .f64 b)) := rfl
  go_enter Try.func56, Try.ntmps56
  go_wp2
  go_ret
  exact ⟨rfl, rfl⟩

/-- The spiral's loop at its head: a corner has been come to, or the way is done. -/
def SpRel (K : Int) (k z j : Value) : Prop := ∃ (m n x y : Int) (re im : Nat), k = .int .i64 m ∧ z = .complex .f64 re im ∧ j = .int .i64 n ∧ IsF re x ∧ IsF im y ∧ 0 ≤ m ∧
  (Spi.Corner n (K - m) x y ∨ (m = 0 ∧ Spi.On K x y))
theorem mag {x : Int} (h1 : -1048576 ≤ x) (h2 : x ≤ 1048576) : x.natAbs < 9007199254740992 := by omega
theorem dx_range (n : Int) : Spi.dx n = 1 ∨ Spi.dx n = -1 ∨ Spi.dx n = 0 := by unfold Spi.dx; split <;> (try split) <;> simp
theorem dy_range (n : Int) : Spi.dy n = 1 ∨ Spi.dy n = -1 ∨ Spi.dy n = 0 := by unfold Spi.dy; split <;> (try split) <;> simp
/-- One leg or a part of one, in floats. -/
theorem leg_sum {re im : Nat} {x y s n : Int} (hr : IsF re x) (hi : IsF im y) (hx1 : -1048576 ≤ x) (hx2 : x ≤ 1048576) (hy1 : -1048576 ≤ y) (hy2 : y ≤ 1048576) (hs1 : 0 ≤ s) (hs2 : s ≤ 4194304) :
    ∃ a b c d, cMulBits (floatOfInt .f64 s) 0 (wayRe n) (wayIm n) = some (a, b) ∧ cSumBits .add .f64 re im a b = some (c, d) ∧ IsF c (x + s * Spi.dx n) ∧ IsF d (y + s * Spi.dy n) := by
  have hsF : IsF (floatOfInt .f64 s) s := ff_is s (by omega)
  have e1 : s * Spi.dx n = s ∨ s * Spi.dx n = -s ∨ s * Spi.dx n = 0 := by rcases dx_range n with h | h | h <;> rw [h] <;> simp
  have e2 : s * Spi.dy n = s ∨ s * Spi.dy n = -s ∨ s * Spi.dy n = 0 := by rcases dy_range n with h | h | h <;> rw [h] <;> simp
  have d1 := dx_range n
  have d2 := dy_range n
  obtain ⟨a, b, h1, ia, ib⟩ := cmul_is hsF zero_is (wayRe_is n) (wayIm_is n) (by omega) (by omega) (by omega) (by omega) (by omega) (by simp) (by omega) (by simp) (by simp; omega) (by simp; omega)
  rw [Int.zero_mul, Int.sub_zero] at ia
  rw [Int.zero_mul, Int.add_zero] at ib
  obtain ⟨c, d, h2, ic, id⟩ := cadd_is hr hi ia ib (by omega) (by omega) (by omega) (by omega) (by omega) (by omega)
  exact ⟨a, b, c, d, h1, h2, ic, id⟩
theorem SpRel.start (K : Int) (h : 0 ≤ K) : SpRel K (.int .i64 K) (.complex .f64 0 0) (.int .i64 0) := ⟨K, 0, 0, 0, 0, 0, rfl, rfl, rfl, zero_is, zero_is, h, .inl (by rw [Int.sub_self]; exact Spi.Corner.start)⟩

set_option maxRecDepth 100000 in
set_option maxHeartbeats 400000 in
theorem spiral_any (k : Int) (w : World) (h0 : 0 ≤ k) (h1 : k ≤ 1099511627776) :
    Calls Try.prog 19 #[.int .i64 k] w fun e w' => (∃ x y, e = .returned (.complex .f64 (ff x) (ff y)) ∧ Spi.On k x y) ∧ w' = w := by
  go_enter Try.func19, Try.ntmps19
  go_wp2
  go_loop [0, 3, 4] (fun m z j => SpRel k m z j) (fun m _ _ => (intOf m).toNat)
  case atStart => exact SpRel.start k h0
  case round =>
    obtain ⟨m, n, x, y, re, im, rfl, rfl, rfl, hr, hi, hm, hc⟩ := hrel
    by_cases hm0 : 0 < m
    · have hC : Spi.Corner n (k - m) x y := by rcases hc with hc | hc; exact hc; omega
      obtain ⟨r1, r2, r3, r4, r5, r6, r7⟩ := hC.range (by omega)
      clear hc
      by_cases hle : m ≤ n / 2
      · obtain ⟨a1, b1, c1, d1, g1, g2, ic, id⟩ := leg_sum (n := n) hr hi r4 r5 r6 r7 (s := m) (by omega) (by omega)
        have hOn := hC.part (m := m) (by omega) hle
        have k1 : ∀ w, (binOp .mul 57 (.complex .f64 (floatOfInt .f64 m) 0) (.complex .f64 (wayRe n) (wayIm n))).run Try.prog w = .ok (.complex .f64 a1 b1) w := fun w => run_complex_mul w _ _ _ _ _ _ _ g1
        have k2 : ∀ w, (binOp .add 57 (.complex .f64 re im) (.complex .f64 a1 b1)).run Try.prog w = .ok (.complex .f64 c1 d1) w := fun w => run_complex_sum w .add (.inl rfl) _ _ _ _ _ _ _ _ g2

        go_wp2_with (go_at_call 54; (with_reducible refine (way_any n _).mono ?_); rintro e w1 ⟨rfl, rfl⟩)
        rw [Int.sub_add_cancel] at hOn
        exact ⟨⟨0, n + 1, _, _, c1, d1, by go_num, rfl, rfl, ic, id, by omega, .inr ⟨rfl, hOn⟩⟩, by simp [intOf]; omega⟩
      · obtain ⟨a1, b1, c1, d1, g1, g2, ic, id⟩ := leg_sum (n := n) hr hi r4 r5 r6 r7 (s := n / 2 + 1) (by omega) (by omega)
        have hL := hC.leg
        rw [show k - m + (n / 2 + 1) = k - (m - (n / 2 + 1)) by omega] at hL
        have k1 : ∀ w, (binOp .mul 57 (.complex .f64 (floatOfInt .f64 (n / 2 + 1)) 0) (.complex .f64 (wayRe n) (wayIm n))).run Try.prog w = .ok (.complex .f64 a1 b1) w := fun w => run_complex_mul w _ _ _ _ _ _ _ g1
        have k2 : ∀ w, (binOp .add 57 (.complex .f64 re im) (.complex .f64 a1 b1)).run Try.prog w = .ok (.complex .f64 c1 d1) w := fun w => run_complex_sum w .add (.inl rfl) _ _ _ _ _ _ _ _ g2

        by_cases heq : m = n / 2 + 1
        · subst heq
          go_wp2_with (go_at_call 54; (with_reducible refine (way_any n _).mono ?_); rintro e w1 ⟨rfl, rfl⟩)
          rw [Int.sub_self] at hL
          exact ⟨⟨0, n + 1, _, _, c1, d1, by go_num, rfl, rfl, ic, id, by omega, .inl hL⟩, by simp [intOf]; omega⟩
        · go_wp2_with (go_at_call 54; (with_reducible refine (way_any n _).mono ?_); rintro e w1 ⟨rfl, rfl⟩)
          exact ⟨⟨m - (n / 2 + 1), n + 1, _, _, c1, d1, by go_num, rfl, rfl, ic, id, by omega, .inl hL⟩, by simp [intOf]; omega⟩
    · obtain rfl : m = 0 := by omega
      have hOn : Spi.On k x y := by
        rcases hc with hc | hc
        · have := hc.part (m := 0) (by omega) (by have := hc.range (by omega); omega)
          simpa using this
        · exact hc.2
      obtain ⟨b1, b2, b3, b4⟩ := hOn.bound h1
      go_wp2_with (go_at_call 55; (with_reducible refine (whole_any re im x y _ hr hi (mag b1 b2) (mag b3 b4)).mono ?_); rintro e w1 ⟨rfl, rfl⟩)
      go_ret
      exact ⟨⟨x, y, rfl, hOn⟩, rfl⟩

set_option maxRecDepth 100000 in
theorem spiral_out (k : Int) (w : World) (h : k < 0 ∨ 1099511627776 < k) :
    Calls Try.prog 19 #[.int .i64 k] w fun e w' => e = .returned (.complex .f64 (ff 0) (ff 0)) ∧ w' = w := by
  rw [ff_zero]
  rcases h with h | h
  all_goals
    go_enter Try.func19, Try.ntmps19
    go_wp2
    go_ret
    exact ⟨rfl, rfl⟩

/-- A point turned by quarters to the left. -/
def turnX (x y n : Int) : Int := x * Spi.dx n - y * Spi.dy n
def turnY (x y n : Int) : Int := x * Spi.dy n + y * Spi.dx n
theorem dir (n : Int) : (n % 4 = 0 ∧ Spi.dx n = 1 ∧ Spi.dy n = 0) ∨ (n % 4 = 1 ∧ Spi.dx n = 0 ∧ Spi.dy n = 1) ∨ (n % 4 = 2 ∧ Spi.dx n = -1 ∧ Spi.dy n = 0) ∨ (n % 4 = 3 ∧ Spi.dx n = 0 ∧ Spi.dy n = -1) := by
  have hc : n % 4 = 0 ∨ n % 4 = 1 ∨ n % 4 = 2 ∨ n % 4 = 3 := by omega
  unfold Spi.dx Spi.dy
  rcases hc with h | h | h | h <;> simp [h]
theorem turn_cases (x y n : Int) : (n % 4 = 0 ∧ turnX x y n = x ∧ turnY x y n = y) ∨ (n % 4 = 1 ∧ turnX x y n = -y ∧ turnY x y n = x) ∨ (n % 4 = 2 ∧ turnX x y n = -x ∧ turnY x y n = -y) ∨ (n % 4 = 3 ∧ turnX x y n = y ∧ turnY x y n = -x) := by
  unfold turnX turnY
  rcases dir n with ⟨h, e1, e2⟩ | ⟨h, e1, e2⟩ | ⟨h, e1, e2⟩ | ⟨h, e1, e2⟩ <;> simp [h, e1, e2]
set_option maxRecDepth 100000 in
theorem turn_any (x y n : Int) (w : World) (hx1 : -67108864 ≤ x) (hx2 : x ≤ 67108864) (hy1 : -67108864 ≤ y) (hy2 : y ≤ 67108864) :
    Calls Try.prog 23 #[.complex .f64 (ff x) (ff y), .int .i64 n] w fun e w' => e = .returned (.complex .f64 (ff (turnX x y n)) (ff (turnY x y n))) ∧ w' = w := by
  have hX := ff_is x (by omega)
  have hY := ff_is y (by omega)
  have d1 := dx_range n
  have d2 := dy_range n
  have p1 : x * Spi.dx n = x ∨ x * Spi.dx n = -x ∨ x * Spi.dx n = 0 := by rcases d1 with h | h | h <;> rw [h] <;> simp
  have p2 : y * Spi.dy n = y ∨ y * Spi.dy n = -y ∨ y * Spi.dy n = 0 := by rcases d2 with h | h | h <;> rw [h] <;> simp
  have p3 : x * Spi.dy n = x ∨ x * Spi.dy n = -x ∨ x * Spi.dy n = 0 := by rcases d2 with h | h | h <;> rw [h] <;> simp
  have p4 : y * Spi.dx n = y ∨ y * Spi.dx n = -y ∨ y * Spi.dx n = 0 := by rcases d1 with h | h | h <;> rw [h] <;> simp
  obtain ⟨a, b, h1, ia, ib⟩ := cmul_is hX hY (wayRe_is n) (wayIm_is n) (by omega) (by omega) (by omega) (by omega) (by omega) (by omega) (by omega) (by omega) (by omega) (by omega)
  have k1 : ∀ w, (binOp .mul 57 (.complex .f64 (ff x) (ff y)) (.complex .f64 (wayRe n) (wayIm n))).run Try.prog w = .ok (.complex .f64 a b) w := fun w => run_complex_mul w _ _ _ _ _ _ _ h1
  have H := Lib.hid (whole_any a b (turnX x y n) (turnY x y n) w ia ib (by unfold turnX; omega) (by unfold turnY; omega))
  clear ia ib h1 hX hY p1 p2 p3 p4 d1 d2
  go_enter Try.func23, Try.ntmps23
  go_wp2_with (first | (go_at_call 54; (with_reducible refine (way_any n _).mono ?_); rintro e w1 ⟨rfl, rfl⟩) | (go_at_call 55; (with_reducible refine (H.out).mono ?_); rintro e w1 ⟨rfl, rfl⟩))
  go_ret
  exact ⟨rfl, rfl⟩

theorem sq_abs (x : Int) (h1 : -67108864 ≤ x) (h2 : x ≤ 67108864) : 0 ≤ x * x ∧ x * x ≤ 4503599627370496 := by
  rcases Int.le_total 0 x with h | h
  · exact ⟨Int.mul_nonneg h h, by have := Spi.sq_mono h h2; omega⟩
  · have e : x * x = (-x) * (-x) := by rw [Int.neg_mul_neg]
    rw [e]
    exact ⟨Int.mul_nonneg (by omega) (by omega), by have := Spi.sq_mono (by omega : 0 ≤ -x) (by omega : -x ≤ 67108864); omega⟩
/-- The square of the distance of two points. -/
def apartZ (x y u v : Int) : Int := (x - u) * (x - u) + (y - v) * (y - v)
set_option maxRecDepth 100000 in
theorem apart_any (x y u v : Int) (w : World) (hx1 : -33554432 ≤ x) (hx2 : x ≤ 33554432) (hy1 : -33554432 ≤ y) (hy2 : y ≤ 33554432) (hu1 : -33554432 ≤ u) (hu2 : u ≤ 33554432) (hv1 : -33554432 ≤ v) (hv2 : v ≤ 33554432) :
    Calls Try.prog 21 #[.complex .f64 (ff x) (ff y), .complex .f64 (ff u) (ff v)] w fun e w' => e = .returned (.int .i64 (apartZ x y u v)) ∧ w' = w := by
  obtain ⟨a, b, h1, ia, ib⟩ := csub_is (ff_is x (by omega)) (ff_is y (by omega)) (ff_is u (by omega)) (ff_is v (by omega)) (by omega) (by omega) (by omega) (by omega) (by omega) (by omega)
  have s1 := sq_abs (x - u) (by omega) (by omega)
  have s2 := sq_abs (y - v) (by omega) (by omega)
  have ic := neg_is ib (by omega)
  have e1 : (y - v) * -(y - v) = -((y - v) * (y - v)) := Int.mul_neg _ _
  have e2 : (x - u) * -(y - v) + (y - v) * (x - u) = 0 := by rw [Int.mul_neg, Int.mul_comm]; omega
  have s3 : ((x - u) * -(y - v)).natAbs < 9007199254740992 := by
    rw [Int.natAbs_mul, Int.natAbs_neg]
    have := Nat.mul_le_mul (show (x - u).natAbs ≤ 67108864 by omega) (show (y - v).natAbs ≤ 67108864 by omega)
    omega
  have s4 : ((y - v) * (x - u)).natAbs < 9007199254740992 := by
    rw [Int.natAbs_mul]
    have := Nat.mul_le_mul (show (y - v).natAbs ≤ 67108864 by omega) (show (x - u).natAbs ≤ 67108864 by omega)
    omega
  obtain ⟨c, d, h2, id, _⟩ := cmul_is ia ib ia ic (by omega) (by omega) (by omega) (by omega) (by omega) (by rw [e1]; omega) s3 s4 (by rw [e1]; omega) (by rw [e2]; simp)
  have e3 : (x - u) * (x - u) - (y - v) * -(y - v) = apartZ x y u v := by rw [e1]; unfold apartZ; omega
  rw [e3] at id
  have e4 := toInt_is id (by unfold apartZ; omega)
  have k1 : ∀ w, (binOp .sub 57 (.complex .f64 (ff x) (ff y)) (.complex .f64 (ff u) (ff v))).run Try.prog w = .ok (.complex .f64 a b) w := fun w => run_complex_sum w .sub (.inr rfl) _ _ _ _ _ _ _ _ h1
  have k2 : ∀ w, (binOp .mul 57 (.complex .f64 a b) (.complex .f64 a (Op.negFloat .f64 b))).run Try.prog w = .ok (.complex .f64 c d) w := fun w => run_complex_mul w _ _ _ _ _ _ _ h2
  have k3 : ∀ w, (convert 59 3 (.float .f64 c)).run Try.prog w = .ok (.int .i64 (apartZ x y u v)) w := fun w => run_convert_float_int w _ _ .f64 .i64 c _ (by kernel_rfl) Try.underlying3 e4
  clear h1 ia ib s1 s2 ic e1 e2 s3 s4 h2 id e3 e4
  go_enter Try.func21, Try.ntmps21
  go_wp2_with (go_at_call 56; (with_reducible refine (conj_any a b _).mono ?_); rintro e w1 ⟨rfl, rfl⟩)
  go_ret
  exact ⟨rfl, rfl⟩
end Go.Proofs.Ytbgojhjlmlbfpaa
