/- PlaneOnce (tallylaw3): number; the walk. -/
import Derived.Test.YtbgojhjlmlbfpaaPlF
namespace Go.Proofs.Ytbgojhjlmlbfpaa
open Go.RowKit Fl

theorem run_max4 {P : Program} (w : World) (ts : Array TypeId) (t : TypeId) (x y z v m : Int) (hm : max (max x y) (max z v) = m) : (Builtin.max_ ts t #[.int .i64 x, .int .i64 y, .int .i64 z, .int .i64 v]).run P w = .ok (.int .i64 m) w := by
  have e : (Builtin.max_ ts t #[.int .i64 x, .int .i64 y, .int .i64 z, .int .i64 v]).run P w = .ok (.int .i64 (if v > (if z > (if y > x then y else x) then z else if y > x then y else x) then v else if z > (if y > x then y else x) then z else if y > x then y else x)) w := by
    simp [Builtin.max_, Builtin.max2]
  rw [e]
  congr 2
  omega

set_option maxRecDepth 100000 in
set_option maxHeartbeats 1000000 in
theorem number_any (x y : Int) (w : World) (hx1 : -1048576 ≤ x) (hx2 : x ≤ 1048576) (hy1 : -1048576 ≤ y) (hy2 : y ≤ 1048576) :
    Calls Try.prog 18 #[.agg #[.int .i64 x, .int .i64 y]] w fun e w' => e = .returned (.int .i64 (Spi.number x y)) ∧ Below w.heap.size w w' := by
  obtain ⟨r, hr⟩ : ∃ r, max (max x (-x)) (max y (-y)) = r := ⟨_, rfl⟩
  have hr0 : 0 ≤ r ∧ r ≤ 1048576 := by omega
  obtain ⟨hr0, hr1⟩ := hr0
  rw [Spi.number_at hr]
  have hq : 0 ≤ r * r ∧ r * r ≤ 1099511627776 := ⟨Int.mul_nonneg hr0 hr0, by have := Spi.sq_mono hr0 hr1; omega⟩
  obtain ⟨q, hqq⟩ : ∃ q, r * r = q := ⟨_, rfl⟩
  rw [hqq] at hq ⊢
  obtain ⟨hq0, hq1⟩ := hq
  have h4 : 4 * r * r = 4 * q := by rw [Int.mul_assoc, hqq]
  have hmx := fun (w : World) (ts : Array TypeId) (t : TypeId) => run_max4 (P := Try.prog) w ts t x (-x) y (-y) r hr
  have hxr1 : -r ≤ x := by omega
  have hxr2 : x ≤ r := by omega
  have hyr1 : -r ≤ y := by omega
  have hyr2 : y ≤ r := by omega
  by_cases c1 : x = r ∧ y > -r
  · rw [if_pos c1]
    have e1 : (x == r) = true := beq_iff_eq.2 c1.1
    have e2 := c1.2
    clear c1 hr hqq
    go_enter Try.func18, Try.ntmps18
    go_wp2
    go_ret
    exact ⟨rfl, (Below.refl _ _).alloc (Nat.le_refl _) _⟩
  rw [if_neg c1]
  have d1 : (x == r) = false ∨ ((x == r) = true ∧ ¬ y > -r) := by
    by_cases h : x = r
    · right; exact ⟨beq_iff_eq.2 h, fun k => c1 ⟨h, k⟩⟩
    · left; exact beq_eq_false_iff_ne.2 h
  by_cases c2 : y = r
  · rw [if_pos c2]
    have e2 : (y == r) = true := beq_iff_eq.2 c2
    rcases d1 with d1 | ⟨d1, d2⟩
    all_goals
      clear c1 c2 hr hqq
      go_enter Try.func18, Try.ntmps18
      go_wp2
      go_ret
      exact ⟨rfl, (Below.refl _ _).alloc (Nat.le_refl _) _⟩
  rw [if_neg c2]
  have e2 : (y == r) = false := beq_eq_false_iff_ne.2 c2
  by_cases c3 : x = -r
  · rw [if_pos c3]
    have e3 : (x == -r) = true := beq_iff_eq.2 c3
    rcases d1 with d1 | ⟨d1, d2⟩
    all_goals
      clear c1 c2 c3 hr hqq
      go_enter Try.func18, Try.ntmps18
      go_wp2
      go_ret
      exact ⟨rfl, (Below.refl _ _).alloc (Nat.le_refl _) _⟩
  · rw [if_neg c3]
    have e3 : (x == -r) = false := beq_eq_false_iff_ne.2 c3
    rcases d1 with d1 | ⟨d1, d2⟩
    all_goals
      clear c1 c2 c3 hr hqq
      go_enter Try.func18, Try.ntmps18
      go_wp2
      go_ret
      exact ⟨rfl, (Below.refl _ _).alloc (Nat.le_refl _) _⟩

/-- 'Below', shut. -/
def BelW (w w' : World) : Prop := Below w.heap.size w w'
theorem belowKeep {w W w1 : World} (h : BelW w W) (hb : Below W.heap.size W w1) : BelW w w1 := Below.trans h (hb.mono (Below.size h))
theorem BelW.drew {w w1 : World} (h : Below w.heap.size w w1) : BelW w w1.drew := Below.drew h
theorem spiral_on (k x y : Int) (w : World) (hon : Spi.On k x y) (h0 : 0 ≤ k) (h1 : k ≤ 1099511627776) :
    Calls Try.prog 19 #[.int .i64 k] w fun e w' => e = .returned (.complex .f64 (ff x) (ff y)) ∧ w = w' :=
  (spiral_any k w h0 h1).mono fun e w' ⟨⟨a, b, he, hab⟩, hw⟩ => by
    obtain ⟨rfl, rfl⟩ := hab.unique hon
    exact ⟨he, hw.symm⟩
theorem number_pos (x y : Int) (h1 : -1001 < x) (h2 : x < 1001) (h3 : -1001 < y) (h4 : y < 1001) : 0 ≤ Spi.number x y ∧ Spi.number x y ≤ 5000000 := by
  obtain ⟨r, hr⟩ : ∃ r, max (max x (-x)) (max y (-y)) = r := ⟨_, rfl⟩
  have hr0 : 0 ≤ r := by omega
  have hr1 : r ≤ 1000 := by omega
  rw [Spi.number_at hr]
  have h5 := Spi.sq_mono hr0 hr1
  by_cases h0 : r = 0
  · subst h0
    have : x = 0 := by omega
    have : y = 0 := by omega
    subst x y; simp
  · have h6 := Int.mul_le_mul (Int.le_refl r) (show 1 ≤ r by omega) (by omega) hr0
    split
    · omega
    · split
      · omega
      · split <;> omega
theorem conv_is {x : Int} (h1 : -1048576 ≤ x) (h2 : x ≤ 1048576) (w : World) : (convert 59 3 (.float .f64 (ff x))).run Try.prog w = .ok (.int .i64 x) w :=
  run_convert_float_int w _ _ .f64 .i64 _ _ (by kernel_rfl) Try.underlying3 (toInt_is (ff_is x (by omega)) (by omega))

set_option maxRecDepth 100000 in
set_option maxHeartbeats 2000000 in
theorem once_walk (sx sy kk : Int) (w : World) :
    Calls Try.prog 4 #[.agg #[.int .i64 sx, .int .i64 sy], .int .i64 kk] w fun e w' => e = .returned (.bool true) ∧ Below w.heap.size w w' := by
  obtain ⟨x, hx⟩ : ∃ x, sx.tmod 1001 = x := ⟨_, rfl⟩
  obtain ⟨y, hy⟩ : ∃ x, sy.tmod 1001 = x := ⟨_, rfl⟩
  obtain ⟨z, hz⟩ : ∃ x, kk.tmod 4000000 = x := ⟨_, rfl⟩
  have hx1 : -1001 < x ∧ x < 1001 := by rw [← hx]; exact ⟨Int.lt_tmod_of_pos sx (by omega), Int.tmod_lt_of_pos sx (by omega)⟩
  have hy1 : -1001 < y ∧ y < 1001 := by rw [← hy]; exact ⟨Int.lt_tmod_of_pos sy (by omega), Int.tmod_lt_of_pos sy (by omega)⟩
  have hz1 : -4000000 < z ∧ z < 4000000 := by rw [← hz]; exact ⟨Int.lt_tmod_of_pos kk (by omega), Int.tmod_lt_of_pos kk (by omega)⟩
  obtain ⟨hx1, hx2⟩ := hx1
  obtain ⟨hy1, hy2⟩ := hy1
  obtain ⟨hz1, hz2⟩ := hz1
  obtain ⟨m, hm, hm0, hm1⟩ : ∃ m : Int, (if z < 0 then -z else z) = m ∧ 0 ≤ m ∧ m < 4000000 := ⟨_, rfl, by split <;> omega, by split <;> omega⟩
  obtain ⟨n, hn⟩ : ∃ n, Spi.number x y = n := ⟨_, rfl⟩
  have hon := Spi.number_on x y
  have hnp := number_pos x y hx1 hx2 hy1 hy2
  rw [hn] at hon hnp
  obtain ⟨hn0, hn1⟩ := hnp
  obtain ⟨X, Y, hXY⟩ := Spi.On.exists_ m.toNat
  rw [show ((m.toNat : Nat) : Int) = m by omega] at hXY
  obtain ⟨X', Y', hXY'⟩ := hXY.step
  obtain ⟨b1, b2, b3, b4⟩ := hXY.bound (by omega)
  obtain ⟨b5, b6, b7, b8⟩ := hXY'.bound (by omega)
  have hN := hXY.number
  have hA : apartZ X Y X' Y' = 1 := hXY.next hXY'
  have i1 : isZ x y x y = true := by simp [isZ]
  have i2 : isZ X Y X Y = true := by simp [isZ]
  have cX := fun w => conv_is b1 b2 w
  have cY := fun w => conv_is b3 b4 w
  have hw : IntKind.i64.wrap (m + 1) = m + 1 := IntWalk.i64_in _ (by omega)
  have hmm : (m == m) = true := by simp
  have h11 : ((1 : Int) == 1) = true := by simp
  have hzm : z < 0 ∧ -z = m ∨ ¬ z < 0 ∧ z = m := by
    split at hm
    · left; exact ⟨‹_›, hm⟩
    · right; exact ⟨‹_›, hm⟩
  clear hm
  rcases hzm with ⟨hzn, hm⟩ | ⟨hzn, hm⟩
  all_goals
    go_enter Try.func4, Try.ntmps4
    go_wp2_with fail
    refine (number_any _ _ _ (by omega) (by omega) (by omega) (by omega)).mono ?_
    rintro e w1 ⟨rfl, hb1⟩
    obtain ⟨hc1, hf1⟩ := bcell hb1
    have hz1 : w.heap.size + 1 < w1.heap.size := by have := hb1.size; simp at this; omega
    go_wp2_with (go_at_call 19; (with_reducible refine (spiral_on _ X Y _ hXY (by omega) (by omega)).mono ?_); rintro e w9 ⟨rfl, rfl⟩)
    have hWB : Below w.heap.size w (w1.alloc (.cells #[.int .i64 X, .int .i64 Y] 55)) := by
      have k1 : Below w.heap.size w w1 := (((Below.refl _ _).alloc (Nat.le_refl _) _).alloc (by simp) _).trans (hb1.mono (by simp; omega))
      exact k1.alloc k1.size _
    go_region_held3 (fun w' => w'.cell? ⟨w.heap.size + 1, 0, none⟩ = some (.int .i64 x) ∧ w'.cell? ⟨w.heap.size + 1, 1, none⟩ = some (.int .i64 y) ∧ w'.cell? ⟨w1.heap.size, 0, none⟩ = some (.int .i64 X) ∧ w'.cell? ⟨w1.heap.size, 1, none⟩ = some (.int .i64 Y) ∧ BelW w w')
      (first | (go_split_ands; refine ⟨?_, ?_, ?_, ?_, ?_⟩ <;> first | assumption | (refine cellKeep hb5 ?_; assumption) | (refine belowKeep ?_ hb5; assumption)) | (refine ⟨?_, ?_, ?_, ?_, ?_⟩ <;> first | exact BelW.drew hWB | go_keep))
      (first | (go_at_call 20; (with_reducible refine (is_any x y x y _ (by omega) (by omega) (by omega) (by omega)).mono ?_); rw [i1]; rintro e w5 ⟨rfl, hb5⟩) | (go_at_call 20; (with_reducible refine (is_any X Y X Y _ (by omega) (by omega) (by omega) (by omega)).mono ?_); rw [i2]; rintro e w5 ⟨rfl, hb5⟩) | (go_at_call 18; (with_reducible refine (number_any X Y _ (by omega) (by omega) (by omega) (by omega)).mono ?_); rw [hN]; rintro e w5 ⟨rfl, hb5⟩) | (go_at_call 19; (with_reducible refine (spiral_on n x y _ hon (by omega) (by omega)).mono ?_); rintro e w9 ⟨rfl, rfl⟩) | (go_at_call 19; (with_reducible refine (spiral_on (m + 1) X' Y' _ hXY' (by omega) (by omega)).mono ?_); rintro e w9 ⟨rfl, rfl⟩) | (go_at_call 21; (with_reducible refine (flipW (apart_any _ _ _ _ _ (by omega) (by omega) (by omega) (by omega) (by omega) (by omega) (by omega) (by omega))).mono ?_); rw [hA]; rintro e w9 ⟨rfl, rfl⟩) | (go_at_call 16; (with_reducible refine (wakes_any _).mono ?_); rintro e w5 ⟨rfl, hb5⟩))
    go_wp2
    go_ret
    go_split_ands
    exact ⟨rfl, ‹BelW w _›⟩
end Go.Proofs.Ytbgojhjlmlbfpaa
