/- Whole numbers as float64: up to 2^53 each sum, difference and product of whole numbers is exact (plain law; no program in it). -/
import Derived.Laws.ComplexArith
namespace Go.Proofs.Ytbgojhjlmlbfpaa.Fl
open Ieee Go

/-- The bits of the whole number n with a sign (n up to 2^53). -/
def fz (s : Bool) (n : Nat) : Nat := double.word s (if n = 0 then 0 else if n = 9007199254740992 then 1076 * 4503599627370496 else (n.log2 + 1022) * 4503599627370496 + n * 2 ^ (52 - n.log2))

theorem sw : double.signWeight = 9223372036854775808 := by decide
theorem bn : double.binade = 4503599627370496 := by decide
theorem ir : double.infRung = 9218868437227405312 := by decide
theorem lp : double.leastPlace = -1074 := by decide
theorem fb : double.fractionBits = 52 := by decide

theorem log2_le52 {n : Nat} (h0 : n ≠ 0) (h : n < 9007199254740992) : n.log2 ≤ 52 := by
  have : n.log2 < 53 := (Nat.log2_lt h0).2 h
  omega
theorem kept_range {n : Nat} (h0 : n ≠ 0) (h : n < 9007199254740992) : 4503599627370496 ≤ n * 2 ^ (52 - n.log2) ∧ n * 2 ^ (52 - n.log2) < 9007199254740992 := by
  have h52 := log2_le52 h0 h
  have h1 := Nat.log2_self_le h0
  have h2 := @Nat.lt_log2_self n
  have e1 : 2 ^ n.log2 * 2 ^ (52 - n.log2) = 2 ^ 52 := by rw [← Nat.pow_add]; congr 1; omega
  have e2 : 2 ^ (n.log2 + 1) * 2 ^ (52 - n.log2) = 2 ^ 53 := by rw [← Nat.pow_add]; congr 1; omega
  have p : 0 < 2 ^ (52 - n.log2) := Nat.pow_pos (by omega)
  have a1 := Nat.mul_le_mul_right (2 ^ (52 - n.log2)) h1
  have a2 := Nat.mul_lt_mul_of_pos_right h2 p
  rw [e1] at a1
  rw [e2] at a2
  exact ⟨a1, a2⟩

theorem log2_shift {n : Nat} (h0 : n ≠ 0) (k : Nat) : (n * 2 ^ k).log2 = n.log2 + k := by
  have hp : 0 < 2 ^ k := Nat.pow_pos (by omega)
  have hne : n * 2 ^ k ≠ 0 := Nat.mul_ne_zero h0 (by omega)
  refine (Nat.log2_eq_iff hne).2 ⟨?_, ?_⟩
  · rw [Nat.pow_add]; exact Nat.mul_le_mul_right _ (Nat.log2_self_le h0)
  · have := Nat.mul_lt_mul_of_pos_right (@Nat.lt_log2_self n) hp
    rw [← Nat.pow_add] at this
    rwa [show n.log2 + k + 1 = n.log2 + 1 + k by omega]

/-- Cutting off digits that are nought. -/
theorem cut_exact (s : Bool) (m d : Nat) (hd : d ≤ (m * 2 ^ d).log2 + 2) : Toward.even.cut s (m * 2 ^ d) d = m := by
  have hp : 0 < 2 ^ d := Nat.pow_pos (by omega)
  unfold Toward.cut
  rw [Nat.min_eq_left hd, Nat.one_shiftLeft]
  simp only [Nat.mul_div_cancel m hp, Nat.mul_mod_left]
  have h1 : ¬ 2 ^ d < 2 * 0 := by omega
  have h2 : (2 ^ d == 2 * 0) = false := by simp
  simp [h2]

theorem nearest_exact (s : Bool) (n k : Nat) (h : n ≤ 9007199254740992) : double.nearest s (n * 2 ^ k) (-(k : Int)) = fz s n := by
  have hp : 0 < 2 ^ k := Nat.pow_pos (by omega)
  by_cases h0 : n = 0
  · subst h0; simp [Format.nearest, fz]
  have hne : n * 2 ^ k ≠ 0 := Nat.mul_ne_zero h0 (by omega)
  unfold Format.nearest fz
  rw [if_neg hne, if_neg h0]
  simp only [log2_shift h0 k, lp, fb, bn, ir]
  by_cases hb : n = 9007199254740992
  · subst hb
    have hl : (9007199254740992 : Nat).log2 = 53 := by decide
    rw [if_pos rfl, hl]
    have e : max (-(k : Int) + ((53 + k : Nat) : Int) - ((52 : Nat) : Int)) (-1074) = 1 := by omega
    rw [e]
    have e1 : (-(k : Int) - 1).toNat = 0 := by omega
    have e2 : (1 - -(k : Int)).toNat = k + 1 := by omega
    have e3 : ((1 : Int) - -1074).toNat = 1075 := by omega
    rw [e1, e2, e3, Nat.shiftLeft_zero]
    have e4 : 9007199254740992 * 2 ^ k = 4503599627370496 * 2 ^ (k + 1) := by rw [Nat.pow_succ]; omega
    rw [e4, cut_exact s 4503599627370496 (k + 1) (by rw [log2_shift (by omega)]; omega)]
    congr 1
  · have hlt : n < 9007199254740992 := by omega
    have h52 := log2_le52 h0 hlt
    have hk := kept_range h0 hlt
    rw [if_neg hb]
    have e : max (-(k : Int) + ((n.log2 + k : Nat) : Int) - ((52 : Nat) : Int)) (-1074) = (n.log2 : Int) - 52 := by omega
    rw [e]
    have e3 : ((n.log2 : Int) - 52 - -1074).toNat = n.log2 + 1022 := by omega
    rw [e3]
    have key : Toward.even.cut s ((n * 2 ^ k) <<< (-(k : Int) - ((n.log2 : Int) - 52)).toNat) ((n.log2 : Int) - 52 - -(k : Int)).toNat = n * 2 ^ (52 - n.log2) := by
      by_cases hc : k ≤ 52 - n.log2
      · have e1 : (-(k : Int) - ((n.log2 : Int) - 52)).toNat = 52 - n.log2 - k := by omega
        have e2 : ((n.log2 : Int) - 52 - -(k : Int)).toNat = 0 := by omega
        rw [e1, e2, Nat.shiftLeft_eq, Nat.mul_assoc, ← Nat.pow_add, show k + (52 - n.log2 - k) = 52 - n.log2 by omega]
        have := cut_exact s (n * 2 ^ (52 - n.log2)) 0 (by omega)
        simpa using this
      · have e1 : (-(k : Int) - ((n.log2 : Int) - 52)).toNat = 0 := by omega
        have e2 : ((n.log2 : Int) - 52 - -(k : Int)).toNat = k - (52 - n.log2) := by omega
        rw [e1, e2, Nat.shiftLeft_zero]
        have e4 : n * 2 ^ k = n * 2 ^ (52 - n.log2) * 2 ^ (k - (52 - n.log2)) := by rw [Nat.mul_assoc, ← Nat.pow_add]; congr 2; omega
        rw [e4, cut_exact s _ _ (by rw [log2_shift (by have := hk.1; omega)]; omega)]
    rw [key, Nat.min_eq_left (by omega)]

def k74 : Nat := 1074
theorem k74_eq : -(k74 : Int) = -1074 := by decide
/-- What the bits stand for: the whole number, as some multiple of a power of two. -/
theorem read_fz (s : Bool) (n : Nat) (h : n < 9007199254740992) : ∃ k : Nat, double.read (fz s n) = .number s (n * 2 ^ k) (-(k : Int)) := by
  have aux : ∀ rung, rung < 9223372036854775808 → (double.word s rung / 9223372036854775808 % 2 == 1) = s ∧ double.word s rung % 9223372036854775808 = rung := by
    intro rung hr
    unfold Format.word
    rw [sw]
    cases s
    · refine ⟨?_, by simp; omega⟩
      simp
      omega
    · refine ⟨?_, by simp; omega⟩
      simp
      omega
  by_cases h0 : n = 0
  · subst h0
    obtain ⟨a1, a2⟩ := aux 0 (by omega)
    refine ⟨k74, ?_⟩
    rw [Nat.zero_mul, k74_eq]
    unfold fz Format.read
    simp only [if_true, sw, bn, a1, a2, lp]
    rw [if_pos (by omega)]
  · have h52 := log2_le52 h0 h
    obtain ⟨k1, k2⟩ := kept_range h0 h
    have hb : n ≠ 9007199254740992 := by omega
    obtain ⟨a1, a2⟩ := aux ((n.log2 + 1022) * 4503599627370496 + n * 2 ^ (52 - n.log2)) (by omega)
    refine ⟨52 - n.log2, ?_⟩
    unfold fz Format.read
    rw [if_neg h0, if_neg hb]
    simp only [sw, bn, ir, a1, a2, lp]
    rw [if_neg (by omega), if_pos (by omega)]
    have e1 : ((n.log2 + 1022) * 4503599627370496 + n * 2 ^ (52 - n.log2)) % 4503599627370496 = n * 2 ^ (52 - n.log2) - 4503599627370496 := by omega
    have e2 : ((n.log2 + 1022) * 4503599627370496 + n * 2 ^ (52 - n.log2)) / 4503599627370496 = n.log2 + 1023 := by omega
    have e3 : 4503599627370496 + (n * 2 ^ (52 - n.log2) - 4503599627370496) = n * 2 ^ (52 - n.log2) := by omega
    have e4 : (-1074 : Int) + ((n.log2 + 1023 - 1 : Nat) : Int) = -((52 - n.log2 : Nat) : Int) := by omega
    rw [e1, e2, e3, e4]
theorem read_top (s : Bool) : double.read (fz s 9007199254740992) = .number s 4503599627370496 1 := by
  cases s <;> decide +kernel

/-- These bits are the whole number z (a zero of either sign). -/
def IsF (x : Nat) (z : Int) : Prop := ∃ s, x = fz s z.natAbs ∧ (z ≠ 0 → s = decide (z < 0))
def ff (z : Int) : Nat := floatOfInt .f64 z
theorem ff_eq (z : Int) (h : z.natAbs ≤ 9007199254740992) : ff z = fz (decide (z < 0)) z.natAbs := by
  have := nearest_exact (decide (z < 0)) z.natAbs 0 h
  simpa [ff, floatOfInt, FloatKind.nearest, FloatKind.encode, FloatKind.format, Format.write] using this
theorem ff_is (z : Int) (h : z.natAbs ≤ 9007199254740992) : IsF (ff z) z := ⟨_, ff_eq z h, fun _ => rfl⟩
theorem IsF.reads {x : Nat} {z : Int} (h : IsF x z) (hz : z.natAbs < 9007199254740992) : ∃ (s : Bool) (k : Nat), double.read x = .number s (z.natAbs * 2 ^ k) (-(k : Int)) ∧ (z ≠ 0 → s = decide (z < 0)) := by
  obtain ⟨s, rfl, hs⟩ := h
  obtain ⟨k, hk⟩ := read_fz s z.natAbs hz
  exact ⟨s, k, hk, hs⟩

theorem signed_abs {s : Bool} {z : Int} (hs : z ≠ 0 → s = decide (z < 0)) (k up : Nat) : signed s (z.natAbs * 2 ^ k) up = z * 2 ^ (k + up) := by
  unfold signed
  rw [Nat.shiftLeft_eq, Nat.mul_assoc, ← Nat.pow_add]
  by_cases h0 : z = 0
  · subst h0; simp
  · rw [hs h0]
    by_cases hneg : z < 0
    · rw [decide_eq_true hneg, if_pos rfl]
      have : (z.natAbs : Int) = -z := by omega
      rw [Int.natCast_mul, this, Int.natCast_pow]
      simp [Int.neg_mul]
    · rw [decide_eq_false hneg, if_neg (by simp)]
      have : (z.natAbs : Int) = z := by omega
      rw [Int.natCast_mul, this, Int.natCast_pow]
      rfl

theorem sum_exact {s t : Bool} {a b : Int} (hs : a ≠ 0 → s = decide (a < 0)) (ht : b ≠ 0 → t = decide (b < 0)) (i j : Nat) (hab : (a + b).natAbs ≤ 9007199254740992) :
    ∃ r, ((Datum.number s (a.natAbs * 2 ^ i) (-(i : Int))).sum (.number t (b.natAbs * 2 ^ j) (-(j : Int)))).map double.write = some r ∧ r = fz (if a + b = 0 then s && t else decide (a + b < 0)) (a + b).natAbs := by
  have e0 : min (-(i : Int)) (-(j : Int)) = -((max i j : Nat) : Int) := by omega
  have e1 : (-(i : Int) - -((max i j : Nat) : Int)).toNat = max i j - i := by omega
  have e2 : (-(j : Int) - -((max i j : Nat) : Int)).toNat = max i j - j := by omega
  simp only [Datum.sum, e0, e1, e2, signed_abs hs, signed_abs ht]
  have e3 : i + (max i j - i) = max i j := by omega
  have e4 : j + (max i j - j) = max i j := by omega
  rw [e3, e4, ← Int.add_mul]
  have hp : (0 : Int) < 2 ^ (max i j) := Int.pow_pos (by omega)
  have e5 : ((a + b) * 2 ^ (max i j) = 0) ↔ (a + b = 0) := by
    constructor
    · intro h; rcases Int.mul_eq_zero.1 h with h | h
      · exact h
      · omega
    · intro h; rw [h]; simp
  have e6 : ((a + b) * 2 ^ (max i j) < 0) ↔ (a + b < 0) := by
    constructor
    · intro h
      rcases Int.lt_or_le (a + b) 0 with h1 | h1
      · exact h1
      · have := Int.mul_nonneg h1 (Int.le_of_lt hp); omega
    · intro h; exact Int.mul_neg_of_neg_of_pos h hp
  have e7 : ((a + b) * 2 ^ (max i j)).natAbs = (a + b).natAbs * 2 ^ (max i j) := by
    rw [Int.natAbs_mul, Int.natAbs_pow]; rfl
  refine ⟨_, rfl, ?_⟩
  simp only [Format.write, e7]
  rw [nearest_exact _ _ _ hab]
  congr 1
  by_cases hz : a + b = 0
  · rw [if_pos (e5.2 hz), if_pos hz]
  · rw [if_neg (fun h => hz (e5.1 h)), if_neg hz]
    simp [e6]

theorem add_is {x y : Nat} {a b : Int} (hx : IsF x a) (hy : IsF y b) (ha : a.natAbs < 9007199254740992) (hb : b.natAbs < 9007199254740992) (hab : (a + b).natAbs ≤ 9007199254740992) :
    ∃ r, floatBits .add .f64 x y = some r ∧ IsF r (a + b) := by
  obtain ⟨s, i, h1, hs⟩ := hx.reads ha
  obtain ⟨t, j, h2, ht⟩ := hy.reads hb
  obtain ⟨r, h3, h4⟩ := sum_exact hs ht i j hab
  refine ⟨r, ?_, _, h4, fun hz => by rw [if_neg hz]⟩
  simp only [floatBits, FloatKind.format, Format.add, h1, h2]
  exact h3
theorem opp_signs {t : Bool} {b : Int} (ht : b ≠ 0 → t = decide (b < 0)) : -b ≠ 0 → (!t) = decide (-b < 0) := by
  intro h
  rw [ht (by omega)]
  by_cases hb : b < 0
  · rw [decide_eq_true hb, decide_eq_false (by omega)]; rfl
  · rw [decide_eq_false hb, decide_eq_true (by omega)]; rfl
theorem sub_is {x y : Nat} {a b : Int} (hx : IsF x a) (hy : IsF y b) (ha : a.natAbs < 9007199254740992) (hb : b.natAbs < 9007199254740992) (hab : (a - b).natAbs ≤ 9007199254740992) :
    ∃ r, floatBits .sub .f64 x y = some r ∧ IsF r (a - b) := by
  obtain ⟨s, i, h1, hs⟩ := hx.reads ha
  obtain ⟨t, j, h2, ht⟩ := hy.reads hb
  obtain ⟨r, h3, h4⟩ := sum_exact (b := -b) hs (opp_signs ht) i j (by rw [← Int.sub_eq_add_neg]; exact hab)
  rw [← Int.sub_eq_add_neg] at h4
  refine ⟨r, ?_, _, h4, fun hz => by rw [if_neg hz]⟩
  simp only [floatBits, FloatKind.format, Format.sub, h1, h2, Datum.opposite]
  rw [Int.natAbs_neg] at h3
  exact h3
theorem mul_is {x y : Nat} {a b : Int} (hx : IsF x a) (hy : IsF y b) (ha : a.natAbs < 9007199254740992) (hb : b.natAbs < 9007199254740992) (hab : (a * b).natAbs ≤ 9007199254740992) :
    ∃ r, floatBits .mul .f64 x y = some r ∧ IsF r (a * b) := by
  obtain ⟨s, i, h1, hs⟩ := hx.reads ha
  obtain ⟨t, j, h2, ht⟩ := hy.reads hb
  refine ⟨fz (s ^^ t) (a * b).natAbs, ?_, _, rfl, fun hz => ?_⟩
  · simp only [floatBits, FloatKind.format, Format.mul, h1, h2, Datum.product, Option.map_some, Format.write]
    have e1 : a.natAbs * 2 ^ i * (b.natAbs * 2 ^ j) = (a * b).natAbs * 2 ^ (i + j) := by
      rw [Int.natAbs_mul, Nat.pow_add]
      rw [Nat.mul_assoc, Nat.mul_assoc]
      congr 1
      rw [← Nat.mul_assoc, ← Nat.mul_assoc, Nat.mul_comm (2 ^ i) b.natAbs]
    have e2 : -(i : Int) + -(j : Int) = -((i + j : Nat) : Int) := by omega
    rw [e1, e2, nearest_exact _ _ _ hab]
  · have ha0 : a ≠ 0 := by rintro rfl; simp at hz
    have hb0 : b ≠ 0 := by rintro rfl; simp at hz
    rw [hs ha0, ht hb0]
    rcases Int.lt_or_gt_of_ne ha0 with h3 | h3 <;> rcases Int.lt_or_gt_of_ne hb0 with h4 | h4
    · rw [decide_eq_true h3, decide_eq_true h4, decide_eq_false (by have := Int.mul_pos_of_neg_of_neg h3 h4; omega)]; rfl
    · rw [decide_eq_true h3, decide_eq_false (by omega), decide_eq_true (Int.mul_neg_of_neg_of_pos h3 h4)]; rfl
    · rw [decide_eq_false (by omega), decide_eq_true h4, decide_eq_true (Int.mul_neg_of_pos_of_neg h3 h4)]; rfl
    · rw [decide_eq_false (by omega), decide_eq_false (by omega), decide_eq_false (by have := Int.mul_pos h3 h4; omega)]; rfl
/-- '+ 0': the zero is the plain one. -/
theorem add_zero {x : Nat} {a : Int} (hx : IsF x a) (ha : a.natAbs < 9007199254740992) : floatBits .add .f64 x 0 = some (ff a) := by
  obtain ⟨s, i, h1, hs⟩ := hx.reads ha
  have h2 : double.read 0 = .number false ((0 : Int).natAbs * 2 ^ k74) (-(k74 : Int)) := by rw [Int.natAbs_zero, Nat.zero_mul, k74_eq]; decide +kernel
  obtain ⟨r, h3, h4⟩ := sum_exact (b := 0) (t := false) hs (fun h => absurd rfl h) i k74 (by simpa using Nat.le_of_lt ha)
  simp only [floatBits, FloatKind.format, Format.add, h1, h2]
  rw [h3, h4, ff_eq a (Nat.le_of_lt ha)]
  simp only [Int.add_zero, Bool.and_false]
  by_cases hz : a = 0
  · subst hz; rfl
  · rw [if_neg hz]
/-- 'int(x)'. -/
theorem toInt_is {x : Nat} {a : Int} (hx : IsF x a) (ha : a.natAbs ≤ 9007199254740992) : floatToIntVal .f64 x .i64 = some a := by
  have hb : IntKind.min .i64 ≤ a ∧ a ≤ IntKind.max .i64 := by
    have e1 : IntKind.min .i64 = -9223372036854775808 := by decide
    have e2 : IntKind.max .i64 = 9223372036854775807 := by decide
    omega
  have key : (FloatKind.decode .f64 x).toInt .zero = some a := by
    unfold FloatKind.decode FloatKind.format
    rcases Nat.lt_or_ge a.natAbs 9007199254740992 with hlt | hge
    · obtain ⟨s, i, h1, hs⟩ := hx.reads hlt
      simp only [h1, Datum.toInt, Datum.integral]
      have e1 : (-(i : Int)).toNat = 0 := by omega
      have e2 : (- -(i : Int)).toNat = i := by omega
      rw [e1, e2, Nat.shiftLeft_zero]
      have hc : Toward.zero.cut s (a.natAbs * 2 ^ i) i = a.natAbs := by
        have hp : 0 < 2 ^ i := Nat.pow_pos (by omega)
        by_cases h0 : a.natAbs = 0
        · rw [h0]; simp [Toward.cut]
        · unfold Toward.cut
          rw [Nat.min_eq_left (by rw [log2_shift h0]; omega), Nat.one_shiftLeft]
          simp [Nat.mul_div_cancel _ hp]
      rw [hc]
      have := signed_abs hs 0 0
      simpa using this
    · obtain ⟨s, rfl, hs⟩ := hx
      have e : a.natAbs = 9007199254740992 := by omega
      rw [e, read_top]
      have hne : a ≠ 0 := by omega
      rw [hs hne]
      rcases Int.lt_or_gt_of_ne hne with h | h
      · rw [decide_eq_true h, show a = -9007199254740992 by omega]; decide +kernel
      · rw [decide_eq_false (by omega), show a = 9007199254740992 by omega]; decide +kernel
  unfold floatToIntVal
  rw [key]
  exact if_pos hb
theorem xor_top (r : Nat) (h : r < 2 ^ 63) : r ^^^ 2 ^ 63 = 2 ^ 63 + r := by
  have e := Nat.two_pow_add_eq_or_of_lt h 1
  rw [Nat.mul_one] at e
  rw [e]
  apply Nat.eq_of_testBit_eq
  intro i
  rw [Nat.testBit_xor, Nat.testBit_or, Nat.testBit_two_pow]
  by_cases hi : 63 = i
  · subst hi
    rw [Nat.testBit_lt_two_pow h]; rfl
  · simp [hi]
theorem neg_fz (s : Bool) (n : Nat) (h : n < 9007199254740992) : Op.negFloat .f64 (fz s n) = fz (!s) n := by
  have e : 2 ^ ((FloatKind.format .f64).exponentBits + (FloatKind.format .f64).fractionBits) = 2 ^ 63 := by decide
  have key : ∀ r, r < 2 ^ 63 → double.word s r ^^^ 2 ^ 63 = double.word (!s) r := by
    intro r hr
    unfold Format.word
    rw [sw]
    cases s
    · rw [if_neg (by simp), if_pos (by simp), xor_top r hr]
    · rw [if_pos rfl, if_neg (by simp), show (9223372036854775808 : Nat) + r = r ^^^ 2 ^ 63 by rw [xor_top r hr], Nat.xor_assoc, Nat.xor_self, Nat.xor_zero]
  unfold Op.negFloat
  rw [e]
  unfold fz
  by_cases h0 : n = 0
  · rw [if_pos h0]; exact key 0 (by omega)
  · have h52 := log2_le52 h0 h
    obtain ⟨k1, k2⟩ := kept_range h0 h
    rw [if_neg h0, if_neg (by omega)]
    exact key _ (by omega)
theorem neg_is {x : Nat} {a : Int} (hx : IsF x a) (ha : a.natAbs < 9007199254740992) : IsF (Op.negFloat .f64 x) (-a) := by
  obtain ⟨s, rfl, hs⟩ := hx
  refine ⟨!s, ?_, opp_signs hs⟩
  rw [Int.natAbs_neg]
  exact neg_fz s a.natAbs ha
theorem cmul_is {a b c d : Nat} {x y u v : Int} (ha : IsF a x) (hb : IsF b y) (hc : IsF c u) (hd : IsF d v) (bx : x.natAbs < 9007199254740992) (by_ : y.natAbs < 9007199254740992) (bu : u.natAbs < 9007199254740992) (bv : v.natAbs < 9007199254740992)
    (h1 : (x * u).natAbs < 9007199254740992) (h2 : (y * v).natAbs < 9007199254740992) (h3 : (x * v).natAbs < 9007199254740992) (h4 : (y * u).natAbs < 9007199254740992) (h5 : (x * u - y * v).natAbs ≤ 9007199254740992) (h6 : (x * v + y * u).natAbs ≤ 9007199254740992) :
    ∃ re im, cMulBits a b c d = some (re, im) ∧ IsF re (x * u - y * v) ∧ IsF im (x * v + y * u) := by
  obtain ⟨ac, e1, i1⟩ := mul_is ha hc bx bu (by omega)
  obtain ⟨bd, e2, i2⟩ := mul_is hb hd by_ bv (by omega)
  obtain ⟨re, e3, i3⟩ := sub_is i1 i2 h1 h2 h5
  obtain ⟨ad, e4, i4⟩ := mul_is ha hd bx bv (by omega)
  obtain ⟨bc, e5, i5⟩ := mul_is hb hc by_ bu (by omega)
  obtain ⟨im, e6, i6⟩ := add_is i4 i5 h3 h4 h6
  exact ⟨re, im, by simp [cMulBits, e1, e2, e3, e4, e5, e6], i3, i6⟩
theorem cadd_is {a b c d : Nat} {x y u v : Int} (ha : IsF a x) (hb : IsF b y) (hc : IsF c u) (hd : IsF d v) (bx : x.natAbs < 9007199254740992) (by_ : y.natAbs < 9007199254740992) (bu : u.natAbs < 9007199254740992) (bv : v.natAbs < 9007199254740992)
    (h5 : (x + u).natAbs ≤ 9007199254740992) (h6 : (y + v).natAbs ≤ 9007199254740992) : ∃ re im, cSumBits .add .f64 a b c d = some (re, im) ∧ IsF re (x + u) ∧ IsF im (y + v) := by
  obtain ⟨re, e1, i1⟩ := add_is ha hc bx bu h5
  obtain ⟨im, e2, i2⟩ := add_is hb hd by_ bv h6
  exact ⟨re, im, by simp [cSumBits, e1, e2], i1, i2⟩
theorem csub_is {a b c d : Nat} {x y u v : Int} (ha : IsF a x) (hb : IsF b y) (hc : IsF c u) (hd : IsF d v) (bx : x.natAbs < 9007199254740992) (by_ : y.natAbs < 9007199254740992) (bu : u.natAbs < 9007199254740992) (bv : v.natAbs < 9007199254740992)
    (h5 : (x - u).natAbs ≤ 9007199254740992) (h6 : (y - v).natAbs ≤ 9007199254740992) : ∃ re im, cSumBits .sub .f64 a b c d = some (re, im) ∧ IsF re (x - u) ∧ IsF im (y - v) := by
  obtain ⟨re, e1, i1⟩ := sub_is ha hc bx bu h5
  obtain ⟨im, e2, i2⟩ := sub_is hb hd by_ bv h6
  exact ⟨re, im, by simp [cSumBits, e1, e2], i1, i2⟩
theorem one_is : IsF 4607182418800017408 1 := ⟨false, by decide +kernel, fun _ => rfl⟩
theorem zero_is : IsF 0 0 := ⟨false, by decide +kernel, fun h => absurd rfl h⟩
theorem ff_zero : ff 0 = 0 := by decide +kernel
theorem mone_is : IsF 13830554455654793216 (-1) := ⟨true, by decide +kernel, fun _ => rfl⟩
/-- Two of them are one number just if their whole numbers are. -/
theorem order_is {x y : Nat} {a b : Int} (hx : IsF x a) (hy : IsF y b) (ha : a.natAbs < 9007199254740992) (hb : b.natAbs < 9007199254740992) : double.order x y = some (compare a b) := by
  obtain ⟨s, i, h1, hs⟩ := hx.reads ha
  obtain ⟨t, j, h2, ht⟩ := hy.reads hb
  unfold Format.order
  rw [h1, h2]
  simp only [Datum.order]
  have e0 : min (-(i : Int)) (-(j : Int)) = -((max i j : Nat) : Int) := by omega
  have e1 : (-(i : Int) - -((max i j : Nat) : Int)).toNat = max i j - i := by omega
  have e2 : (-(j : Int) - -((max i j : Nat) : Int)).toNat = max i j - j := by omega
  rw [e0, e1, e2, signed_abs hs, signed_abs ht, show i + (max i j - i) = max i j by omega, show j + (max i j - j) = max i j by omega]
  have hp : (0 : Int) < 2 ^ (max i j) := Int.pow_pos (by omega)
  congr 1
  rcases Int.lt_trichotomy a b with h | h | h
  · rw [Int.compare_eq_lt.2 h, Int.compare_eq_lt.2 (Int.mul_lt_mul_of_pos_right h hp)]
  · subst h; simp
  · rw [Int.compare_eq_gt.2 h, Int.compare_eq_gt.2 (Int.mul_lt_mul_of_pos_right h hp)]
end Go.Proofs.Ytbgojhjlmlbfpaa.Fl
