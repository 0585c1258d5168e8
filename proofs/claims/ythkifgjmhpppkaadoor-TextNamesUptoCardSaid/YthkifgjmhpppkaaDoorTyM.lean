import Derived.Test.YthkifgjmhpppkaaDoorTyA
import Derived.Test.YthkifgjmhpppkaaDoorPrC
import Derived.Test.YthkifgjmhpppkaaDoorTxY
import Derived.Test.YthkifgjmhpppkaaDoorPrD
import Derived.Test.YthkifgjmhpppkaaDoorTxN
import Derived.Test.YthkifgjmhpppkaaDoorTyC
/- The check sum, plain: the table's steps against the long division, bit by bit. -/
namespace Go.Proofs.YthkifgjmhpppkaaDoor

theorem xor_half (a b : Nat) : (a ^^^ b) / 2 = a / 2 ^^^ b / 2 := by
  have := Nat.shiftRight_xor_distrib (a := a) (b := b) (i := 1)
  simpa [Nat.shiftRight_succ] using this
theorem xor_odd (a b : Nat) : (a ^^^ b) % 2 = (a % 2 + b % 2) % 2 := by
  have h := Nat.testBit_xor a b 0
  simp only [Nat.testBit_zero] at h
  rcases Nat.mod_two_eq_zero_or_one a with ha | ha <;> rcases Nat.mod_two_eq_zero_or_one b with hb | hb <;> rcases Nat.mod_two_eq_zero_or_one (a ^^^ b) with hc | hc <;> rw [ha, hb, hc] at h <;> rw [ha, hb, hc] <;> revert h <;> decide
theorem xor_four (a b c d : Nat) : (a ^^^ b) ^^^ (c ^^^ d) = (a ^^^ c) ^^^ (b ^^^ d) := by
  rw [Nat.xor_assoc, Nat.xor_assoc, ← Nat.xor_assoc b c d, Nat.xor_comm b c, Nat.xor_assoc c b d]
theorem step_lin (a b : Nat) : stepN (a ^^^ b) = stepN a ^^^ stepN b := by
  unfold stepN
  rw [xor_half, xor_four (a / 2)]
  congr 1
  have h := xor_odd a b
  rcases Nat.mod_two_eq_zero_or_one a with ha | ha <;> rcases Nat.mod_two_eq_zero_or_one b with hb | hb <;> rw [ha, hb] at h <;> rw [h, ha, hb] <;> decide
theorem step_even (x : Nat) : stepN (2 * x) = x := by
  unfold stepN
  rw [if_neg (by omega), Nat.xor_zero]
  omega
/-- k steps. -/
def stK : Nat → Nat → Nat
  | 0, m => m
  | k + 1, m => stK k (stepN m)
theorem stK_lin : ∀ (k a b : Nat), stK k (a ^^^ b) = stK k a ^^^ stK k b
  | 0, _, _ => rfl
  | k + 1, a, b => by rw [stK, step_lin, stK_lin k]; rfl
theorem stK_add : ∀ (j k m : Nat), stK (j + k) m = stK k (stK j m)
  | 0, k, m => by rw [Nat.zero_add]; rfl
  | j + 1, k, m => by rw [show j + 1 + k = j + k + 1 by omega, stK, stK_add j k, stK]
theorem stK_succ (k m : Nat) : stK (k + 1) m = stepN (stK k m) := by
  rw [stK_add k 1 m]
  rfl
theorem stK_shift : ∀ (k x : Nat), stK k (2 ^ k * x) = x
  | 0, x => by simp [stK]
  | k + 1, x => by
    rw [stK, show 2 ^ (k + 1) * x = 2 * (2 ^ k * x) by rw [Nat.pow_succ, Nat.mul_comm (2 ^ k) 2, Nat.mul_assoc], step_even, stK_shift k]
theorem xor_low (b x : Nat) (h : b < 2) : b ^^^ (2 * x) = b + 2 * x := by
  rcases Nat.lt_or_ge b 1 with h0 | h0
  · obtain rfl : b = 0 := by omega
    rw [Nat.zero_xor, Nat.zero_add]
  · obtain rfl : b = 1 := by omega
    have h1 : (1 ^^^ (2 * x)) / 2 = x := by
      have e : (1 : Nat) / 2 = 0 := by decide
      rw [xor_half, e, Nat.zero_xor]
      omega
    have h2 : (1 ^^^ (2 * x)) % 2 = 1 := by rw [xor_odd]; omega
    omega
/-- The bits of a number, the lowest first. -/
def bitsOf : Nat → Nat → List Nat
  | 0, _ => []
  | k + 1, c => c % 2 :: bitsOf k (c / 2)
/-- The register, bit by bit. -/
def runD (n : Nat) (l : List Nat) : Nat := l.foldl (fun n b => stepN (n ^^^ b)) n
theorem stK_bits : ∀ (k n c : Nat), c < 2 ^ k → stK k (n ^^^ c) = runD n (bitsOf k c)
  | 0, n, c, h => by
    have : c = 0 := by simpa using h
    subst this
    rw [Nat.xor_zero]
    rfl
  | k + 1, n, c, h => by
    have h1 := xor_low (c % 2) (c / 2) (Nat.mod_lt c (by decide))
    have h2 : c % 2 + 2 * (c / 2) = c := Nat.mod_add_div c 2
    rw [h2] at h1
    have h3 : n ^^^ c = (n ^^^ c % 2) ^^^ (2 * (c / 2)) := by rw [Nat.xor_assoc, h1]
    rw [stK, h3, step_lin, step_even, stK_bits k _ (c / 2) (Nat.div_lt_of_lt_mul (by rw [Nat.pow_succ, Nat.mul_comm] at h; exact h))]
    rfl
theorem stK4 (m : Nat) : (m / 16) ^^^ tabN (m % 16) = stK 4 m := by
  have h1 : m % 16 ^^^ (16 * (m / 16)) = m := by
    apply Nat.eq_of_testBit_eq
    intro i
    rw [Nat.testBit_xor]
    have e1 : (m % 16).testBit i = (decide (i < 4) && m.testBit i) := Nat.testBit_mod_two_pow m 4 i
    have e2 : (16 * (m / 16)).testBit i = (decide (4 ≤ i) && m.testBit i) := by
      have : 16 * (m / 16) = (m >>> 4) <<< 4 := by
        rw [Nat.shiftLeft_eq, Nat.shiftRight_eq_div_pow, Nat.mul_comm]
      rw [this, Nat.testBit_shiftLeft, Nat.testBit_shiftRight]
      by_cases h : 4 ≤ i
      · rw [decide_eq_true h, show 4 + (i - 4) = i by omega]
      · rw [decide_eq_false h]
        rfl
    rw [e1, e2]
    by_cases h : i < 4
    · rw [decide_eq_true h, decide_eq_false (show ¬ 4 ≤ i by omega)]
      simp
    · rw [decide_eq_false h, decide_eq_true (show 4 ≤ i by omega)]
      simp
  have h2 : stK 4 m = stK 4 (m % 16) ^^^ stK 4 (16 * (m / 16)) := by rw [← stK_lin, h1]
  have h3 : stK 4 (16 * (m / 16)) = m / 16 := stK_shift 4 (m / 16)
  rw [h2, h3, Nat.xor_comm]
  rfl
theorem oneB_run (n c : Nat) (h : c < 256) : oneB n c = runD n (bitsOf 8 c) := by
  unfold oneB
  rw [stK4, stK4, ← stK_add 4 4, stK_bits 8 n c h]
def streamL (l : List Nat) : List Nat := l.flatMap (bitsOf 8)
theorem runD_app (n : Nat) (a b : List Nat) : runD n (a ++ b) = runD (runD n a) b := by unfold runD; rw [List.foldl_append]
theorem regN_run : ∀ (l : List Nat) (n : Nat), (∀ c ∈ l, c < 256) → regN (l.map fun c : Nat => (c : Int)) n = runD n (streamL l)
  | [], _, _ => rfl
  | c :: t, n, h => by
    have e1 : streamL (c :: t) = bitsOf 8 c ++ streamL t := by unfold streamL; rw [List.flatMap_cons]
    rw [e1, runD_app, ← oneB_run n c (h c List.mem_cons_self), ← regN_run t _ (fun x hx => h x (List.mem_cons_of_mem _ hx))]
    rfl
/-- The long division's register, mirrored: a bit comes in at the top. -/
def runA (r : Nat) (l : List Nat) : Nat := l.foldl (fun r b => stepN r ^^^ (b * 2147483648)) r
theorem runA_app (n : Nat) (a b : List Nat) : runA n (a ++ b) = runA (runA n a) b := by unfold runA; rw [List.foldl_append]
theorem stK_top (b : Nat) : stK 32 (b * 2147483648) = stepN b := by
  have h1 : stK 31 (2 ^ 31 * b) = b := stK_shift 31 b
  have h2 : b * 2147483648 = 2 ^ 31 * b := by rw [Nat.mul_comm]
  rw [h2, stK_succ 31, h1]
/-- 32 steps of the division's register are the other's. -/
theorem runA_D : ∀ (l : List Nat) (r : Nat), stK 32 (runA r l) = runD (stK 32 r) l
  | [], _ => rfl
  | b :: t, r => by
    have e1 : runA r (b :: t) = runA (stepN r ^^^ (b * 2147483648)) t := rfl
    have e2 : runD (stK 32 r) (b :: t) = runD (stepN (stK 32 r ^^^ b)) t := rfl
    rw [e1, e2, runA_D t, stK_lin, stK_top, step_lin]
    rw [← stK_succ 32 r, show 32 + 1 = 1 + 32 from rfl, stK_add 1 32 r]
    rfl
theorem runA_zeros : ∀ (k r : Nat), runA r (List.replicate k 0) = stK k r
  | 0, _ => rfl
  | k + 1, r => by
    have e1 : runA r (List.replicate (k + 1) 0) = runA (stepN r ^^^ (0 * 2147483648)) (List.replicate k 0) := by rw [List.replicate_succ]; rfl
    rw [e1, runA_zeros k, Nat.zero_mul, Nat.xor_zero]
    rfl
theorem runA_lin : ∀ (l : List (Nat × Nat)) (r s : Nat), (∀ p ∈ l, p.1 < 2 ∧ p.2 < 2) → runA (r ^^^ s) (l.map fun p => p.1 ^^^ p.2) = runA r (l.map (·.1)) ^^^ runA s (l.map (·.2))
  | [], _, _, _ => rfl
  | p :: t, r, s, h => by
    have hp := h p List.mem_cons_self
    have e1 : runA (r ^^^ s) ((p :: t).map fun p => p.1 ^^^ p.2) = runA (stepN (r ^^^ s) ^^^ ((p.1 ^^^ p.2) * 2147483648)) (t.map fun p => p.1 ^^^ p.2) := rfl
    have e2 : runA r ((p :: t).map (·.1)) = runA (stepN r ^^^ (p.1 * 2147483648)) (t.map (·.1)) := rfl
    have e3 : runA s ((p :: t).map (·.2)) = runA (stepN s ^^^ (p.2 * 2147483648)) (t.map (·.2)) := rfl
    have e4 : (p.1 ^^^ p.2) * 2147483648 = (p.1 * 2147483648) ^^^ (p.2 * 2147483648) := by
      obtain ⟨h1, h2⟩ := hp
      have a1 : p.1 = 0 ∨ p.1 = 1 := by omega
      have a2 : p.2 = 0 ∨ p.2 = 1 := by omega
      rcases a1 with a1 | a1 <;> rcases a2 with a2 | a2 <;> rw [a1, a2] <;> decide
    rw [e1, e2, e3, e4, step_lin, xor_four, runA_lin t _ _ (fun q hq => h q (List.mem_cons_of_mem _ hq))]
theorem runD_lin : ∀ (l : List (Nat × Nat)) (r s : Nat), runD (r ^^^ s) (l.map fun p => p.1 ^^^ p.2) = runD r (l.map (·.1)) ^^^ runD s (l.map (·.2))
  | [], _, _ => rfl
  | p :: t, r, s => by
    have e1 : runD (r ^^^ s) ((p :: t).map fun p => p.1 ^^^ p.2) = runD (stepN ((r ^^^ s) ^^^ (p.1 ^^^ p.2))) (t.map fun p => p.1 ^^^ p.2) := rfl
    have e2 : runD r ((p :: t).map (·.1)) = runD (stepN (r ^^^ p.1)) (t.map (·.1)) := rfl
    have e3 : runD s ((p :: t).map (·.2)) = runD (stepN (s ^^^ p.2)) (t.map (·.2)) := rfl
    rw [e1, e2, e3, xor_four, step_lin, runD_lin t]
theorem runD_zeros : ∀ (k r : Nat), runD r (List.replicate k 0) = stK k r
  | 0, _ => rfl
  | k + 1, r => by
    have e1 : runD r (List.replicate (k + 1) 0) = runD (stepN (r ^^^ 0)) (List.replicate k 0) := by rw [List.replicate_succ]; rfl
    rw [e1, runD_zeros k, Nat.xor_zero]
    rfl
theorem stK_zero : ∀ k : Nat, stK k 0 = 0
  | 0 => rfl
  | k + 1 => by
    rw [stK]
    have : stepN 0 = 0 := by decide
    rw [this, stK_zero k]
set_option maxRecDepth 100000 in
theorem ones32 : runA 0 (List.replicate 32 1) = 4294967295 := by decide
/-- The first 32 bits turned over. -/
def turned : Nat → List Nat → List Nat
  | 0, l => l
  | _ + 1, [] => []
  | k + 1, b :: t => (1 - b) :: turned k t
theorem zip_fst : ∀ (a b : List Nat), a.length = b.length → (a.zip b).map (·.1) = a
  | [], [], _ => rfl
  | [], _ :: _, h => by simp at h
  | _ :: _, [], h => by simp at h
  | x :: a, y :: b, h => by
    rw [List.zip_cons_cons, List.map_cons, zip_fst a b (by simpa using h)]
theorem zip_snd : ∀ (a b : List Nat), a.length = b.length → (a.zip b).map (·.2) = b
  | [], [], _ => rfl
  | [], _ :: _, h => by simp at h
  | _ :: _, [], h => by simp at h
  | x :: a, y :: b, h => by
    rw [List.zip_cons_cons, List.map_cons, zip_snd a b (by simpa using h)]
theorem turned_zip : ∀ (k : Nat) (l : List Nat) (m : Nat), l.length = k + m → (∀ b ∈ l, b < 2) → turned k l = (l.zip (List.replicate k 1 ++ List.replicate m 0)).map fun p => p.1 ^^^ p.2
  | 0, l, m, hl, _ => by
    have h : ∀ (l : List Nat) (m : Nat), l.length = m → l = (l.zip (List.replicate m 0)).map fun p => p.1 ^^^ p.2 := fun l => by
      induction l with
      | nil => intro m _; simp
      | cons b t ih =>
        intro m hm
        obtain ⟨m, rfl⟩ : ∃ m', m = m' + 1 := ⟨m - 1, by simp at hm; omega⟩
        rw [List.replicate_succ, List.zip_cons_cons, List.map_cons, ← ih m (by simpa using hm), Nat.xor_zero]
    exact h l m (by omega)
  | k + 1, [], m, hl, _ => absurd hl (by simp only [List.length_nil]; omega)
  | k + 1, b :: t, m, hl, hb => by
    have h1 := hb b List.mem_cons_self
    have h2 : 1 - b = b ^^^ 1 := by
      have : b = 0 ∨ b = 1 := by omega
      rcases this with h | h <;> rw [h] <;> decide
    rw [turned, turned_zip k t m (by simp at hl; omega) (fun x hx => hb x (List.mem_cons_of_mem _ hx)), List.replicate_succ, List.cons_append, List.zip_cons_cons, List.map_cons, h2]
theorem bitsOf_lt : ∀ (k c : Nat), ∀ b ∈ bitsOf k c, b < 2
  | 0, _, b, h => by simp [bitsOf] at h
  | k + 1, c, b, h => by
    rw [bitsOf] at h
    rcases List.mem_cons.1 h with rfl | h
    · omega
    · exact bitsOf_lt k _ b h
theorem stream_lt (l : List Nat) : ∀ b ∈ streamL l, b < 2 := fun b hb => by
  unfold streamL at hb
  obtain ⟨c, _, h⟩ := List.mem_flatMap.1 hb
  exact bitsOf_lt 8 c b h
/-- The long division over the bytes and 32 bits more, the first 32 turned over, is the register. -/
theorem division (l : List Nat) (hl : ∀ c ∈ l, c < 256) : runA 0 (turned 32 (streamL l ++ List.replicate 32 0)) = regN (l.map fun c : Nat => (c : Int)) 4294967295 := by
  obtain ⟨N, hN⟩ : ∃ N, (streamL l).length = N := ⟨_, rfl⟩
  have hx : ∀ b ∈ streamL l ++ List.replicate 32 0, b < 2 := fun b hb => by
    rcases List.mem_append.1 hb with hb | hb
    · exact stream_lt l b hb
    · rw [(List.mem_replicate.1 hb).2]
      decide
  have hlen : (streamL l ++ List.replicate 32 0).length = 32 + N := by rw [List.length_append, List.length_replicate]; omega
  have hzl : (streamL l ++ List.replicate 32 0).length = (List.replicate 32 1 ++ List.replicate N 0).length := by rw [hlen, List.length_append, List.length_replicate, List.length_replicate]
  rw [turned_zip 32 _ N hlen hx]
  have h1 := runA_lin ((streamL l ++ List.replicate 32 0).zip (List.replicate 32 1 ++ List.replicate N 0)) 0 0 (fun p hp => by
    obtain ⟨ha, hb⟩ := List.of_mem_zip hp
    refine ⟨hx _ ha, ?_⟩
    rcases List.mem_append.1 hb with hb | hb
    · rw [(List.mem_replicate.1 hb).2]; decide
    · rw [(List.mem_replicate.1 hb).2]; decide)
  rw [Nat.xor_zero, zip_fst _ _ hzl, zip_snd _ _ hzl, runA_app, runA_zeros, runA_D, stK_zero, runA_app, ones32, runA_zeros] at h1
  rw [h1, regN_run l _ hl]
  have h2 := runD_lin ((streamL l).zip (List.replicate N 0)) 0 4294967295
  have h3 : (streamL l).length = (List.replicate N 0).length := by rw [List.length_replicate]; exact hN
  have h4 : ((streamL l).zip (List.replicate N 0)).map (fun p => p.1 ^^^ p.2) = streamL l := by
    have := turned_zip 0 (streamL l) N (by omega) (stream_lt l)
    rw [turned] at this
    simpa using this.symm
  rw [h4, zip_fst _ _ h3, zip_snd _ _ h3, runD_zeros, Nat.zero_xor] at h2
  exact h2.symm
end Go.Proofs.YthkifgjmhpppkaaDoor

/- The document's check sum, plain: the register read from the other end. -/
namespace Go.Proofs.YthkifgjmhpppkaaDoor

def revG : Nat → Nat → Nat → Nat
  | 0, _, m => m
  | k + 1, n, m => revG k (n / 2) (2 * m + n % 2)
theorem bit_zero (x : Nat) : x.testBit 0 = decide (x % 2 = 1) := Nat.testBit_zero x
theorem revG_bit : ∀ (k n m i : Nat), (revG k n m).testBit i = if i < k then n.testBit (k - 1 - i) else m.testBit (i - k)
  | 0, n, m, i => by rw [if_neg (by omega), Nat.sub_zero]; rfl
  | k + 1, n, m, i => by
    rw [revG, revG_bit k]
    by_cases h : i < k
    · rw [if_pos h, if_pos (by omega), ← Nat.testBit_succ]
      congr 1
      omega
    · rw [if_neg h]
      by_cases h2 : i = k
      · subst h2
        rw [if_pos (by omega), Nat.sub_self, bit_zero, show i + 1 - 1 - i = 0 by omega, bit_zero]
        congr 1
        rw [eq_iff_iff]
        omega
      · rw [if_neg (by omega), show i - k = (i - (k + 1)) + 1 by omega, Nat.testBit_succ]
        congr 1
        omega
def mirN (n : Nat) : Nat := revG 32 n 0
theorem mir_bit (n i : Nat) : (mirN n).testBit i = (decide (i < 32) && n.testBit (31 - i)) := by
  unfold mirN
  rw [revG_bit]
  by_cases h : i < 32
  · rw [if_pos h, decide_eq_true h, Bool.true_and]
  · rw [if_neg h, decide_eq_false h, Nat.zero_testBit, Bool.false_and]
theorem mir_xor (a b : Nat) : mirN (a ^^^ b) = mirN a ^^^ mirN b := by
  apply Nat.eq_of_testBit_eq
  intro i
  rw [Nat.testBit_xor, mir_bit, mir_bit, mir_bit, Nat.testBit_xor]
  cases decide (i < 32) <;> simp
theorem mir_lt (n : Nat) : mirN n < 4294967296 := by
  apply Nat.lt_pow_two_of_testBit (n := 32)
  intro i hi
  rw [mir_bit, decide_eq_false (by omega)]
  rfl
/-- A bit comes in at the bottom. -/
def inN (r b : Nat) : Nat := 2 * (r % 2147483648) + b
def refS (r b : Nat) : Nat := if r / 2147483648 = 1 then inN r b ^^^ 79764919 else inN r b
theorem inN_lt (r b : Nat) (h : b < 2) : inN r b < 4294967296 := by unfold inN; omega
theorem refS_lt (r b : Nat) (h : b < 2) : refS r b < 4294967296 := by
  unfold refS
  split
  · exact xor32 (inN_lt r b h) (by decide)
  · exact inN_lt r b h
theorem mir_in (r b : Nat) (hb : b < 2) : mirN (inN r b) = mirN r / 2 ^^^ (b * 2147483648) := by
  apply Nat.eq_of_testBit_eq
  intro i
  have e1 : (b * 2147483648).testBit i = (decide (31 ≤ i) && b.testBit (i - 31)) := by
    have : b * 2147483648 = b <<< 31 := by rw [Nat.shiftLeft_eq]
    rw [this, Nat.testBit_shiftLeft]
  rw [Nat.testBit_xor, ← Nat.testBit_succ, mir_bit, mir_bit, e1]
  have e2 : ∀ j, (inN r b).testBit (j + 1) = (decide (j < 31) && r.testBit j) := fun j => by
    rw [Nat.testBit_succ]
    have : inN r b / 2 = r % 2 ^ 31 := by unfold inN; omega
    rw [this, Nat.testBit_mod_two_pow]
  rcases Nat.lt_or_ge i 31 with h | h
  · rw [decide_eq_true (show i < 32 by omega), decide_eq_true (show i + 1 < 32 by omega), decide_eq_false (show ¬ 31 ≤ i by omega), show 31 - i = (30 - i) + 1 by omega, e2, decide_eq_true (show 30 - i < 31 by omega), show 31 - (i + 1) = 30 - i by omega]
    simp
  · rcases Nat.lt_or_ge i 32 with h2 | h2
    · obtain rfl : i = 31 := by omega
      have e3 : (inN r b).testBit 0 = b.testBit 0 := by
        rw [bit_zero, bit_zero]
        congr 1
        rw [eq_iff_iff]
        unfold inN
        omega
      rw [Nat.sub_self, e3]
      simp
    · have e3 : b.testBit (i - 31) = false := by
        apply Nat.testBit_lt_two_pow
        refine Nat.lt_of_lt_of_le hb ?_
        have : 2 ^ 1 ≤ 2 ^ (i - 31) := Nat.pow_le_pow_right (by decide) (by omega)
        exact this
      rw [decide_eq_false (show ¬ i < 32 by omega), decide_eq_false (show ¬ i + 1 < 32 by omega), e3]
      simp
set_option maxRecDepth 100000 in
theorem mir_poly : mirN 79764919 = 3988292384 := by decide
theorem mir_step (r b : Nat) (hr : r < 4294967296) (hb : b < 2) : mirN (refS r b) = stepN (mirN r) ^^^ (b * 2147483648) := by
  have htop : (mirN r % 2 = 1) ↔ r / 2147483648 = 1 := by
    have h1 := mir_bit r 0
    rw [bit_zero, decide_eq_true (show 0 < 32 by omega), Bool.true_and, Nat.sub_zero] at h1
    have h2 : r.testBit 31 = decide (r / 2147483648 % 2 = 1) := by
      rw [Nat.testBit_eq_decide_div_mod_eq]
    rw [h2] at h1
    have h3 : (mirN r % 2 = 1) ↔ (r / 2147483648 % 2 = 1) := by
      constructor
      · intro h
        rw [decide_eq_true h] at h1
        exact of_decide_eq_true h1.symm
      · intro h
        rw [decide_eq_true h] at h1
        exact of_decide_eq_true h1
    rw [h3]
    omega
  unfold refS stepN
  by_cases h : r / 2147483648 = 1
  · rw [if_pos h, if_pos (htop.2 h), mir_xor, mir_in r b hb, mir_poly, Nat.xor_assoc, Nat.xor_comm (b * 2147483648), ← Nat.xor_assoc]
  · rw [if_neg h, if_neg (fun e => h (htop.1 e)), mir_in r b hb, Nat.xor_zero]
def runR (r : Nat) (l : List Nat) : Nat := l.foldl refS r
theorem runR_app (n : Nat) (a b : List Nat) : runR n (a ++ b) = runR (runR n a) b := by unfold runR; rw [List.foldl_append]
theorem runR_lt : ∀ (l : List Nat) (r : Nat), r < 4294967296 → (∀ b ∈ l, b < 2) → runR r l < 4294967296
  | [], _, h, _ => h
  | b :: t, r, _, hb => runR_lt t (refS r b) (refS_lt r b (hb b List.mem_cons_self)) (fun x hx => hb x (List.mem_cons_of_mem _ hx))
theorem runR_A : ∀ (l : List Nat) (r : Nat), r < 4294967296 → (∀ b ∈ l, b < 2) → mirN (runR r l) = runA (mirN r) l
  | [], _, _, _ => rfl
  | b :: t, r, h, hb => by
    have h1 := hb b List.mem_cons_self
    have e1 : runR r (b :: t) = runR (refS r b) t := rfl
    have e2 : runA (mirN r) (b :: t) = runA (stepN (mirN r) ^^^ (b * 2147483648)) t := rfl
    rw [e1, e2, runR_A t _ (refS_lt r b h1) (fun x hx => hb x (List.mem_cons_of_mem _ hx)), mir_step r b h h1]
/-- What one byte, the i-th, hands in. -/
def byteB (i c : Nat) : List Nat := if i < 4 then (bitsOf 8 c).map (1 - ·) else bitsOf 8 c
def preB (l : List Nat) : Nat → List Nat
  | 0 => []
  | i + 1 => preB l i ++ byteB i (l.getD i 0)
theorem bitsOf_len : ∀ (k c : Nat), (bitsOf k c).length = k
  | 0, _ => rfl
  | k + 1, c => by rw [bitsOf, List.length_cons, bitsOf_len k]
theorem bitsOf_get : ∀ (k c j : Nat), j < k → (bitsOf k c)[j]? = some (c / 2 ^ j % 2)
  | 0, _, _, h => by omega
  | k + 1, c, 0, _ => by rw [bitsOf, Nat.pow_zero, Nat.div_one]; rfl
  | k + 1, c, j + 1, h => by
    rw [bitsOf, List.getElem?_cons_succ, bitsOf_get k (c / 2) j (by omega), Nat.div_div_eq_div_mul, Nat.pow_succ, Nat.mul_comm 2]
theorem byteB_len (i c : Nat) : (byteB i c).length = 8 := by
  unfold byteB
  split
  · rw [List.length_map, bitsOf_len]
  · exact bitsOf_len 8 c
theorem byteB_get (i c j : Nat) (h : j < 8) : (byteB i c)[j]? = some (if i < 4 then 1 - c / 2 ^ j % 2 else c / 2 ^ j % 2) := by
  unfold byteB
  split
  · rw [List.getElem?_map, bitsOf_get 8 c j h]
    rfl
  · exact bitsOf_get 8 c j h
theorem byteB_lt (i c : Nat) : ∀ b ∈ byteB i c, b < 2 := fun b hb => by
  unfold byteB at hb
  split at hb
  · obtain ⟨x, _, rfl⟩ := List.mem_map.1 hb
    omega
  · exact bitsOf_lt 8 c b hb
theorem preB_lt (l : List Nat) : ∀ (i : Nat), ∀ b ∈ preB l i, b < 2
  | 0, b, h => by simp [preB] at h
  | i + 1, b, h => by
    rw [preB] at h
    rcases List.mem_append.1 h with h | h
    · exact preB_lt l i b h
    · exact byteB_lt _ _ b h
theorem turned_app : ∀ (a : List Nat) (k : Nat) (t : List Nat), turned (a.length + k) (a ++ t) = a.map (1 - ·) ++ turned k t
  | [], k, t => by rw [List.length_nil, Nat.zero_add]; rfl
  | b :: a, k, t => by
    rw [List.length_cons, show a.length + 1 + k = a.length + k + 1 by omega]
    show (1 - b) :: turned (a.length + k) (a ++ t) = _
    rw [turned_app a k t]
    rfl
theorem preB_turned (l : List Nat) (h4 : 4 ≤ l.length) : preB l l.length = turned 32 (streamL l) := by
  -- what is still to come
  have key : ∀ (d i : Nat), i + d = l.length → preB l l.length = preB l i ++ turned (8 * (4 - i)) (streamL (l.drop i)) := fun d => by
    induction d with
    | zero =>
      intro i hi
      have : i = l.length := by omega
      subst this
      have e : turned (8 * (4 - l.length)) (streamL (l.drop l.length)) = [] := by
        rw [List.drop_length, show 8 * (4 - l.length) = 0 by omega]
        rfl
      rw [e, List.append_nil]
    | succ d ih =>
      intro i hi
      have hlt : i < l.length := by omega
      have hg : l.getD i 0 = l[i] := by rw [List.getD_eq_getElem?_getD, List.getElem?_eq_getElem hlt]; rfl
      have e1 : streamL (l.drop i) = bitsOf 8 l[i] ++ streamL (l.drop (i + 1)) := by
        rw [List.drop_eq_getElem_cons hlt]
        unfold streamL
        rw [List.flatMap_cons]
      rw [ih (i + 1) (by omega), preB, hg, List.append_assoc, e1]
      congr 1
      unfold byteB
      by_cases h : i < 4
      · rw [if_pos h]
        have e2 := turned_app (bitsOf 8 l[i]) (8 * (4 - (i + 1))) (streamL (l.drop (i + 1)))
        rw [bitsOf_len] at e2
        rw [show 8 * (4 - i) = 8 + 8 * (4 - (i + 1)) by omega, e2]
      · rw [if_neg h, show 8 * (4 - i) = 0 by omega, show 8 * (4 - (i + 1)) = 0 by omega]
        rfl
  have := key l.length 0 (by omega)
  rw [this]
  rfl
/-- The document's sum is the program's. -/
theorem sum_eq (l : List Nat) (hl : ∀ c ∈ l, c < 256) : 4294967295 ^^^ mirN (runR 0 (preB (l ++ [0, 0, 0, 0]) (l.length + 4))) = sumN (l.map fun c : Nat => (c : Int)) := by
  have h1 : (l ++ [0, 0, 0, 0]).length = l.length + 4 := by simp
  have h2 := preB_turned (l ++ [0, 0, 0, 0]) (by omega)
  rw [h1] at h2
  have h3 : streamL (l ++ [0, 0, 0, 0]) = streamL l ++ List.replicate 32 0 := by
    unfold streamL
    rw [List.flatMap_append]
    rfl
  have h0 : mirN 0 = 0 := by decide
  have h4 := runR_A (preB (l ++ [0, 0, 0, 0]) (l.length + 4)) 0 (by decide) (preB_lt _ _)
  rw [h4, h0, h2, h3, division l hl]
  rfl
end Go.Proofs.YthkifgjmhpppkaaDoor

/- The document's check sum: the walk. -/
namespace Go.Proofs.YthkifgjmhpppkaaDoor
open Go.RowKit Go.Proofs.YthkifgjmhpppkaaDoorW.PrintWords Go.Proofs.YthkifgjmhpppkaaDoor.PTextAmounts

theorem power_f : ∀ k : Nat, k < 8 → tallyref1_power.f 10 (k : Int) = some ((2 ^ k : Nat) : Int)
  | 0, _ => by kernel_rfl
  | 1, _ => by kernel_rfl
  | 2, _ => by kernel_rfl
  | 3, _ => by kernel_rfl
  | 4, _ => by kernel_rfl
  | 5, _ => by kernel_rfl
  | 6, _ => by kernel_rfl
  | 7, _ => by kernel_rfl
theorem mirrored_end (k : Nat) (n m : Int) : tallyref1_mirrored.l0 (k + 1) n m 32 = some m := by
  unfold tallyref1_mirrored.l0
  exact if_neg (by decide)
theorem mirrored_one (k : Nat) (n m j : Int) (h : j < 32) : tallyref1_mirrored.l0 (k + 1) n m j = tallyref1_mirrored.l0 k ((Int.tdiv n 2) % 4294967296) ((((m * 2) % 4294967296) + (Int.tmod n 2)) % 4294967296) (wrap64 (j + 1)) := by
  conv => lhs; unfold tallyref1_mirrored.l0
  exact if_pos h
theorem mir_args (j n m B : Nat) (hB : B ≤ 2147483648) (hj : j < 32) (hm : m < B) (hn : n < 4294967296) : (Int.tdiv (n : Int) 2) % 4294967296 = ((n / 2 : Nat) : Int) ∧ ((m : Int) * 2 % 4294967296 + Int.tmod (n : Int) 2) % 4294967296 = ((2 * m + n % 2 : Nat) : Int) ∧ wrap64 ((j : Int) + 1) = ((j + 1 : Nat) : Int) ∧ 2 * m + n % 2 < 2 * B := by
  have e1 : Int.tdiv (n : Int) 2 = ((n / 2 : Nat) : Int) := by rw [Int.tdiv_eq_ediv_of_nonneg (by omega)]; omega
  have e2 : Int.tmod (n : Int) 2 = ((n % 2 : Nat) : Int) := by rw [Int.tmod_eq_emod_of_nonneg (by omega)]; omega
  rw [e1, e2]
  refine ⟨by omega, by omega, by unfold wrap64; omega, by omega⟩
theorem mirrored_l0 (d : Nat) : ∀ (j n m : Nat), j + d = 32 → m < 2 ^ j → n < 4294967296 → tallyref1_mirrored.l0 (d + 1) (n : Int) (m : Int) (j : Int) = some ((revG d n m : Nat) : Int) := by
  induction d with
  | zero =>
    intro j n m hj _ _
    obtain rfl : j = 32 := by omega
    exact mirrored_end 0 n m
  | succ d ih =>
    intro j n m hj hm hn
    have q1 : (j : Int) < 32 := by clear hm hn ih; omega
    have q2 : j < 32 := by clear hm hn ih; omega
    have q3 : j + 1 + d = 32 := by clear hm hn ih; omega
    have q4 : n / 2 < 4294967296 := by clear hm hj ih; omega
    have hp : 2 ^ j ≤ 2147483648 := Nat.le_trans (Nat.pow_le_pow_right (by decide) (by clear hm hn ih; omega : j ≤ 31)) (by decide)
    obtain ⟨e1, e2, e3, e4⟩ := mir_args j n m (2 ^ j) hp q2 hm hn
    have hq : 2 * m + n % 2 < 2 ^ (j + 1) := by rw [Nat.pow_succ, Nat.mul_comm (2 ^ j) 2]; exact e4
    have hi := ih (j + 1) (n / 2) (2 * m + n % 2) q3 hq q4
    rw [mirrored_one (d + 1) n m j q1, e1, e2, e3, hi, revG]
theorem mirrored_f (n : Nat) (h : n < 4294967296) : tallyref1_mirrored.f 33 (n : Int) = some ((mirN n : Nat) : Int) := mirrored_l0 32 0 n 0 (by omega) (by decide) h
theorem power_any (k : Nat) (hk : k < 8) (w : World) : Calls Tryd.prog 59 #[.int .i64 k] w fun e w' => e = .returned (.int .u32 ((2 ^ k : Nat) : Int)) ∧ ∃ n, w' = w.drewN n := (tallyref1_power.calls 10 k _ w (power_f k hk)).mono fun _ _ h => ⟨h.1, h.2.out⟩
theorem mirrored_any (n : Nat) (h : n < 4294967296) (w : World) : Calls Tryd.prog 60 #[.int .u32 n] w fun e w' => e = .returned (.int .u32 ((mirN n : Nat) : Int)) ∧ ∃ n, w' = w.drewN n := (tallyref1_mirrored.calls 33 n _ w (mirrored_f n h)).mono fun _ _ h => ⟨h.1, h.2.out⟩
def bitN (i c k : Nat) : Nat := if i < 4 then 1 - c / 2 ^ k % 2 else c / 2 ^ k % 2
theorem bitN_lt (i c k : Nat) : bitN i c k < 2 := by unfold bitN; split <;> omega
theorem run_bit (R i c k : Nat) (hk : k < 8) : runR R ((byteB i c).take (k + 1)) = refS (runR R ((byteB i c).take k)) (bitN i c k) := by
  have hl := byteB_len i c
  have hg := byteB_get i c k hk
  have hk2 : k < (byteB i c).length := by omega
  rw [List.take_succ_eq_append_getElem hk2, runR_app]
  have e : (byteB i c)[k] = bitN i c k := by
    rw [List.getElem?_eq_getElem hk2] at hg
    exact Option.some.inj hg
  rw [e]
  rfl
theorem run_byte (l : List Nat) (i : Nat) : runR (runR 0 (preB l i)) (byteB i (l.getD i 0)) = runR 0 (preB l (i + 1)) := by
  rw [preB, runR_app]
def padL (xs : List Int) : List Nat := xs.map (·.toNat) ++ [0, 0, 0, 0]
theorem padL_in (xs : List Int) (i : Nat) (h : i < xs.length) : (padL xs).getD i 0 = xs[i].toNat := by
  unfold padL
  rw [List.getD_eq_getElem?_getD, List.getElem?_append_left (by rw [List.length_map]; exact h), List.getElem?_map, List.getElem?_eq_getElem h]
  rfl
theorem padL_out (xs : List Int) (i : Nat) (h : ¬ i < xs.length) : (padL xs).getD i 0 = 0 := by
  unfold padL
  rw [List.getD_eq_getElem?_getD, List.getElem?_append_right (by rw [List.length_map]; omega)]
  rcases hj : i - (xs.map (·.toNat)).length with _ | _ | _ | _ | _ <;> simp
theorem ref_bits (r b : Nat) (hb : b < 2) : (if r / 2147483648 = 1 then bits .xor .u32 ((((r : Int) * 2) % 4294967296 + (b : Int)) % 4294967296) 79764919 else (((r : Int) * 2) % 4294967296 + (b : Int)) % 4294967296) = ((refS r b : Nat) : Int) := by
  have e1 : (((r : Int) * 2) % 4294967296 + (b : Int)) % 4294967296 = ((inN r b : Nat) : Int) := by unfold inN; omega
  rw [e1]
  unfold refS
  split
  · exact u32_xor_nat (inN r b) 79764919 (inN_lt r b hb) (by decide)
  · rfl
end Go.Proofs.YthkifgjmhpppkaaDoor

/- The document's check sum: the walk. -/
namespace Go.Proofs.YthkifgjmhpppkaaDoor
open Go.RowKit Go.Proofs.YthkifgjmhpppkaaDoorW.PrintWords Go.Proofs.YthkifgjmhpppkaaDoor.PTextAmounts

theorem int_cong {k : IntKind} {a b : Int} (h : a = b) : Value.int k a = Value.int k b := by rw [h]
theorem ref_top (r b : Nat) (x : Int) (hx : x = (b : Int)) (hb : b < 2) (hr : (r : Int) / 2147483648 = 1) : bits .xor .u32 ((r : Int) * 2 % 4294967296 + x) 79764919 = ((refS r b : Nat) : Int) := by
  have h := ref_bits r b hb
  rw [if_pos (by omega)] at h
  rw [← h, hx]
  congr 1
  omega
theorem ref_low (r b : Nat) (x : Int) (hx : x = (b : Int)) (hb : b < 2) (hr : (r : Int) / 2147483648 = 0) : (r : Int) * 2 + x = ((refS r b : Nat) : Int) := by
  have h := ref_bits r b hb
  rw [if_neg (by omega)] at h
  rw [← h, hx]
  omega
def ORel (w : World) (xs : List Int) (v3 v4 : Value) (wr : World) : Prop := BelW w wr ∧ ∃ i : Nat, v4 = .int .i64 i ∧ v3 = .int .u32 (runR 0 (preB (padL xs) i) : Nat) ∧ i ≤ xs.length + 4
def BRel (w : World) (R i c : Nat) (v3 v5 : Value) (wr : World) : Prop := BelW w wr ∧ ∃ k : Nat, v5 = .int .i64 k ∧ v3 = .int .u32 (runR R ((byteB i c).take k) : Nat) ∧ k ≤ 8
set_option maxRecDepth 100000 in
set_option maxHeartbeats 2000000 in
theorem refSum_any (A : Option Addr) (c : Nat) (xs : List Int) (w : World) (hx : RI .u8 w A xs) (hwf : ∀ z ∈ xs, 0 ≤ z ∧ z < 256) (hn2 : xs.length ≤ 1048576) : Calls Tryd.prog 46 #[.slice A xs.length c] w fun e w' => e = .returned (.int .u32 (sumN xs : Nat)) ∧ BelW w w' := by
  have HWF := Lib.hid hwf
  clear hwf
  go_enter Tryd.func46, Tryd.ntmps46
  go_wp2
  go_loopw [3, 4] (fun v3 v4 wr => ORel w xs v3 v4 wr) (fun _ v4 _ => (xs.length + 4 - intOf v4).toNat)
  case atStart => exact ⟨Below.refl _ _, 0, rfl, rfl, by omega⟩
  case round =>
    obtain ⟨hbo, i, rfl, rfl, hi⟩ := hrel
    by_cases hlt : i < xs.length + 4
    · have q1 : (i : Int) < (xs.length : Int) + 4 := by omega
      have q2 : (0 : Int) ≤ (i : Int) := by omega
      have HB := Lib.hid (run_byte (padL xs) i)
      have hR : runR 0 (preB (padL xs) i) < 4294967296 := runR_lt _ _ (by decide) (preB_lt _ _)
      generalize runR 0 (preB (padL xs) i) = R at hR HB ⊢
      go_wp2
      go_loopw [3, 5] (fun v3 v5 wr => BRel w R i ((padL xs).getD i 0) v3 v5 wr) (fun _ v5 _ => (8 - intOf v5).toNat)
      case atStart => exact ⟨hbo, 0, rfl, rfl, by omega⟩
      case round =>
        obtain ⟨hbr, k, rfl, rfl, hk⟩ := hrel
        by_cases hk8 : k < 8
        · have q3 : (k : Int) < 8 := by omega
          have q4 : (0 : Int) ≤ (k : Int) := by omega
          have HS := Lib.hid (run_bit R i ((padL xs).getD i 0) k hk8)
          have hr : runR R ((byteB i ((padL xs).getD i 0)).take k) < 4294967296 := runR_lt _ _ hR (fun b hb => byteB_lt _ _ b (List.mem_of_mem_take hb))
          generalize runR R ((byteB i ((padL xs).getD i 0)).take k) = r at hr HS ⊢
          have HW : Hid (∀ W : World, Calls Tryd.prog 59 #[.int .i64 k] W fun e w' => e = .returned (.int .u32 ((2 ^ k : Nat) : Int)) ∧ ∃ n, w' = W.drewN n) := Lib.hid (power_any k hk8)
          have hp0 : 0 < 2 ^ k := Nat.pow_pos (by decide)
          obtain ⟨p, hp⟩ : ∃ p, 2 ^ k = p := ⟨_, rfl⟩
          have HBD : Hid (∀ c, (padL xs).getD i 0 = c → bitN i ((padL xs).getD i 0) k = if i < 4 then 1 - c / p % 2 else c / p % 2) := Lib.hid (fun c h => by rw [h]; unfold bitN; rw [hp])
          rw [hp] at HW hp0
          clear hp
          have p1 : (0 : Int) < (p : Int) := by omega
          have p2 : ((p : Int) == 0) = false := by rw [beq_eq_false_iff_ne]; omega
          have p3 : ¬ (p : Int) = 0 := by omega
          have r1 : (0 : Int) ≤ (r : Int) := by omega
          have r2 : (r : Int) < 4294967296 := by omega
          have RD : (r : Int) / 2147483648 = 1 ∨ (r : Int) / 2147483648 = 0 := by omega
          by_cases hin : i < xs.length
          · obtain ⟨ad, rfl, hc⟩ := (hx.below hbr).cell_at hin
            have hz := HWF.out _ (List.getElem_mem hin)
            obtain ⟨ch, hch⟩ : ∃ ch : Nat, xs[i] = (ch : Int) := ⟨xs[i].toNat, by omega⟩
            have hch2 : ch < 256 := by omega
            have hpd := padL_in xs i hin
            rw [hch, Int.toNat_natCast] at hpd
            have HBE := Lib.hid (HBD.out _ hpd)
            clear HBD
            rw [hch] at hc
            clear hpd hz hch
            have c1 : (0 : Int) ≤ (ch : Int) := by omega
            have c2 : (ch : Int) < 256 := by omega
            have q5 : (i : Int) < (xs.length : Int) := by omega
            have e1 : Int.tdiv (ch : Int) (p : Int) = ((ch / p : Nat) : Int) := by rw [Int.tdiv_eq_ediv_of_nonneg (by omega), Int.natCast_ediv]
            have hcp : ch / p ≤ ch := Nat.div_le_self _ _
            obtain ⟨d, hd⟩ : ∃ d, ch / p = d := ⟨_, rfl⟩
            rw [hd] at e1 hcp HBE
            have d1 : (0 : Int) ≤ (d : Int) := by omega
            have d2 : (d : Int) < 256 := by omega
            clear hd
            obtain ⟨z, hz⟩ : ∃ z : Int, z = ((d % 2 : Nat) : Int) := ⟨_, rfl⟩
            have hb2 : d % 2 < 2 := by omega
            have e6 : (d : Int) % 2 = z := by omega
            have b1 : (0 : Int) ≤ z := by omega
            have b2 : z < 2 := by omega
            have HZ := Lib.hid hz
            clear hz
            by_cases h4 : i < 4
            · have q6 : (i : Int) < 4 := by omega
              rcases RD with RD | RD
              all_goals
                go_wp2
                go_quiet ((go_at_call 59; exact Calls.quiet_of (HW.out _)))
                rw [e6]
                clear e6
                go_wp2
                go_roundw
              case rel => exact ⟨Below.trans hbr ((belowD _ _).mono (Below.size hbr)), k + 1, by go_num, by rw [HS.out, HBE.out, if_pos h4]; exact int_cong (ref_top r (1 - d % 2) _ (by have := HZ.out; omega) (by omega) RD), by omega⟩
              case measure => simp [intOf]; omega
              case rel => exact ⟨Below.trans hbr ((belowD _ _).mono (Below.size hbr)), k + 1, by go_num, by rw [HS.out, HBE.out, if_pos h4]; exact int_cong (ref_low r (1 - d % 2) _ (by have := HZ.out; omega) (by omega) RD), by omega⟩
              case measure => simp [intOf]; omega
            · have q6 : decide ((i : Int) < 4) = false := decide_eq_false (by omega)
              obtain ⟨y, hy⟩ : ∃ y : Int, y = 1 - z := ⟨_, rfl⟩
              have e7 : (d : Int) % 2 = 1 - y := by omega
              have y1 : (0 : Int) ≤ y := by omega
              have y2 : y < 2 := by omega
              have HY := Lib.hid hy
              clear hy e6 b1 b2
              rcases RD with RD | RD
              all_goals
                go_wp2
                go_quiet ((go_at_call 59; exact Calls.quiet_of (HW.out _)))
                rw [e7]
                clear e7 e1 d1 d2 hcp hch2 c1 c2
                go_wp2
                go_roundw
              case rel => exact ⟨Below.trans hbr ((belowD _ _).mono (Below.size hbr)), k + 1, by go_num, by rw [HS.out, HBE.out, if_neg h4]; exact int_cong (ref_top r (d % 2) _ (by have := HZ.out; have := HY.out; omega) hb2 RD), by omega⟩
              case measure => simp [intOf]; omega
              case rel => exact ⟨Below.trans hbr ((belowD _ _).mono (Below.size hbr)), k + 1, by go_num, by rw [HS.out, HBE.out, if_neg h4]; exact int_cong (ref_low r (d % 2) _ (by have := HZ.out; have := HY.out; omega) hb2 RD), by omega⟩
              case measure => simp [intOf]; omega
          · have q5 : ¬ (i : Int) < (xs.length : Int) := by omega
            have hpd := padL_out xs i hin
            have HBE := Lib.hid (HBD.out _ hpd)
            clear HBD
            by_cases h4 : i < 4
            · have q6 : (i : Int) < 4 := by omega
              rcases RD with RD | RD
              all_goals
                go_wp2
                go_roundw
              case rel => exact ⟨hbr, k + 1, by go_num, by rw [HS.out, HBE.out, if_pos h4, Nat.zero_div]; exact int_cong (ref_top r 1 1 rfl (by decide) RD), by omega⟩
              case measure => simp [intOf]; omega
              case rel => exact ⟨hbr, k + 1, by go_num, by rw [HS.out, HBE.out, if_pos h4, Nat.zero_div]; exact int_cong (ref_low r 1 1 rfl (by decide) RD), by omega⟩
              case measure => simp [intOf]; omega
            · have q6 : ¬ (i : Int) < 4 := by omega
              rcases RD with RD | RD
              all_goals
                go_wp2
                go_roundw
              case rel => exact ⟨hbr, k + 1, by go_num, by rw [HS.out, HBE.out, if_neg h4, Nat.zero_div]; have := ref_top r 0 0 rfl (by decide) RD; rw [Int.add_zero] at this; exact int_cong this, by omega⟩
              case measure => simp [intOf]; omega
              case rel => exact ⟨hbr, k + 1, by go_num, by rw [HS.out, HBE.out, if_neg h4, Nat.zero_div]; have := ref_low r 0 0 rfl (by decide) RD; rw [Int.add_zero] at this; exact int_cong this, by omega⟩
              case measure => simp [intOf]; omega
        · have q3 : ¬ (k : Int) < 8 := by omega
          have hk9 : k = 8 := by omega
          have HT := Lib.hid (show runR R ((byteB i ((padL xs).getD i 0)).take k) = runR 0 (preB (padL xs) (i + 1)) from by rw [hk9, List.take_of_length_le (by rw [byteB_len]; exact Nat.le_refl _)]; exact HB.out)
          clear hk9
          go_wp2
          go_roundw
          case rel => exact ⟨hbr, i + 1, by go_num, by rw [HT.out], by omega⟩
          case measure => simp [intOf]; omega
    · have q1 : ¬ (i : Int) < (xs.length : Int) + 4 := by omega
      have hi2 : i = xs.length + 4 := by omega
      have hR : runR 0 (preB (padL xs) i) < 4294967296 := runR_lt _ _ (by decide) (preB_lt _ _)
      have hE : 4294967295 ^^^ mirN (runR 0 (preB (padL xs) i)) = sumN xs := by
        rw [hi2]
        have h1 := sum_eq (xs.map (·.toNat)) (fun c hc => by
          obtain ⟨z, hz, rfl⟩ := List.mem_map.1 hc
          have := HWF.out z hz
          omega)
        rw [List.length_map] at h1
        have h2 : (xs.map (·.toNat)).map (fun c : Nat => (c : Int)) = xs := by
          rw [List.map_map]
          conv => rhs; rw [← List.map_id xs]
          refine List.map_congr_left fun z hz => ?_
          have := HWF.out z hz
          show ((z.toNat : Nat) : Int) = z
          omega
        rw [h2] at h1
        exact h1
      have HE := Lib.hid hE
      clear hE
      generalize runR 0 (preB (padL xs) i) = R at hR HE ⊢
      have HM : Hid (∀ W : World, Calls Tryd.prog 60 #[.int .u32 R] W fun e w' => e = .returned (.int .u32 ((mirN R : Nat) : Int)) ∧ ∃ n, w' = W.drewN n) := Lib.hid (mirrored_any R hR)
      have HL := Lib.hid (mir_lt R)
      generalize mirN R = m at HE HM HL
      go_wp2_with (go_at_call 60; (with_reducible refine (HM.out _).mono ?_); rintro e w1 ⟨rfl, n1, rfl⟩)
      go_ret
      refine ⟨?_, Below.trans hbo ((belowD _ _).mono (Below.size hbo))⟩
      rw [← HE.out]
      exact ret_int (max_xor m HL.out)
end Go.Proofs.YthkifgjmhpppkaaDoor

/- The document's code point, plain: what the printed function answers. -/
namespace Go.Proofs.YthkifgjmhpppkaaDoor
open Go.RowKit Go.Proofs.YthkifgjmhpppkaaDoorW.PrintWords Go.Proofs.YthkifgjmhpppkaaDoor.PTextAmounts Go.Proofs.YthkifgjmhpppkaaDoor.PTextLines

theorem w64n (n : Int) (h : -9223372036854775808 ≤ n ∧ n ≤ 9223372036854775807) : wrap64 n = n := by unfold wrap64; omega
/-- The byte at a place. -/
def byN (s : ByteArray) (i : Nat) : Nat := (s.data.toList.getD i 0).toNat
theorem byN_lt (s : ByteArray) (i : Nat) : byN s i < 256 := by
  unfold byN
  have := (s.data.toList.getD i 0).toNat_lt
  omega
theorem bt_byN (s : ByteArray) (i : Nat) (h : i < s.size) : bt s (i : Int) = (byN s i : Int) := by
  have hl : s.data.toList.length = s.size := rfl
  unfold bt byN
  rw [Int.toNat_natCast, dif_pos h, List.getD_eq_getElem?_getD, List.getElem?_eq_getElem (by omega)]
  rfl
theorem l0_end (k : Nat) (s : ByteArray) (i c N : Nat) (L : Nat) : tallyref2_Point.l0 (k + 1) s i c N L N = if L ≤ c ∧ c ≤ 1114111 ∧ ¬ (55296 ≤ c ∧ c ≤ 57343) then some ((c : Int), (N : Int)) else some (0, 0) := by
  conv => lhs; unfold tallyref2_Point.l0
  rw [if_neg (by omega)]
  by_cases h1 : c < L
  · rw [if_pos (by omega), if_neg (by omega)]
  rw [if_neg (by omega)]
  by_cases h2 : c > 1114111
  · rw [if_pos (by omega), if_neg (by omega)]
  rw [if_neg (by omega)]
  by_cases h3 : c ≥ 55296
  · rw [if_pos (by omega)]
    by_cases h4 : c ≤ 57343
    · rw [if_pos (by omega), if_neg (by omega)]
    · rw [if_neg (by omega), if_pos (by omega)]
  · rw [if_neg (by omega), if_pos (by omega)]
theorem l0_step (k : Nat) (s : ByteArray) (i c N j : Nat) (L : Int) (hi : i + j < 9223372036854775807) (hc : c < 1073741824) (hj : j < N) : tallyref2_Point.l0 (k + 1) s i c N L j = if i + j < s.size ∧ byN s (i + j) / 64 = 2 then tallyref2_Point.l0 k s i ((c * 64 + byN s (i + j) % 64 : Nat) : Int) N L ((j + 1 : Nat) : Int) else some (0, 0) := by
  have e1 : wrap64 ((i : Int) + (j : Int)) = ((i + j : Nat) : Int) := by unfold wrap64; omega
  have e2 : wrap64 ((j : Int) + 1) = ((j + 1 : Nat) : Int) := by unfold wrap64; omega
  conv => lhs; unfold tallyref2_Point.l0
  rw [if_pos (by omega), e1, e2]
  by_cases h1 : i + j < s.size
  · rw [if_neg (by omega), if_pos (by omega), if_pos (by omega), bt_byN s _ h1]
    have hb := byN_lt s (i + j)
    by_cases h2 : byN s (i + j) < 128
    · rw [if_pos (by omega), if_neg (by omega)]
    rw [if_neg (by omega)]
    by_cases h3 : byN s (i + j) > 191
    · rw [if_pos (by omega), if_neg (by omega)]
    rw [if_neg (by omega), if_pos (by omega)]
    have e3 : wrap64 (wrap64 (wrap64 (64 * (c : Int)) + wrap64 (byN s (i + j) : Int)) - 128) = ((c * 64 + byN s (i + j) % 64 : Nat) : Int) := by
      generalize byN s (i + j) = b at *
      rw [w64n (64 * (c : Int)) ⟨by omega, by omega⟩, w64n (b : Int) ⟨by omega, by omega⟩, w64n (64 * (c : Int) + (b : Int)) ⟨by omega, by omega⟩, w64n (64 * (c : Int) + (b : Int) - 128) ⟨by omega, by omega⟩]
      omega
    rw [e3]
  · rw [if_pos (by omega), if_neg (by omega)]
theorem j0_one (k : Nat) (s : ByteArray) (i x : Int) (b : Bool) : tallyref2_Point.j0 (k + 1) s i x b = if b = true then tallyref2_Point.j2 k s i (wrap64 (x - 192)) 2 128 else if x ≥ 224 then tallyref2_Point.j1 k s i x (decide (x ≤ 239)) else tallyref2_Point.j1 k s i x false := by
  conv => lhs; unfold tallyref2_Point.j0
theorem j1_one (k : Nat) (s : ByteArray) (i x : Int) (b : Bool) : tallyref2_Point.j1 (k + 1) s i x b = if b = true then tallyref2_Point.j2 k s i (wrap64 (x - 224)) 3 2048 else if x ≥ 240 then if x ≤ 244 then tallyref2_Point.j2 k s i (wrap64 (x - 240)) 4 65536 else some (0, 0) else some (0, 0) := by
  conv => lhs; unfold tallyref2_Point.j1
theorem j2_one (k : Nat) (s : ByteArray) (i c n m : Int) : tallyref2_Point.j2 (k + 1) s i c n m = tallyref2_Point.l0 k s i c n m 1 := by
  conv => lhs; unfold tallyref2_Point.j2
/-- A decoded point as the document gives it. -/
def pointZ (p : Nat × Nat) : Int × Int := if p.1 = 65533 ∧ p.2 = 1 then (0, 0) else ((p.1 : Int), (p.2 : Int))
def endO (L c N : Nat) : Option (Int × Int) := if L ≤ c ∧ c ≤ 1114111 ∧ ¬ (55296 ≤ c ∧ c ≤ 57343) then some ((c : Int), (N : Int)) else some (0, 0)
def refO (n b0 b1 b2 b3 : Nat) : Option (Int × Int) :=
  if b0 < 128 then some ((b0 : Int), 1)
  else if b0 < 194 then some (0, 0)
  else if b0 < 224 then (if 1 < n ∧ b1 / 64 = 2 then endO 128 ((b0 - 192) * 64 + b1 % 64) 2 else some (0, 0))
  else if b0 < 240 then (if 1 < n ∧ b1 / 64 = 2 then (if 2 < n ∧ b2 / 64 = 2 then endO 2048 (((b0 - 224) * 64 + b1 % 64) * 64 + b2 % 64) 3 else some (0, 0)) else some (0, 0))
  else if b0 < 245 then (if 1 < n ∧ b1 / 64 = 2 then (if 2 < n ∧ b2 / 64 = 2 then (if 3 < n ∧ b3 / 64 = 2 then endO 65536 ((((b0 - 240) * 64 + b1 % 64) * 64 + b2 % 64) * 64 + b3 % 64) 4 else some (0, 0)) else some (0, 0)) else some (0, 0))
  else some (0, 0)
theorem point_refO (s : ByteArray) (i : Nat) (hi : i < s.size) (hs : s.size ≤ 4611686018427387904) : tallyref2_Point.f 10 s (i : Int) = refO (s.size - i) (byN s i) (byN s (i + 1)) (byN s (i + 2)) (byN s (i + 3)) := by
  have hb := byN_lt s i
  have h1 := byN_lt s (i + 1)
  have h2 := byN_lt s (i + 2)
  have h3 := byN_lt s (i + 3)
  have hw : wrap64 (byN s i : Int) = (byN s i : Int) := by unfold wrap64; omega
  have c1 : (i + 1 < s.size) = (1 < s.size - i) := propext ⟨fun h => by omega, fun h => by omega⟩
  have c2 : (i + 2 < s.size) = (2 < s.size - i) := propext ⟨fun h => by omega, fun h => by omega⟩
  have c3 : (i + 3 < s.size) = (3 < s.size - i) := propext ⟨fun h => by omega, fun h => by omega⟩
  unfold tallyref2_Point.f
  rw [if_pos (by omega), if_pos (by omega), bt_byN s i hi, hw]
  unfold refO
  generalize byN s i = b0 at *
  by_cases k1 : b0 < 128
  · rw [if_pos (by omega), if_pos k1]
  rw [if_neg (by omega), if_neg k1]
  by_cases k2 : b0 < 194
  · rw [if_neg (by omega), if_pos k2]
    rw [j0_one 9, if_neg (by decide), if_neg (by omega), j1_one 8, if_neg (by decide), if_neg (by omega)]
  rw [if_pos (by omega), if_neg k2]
  by_cases k3 : b0 < 224
  · rw [if_pos k3, decide_eq_true (show (b0 : Int) ≤ 223 by omega)]
    rw [j0_one 9, if_pos rfl, j2_one 8, show wrap64 ((b0 : Int) - 192) = ((b0 - 192 : Nat) : Int) by unfold wrap64; omega]
    have e1 := l0_step 7 s i (b0 - 192) 2 1 128 (by omega) (by omega) (by omega)
    have e2 := l0_end 6 s i ((b0 - 192) * 64 + byN s (i + 1) % 64) 2 128
    refine e1.trans ?_
    exact ite_congr (congrArg (· ∧ _) c1) (fun _ => e2) (fun _ => rfl)
  rw [if_neg k3, decide_eq_false (show ¬ (b0 : Int) ≤ 223 by omega)]
  rw [j0_one 9, if_neg (by decide), if_pos (by omega), j1_one 8]
  by_cases k4 : b0 < 240
  · rw [if_pos k4, decide_eq_true (show (b0 : Int) ≤ 239 by omega), if_pos rfl, j2_one 7, show wrap64 ((b0 : Int) - 224) = ((b0 - 224 : Nat) : Int) by unfold wrap64; omega]
    have e1 := l0_step 6 s i (b0 - 224) 3 1 2048 (by omega) (by omega) (by omega)
    have e2 := l0_step 5 s i ((b0 - 224) * 64 + byN s (i + 1) % 64) 3 2 2048 (by omega) (by omega) (by omega)
    have e3 := l0_end 4 s i (((b0 - 224) * 64 + byN s (i + 1) % 64) * 64 + byN s (i + 2) % 64) 3 2048
    refine e1.trans ?_
    refine ite_congr (congrArg (· ∧ _) c1) (fun _ => e2.trans ?_) (fun _ => rfl)
    exact ite_congr (congrArg (· ∧ _) c2) (fun _ => e3) (fun _ => rfl)
  rw [if_neg k4, decide_eq_false (show ¬ (b0 : Int) ≤ 239 by omega), if_neg (by decide), if_pos (by omega)]
  by_cases k5 : b0 < 245
  · rw [if_pos k5, if_pos (by omega), j2_one 7, show wrap64 ((b0 : Int) - 240) = ((b0 - 240 : Nat) : Int) by unfold wrap64; omega]
    have e1 := l0_step 6 s i (b0 - 240) 4 1 65536 (by omega) (by omega) (by omega)
    have e2 := l0_step 5 s i ((b0 - 240) * 64 + byN s (i + 1) % 64) 4 2 65536 (by omega) (by omega) (by omega)
    have e3 := l0_step 4 s i (((b0 - 240) * 64 + byN s (i + 1) % 64) * 64 + byN s (i + 2) % 64) 4 3 65536 (by omega) (by omega) (by omega)
    have e4 := l0_end 3 s i ((((b0 - 240) * 64 + byN s (i + 1) % 64) * 64 + byN s (i + 2) % 64) * 64 + byN s (i + 3) % 64) 4 65536
    refine e1.trans ?_
    refine ite_congr (congrArg (· ∧ _) c1) (fun _ => e2.trans ?_) (fun _ => rfl)
    refine ite_congr (congrArg (· ∧ _) c2) (fun _ => e3.trans ?_) (fun _ => rfl)
    exact ite_congr (congrArg (· ∧ _) c3) (fun _ => e4) (fun _ => rfl)
  · rw [if_neg k5, if_neg (by omega)]
theorem refO_dec (n b0 b1 b2 b3 : Nat) (h0 : b0 < 256) : refO n b0 b1 b2 b3 = some (pointZ (Lib.decodeN n b0 b1 b2 b3)) := by
  unfold refO endO Lib.decodeN
  repeat' split
  all_goals first
    | (exfalso; omega)
    | (refine (congrArg some (show ((0 : Int), (0 : Int)) = pointZ (65533, 1) from ?_)); unfold pointZ; exact (if_pos ⟨rfl, rfl⟩).symm)
    | (unfold pointZ; rw [if_neg (fun h => by have h1 := h.1; have h2 := h.2; dsimp only at h1 h2; omega)]; exact congrArg some (Prod.ext (by first | (dsimp only; done) | (dsimp only; omega)) (by first | (dsimp only; done) | (dsimp only; omega))))
theorem point_any (s : ByteArray) (i : Nat) (hi : i < s.size) (hs : s.size ≤ 4611686018427387904) : tallyref2_Point.f 10 s (i : Int) = some (pointZ (Utf8.decode s i)) := by
  rw [point_refO s i hi hs, refO_dec _ _ _ _ _ (byN_lt s i), Lib.decode_N]
  rfl
end Go.Proofs.YthkifgjmhpppkaaDoor

/- The document's Good and Check, plain. -/
namespace Go.Proofs.YthkifgjmhpppkaaDoor
open Go.RowKit Go.Proofs.YthkifgjmhpppkaaDoorW.PrintWords Go.Proofs.YthkifgjmhpppkaaDoor.PTextAmounts Go.Proofs.YthkifgjmhpppkaaDoor.PTextLines

theorem point_fuel (s : ByteArray) (i : Nat) (hi : i < s.size) (hs : s.size ≤ 4611686018427387904) : ∀ d : Nat, tallyref2_Point.f (10 + d) s (i : Int) = some (pointZ (Utf8.decode s i))
  | 0 => point_any s i hi hs
  | d + 1 => tallyref2_Point.mono s (i : Int) (10 + d) _ (point_fuel s i hi hs d)
theorem good_out (k : Nat) (s : ByteArray) (i : Int) (h : ¬ i < (s.size : Int)) : tallyref2_Good.l0 (k + 1) s i = some true := by
  conv => lhs; unfold tallyref2_Good.l0
  exact if_neg h
theorem good_in (k : Nat) (s : ByteArray) (i : Int) (p : Int × Int) (h : i < (s.size : Int)) (hp : tallyref2_Point.f k s i = some p) : tallyref2_Good.l0 (k + 1) s i = if p.2 = 0 then some false else tallyref2_Good.l0 k s (wrap64 (i + p.2)) := by
  conv => lhs; unfold tallyref2_Good.l0
  rw [if_pos h, hp]
  rfl
theorem good_l0 (s : ByteArray) (hs : s.size ≤ 4611686018427387904) : ∀ (n i : Nat), s.size ≤ i + n → i ≤ s.size → tallyref2_Good.l0 (10 + n + 1) s (i : Int) = some (Lib.validD (s.data.toList.drop i)) := fun n => by
  induction n with
  | zero =>
    intro i h1 h2
    have hl : s.data.toList.length = s.size := rfl
    rw [good_out _ _ _ (by omega), List.drop_eq_nil_of_le (by omega), Lib.validD_nil]
  | succ n ih =>
    intro i h1 h2
    have hl : s.data.toList.length = s.size := rfl
    by_cases hi : i < s.size
    · obtain ⟨c, k, hd, hD, hk⟩ := dec_at s i hi
      have hp := point_fuel s i hi hs (n + 1)
      rw [hd] at hp
      have h3 := good_in (10 + (n + 1)) s (i : Int) _ (by omega) hp
      rw [h3, Lib.validD_step _ (drop_ne hi), hD.eq]
      dsimp only
      have h1k := hD.one
      by_cases hb : c = 65533 ∧ k = 1
      · rw [if_pos hb, show pointZ (c, k) = (0, 0) from if_pos hb, if_pos rfl]
      · rw [if_neg hb, show pointZ (c, k) = ((c : Int), (k : Int)) from if_neg hb, if_neg (show ¬ (k : Int) = 0 by omega), List.drop_drop]
        have hw : wrap64 ((i : Int) + (k : Int)) = ((i + k : Nat) : Int) := by rw [w64n _ ⟨by omega, by omega⟩]; omega
        show tallyref2_Good.l0 (10 + (n + 1)) s (wrap64 ((i : Int) + (k : Int))) = _
        rw [hw]
        exact ih (i + k) (by omega) hk
    · rw [good_out _ _ _ (by omega), List.drop_eq_nil_of_le (by omega), Lib.validD_nil]
theorem good_f (s : ByteArray) (hs : s.size ≤ 4611686018427387904) (n : Nat) (h : s.size ≤ n) : tallyref2_Good.f (10 + n + 1) s = some (Lib.validD s.data.toList) := good_l0 s hs n 0 (by omega) (Nat.zero_le _)
theorem check_out (k : Nat) (s : ByteArray) (i : Int) (h : ¬ i < (s.size : Int)) : tallyref2_Check.l0 (k + 1) s i = some 0 := by
  conv => lhs; unfold tallyref2_Check.l0
  exact if_neg h
set_option maxHeartbeats 8000000 in
theorem check_in (k : Nat) (s : ByteArray) (i : Nat) (h : i < s.size) : tallyref2_Check.l0 (k + 1) s (i : Int) = if nameN (byN s i) = true then tallyref2_Check.l0 k s (wrap64 ((i : Int) + 1)) else some 20 := by
  conv => lhs; unfold tallyref2_Check.l0
  rw [if_pos (by omega), if_pos (by omega), bt_byN s i h]
  generalize tallyref2_Check.l0 k s (wrap64 ((i : Int) + 1)) = X
  generalize byN s i = b
  by_cases hn : nameN b = true
  · rw [if_pos hn]
    simp only [nameN, Bool.or_eq_true, Bool.and_eq_true, decide_eq_true_eq] at hn
    repeat' split
    all_goals first | rfl | (exfalso; omega)
  · rw [if_neg hn]
    simp only [nameN, Bool.or_eq_true, Bool.and_eq_true, decide_eq_true_eq] at hn
    repeat' split
    all_goals first | rfl | (exfalso; omega)
theorem check_l0 (s : ByteArray) (hs : s.size ≤ 4611686018427387904) : ∀ (n i : Nat), s.size ≤ i + n → i ≤ s.size → tallyref2_Check.l0 (n + 1) s (i : Int) = some (if (s.data.toList.drop i).all (fun b => nameN b.toNat) = true then 0 else 20) := fun n => by
  induction n with
  | zero =>
    intro i h1 h2
    have hl : s.data.toList.length = s.size := rfl
    rw [check_out _ _ _ (by omega), List.drop_eq_nil_of_le (by omega)]
    rfl
  | succ n ih =>
    intro i h1 h2
    have hl : s.data.toList.length = s.size := rfl
    by_cases hi : i < s.size
    · have hw : wrap64 ((i : Int) + 1) = ((i + 1 : Nat) : Int) := by rw [w64n _ ⟨by omega, by omega⟩]; omega
      have hb : byN s i = (s.data.toList[i]'(by omega)).toNat := by
        unfold byN
        rw [List.getD_eq_getElem?_getD, List.getElem?_eq_getElem (by omega)]
        rfl
      have hd : s.data.toList.drop i = s.data.toList[i]'(by omega) :: s.data.toList.drop (i + 1) := List.drop_eq_getElem_cons (by omega)
      rw [check_in _ s i hi, hw, ih (i + 1) (by omega) (by omega), hd, List.all_cons, ← hb]
      cases nameN (byN s i)
      · rw [if_neg (by decide), Bool.false_and, if_neg (by decide)]
      · rw [if_pos rfl, Bool.true_and]
    · rw [check_out _ _ _ (by omega), List.drop_eq_nil_of_le (by omega)]
      rfl
theorem check_j0 (k : Nat) (s : ByteArray) (b : Bool) : tallyref2_Check.j0 (k + 1) s b = if b = true then some 20 else tallyref2_Check.l0 k s 0 := by
  conv => lhs; unfold tallyref2_Check.j0
theorem check_f (s : ByteArray) (hs : s.size ≤ 4611686018427387904) : tallyref2_Check.f (10 + s.size + 1 + 1) s = some ((checkN s.data.toList : Nat) : Int) := by
  have hl : s.data.toList.length = s.size := rfl
  unfold tallyref2_Check.f
  by_cases h1 : (s.size : Int) < 1
  · rw [if_pos h1, check_j0, if_pos rfl, checkN_bad (fun h => by omega)]
    rfl
  rw [if_neg h1]
  by_cases h2 : (s.size : Int) > 64
  · rw [if_pos h2, check_j0, if_pos rfl, checkN_bad (fun h => by omega)]
    rfl
  rw [if_neg h2]
  have hg := tallyref2_Good.mono s (10 + s.size + 1) _ (good_f s hs s.size (Nat.le_refl _))
  rw [hg]
  show tallyref2_Check.j0 (10 + s.size + 1 + 1) s (!Lib.validD s.data.toList) = _
  rw [check_j0]
  have hc := check_l0 s hs (10 + s.size) 0 (by omega) (Nat.zero_le _)
  rw [List.drop_zero] at hc
  cases hv : Lib.validD s.data.toList with
  | false =>
    rw [show (!false) = true from rfl, if_pos rfl, checkN_bad (fun h => by rw [hv] at h; exact absurd h.2.2.1 (by decide))]
    rfl
  | true =>
    rw [show (!true) = false from rfl, if_neg (by decide)]
    refine hc.trans ?_
    cases hn : s.data.toList.all (fun b => nameN b.toNat) with
    | false =>
      rw [if_neg (by decide), checkN_bad (fun h => by have := h.2.2.2; unfold nameL at this; rw [hn] at this; cases this)]
      rfl
    | true =>
      rw [if_pos rfl, checkN_good (by omega) (by omega) hv hn]
      rfl
theorem refCheck_any (s : ByteArray) (w : World) (hs : s.size ≤ 1048576) : Calls Tryd.prog 24 #[.string s] w fun e w' => e = .returned (.int .i64 (checkN s.data.toList : Nat)) ∧ ∃ n, w' = w.drewN n := (tallyref2_Check.calls _ s _ w (check_f s (by omega))).mono fun _ _ h => ⟨h.1, h.2.out⟩
end Go.Proofs.YthkifgjmhpppkaaDoor

/- The document's Fold, plain: a step in the bytes of the name. -/
namespace Go.Proofs.YthkifgjmhpppkaaDoor
open Go.RowKit

def newB (B : List UInt8) (i c : Nat) : List UInt8 := if 65 ≤ c ∧ c ≤ 90 then B.set i (B.getD i 0 + 32) else if 192 ≤ c ∧ c ≤ 222 ∧ c ≠ 215 then B.set (i + 1) (B.getD (i + 1) 0 + 32) else B
theorem u8_add (b : UInt8) (x : Nat) (h : b.toNat + 32 = x) (hx : x < 256) : b + 32 = UInt8.ofNat x := by
  apply UInt8.toNat_inj.1
  rw [u8_of x hx, UInt8.toNat_add, show (32 : UInt8).toNat = 32 from rfl]
  omega
theorem foldStep_one {l : List UInt8} {c k : Nat} (h : Dec l c k) (h1 : 65 ≤ c) (h2 : c ≤ 90) : ∃ b t, k = 1 ∧ l = b :: t ∧ foldStep l c k = [b + 32] := by
  obtain ⟨hk, b, t, hl, hb⟩ := h.asc (by omega)
  refine ⟨b, t, hk, hl, ?_⟩
  unfold foldStep
  have e : smallN c = c + 32 := if_pos (Or.inl ⟨h1, h2⟩)
  rw [if_neg (by omega), e, enc1 (c + 32) (by omega), u8_add b (c + 32) (by omega) (by omega)]
theorem foldStep_two {l : List UInt8} {c k : Nat} (h : Dec l c k) (hne : l ≠ []) (h1 : 192 ≤ c) (h2 : c ≤ 222) (h3 : c ≠ 215) : ∃ b d t, k = 2 ∧ l = b :: d :: t ∧ foldStep l c k = [b, d + 32] := by
  have he := h.enc hne (by omega)
  rw [enc2 c (by omega) (by omega)] at he
  have hk : k = 2 := by
    have := congrArg List.length he
    rw [List.length_take] at this
    have hle := h.le
    simp only [List.length_cons, List.length_nil] at this
    omega
  subst hk
  match l, hne, he with
  | [b], _, he => simp at he
  | b :: d :: t, _, he =>
    simp only [List.take_succ_cons, List.take_zero, List.cons.injEq, and_true] at he
    obtain ⟨hb, hd⟩ := he
    refine ⟨b, d, t, rfl, rfl, ?_⟩
    unfold foldStep
    have e : smallN c = c + 32 := if_pos (by omega)
    have hdn : d.toNat = 128 + c % 64 := by rw [← hd, u8_of _ (by omega)]
    rw [if_neg (by omega), e, enc2 (c + 32) (by omega) (by omega), u8_add d (128 + (c + 32) % 64) (by omega) (by omega), ← hb, show (c + 32) / 64 = c / 64 by omega]
theorem foldStep_same {l : List UInt8} {c k : Nat} (h : Dec l c k) (hne : l ≠ []) (h1 : ¬ (65 ≤ c ∧ c ≤ 90)) (h2 : ¬ (192 ≤ c ∧ c ≤ 222 ∧ c ≠ 215)) : foldStep l c k = l.take k := by
  unfold foldStep
  by_cases hc : c = 65533
  · rw [if_pos hc]
  · have e : smallN c = c := if_neg (by omega)
    rw [if_neg hc, e]
    exact h.enc hne (fun hx => hc hx.1)
theorem newB_core {l : List UInt8} {c k : Nat} (h : Dec l c k) (hne : l ≠ []) (G : List UInt8) : newB (G ++ l) G.length c = G ++ foldStep l c k ++ l.drop k := by
  unfold newB
  by_cases h1 : 65 ≤ c ∧ c ≤ 90
  · obtain ⟨b, t, rfl, rfl, hf⟩ := foldStep_one h h1.1 h1.2
    rw [if_pos h1, hf]
    simp
  · rw [if_neg h1]
    by_cases h2 : 192 ≤ c ∧ c ≤ 222 ∧ c ≠ 215
    · obtain ⟨b, d, t, rfl, rfl, hf⟩ := foldStep_two h hne h2.1 h2.2.1 h2.2.2
      rw [if_pos h2, hf]
      have e : (G ++ b :: d :: t).getD (G.length + 1) 0 = d := by
        rw [List.getD_eq_getElem?_getD, List.getElem?_append_right (by omega), show G.length + 1 - G.length = 1 by omega]
        rfl
      rw [e, List.set_append_right _ _ (by omega), show G.length + 1 - G.length = 1 by omega]
      simp
    · rw [if_neg h2, foldStep_same h hne h1 h2, List.append_assoc, List.take_append_drop]
/-- The bytes so far. -/
def FoldAt (s : List UInt8) (i : Nat) (B : List UInt8) : Prop := ∃ G : List UInt8, G.length = i ∧ foldP s = G ++ foldP (s.drop i) ∧ B = G ++ s.drop i
theorem FoldAt.start (s : List UInt8) : FoldAt s 0 s := ⟨[], rfl, rfl, rfl⟩
theorem FoldAt.step {s B : List UInt8} {i c k : Nat} (hf : FoldAt s i B) (h : Dec (s.drop i) c k) (hne : s.drop i ≠ []) : FoldAt s (i + k) (newB B i c) := by
  obtain ⟨G, rfl, h1, rfl⟩ := hf
  have hl := fold_step_len h hne
  refine ⟨G ++ foldStep (s.drop G.length) c k, by rw [List.length_append, hl], ?_, ?_⟩
  · rw [h1, h.fold hne, ← List.append_assoc, List.drop_drop]
  · rw [newB_core h hne G, List.drop_drop]
theorem FoldAt.done {s B : List UInt8} {i : Nat} (hf : FoldAt s i B) (hi : s.length ≤ i) : B = foldP s := by
  obtain ⟨G, rfl, h1, rfl⟩ := hf
  rw [h1, List.drop_eq_nil_of_le hi]
  rfl
theorem FoldAt.len {s B : List UInt8} {i : Nat} (hf : FoldAt s i B) (hi : i ≤ s.length) : B.length = s.length := by
  obtain ⟨G, rfl, h1, rfl⟩ := hf
  rw [List.length_append, List.length_drop]
  omega
end Go.Proofs.YthkifgjmhpppkaaDoor

/- The document's Fold: the walk. -/
namespace Go.Proofs.YthkifgjmhpppkaaDoor
open Go.RowKit Go.Proofs.YthkifgjmhpppkaaDoorW.PrintWords Go.Proofs.YthkifgjmhpppkaaDoor.PTextAmounts Go.Proofs.YthkifgjmhpppkaaDoor.PTextLines

theorem BytesAt.below {w w' : World} {g : Nat} {l : List UInt8} (h : BytesAt w g l) (hb : Below w.heap.size w w') : BytesAt w' g l := by
  have hlt := h.lt
  obtain ⟨cs, m, h1, h2, h3, h4⟩ := h
  exact ⟨cs, m, (hb.block g hlt).trans h1, h2, h3, h4⟩
theorem FoldAt.get {s B : List UInt8} {i : Nat} (hf : FoldAt s i B) (j : Nat) : B[i + j]? = (s.drop i)[j]? := by
  obtain ⟨G, rfl, h1, rfl⟩ := hf
  rw [List.getElem?_append_right (by omega), show G.length + j - G.length = j by omega]
theorem getD_some {B : List UInt8} {i : Nat} {b : UInt8} (h : B[i]? = some b) : B.getD i 0 = b := by rw [List.getD_eq_getElem?_getD, h]; rfl
theorem add32 (b : UInt8) (h : b.toNat < 224) : (b + 32).toNat = b.toNat + 32 := by
  rw [UInt8.toNat_add, show (32 : UInt8).toNat = 32 from rfl]
  omega
theorem FoldAt.one {s B : List UInt8} {i c k : Nat} (hf : FoldAt s i B) (h : Dec (s.drop i) c k) (h1 : 65 ≤ c) (h2 : c ≤ 90) : ∃ b : UInt8, k = 1 ∧ B[i]? = some b ∧ b.toNat ≤ 90 ∧ newB B i c = B.set i (b + 32) := by
  obtain ⟨hk, b, t, hl, hb⟩ := h.asc (by omega)
  have h0 := hf.get 0
  rw [hl, Nat.add_zero] at h0
  have h3 : B[i]? = some b := h0
  exact ⟨b, hk, h3, by omega, by unfold newB; rw [if_pos ⟨h1, h2⟩, getD_some h3]⟩
theorem FoldAt.two {s B : List UInt8} {i c k : Nat} (hf : FoldAt s i B) (h : Dec (s.drop i) c k) (hne : s.drop i ≠ []) (h1 : 192 ≤ c) (h2 : c ≤ 222) (h3 : c ≠ 215) : ∃ d : UInt8, k = 2 ∧ B[i + 1]? = some d ∧ d.toNat ≤ 191 ∧ newB B i c = B.set (i + 1) (d + 32) := by
  obtain ⟨b, d, t, hk, hl, hfs⟩ := foldStep_two h hne h1 h2 h3
  have h0 := hf.get 1
  rw [hl] at h0
  have h4 : B[i + 1]? = some d := h0
  have he := h.enc hne (by omega)
  rw [enc2 c (by omega) (by omega), hk, hl] at he
  simp only [List.take_succ_cons, List.take_zero, List.cons.injEq, and_true] at he
  have hdn : d.toNat = 128 + c % 64 := by rw [← he.2, u8_of _ (by omega)]
  exact ⟨d, hk, h4, by omega, by unfold newB; rw [if_neg (by omega), if_pos ⟨h1, h2, h3⟩, getD_some h4]⟩
theorem newB_same {B : List UInt8} {i c : Nat} (h1 : ¬ (65 ≤ c ∧ c ≤ 90)) (h2 : ¬ (192 ≤ c ∧ c ≤ 222 ∧ c ≠ 215)) : newB B i c = B := by unfold newB; rw [if_neg h1, if_neg h2]
theorem point_calls (s : ByteArray) (i : Nat) (hi : i < s.size) (hs : s.size ≤ 1048576) (x y : Int) (h : pointZ (Utf8.decode s i) = (x, y)) (w : World) : Calls Tryd.prog 44 #[.string s, .int .i64 i] w fun e w' => e = .returned (.tuple #[.int .i64 x, .int .i64 y]) ∧ Below w.heap.size w w' := by
  have hp := point_any s i hi (by omega)
  rw [h] at hp
  refine (tallyref2_Point.calls 10 s i x y w hp).mono fun _ _ hh => ⟨hh.1, ?_⟩
  obtain ⟨n, rfl⟩ := hh.2.out
  exact belowD _ _
def FRel (s : List UInt8) (w : World) (v4 : Value) (wr : World) : Prop := ∃ (i : Nat) (B : List UInt8), v4 = .int .i64 i ∧ i ≤ s.length ∧ BelW w wr ∧ BytesAt wr w.heap.size B ∧ FoldAt s i B
set_option maxRecDepth 100000 in
set_option maxHeartbeats 4000000 in
theorem refFold_any (s : ByteArray) (w : World) (hs : s.size ≤ 1048576) : Calls Tryd.prog 26 #[.string s] w fun e w' => e = .returned (.string ⟨(foldP s.data.toList).toArray⟩) ∧ BelW w w' := by
  have hlen : s.data.toList.length = s.size := rfl
  have kc := conv_run s w
  go_enter Tryd.func26, Tryd.ntmps26
  go_wp2
  go_loopw [4] (fun v4 wr => FRel s.data.toList w v4 wr) (fun v4 _ => (s.size - intOf v4).toNat)
  case atStart => exact ⟨0, s.data.toList, rfl, Nat.zero_le _, conv_below w s, conv_bytes w s, FoldAt.start _⟩
  case round =>
    obtain ⟨i, B, rfl, hi, hbr, hby, hf⟩ := hrel
    rw [hlen] at hi
    have hBl := hf.len (by omega)
    by_cases hlt : i < s.size
    · have hne := drop_ne hlt
      obtain ⟨c, k, hd, hD, hk⟩ := dec_at s i hlt
      have hst := hf.step hD hne
      have hk1 := hD.one
      have q1 : (i : Int) < (s.size : Int) := by omega
      have q2 : (0 : Int) ≤ (i : Int) := by omega
      have q3 : (i : Int) ≤ 1048576 := by omega
      by_cases hb : c = 65533 ∧ k = 1
      · have HP := Lib.hid (point_calls s i hlt hs 0 0 (by rw [hd]; exact if_pos hb))
        obtain ⟨rfl, rfl⟩ := hb
        rw [newB_same (by omega) (by omega)] at hst
        have HST := Lib.hid hst
        clear hst hd hD hk1 kc
        go_wp2_with (go_at_call 44; (with_reducible refine (HP.out _).mono ?_); rintro e w2 ⟨rfl, hb2⟩; have hby2 := hby.below hb2; have hbr2 := belowKeep hbr hb2; clear hb2)
        go_roundw
        case rel => exact ⟨i + 1, B, by go_num, by omega, hbr2, hby2, HST.out⟩
        case measure => simp [intOf]; omega
      · have HP := Lib.hid (point_calls s i hlt hs c k (by rw [hd]; exact if_neg hb))
        have hcm := hD.max
        have q4 : (0 : Int) < (k : Int) := by omega
        have q5 : ((k : Int) == 0) = false := by rw [beq_eq_false_iff_ne]; omega
        have q6 : (k : Int) ≤ 1048576 := by omega
        by_cases hA : 65 ≤ c ∧ c ≤ 90
        · obtain ⟨b, rfl, hgb, hbn, hnb⟩ := hf.one hD hA.1 hA.2
          rw [hnb] at hst
          have HST := Lib.hid hst
          have HV := Lib.hid (show (((b + 32).toNat : Nat) : Int) = (b.toNat : Int) + 32 by rw [add32 b (by omega)]; omega)
          have p1 : (65 : Int) ≤ (c : Int) := by omega
          have p2 : (c : Int) ≤ 90 := by omega
          have p3 : ¬ (192 : Int) ≤ (c : Int) := by omega
          have p4 : (b.toNat : Int) ≤ 90 := by omega
          have p5 : (0 : Int) ≤ (b.toNat : Int) := by omega
          have hbl : i < B.length := by omega
          clear hst hd hD hk1 kc hnb
          go_wp2_with (go_at_call 44; (with_reducible refine (HP.out _).mono ?_); rintro e w2 ⟨rfl, hb2⟩; have hby2 := hby.below hb2; have hbr2 := belowKeep hbr hb2; have hc2 := hby2.cell hgb; have hfr2 := hby2.free (j := i) hbl; have HSET := Lib.hid (hby2.set_ hbl (b + 32)); have HBR := Lib.hid hbr2; clear hb2 hby2 hbr2)
          go_roundw
          case rel => exact ⟨i + 1, _, by go_num, by omega, HBR.out.setCell (p := ⟨w.heap.size, i, none⟩) (Nat.le_refl _) _, by rw [← HV.out]; exact HSET.out, HST.out⟩
          case measure => simp [intOf]; omega
        · by_cases hB : 192 ≤ c ∧ c ≤ 222 ∧ c ≠ 215
          · obtain ⟨b, rfl, hgb, hbn, hnb⟩ := hf.two hD hne hB.1 hB.2.1 hB.2.2
            rw [hnb] at hst
            have HST := Lib.hid hst
            have HV := Lib.hid (show (((b + 32).toNat : Nat) : Int) = (b.toNat : Int) + 32 by rw [add32 b (by omega)]; omega)
            have p1 : (65 : Int) ≤ (c : Int) := by omega
            have p2 : ¬ (c : Int) ≤ 90 := by omega
            have p3 : (192 : Int) ≤ (c : Int) := by omega
            have p4 : (b.toNat : Int) ≤ 191 := by omega
            have p5 : (0 : Int) ≤ (b.toNat : Int) := by omega
            have p6 : (c : Int) ≤ 222 := by omega
            have p7 : ((c : Int) != 215) = true := by rw [bne_iff_ne]; omega
            have hbl : i + 1 < B.length := (List.getElem?_eq_some_iff.1 hgb).1
            have p8 : (i : Int) + 1 < (s.size : Int) := by omega
            have p9 : ((i : Int) + 1).toNat = i + 1 := by omega
            clear hst hd hD hk1 kc hnb
            go_wp2_with (go_at_call 44; (with_reducible refine (HP.out _).mono ?_); rintro e w2 ⟨rfl, hb2⟩; have hby2 := hby.below hb2; have hbr2 := belowKeep hbr hb2; have hc2 := hby2.cell hgb; have hfr2 := hby2.free (j := i + 1) hbl; have HSET := Lib.hid (hby2.set_ hbl (b + 32)); have HBR := Lib.hid hbr2; clear hb2 hby2 hbr2)
            go_roundw
            case rel => exact ⟨i + 2, _, by go_num, by omega, HBR.out.setCell (p := ⟨w.heap.size, i + 1, none⟩) (Nat.le_refl _) _, by rw [← HV.out]; exact HSET.out, HST.out⟩
            case measure => simp [intOf]; omega
          · rw [newB_same hA hB] at hst
            have HST := Lib.hid hst
            have hcs : (¬ (65 : Int) ≤ (c : Int) ∧ ¬ (192 : Int) ≤ (c : Int)) ∨ ((65 : Int) ≤ (c : Int) ∧ ¬ (c : Int) ≤ 90 ∧ ¬ (192 : Int) ≤ (c : Int)) ∨ ((65 : Int) ≤ (c : Int) ∧ ¬ (c : Int) ≤ 90 ∧ (192 : Int) ≤ (c : Int) ∧ ¬ (c : Int) ≤ 222) ∨ ((65 : Int) ≤ (c : Int) ∧ ¬ (c : Int) ≤ 90 ∧ (192 : Int) ≤ (c : Int) ∧ (c : Int) ≤ 222 ∧ ((c : Int) != 215) = false) := by
              by_cases h1 : 65 ≤ c
              · have h2 : ¬ c ≤ 90 := fun h => hA ⟨h1, h⟩
                by_cases h3 : 192 ≤ c
                · by_cases h4 : c ≤ 222
                  · have h5 : c = 215 := by omega
                    exact .inr (.inr (.inr ⟨by omega, by omega, by omega, by omega, by rw [h5]; rfl⟩))
                  · exact .inr (.inr (.inl ⟨by omega, by omega, by omega, by omega⟩))
                · exact .inr (.inl ⟨by omega, by omega, by omega⟩)
              · exact .inl ⟨by omega, by omega⟩
            clear hst hd hD kc hA hB
            rcases hcs with ⟨p1, p3⟩ | ⟨p1, p2, p3⟩ | ⟨p1, p2, p3, p4⟩ | ⟨p1, p2, p3, p4, p5⟩
            all_goals
              go_wp2_with (go_at_call 44; (with_reducible refine (HP.out _).mono ?_); rintro e w2 ⟨rfl, hb2⟩; have hby2 := hby.below hb2; have hbr2 := belowKeep hbr hb2; clear hb2)
              go_roundw
              case rel => exact ⟨i + k, B, by go_num, by omega, hbr2, hby2, HST.out⟩
              case measure => simp [intOf]; omega
    · have q1 : ¬ (i : Int) < (s.size : Int) := by omega
      have hB := hf.done (by omega)
      subst hB
      have hcv := hby.back (convC w s)
      rw [hBl, hlen] at hcv
      have HBR := Lib.hid hbr
      clear hf hBl hby hbr kc
      go_wp2
      go_ret
      exact ⟨rfl, HBR.out⟩
end Go.Proofs.YthkifgjmhpppkaaDoor

/- TextNames: the document's Home, and the law's walk. -/
namespace Go.Proofs.YthkifgjmhpppkaaDoor
open Go.RowKit

theorem refSum_conv (w : World) (s : ByteArray) (hs : s.size ≤ 1048576) : Calls Tryd.prog 46 #[.slice (some ⟨w.heap.size, 0, none⟩) s.size (convC w s)] (convW w s) fun e w' => e = .returned (.int .u32 (sumN (numsB s.data.toList) : Nat)) ∧ Below w.heap.size w w' := by
  have := refSum_any (some ⟨w.heap.size, 0, none⟩) (convC w s) (numsB s.data.toList) (convW w s) (conv_ri w s hs) (nums_wf _) (by rw [nums_len]; exact hs)
  rw [nums_len] at this
  exact this.mono fun _ _ ⟨h1, h2⟩ => ⟨h1, (conv_below w s).trans (h2.mono (by rw [conv_size]; omega))⟩
set_option maxRecDepth 100000 in
theorem refHome_any (s : ByteArray) (n : Int) (w : World) (hs : s.size ≤ 1048576) (hn0 : -9223372036854775808 ≤ n) (hn1 : n ≤ 9223372036854775807) : Calls Tryd.prog 28 #[.string s, .int .i64 n] w (HomeEnd s.data.toList n w) := by
  by_cases h1 : n < 1
  · have HH := Lib.hid (show homeN s.data.toList n = 0 from if_pos h1)
    go_enter Tryd.func28, Tryd.ntmps28
    go_wp2
    go_ret
    exact ⟨by rw [HH.out]; rfl, Below.refl _ _⟩
  · have HH := Lib.hid (show homeN s.data.toList n = ((sumN (numsB (foldP s.data.toList)) : Nat) : Int) % n from if_neg h1)
    have hfl := fold_len _ s.data.toList (Nat.le_refl _)
    have hF := refFold_any s w hs
    obtain ⟨fb, hfb⟩ : ∃ fb : ByteArray, (⟨(foldP s.data.toList).toArray⟩ : ByteArray) = fb := ⟨_, rfl⟩
    have hfd : fb.data.toList = foldP s.data.toList := by rw [← hfb]
    have hfs : fb.size ≤ 1048576 := by
      have e1 : fb.data.toList.length = fb.size := rfl
      have e2 : s.data.toList.length = s.size := rfl
      rw [hfd, hfl] at e1
      omega
    rw [hfb] at hF
    have HF := Lib.hid hF
    have hsum := fun W => refSum_conv W fb hfs
    have hlt := sum_lt _ (nums_wf fb.data.toList)
    rw [hfd] at hsum hlt
    obtain ⟨S, hS⟩ : ∃ S, sumN (numsB (foldP s.data.toList)) = S := ⟨_, rfl⟩
    rw [hS] at hsum hlt HH
    have HSU := Lib.hid hsum
    have kc := conv_run fb
    have q1 : (1 : Int) ≤ n := by omega
    have q2 : (0 : Int) ≤ (S : Int) := by omega
    have q3 : (S : Int) < 4294967296 := by omega
    have qe : (S : Int) % n = (S : Int) - (S : Int) / n * n := by
      have := Int.emod_add_mul_ediv (S : Int) n
      rw [Int.mul_comm] at this
      omega
    have q4 : (0 : Int) ≤ (S : Int) / n := Int.ediv_nonneg (by omega) (by omega)
    have q5 : (S : Int) / n ≤ (S : Int) := Int.ediv_le_self _ (by omega)
    have q6 : Int.tdiv (S : Int) n = (S : Int) / n := Int.tdiv_eq_ediv_of_nonneg (by omega)
    have q7 : (0 : Int) ≤ (S : Int) % n := Int.emod_nonneg _ (by omega)
    have q8 : (S : Int) % n < n := Int.emod_lt_of_pos _ (by omega)
    obtain ⟨q, hq⟩ : ∃ q, (S : Int) / n = q := ⟨_, rfl⟩
    obtain ⟨p, hp⟩ : ∃ p, q * n = p := ⟨_, rfl⟩
    obtain ⟨r, hr⟩ : ∃ r, (S : Int) % n = r := ⟨_, rfl⟩
    have hq0 : 0 ≤ p := by rw [← hp]; exact Int.mul_nonneg (by omega) (by omega)
    rw [hq, hp, hr] at qe
    rw [hq] at q4 q5 q6
    rw [hr] at q7 q8 HH
    have q9 : p ≤ (S : Int) := by omega
    have q10 : (S : Int) - p = r := by omega
    clear hF hfb hfd hfl hsum hlt hS hq hr qe
    go_enter Tryd.func28, Tryd.ntmps28
    go_wp2_with (first | (go_at_call 26; (with_reducible refine HF.out.mono ?_); rintro e w1 ⟨rfl, hb1⟩) | (go_at_call 46; (with_reducible refine (HSU.out _).mono ?_); rintro e w2 ⟨rfl, hb2⟩))
    go_ret
    exact ⟨by rw [HH.out]; rfl, Below.trans hb1 (hb2.mono (Below.size hb1))⟩
end Go.Proofs.YthkifgjmhpppkaaDoor

/- TextNames: the law's walk. -/
namespace Go.Proofs.YthkifgjmhpppkaaDoor
open Go.RowKit

set_option maxRecDepth 100000 in
set_option maxHeartbeats 8000000 in
theorem textNames_walk (A0 : Option Addr) (c0 : Nat) (L : List ByteArray) (n : Int) (w : World) (hT : Tabs w) (hL : RS w A0 L) (hLs : ∀ s ∈ L, s.size ≤ 1048576) (hn0 : -9223372036854775808 ≤ n) (hn1 : n ≤ 9223372036854775807) (hl0 : L.length ≤ 1048576) :
    Calls Tryd.prog 7 #[.agg #[.slice A0 L.length c0, .int .i64 n]] w (Begun w) := by
  have HLS := Lib.hid hLs
  have HN := Lib.hid (And.intro hn0 hn1)
  clear hLs hn0 hn1
  go_enter Tryd.func7, Tryd.ntmps7
  go_wp2
  have hb0 : BelW w (w.alloc (.cells #[.slice A0 L.length c0, .int .i64 n] 53)) := (Below.refl _ _).alloc (Nat.le_refl _) _
  have hT0 : ∀ q, Tabs ((w.alloc (.cells #[.slice A0 L.length c0, .int .i64 n] 53)).drewN q) := fun q => hT.below (Below.trans hb0 ((belowD _ q).mono (Below.size hb0)))
  have HB0 := Lib.hid hb0
  clear hb0
  go_quiet (fail)
  go_wp2_with (go_at_call 9; (with_reducible refine (begun_any _ (hT0 _)).mono ?_); rintro e w1 ⟨rfl, hb1⟩)
  have hbw : BelW w w1 := Below.trans HB0.out (((belowD _ _).trans hb1).mono (Below.size HB0.out))
  clear hb1 hT0
  go_loopw [5] (fun iv wr => CntRel w L.length iv wr) (fun iv _ => (L.length - intOf iv).toNat)
  case atStart => exact ⟨0, rfl, Nat.zero_le _, hbw⟩
  case round =>
    obtain ⟨i, rfl, hi, hbr⟩ := hrel
    by_cases hlt : i < L.length
    · obtain ⟨ad, rfl, hc⟩ := hL.cell_at hlt
      have hc1 := cellKeep hbr hc
      obtain ⟨s, hs⟩ : ∃ s, L[i] = s := ⟨_, rfl⟩
      have hsz : s.size ≤ 1048576 := hs ▸ HLS.out _ (List.getElem_mem hlt)
      rw [hs] at hc hc1
      have hC1 : ∀ W, BelW w W → Calls Tryd.prog 23 #[.string s] W fun e w' => e = .returned (.int .i64 ((checkN s.data.toList : Nat) : Int)) ∧ Below W.heap.size W w' := fun W hW => check_any s W (hT.below hW) (by omega)
      have hC2 : ∀ W, Calls Tryd.prog 24 #[.string s] W fun e w' => e = .returned (.int .i64 ((checkN s.data.toList : Nat) : Int)) ∧ Below W.heap.size W w' := fun W => (refCheck_any s W hsz).mono fun _ _ h => ⟨h.1, by obtain ⟨m, rfl⟩ := h.2; exact belowD _ _⟩
      have hF1 : ∀ W, BelW w W → Calls Tryd.prog 25 #[.string s] W fun e w' => e = .returned (.string ⟨(foldP s.data.toList).toArray⟩) ∧ Below W.heap.size W w' := fun W hW => fold_any s W (hT.below hW) hsz
      have hF2 : ∀ W, Calls Tryd.prog 26 #[.string s] W fun e w' => e = .returned (.string ⟨(foldP s.data.toList).toArray⟩) ∧ Below W.heap.size W w' := fun W => refFold_any s W hsz
      have hH1 : ∀ W, BelW w W → Calls Tryd.prog 27 #[.string s, .int .i64 n] W fun e w' => e = .returned (.int .i64 (homeN s.data.toList n)) ∧ Below W.heap.size W w' := fun W hW => home_any s n W (hT.below hW) hsz HN.out.1 HN.out.2
      have hH2 : ∀ W, Calls Tryd.prog 28 #[.string s, .int .i64 n] W fun e w' => e = .returned (.int .i64 (homeN s.data.toList n)) ∧ Below W.heap.size W w' := fun W => refHome_any s n W hsz HN.out.1 HN.out.2
      obtain ⟨fb, hfb⟩ : ∃ fb : ByteArray, (⟨(foldP s.data.toList).toArray⟩ : ByteArray) = fb := ⟨_, rfl⟩
      obtain ⟨ck, hck⟩ : ∃ ck : Nat, checkN s.data.toList = ck := ⟨_, rfl⟩
      obtain ⟨hm, hhm⟩ : ∃ hm, homeN s.data.toList n = hm := ⟨_, rfl⟩
      rw [hfb] at hF1 hF2
      rw [hck] at hC1 hC2
      rw [hhm] at hH1 hH2
      have HF1 := Lib.hid hF1
      have HF2 := Lib.hid hF2
      have HC1 := Lib.hid hC1
      have HC2 := Lib.hid hC2
      have HH1 := Lib.hid hH1
      have HH2 := Lib.hid hH2
      have q1 : (i : Int) < (L.length : Int) := by omega
      clear hs hfb hF1 hF2 hC1 hC2 hH1 hH2 hck hhm hc
      go_wp2_with (first | (go_at_call 23; (with_reducible refine (HC1.out _ hbr).mono ?_); rintro e w2 ⟨rfl, hb2⟩; have hbr2 := belowKeep hbr hb2; clear hb2) | (go_at_call 12; (with_reducible refine (num_any _ _).mono ?_); rintro e w3 ⟨rfl, hb3⟩; have hbr2 := belowKeep hbr2 hb3; clear hb3) | (go_at_call 24; (with_reducible refine (HC2.out _).mono ?_); rintro e w4 ⟨rfl, hb4⟩; have hbr2 := belowKeep hbr2 hb4; clear hb4) | (go_at_call 25; (with_reducible refine (HF1.out _ hbr2).mono ?_); rintro e w5 ⟨rfl, hb5⟩; have hbr2 := belowKeep hbr2 hb5; clear hb5) | (go_at_call 26; (with_reducible refine (HF2.out _).mono ?_); rintro e w6 ⟨rfl, hb6⟩; have hbr2 := belowKeep hbr2 hb6; clear hb6) | (go_at_call 27; (with_reducible refine (HH1.out _ hbr2).mono ?_); rintro e w7 ⟨rfl, hb7⟩; have hbr2 := belowKeep hbr2 hb7; clear hb7) | (go_at_call 28; (with_reducible refine (HH2.out _).mono ?_); rintro e w8 ⟨rfl, hb8⟩; have hbr2 := belowKeep hbr2 hb8; clear hb8))
      go_roundw
      case rel => exact ⟨i + 1, by go_num, by omega, hbr2⟩
      case measure => simp [intOf]; omega
    · have q1 : ¬ (i : Int) < (L.length : Int) := by omega
      have hTj : Tabs wr := hT.below hbr
      go_wp2_with (go_at_call 9; (with_reducible refine (begun_any _ hTj).mono ?_); rintro e w9 ⟨rfl, hb9⟩)
      go_ret
      exact ⟨rfl, belowKeep hbr hb9⟩
set_option maxRecDepth 100000 in
open Go.ChangeShapes Go.WideShapes Go.ChangeAt Go.Joins in
theorem law_TextNames {H : Type} (enc : TypeId × Value → H) (W : World) {base : Nat} (v : Value) (d : DataW H) (ps : List MemPlace)
    (hok : Value.okWide Tryd.prog W .any base 53 v) (h : DataW.Trod enc Tryd.prog W 0 (fun _ => true) true 53 v d ps)
    (hT : Tabs W) (hbulk : Rows.uptoBulkAll [d] ≤ 1048576) : Calls Tryd.prog 7 #[v] W (Begun W) := by
  obtain ⟨A0, c0, L, n, rfl, h1, h2, h3, h4, h5⟩ := names_open enc W v d ps hok h hbulk
  exact textNames_walk A0 c0 L n W hT h1 h2 h4 h5 h3
end Go.Proofs.YthkifgjmhpppkaaDoor
