/- The spiral in whole numbers (plain law): which point comes behind k steps; the reckoning back from a point to its number. -/

namespace Go.Proofs.Ytbgojhjlmlbfpaa.Spi

/-- Behind k steps the spiral is at (x, y): leg by leg (four legs a round t). -/
def On (k x y : Int) : Prop := ∃ t o : Int, 0 ≤ t ∧ 0 ≤ o ∧
  ((k = 4 * (t * t) + 2 * t + o ∧ o ≤ 2 * t ∧ x = o - t ∧ y = -t) ∨
   (k = 4 * (t * t) + 4 * t + 1 + o ∧ o ≤ 2 * t ∧ x = t + 1 ∧ y = o - t) ∨
   (k = 4 * (t * t) + 6 * t + 2 + o ∧ o ≤ 2 * t + 1 ∧ x = t + 1 - o ∧ y = t + 1) ∨
   (k = 4 * (t * t) + 8 * t + 4 + o ∧ o ≤ 2 * t + 1 ∧ x = -t - 1 ∧ y = t + 1 - o))

theorem sq_succ (t : Int) : (t + 1) * (t + 1) = t * t + 2 * t + 1 := by
  rw [Int.add_mul, Int.mul_add, Int.one_mul, Int.mul_one]; omega
theorem sq_mono {a b : Int} (h0 : 0 ≤ a) (h : a ≤ b) : a * a ≤ b * b := Int.mul_le_mul h h h0 (by omega)

/-- The round is told by k. -/
theorem On.round {k t t' : Int} (h0 : 0 ≤ t) (h0' : 0 ≤ t') (h1 : 4 * (t * t) + 2 * t ≤ k) (h2 : k < 4 * (t * t) + 10 * t + 6) (h1' : 4 * (t' * t') + 2 * t' ≤ k) (h2' : k < 4 * (t' * t') + 10 * t' + 6) : t = t' := by
  rcases Int.lt_trichotomy t t' with h | h | h
  · have := sq_mono (by omega : 0 ≤ t + 1) (by omega : t + 1 ≤ t')
    rw [sq_succ] at this
    omega
  · exact h
  · have := sq_mono (by omega : 0 ≤ t' + 1) (by omega : t' + 1 ≤ t)
    rw [sq_succ] at this
    omega
theorem On.unique {k x y x' y' : Int} (h : On k x y) (h' : On k x' y') : x = x' ∧ y = y' := by
  obtain ⟨t, o, h0, h1, h⟩ := h
  obtain ⟨t', o', h0', h1', h'⟩ := h'
  have e : t = t' := On.round (k := k) h0 h0' (by omega) (by omega) (by omega) (by omega)
  subst e
  omega

/-- The reckoning from a point to its number (tallylaw3.number). -/
def number (x y : Int) : Int :=
  let r := max (max x (-x)) (max y (-y))
  let c := 4 * r * r
  if x = r ∧ y > -r then c - 3 * r + y else if y = r then c - r - x else if x = -r then c + r - y else c + 3 * r + x

theorem number_at {x y r : Int} (h : max (max x (-x)) (max y (-y)) = r) : number x y = if x = r ∧ y > -r then 4 * (r * r) - 3 * r + y else if y = r then 4 * (r * r) - r - x else if x = -r then 4 * (r * r) + r - y else 4 * (r * r) + 3 * r + x := by
  unfold number
  simp only [h, Int.mul_assoc]

theorem On.number {k x y : Int} (h : On k x y) : number x y = k := by
  obtain ⟨t, o, h0, h1, h⟩ := h
  have hs := sq_succ t
  rcases h with ⟨rfl, h2, rfl, rfl⟩ | ⟨rfl, h2, rfl, rfl⟩ | ⟨rfl, h2, rfl, rfl⟩ | ⟨rfl, h2, rfl, rfl⟩
  · rw [number_at (r := t) (by omega), if_neg (by omega)]
    by_cases ht : t = 0
    · subst ht; rw [if_pos (by omega)]; omega
    · rw [if_neg (by omega)]
      by_cases ho : o = 0
      · rw [if_pos (by omega)]; omega
      · rw [if_neg (by omega)]; omega
  · rw [number_at (r := t + 1) (by omega), hs, if_pos (by omega)]; omega
  · rw [number_at (r := t + 1) (by omega), hs]
    by_cases ho : o = 0
    · rw [if_pos (by omega)]; omega
    · rw [if_neg (by omega), if_pos (by omega)]; omega
  · rw [number_at (r := t + 1) (by omega), hs, if_neg (by omega)]
    by_cases ho : o = 0
    · rw [if_pos (by omega)]; omega
    · rw [if_neg (by omega), if_pos (by omega)]; omega

theorem number_on (x y : Int) : On (Spi.number x y) x y := by
  obtain ⟨r, hr⟩ : ∃ r, max (max x (-x)) (max y (-y)) = r := ⟨_, rfl⟩
  have hr0 : 0 ≤ r := by omega
  rw [number_at hr]
  by_cases z : r = 0
  · subst z
    obtain rfl : x = 0 := by omega
    obtain rfl : y = 0 := by omega
    exact ⟨0, 0, by omega, by omega, .inl (by simp)⟩
  obtain ⟨t, rfl⟩ : ∃ t, r = t + 1 := ⟨r - 1, by omega⟩
  have hs := sq_succ t
  have hs2 := sq_succ (t + 1)
  by_cases c1 : x = t + 1 ∧ y > -(t + 1)
  · rw [if_pos c1]
    by_cases c : y = t + 1
    · exact ⟨t, 0, by omega, by omega, .inr (.inr (.inl ⟨by omega, by omega, by omega, by omega⟩))⟩
    · exact ⟨t, y + t, by omega, by omega, .inr (.inl ⟨by omega, by omega, by omega, by omega⟩)⟩
  · rw [if_neg c1]
    by_cases c2 : y = t + 1
    · rw [if_pos c2]
      by_cases c : x = -(t + 1)
      · exact ⟨t, 0, by omega, by omega, .inr (.inr (.inr ⟨by omega, by omega, by omega, by omega⟩))⟩
      · exact ⟨t, t + 1 - x, by omega, by omega, .inr (.inr (.inl ⟨by omega, by omega, by omega, by omega⟩))⟩
    · rw [if_neg c2]
      by_cases c3 : x = -(t + 1)
      · rw [if_pos c3]
        by_cases c : y = -(t + 1)
        · exact ⟨t + 1, 0, by omega, by omega, .inl ⟨by omega, by omega, by omega, by omega⟩⟩
        · exact ⟨t, t + 1 - y, by omega, by omega, .inr (.inr (.inr ⟨by omega, by omega, by omega, by omega⟩))⟩
      · rw [if_neg c3]
        exact ⟨t + 1, x + (t + 1), by omega, by omega, .inl ⟨by omega, by omega, by omega, by omega⟩⟩

/-- How far the point is at most. -/
theorem On.bound {k x y : Int} (h : On k x y) (hk : k ≤ 1099511627776) : -1048576 ≤ x ∧ x ≤ 1048576 ∧ -1048576 ≤ y ∧ y ≤ 1048576 := by
  obtain ⟨t, o, h0, h1, h⟩ := h
  have ht : t < 1048575 := by
    rcases Int.lt_or_le t 1048575 with h2 | h2
    · exact h2
    · have := sq_mono (by omega : (0 : Int) ≤ 1048575) h2
      omega
  omega

/-- Two points that follow each other are one apart. -/
theorem On.next {k x y x' y' : Int} (h : On k x y) (h' : On (k + 1) x' y') : (x - x') * (x - x') + (y - y') * (y - y') = 1 := by
  have key : ∀ a b, On (k + 1) a b → (x - a = 1 ∧ y - b = 0 ∨ x - a = -1 ∧ y - b = 0 ∨ x - a = 0 ∧ y - b = 1 ∨ x - a = 0 ∧ y - b = -1) → (x - x') * (x - x') + (y - y') * (y - y') = 1 := by
    intro a b hab hc
    obtain ⟨rfl, rfl⟩ := On.unique h' hab
    rcases hc with ⟨e1, e2⟩ | ⟨e1, e2⟩ | ⟨e1, e2⟩ | ⟨e1, e2⟩ <;> rw [e1, e2] <;> rfl
  obtain ⟨t, o, h0, h1, h⟩ := h
  have hs := sq_succ t
  rcases h with ⟨hk, h2, hx, hy⟩ | ⟨hk, h2, hx, hy⟩ | ⟨hk, h2, hx, hy⟩ | ⟨hk, h2, hx, hy⟩
  · by_cases c : o = 2 * t
    · exact key (t + 1) (0 - t) ⟨t, 0, h0, by omega, .inr (.inl ⟨by omega, by omega, by omega, by omega⟩)⟩ (by omega)
    · exact key (o + 1 - t) (-t) ⟨t, o + 1, h0, by omega, .inl ⟨by omega, by omega, by omega, by omega⟩⟩ (by omega)
  · by_cases c : o = 2 * t
    · exact key (t + 1 - 0) (t + 1) ⟨t, 0, h0, by omega, .inr (.inr (.inl ⟨by omega, by omega, by omega, by omega⟩))⟩ (by omega)
    · exact key (t + 1) (o + 1 - t) ⟨t, o + 1, h0, by omega, .inr (.inl ⟨by omega, by omega, by omega, by omega⟩)⟩ (by omega)
  · by_cases c : o = 2 * t + 1
    · exact key (-t - 1) (t + 1 - 0) ⟨t, 0, h0, by omega, .inr (.inr (.inr ⟨by omega, by omega, by omega, by omega⟩))⟩ (by omega)
    · exact key (t + 1 - (o + 1)) (t + 1) ⟨t, o + 1, h0, by omega, .inr (.inr (.inl ⟨by omega, by omega, by omega, by omega⟩))⟩ (by omega)
  · by_cases c : o = 2 * t + 1
    · exact key (0 - (t + 1)) (-(t + 1)) ⟨t + 1, 0, by omega, by omega, .inl ⟨by omega, by omega, by omega, by omega⟩⟩ (by omega)
    · exact key (-t - 1) (t + 1 - (o + 1)) ⟨t, o + 1, h0, by omega, .inr (.inr (.inr ⟨by omega, by omega, by omega, by omega⟩))⟩ (by omega)

theorem On.step {k x y : Int} (h : On k x y) : ∃ x' y', On (k + 1) x' y' := by
  obtain ⟨t, o, h0, h1, h⟩ := h
  have hs := sq_succ t
  rcases h with ⟨hk, h2, hx, hy⟩ | ⟨hk, h2, hx, hy⟩ | ⟨hk, h2, hx, hy⟩ | ⟨hk, h2, hx, hy⟩
  · by_cases c : o = 2 * t
    · exact ⟨t + 1, 0 - t, t, 0, h0, by omega, .inr (.inl ⟨by omega, by omega, by omega, by omega⟩)⟩
    · exact ⟨o + 1 - t, -t, t, o + 1, h0, by omega, .inl ⟨by omega, by omega, by omega, by omega⟩⟩
  · by_cases c : o = 2 * t
    · exact ⟨t + 1 - 0, t + 1, t, 0, h0, by omega, .inr (.inr (.inl ⟨by omega, by omega, by omega, by omega⟩))⟩
    · exact ⟨t + 1, o + 1 - t, t, o + 1, h0, by omega, .inr (.inl ⟨by omega, by omega, by omega, by omega⟩)⟩
  · by_cases c : o = 2 * t + 1
    · exact ⟨-t - 1, t + 1 - 0, t, 0, h0, by omega, .inr (.inr (.inr ⟨by omega, by omega, by omega, by omega⟩))⟩
    · exact ⟨t + 1 - (o + 1), t + 1, t, o + 1, h0, by omega, .inr (.inr (.inl ⟨by omega, by omega, by omega, by omega⟩))⟩
  · by_cases c : o = 2 * t + 1
    · exact ⟨0 - (t + 1), -(t + 1), t + 1, 0, by omega, by omega, .inl ⟨by omega, by omega, by omega, by omega⟩⟩
    · exact ⟨-t - 1, t + 1 - (o + 1), t, o + 1, h0, by omega, .inr (.inr (.inr ⟨by omega, by omega, by omega, by omega⟩))⟩
theorem On.exists_ : ∀ k : Nat, ∃ x y, On k x y
  | 0 => ⟨0, 0, 0, 0, by omega, by omega, .inl (by simp)⟩
  | k + 1 => by
    obtain ⟨x, y, h⟩ := On.exists_ k
    have := h.step
    simpa using this
/-- The corner at which leg number j begins, and its number. -/
def Corner (j n x y : Int) : Prop := ∃ t, 0 ≤ t ∧
  ((j = 4 * t ∧ n = 4 * (t * t) + 2 * t ∧ x = -t ∧ y = -t) ∨ (j = 4 * t + 1 ∧ n = 4 * (t * t) + 4 * t + 1 ∧ x = t + 1 ∧ y = -t) ∨
   (j = 4 * t + 2 ∧ n = 4 * (t * t) + 6 * t + 2 ∧ x = t + 1 ∧ y = t + 1) ∨ (j = 4 * t + 3 ∧ n = 4 * (t * t) + 8 * t + 4 ∧ x = -t - 1 ∧ y = t + 1))
theorem Corner.start : Corner 0 0 0 0 := ⟨0, by omega, .inl (by simp)⟩
/-- A way of n steps in direction j (mod 4). -/
def dx (j : Int) : Int := if j % 4 = 0 then 1 else if j % 4 = 2 then -1 else 0
def dy (j : Int) : Int := if j % 4 = 1 then 1 else if j % 4 = 3 then -1 else 0
/-- A whole leg leads to the next corner; a part of one, to the point. -/
theorem Corner.leg {j n x y : Int} (h : Corner j n x y) : Corner (j + 1) (n + (j / 2 + 1)) (x + (j / 2 + 1) * dx j) (y + (j / 2 + 1) * dy j) := by
  obtain ⟨t, h0, h⟩ := h
  have hs := sq_succ t
  unfold dx dy
  rcases h with ⟨rfl, rfl, rfl, rfl⟩ | ⟨rfl, rfl, rfl, rfl⟩ | ⟨rfl, rfl, rfl, rfl⟩ | ⟨rfl, rfl, rfl, rfl⟩
  · rw [if_pos (by omega), if_neg (by omega), if_neg (by omega)]
    exact ⟨t, h0, .inr (.inl ⟨by omega, by omega, by omega, by omega⟩)⟩
  · rw [if_neg (by omega), if_neg (by omega), if_pos (by omega)]
    exact ⟨t, h0, .inr (.inr (.inl ⟨by omega, by omega, by omega, by omega⟩))⟩
  · rw [if_neg (by omega), if_pos (by omega), if_neg (by omega), if_neg (by omega)]
    exact ⟨t, h0, .inr (.inr (.inr ⟨by omega, by omega, by omega, by omega⟩))⟩
  · rw [if_neg (by omega), if_neg (by omega), if_neg (by omega), if_pos (by omega)]
    exact ⟨t + 1, by omega, .inl ⟨by omega, by omega, by omega, by omega⟩⟩
theorem Corner.part {j n x y m : Int} (h : Corner j n x y) (h0 : 0 ≤ m) (h1 : m ≤ j / 2) : On (n + m) (x + m * dx j) (y + m * dy j) := by
  obtain ⟨t, ht, h⟩ := h
  unfold dx dy
  rcases h with ⟨rfl, rfl, rfl, rfl⟩ | ⟨rfl, rfl, rfl, rfl⟩ | ⟨rfl, rfl, rfl, rfl⟩ | ⟨rfl, rfl, rfl, rfl⟩
  · rw [if_pos (by omega), if_neg (by omega), if_neg (by omega)]
    exact ⟨t, m, ht, h0, .inl ⟨by omega, by omega, by omega, by omega⟩⟩
  · rw [if_neg (by omega), if_neg (by omega), if_pos (by omega)]
    exact ⟨t, m, ht, h0, .inr (.inl ⟨by omega, by omega, by omega, by omega⟩)⟩
  · rw [if_neg (by omega), if_pos (by omega), if_neg (by omega), if_neg (by omega)]
    exact ⟨t, m, ht, h0, .inr (.inr (.inl ⟨by omega, by omega, by omega, by omega⟩))⟩
  · rw [if_neg (by omega), if_neg (by omega), if_neg (by omega), if_pos (by omega)]
    exact ⟨t, m, ht, h0, .inr (.inr (.inr ⟨by omega, by omega, by omega, by omega⟩))⟩
theorem Corner.range {j n x y : Int} (h : Corner j n x y) (hn : n ≤ 1099511627776) : 0 ≤ j ∧ j ≤ 4194304 ∧ 0 ≤ n ∧ -1048576 ≤ x ∧ x ≤ 1048576 ∧ -1048576 ≤ y ∧ y ≤ 1048576 := by
  obtain ⟨t, h0, h⟩ := h
  have hp : 0 ≤ t * t := Int.mul_nonneg h0 h0
  have ht : t < 1048575 := by
    rcases Int.lt_or_le t 1048575 with h2 | h2
    · exact h2
    · have := sq_mono (by omega : (0 : Int) ≤ 1048575) h2
      omega
  omega
end Go.Proofs.Ytbgojhjlmlbfpaa.Spi
