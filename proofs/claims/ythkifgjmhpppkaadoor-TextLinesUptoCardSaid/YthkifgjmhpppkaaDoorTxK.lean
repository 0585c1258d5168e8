/- Words: the plain function, and what a piece taken off leaves. -/
import Derived.Test.YthkifgjmhpppkaaDoorTxJ
import Derived.Test.YthkifgjmhpppkaaDoorShelf2
namespace Go.Proofs.YthkifgjmhpppkaaDoor
open Go.RowKit

theorem bareN_valid : ∀ (f : Nat) (l : List UInt8) (i n : Nat), l.length ≤ f → Lib.validD l = true → bareN l i = some n → i ≤ n ∧ n ≤ i + l.length ∧ Lib.validD (l.drop (n - i)) = true
  | f, [], i, n, _, _, h => by
    have : i = n := by simpa [bareN] using h
    subst this
    exact ⟨Nat.le_refl _, by simp, by simp [Lib.validD_nil]⟩
  | 0, b :: t, i, n, hf, _, _ => by simp at hf
  | f + 1, b :: t, i, n, hf, hv, h => by
    obtain ⟨c, k, hD⟩ := dec_of (b :: t) (by simp)
    have hw := hD.valid (by simp) hv
    have h1 := hD.one
    have hle := hD.le
    rw [hD.bare] at h
    by_cases hs : stopN c = true
    · rw [if_pos hs] at h
      injection h with h
      subst h
      exact ⟨Nat.le_refl _, by omega, by rw [Nat.sub_self]; exact hv⟩
    · rw [if_neg hs] at h
      by_cases hb : badN c = true
      · rw [if_pos hb] at h
        cases h
      · rw [if_neg hb] at h
        have ih := bareN_valid f _ (i + k) n (by rw [List.length_drop]; omega) hw.2 h
        rw [List.length_drop, List.drop_drop] at ih
        refine ⟨by omega, by omega, ?_⟩
        have : k + (n - (i + k)) = n - i := by omega
        rw [← this]
        exact ih.2.2
theorem quoN_valid : ∀ (f : Nat) (l : List UInt8) (esc : Bool) (acc : List UInt8) (i : Nat) (a : List UInt8) (n : Nat), l.length ≤ f → Lib.validD l = true → quoN esc acc i l = some (a, n) → i + 2 ≤ n ∧ n ≤ i + l.length + 1 ∧ Lib.validD (l.drop (n - i - 1)) = true
  | f, [], esc, acc, i, a, n, _, _, h => by cases esc <;> simp [quoN] at h
  | 0, b :: t, esc, acc, i, a, n, hf, _, _ => by simp at hf
  | f + 1, b :: t, esc, acc, i, a, n, hf, hv, h => by
    obtain ⟨c, k, hD⟩ := dec_of (b :: t) (by simp)
    have hw := hD.valid (by simp) hv
    have h1 := hD.one
    have hle := hD.le
    have step : ∀ esc' acc', quoN esc' acc' (i + k) ((b :: t).drop k) = some (a, n) → i + 2 ≤ n ∧ n ≤ i + (b :: t).length + 1 ∧ Lib.validD ((b :: t).drop (n - i - 1)) = true := fun esc' acc' h' => by
      have ih := quoN_valid f _ esc' acc' (i + k) a n (by rw [List.length_drop]; omega) hw.2 h'
      rw [List.length_drop, List.drop_drop] at ih
      refine ⟨by omega, by omega, ?_⟩
      have : k + (n - (i + k) - 1) = n - i - 1 := by omega
      rw [← this]
      exact ih.2.2
    cases esc with
    | true =>
      rw [hD.quoE] at h
      by_cases hq : c = 34 ∨ c = 92
      · rw [if_pos hq] at h
        exact step _ _ h
      · rw [if_neg hq] at h
        cases h
    | false =>
      rw [hD.quo] at h
      by_cases h92 : c = 92
      · rw [if_pos h92] at h
        exact step _ _ h
      · rw [if_neg h92] at h
        by_cases h34 : c = 34
        · rw [if_pos h34] at h
          injection h with h
          injection h with _ h
          subst h
          have hk := (hD.asc (by omega)).1
          subst hk
          refine ⟨Nat.le_refl _, by omega, ?_⟩
          have : i + 2 - i - 1 = 1 := by omega
          rw [this]
          exact hw.2
        · rw [if_neg h34] at h
          by_cases hp : plainN c = true
          · rw [if_pos hp] at h
            exact step _ _ h
          · rw [if_neg hp] at h
            cases h
/-- One word off the front: it, and how many bytes it takes; 0: none. -/
def wordOne (l : List UInt8) : List UInt8 × Nat := if l.head? = some 34 then (match quoN false [] 0 (l.drop 1) with
    | none => ([], 0)
    | some x => x) else match bareN l 0 with
    | none => ([], 0)
    | some n => (l.take n, n)
theorem wordOne_valid (l : List UInt8) (hv : Lib.validD l = true) : (wordOne l).2 ≤ l.length ∧ ((wordOne l).2 ≠ 0 → Lib.validD (l.drop (wordOne l).2) = true) := by
  unfold wordOne
  by_cases h : l.head? = some 34
  · rw [if_pos h]
    cases l with
    | nil => simp at h
    | cons b t =>
      have hb : b = 34 := by simpa using h
      have hvt : Lib.validD t = true := by
        rw [← Lib.validD_cons b t (by rw [hb]; decide)]
        exact hv
      have hd : (b :: t).drop 1 = t := rfl
      rw [hd]
      cases hq : quoN false [] 0 t with
      | none => exact ⟨Nat.zero_le _, fun h => absurd rfl h⟩
      | some x =>
        obtain ⟨a, n⟩ := x
        have := quoN_valid _ t false [] 0 a n (Nat.le_refl _) hvt hq
        refine ⟨by show n ≤ _; simp; omega, fun _ => ?_⟩
        show Lib.validD ((b :: t).drop n) = true
        obtain ⟨m, rfl⟩ : ∃ m, n = m + 1 := ⟨n - 1, by omega⟩
        have e : m + 1 - 0 - 1 = m := by omega
        rw [e] at this
        exact this.2.2
  · rw [if_neg h]
    cases hq : bareN l 0 with
    | none => exact ⟨Nat.zero_le _, fun h => absurd rfl h⟩
    | some n =>
      have := bareN_valid _ l 0 n (Nat.le_refl _) hv hq
      rw [Nat.sub_zero] at this
      exact ⟨by show n ≤ _; omega, fun _ => this.2.2⟩
def trimB (l : List UInt8) : List UInt8 := Lib.trimLeftS l [32, 9]
theorem trimB_nil : trimB [] = [] := rfl
theorem trimB_cons (b : UInt8) (t : List UInt8) : trimB (b :: t) = if b = 32 ∨ b = 9 then trimB t else b :: t := by
  unfold trimB Lib.trimLeftS
  rw [List.dropWhile_cons]
  by_cases h : b = 32 ∨ b = 9
  · rw [if_pos h, if_pos (by simpa using h)]
  · rw [if_neg h, if_neg (by simpa using h)]
theorem trimB_valid : ∀ l : List UInt8, Lib.validD l = true → Lib.validD (trimB l) = true
  | [], h => h
  | b :: t, h => by
    rw [trimB_cons]
    by_cases hb : b = 32 ∨ b = 9
    · rw [if_pos hb]
      refine trimB_valid t ?_
      rw [← Lib.validD_cons b t (by rcases hb with h | h <;> rw [h] <;> decide)]
      exact h
    · rw [if_neg hb]
      exact h
theorem trimB_len : ∀ l : List UInt8, (trimB l).length ≤ l.length
  | [] => Nat.le_refl _
  | b :: t => by
    rw [trimB_cons]
    by_cases hb : b = 32 ∨ b = 9
    · rw [if_pos hb]
      have := trimB_len t
      simp
      omega
    · rw [if_neg hb]
      exact Nat.le_refl _
def blankHead (l : List UInt8) : Bool := match l with
  | [] => true
  | b :: _ => b == 32 || b == 9
def wordsG : Nat → List UInt8 → List (List UInt8) → Option (List (List UInt8))
  | 0, _, _ => none
  | f + 1, l, out => if l = [] then some out else if (wordOne l).2 = 0 ∨ out.length = 16 then none
    else if blankHead (l.drop (wordOne l).2) = true then wordsG f (trimB (l.drop (wordOne l).2)) (out ++ [(wordOne l).1]) else none
def wordsP (l : List UInt8) : Option (List (List UInt8)) := if 1024 < l.length ∨ Lib.validD l = false then none else wordsG (l.length + 1) (trimB l) []
end Go.Proofs.YthkifgjmhpppkaaDoor
