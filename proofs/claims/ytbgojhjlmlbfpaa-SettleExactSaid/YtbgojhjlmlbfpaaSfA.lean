/- The document's pace (tallyref7), plain: the row of its times, Times, and how it goes beside the program's pace (cut out of PaceG, PaceH). -/
import Derived.Test.YtbgojhjlmlbfpaaPacC
namespace Go.Proofs.Ytbgojhjlmlbfpaa
open Go.RowKit

/-- Behind n ticks: how many times there were, when the next comes, the gap behind that. -/
def timesS (c : Int) : Nat → Int × Int × Int
  | 0 => (0, 1, 1)
  | n + 1 => if (timesS c n).2.1 ≤ (n : Int) + 1 then ((timesS c n).1 + 1, (timesS c n).2.1 + (timesS c n).2.2, min (2 * (timesS c n).2.2) c) else timesS c n
def sK (c : Int) (n : Nat) : Int := (timesS c n).1
def sA (c : Int) (n : Nat) : Int := (timesS c n).2.1
def sG (c : Int) (n : Nat) : Int := (timesS c n).2.2
theorem s_zero (c : Int) : sK c 0 = 0 ∧ sA c 0 = 1 ∧ sG c 0 = 1 := ⟨rfl, rfl, rfl⟩
theorem s_succ (c : Int) (n : Nat) : (sA c n ≤ (n : Int) + 1 → sK c (n + 1) = sK c n + 1 ∧ sA c (n + 1) = sA c n + sG c n ∧ sG c (n + 1) = min (2 * sG c n) c) ∧
    (¬ sA c n ≤ (n : Int) + 1 → sK c (n + 1) = sK c n ∧ sA c (n + 1) = sA c n ∧ sG c (n + 1) = sG c n) := by
  unfold sA sK sG
  refine ⟨fun h => ?_, fun h => ?_⟩
  · rw [timesS, if_pos h]; exact ⟨rfl, rfl, rfl⟩
  · rw [timesS, if_neg h]; exact ⟨rfl, rfl, rfl⟩
theorem s_range (c : Int) (hc : 1 ≤ c) : ∀ n : Nat, (n : Int) < sA c n ∧ sA c n ≤ n + c ∧ 1 ≤ sG c n ∧ sG c n ≤ c ∧ 0 ≤ sK c n ∧ sK c n ≤ n
  | 0 => by have := s_zero c; omega
  | n + 1 => by
    have ih := s_range c hc n
    have hs := s_succ c n
    by_cases h : sA c n ≤ (n : Int) + 1
    · obtain ⟨h1, h2, h3⟩ := hs.1 h
      omega
    · obtain ⟨h1, h2, h3⟩ := hs.2 h
      omega
/-- Till the next time nothing turns. -/
theorem s_stays (c : Int) (m : Nat) : ∀ j : Nat, m ≤ j → (j : Int) < sA c m → sK c j = sK c m ∧ sA c j = sA c m ∧ sG c j = sG c m
  | 0, h, _ => by obtain rfl : m = 0 := by omega
                  exact ⟨rfl, rfl, rfl⟩
  | j + 1, h, hl => by
    rcases Nat.lt_or_ge j m with hj | hj
    · obtain rfl : m = j + 1 := by omega
      exact ⟨rfl, rfl, rfl⟩
    · obtain ⟨h1, h2, h3⟩ := s_stays c m j hj (by omega)
      obtain ⟨k1, k2, k3⟩ := (s_succ c j).2 (by omega)
      exact ⟨k1.trans h1, k2.trans h2, k3.trans h3⟩

/-- The loop of Times at its head. -/
def TimesRel (c : Int) (N : Nat) (g a k : Value) : Prop := ∃ m : Nat, m ≤ N ∧ g = .int .i64 (sG c m) ∧ a = .int .i64 (sA c m) ∧ k = .int .i64 (sK c m)
theorem TimesRel.step {c : Int} {N m : Nat} (h : sA c m ≤ N) (hc : 1 ≤ c) (g' : Int) (hg : g' = min (2 * sG c m) c) :
    TimesRel c N (.int .i64 g') (.int .i64 (sA c m + sG c m)) (.int .i64 (sK c m + 1)) ∧ 1 ≤ sG c m := by
  have hr := s_range c hc m
  obtain ⟨j, hj⟩ : ∃ j : Nat, (j : Int) + 1 = sA c m := ⟨(sA c m - 1).toNat, by omega⟩
  obtain ⟨h1, h2, h3⟩ := s_stays c m j (by omega) (by omega)
  obtain ⟨k1, k2, k3⟩ := (s_succ c j).1 (by omega)
  exact ⟨⟨j + 1, by omega, by rw [k3, h3, hg], by rw [k2, h2, h3], by rw [k1, h1]⟩, by omega⟩

theorem times_any (c : Int) (N : Nat) (w : World) (hc : 1 ≤ c) (hc2 : c ≤ 64) (hN : N ≤ 5000) :
    Calls Try.prog 135 #[.int .i64 c, .int .i64 N] w fun e w' => e = .returned (.tuple #[.int .i64 (sK c N), .int .i64 (sA c N)]) ∧ w' = w := by
  go_enter Try.func135, Try.ntmps135
  go_wp2
  go_loop [6, 7, 8] (fun g a k => TimesRel c N g a k) (fun _ a _ => (N + 1 - intOf a).toNat)
  case atStart => exact ⟨0, by omega, rfl, rfl, rfl⟩
  case round =>
    obtain ⟨m, hm, rfl, rfl, rfl⟩ := hrel
    obtain ⟨r1, r2, r3, r4, r5, r6⟩ := s_range c hc m
    by_cases hlt : sA c m ≤ N
    · have H := Lib.hid (fun g' hg => (TimesRel.step hlt hc g' hg).1)
      by_cases hg : c < 2 * sG c m
      · go_wp2
        exact ⟨H.out _ (by omega), by simp [intOf]; omega⟩
      · go_wp2
        exact ⟨H.out _ (by omega), by simp [intOf]; omega⟩
    · obtain ⟨h1, h2, h3⟩ := s_stays c m N hm (by omega)
      have H := Lib.hid (And.intro h1 h2)
      clear h1 h2 h3
      go_wp2
      go_ret2
      exact ⟨by rw [H.out.1, H.out.2]; rfl, rfl⟩

theorem times_int (c N : Int) (n : Nat) (w : World) (e : N = n) (hc : 1 ≤ c) (hc2 : c ≤ 64) (hN : n ≤ 5000) :
    Calls Try.prog 135 #[.int .i64 c, .int .i64 N] w fun e w' => e = .returned (.tuple #[.int .i64 (sK c n), .int .i64 (sA c n)]) ∧ w' = w := by
  subst e
  exact times_any c n w hc hc2 hN
/-- The numbers of the pace against the document's ticks. -/
def Goes (c l g : Int) (n : Nat) : Prop := 1 ≤ c ∧ c ≤ 64 ∧ 0 ≤ l ∧ l ≤ c ∧ 1 ≤ g ∧ g ≤ c ∧ ((n = 0 ∧ l = 0 ∧ g = 1) ∨ (1 ≤ n ∧ l = sA c n - n ∧ g = sG c n))
theorem Goes.start {c : Int} (h : 1 ≤ c) (h2 : c ≤ 64) : Goes c 0 1 0 := ⟨h, h2, by omega, by omega, by omega, by omega, .inl ⟨rfl, rfl, rfl⟩⟩
theorem Goes.tick {c l g : Int} {n : Nat} (h : Goes c l g n) : Goes c (tickL l g) (tickG c l g) (n + 1) ∧ tickB l = decide (sA c n ≤ (n : Int) + 1) := by
  obtain ⟨h1, h2, h3, h4, h5, h6, h7⟩ := h
  have hr := s_range c h1 n
  have hs := s_succ c n
  unfold Goes tickL tickG tickB
  rcases h7 with ⟨rfl, rfl, rfl⟩ | ⟨h7, h8, h9⟩
  · have hz := s_zero c
    obtain ⟨k1, k2, k3⟩ := hs.1 (by omega)
    rw [if_pos (by omega), if_pos (by omega)]
    refine ⟨⟨h1, h2, by omega, by omega, by omega, by omega, .inr ⟨by omega, by omega, by omega⟩⟩, ?_⟩
    rw [decide_eq_true (by omega), decide_eq_true (by omega)]
  · by_cases hl : l ≤ 1
    · obtain ⟨k1, k2, k3⟩ := hs.1 (by omega)
      rw [if_pos hl, if_pos hl]
      refine ⟨⟨h1, h2, by omega, by omega, by omega, by omega, .inr ⟨by omega, by omega, by omega⟩⟩, ?_⟩
      rw [decide_eq_true hl, decide_eq_true (by omega)]
    · obtain ⟨k1, k2, k3⟩ := hs.2 (by omega)
      rw [if_neg hl, if_neg hl]
      refine ⟨⟨h1, h2, by omega, by omega, by omega, by omega, .inr ⟨by omega, by omega, by omega⟩⟩, ?_⟩
      rw [decide_eq_false hl, decide_eq_false (by omega)]
end Go.Proofs.Ytbgojhjlmlbfpaa
