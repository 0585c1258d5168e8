/- The document's pace (tallyref7): the row of its times as a function of the ticks, its methods' contracts, and how it goes beside the program's pace. -/
import Derived.Test.YtlaecfalegffkaaPaceC
import Derived.Deep.QuietTactic
import Derived.BigQuiet
import Derived.Deep.RegionHeld3
namespace Go.Proofs.Ytlaecfalegffkaa
open Go.RowKit

/-- Behind n ticks: how many times there were, when the next comes, the gap behind that. -/
def timesS (c : Int) : Nat → Int × Int × Int
  | 0 => (0, 1, 1)
  | n + 1 => if (timesS c n).2.1 ≤ (n : Int) + 1 then ((timesS c n).1 + 1, (timesS c n).2.1 + (timesS c n).2.2, min (2 * (timesS c n).2.2) c) else timesS c n
def sK (c : Int) (n : Nat) : Int := (timesS c n).1
def sA (c : Int) (n : Nat) : Int := (timesS c n).2.1
def sG (c : Int) (n : Nat) : Int := (timesS c n).2.2
theorem s_zero (c : Int) : sK c 0 = 0 ∧ sA c 0 = 1 ∧ sG c 0 = 1 := ⟨rfl, rfl, rfl⟩
theorem s_succ (c : Int) (n : Nat) : (sA c n ≤ (n : Int) + 1 → sK c (n + 1) = sK c n + 1 ∧ sA c (n + 1) = sA c n + sG c n ∧ sG c (n + 1) = min (2 * sG c n) c) ∧
    (¬ sA c n ≤ (n : Int) + 1 → sK c (n + 1) = sK c n ∧ sA c (n + 1) = sA c n ∧ sG c (n + 1) = sG c n) := by
  unfold sA sK sG
  refine ⟨fun h => ?_, fun h => ?_⟩
  · rw [timesS, if_pos h]; exact ⟨rfl, rfl, rfl⟩
  · rw [timesS, if_neg h]; exact ⟨rfl, rfl, rfl⟩
theorem s_range (c : Int) (hc : 1 ≤ c) : ∀ n : Nat, (n : Int) < sA c n ∧ sA c n ≤ n + c ∧ 1 ≤ sG c n ∧ sG c n ≤ c ∧ 0 ≤ sK c n ∧ sK c n ≤ n
  | 0 => by have := s_zero c; omega
  | n + 1 => by
    have ih := s_range c hc n
    have hs := s_succ c n
    by_cases h : sA c n ≤ (n : Int) + 1
    · obtain ⟨h1, h2, h3⟩ := hs.1 h
      omega
    · obtain ⟨h1, h2, h3⟩ := hs.2 h
      omega
/-- Till the next time nothing turns. -/
theorem s_stays (c : Int) (m : Nat) : ∀ j : Nat, m ≤ j → (j : Int) < sA c m → sK c j = sK c m ∧ sA c j = sA c m ∧ sG c j = sG c m
  | 0, h, _ => by obtain rfl : m = 0 := by omega
                  exact ⟨rfl, rfl, rfl⟩
  | j + 1, h, hl => by
    rcases Nat.lt_or_ge j m with hj | hj
    · obtain rfl : m = j + 1 := by omega
      exact ⟨rfl, rfl, rfl⟩
    · obtain ⟨h1, h2, h3⟩ := s_stays c m j hj (by omega)
      obtain ⟨k1, k2, k3⟩ := (s_succ c j).2 (by omega)
      exact ⟨k1.trans h1, k2.trans h2, k3.trans h3⟩

/-- The loop of Times at its head. -/
def TimesRel (c : Int) (N : Nat) (g a k : Value) : Prop := ∃ m : Nat, m ≤ N ∧ g = .int .i64 (sG c m) ∧ a = .int .i64 (sA c m) ∧ k = .int .i64 (sK c m)
theorem TimesRel.step {c : Int} {N m : Nat} (h : sA c m ≤ N) (hc : 1 ≤ c) (g' : Int) (hg : g' = min (2 * sG c m) c) :
    TimesRel c N (.int .i64 g') (.int .i64 (sA c m + sG c m)) (.int .i64 (sK c m + 1)) ∧ 1 ≤ sG c m := by
  have hr := s_range c hc m
  obtain ⟨j, hj⟩ : ∃ j : Nat, (j : Int) + 1 = sA c m := ⟨(sA c m - 1).toNat, by omega⟩
  obtain ⟨h1, h2, h3⟩ := s_stays c m j (by omega) (by omega)
  obtain ⟨k1, k2, k3⟩ := (s_succ c j).1 (by omega)
  exact ⟨⟨j + 1, by omega, by rw [k3, h3, hg], by rw [k2, h2, h3], by rw [k1, h1]⟩, by omega⟩

theorem times_any (c : Int) (N : Nat) (w : World) (hc : 1 ≤ c) (hc2 : c ≤ 64) (hN : N ≤ 5000) :
    Calls Try.prog 17 #[.int .i64 c, .int .i64 N] w fun e w' => e = .returned (.tuple #[.int .i64 (sK c N), .int .i64 (sA c N)]) ∧ w' = w := by
  go_enter Try.func17, Try.ntmps17
  go_wp2
  go_loop [6, 7, 8] (fun g a k => TimesRel c N g a k) (fun _ a _ => (N + 1 - intOf a).toNat)
  case atStart => exact ⟨0, by omega, rfl, rfl, rfl⟩
  case round =>
    obtain ⟨m, hm, rfl, rfl, rfl⟩ := hrel
    obtain ⟨r1, r2, r3, r4, r5, r6⟩ := s_range c hc m
    by_cases hlt : sA c m ≤ N
    · have H := Lib.hid (fun g' hg => (TimesRel.step hlt hc g' hg).1)
      by_cases hg : c < 2 * sG c m
      · go_wp2
        exact ⟨H.out _ (by omega), by simp [intOf]; omega⟩
      · go_wp2
        exact ⟨H.out _ (by omega), by simp [intOf]; omega⟩
    · obtain ⟨h1, h2, h3⟩ := s_stays c m N hm (by omega)
      have H := Lib.hid (And.intro h1 h2)
      clear h1 h2 h3
      go_wp2
      go_ret2
      exact ⟨by rw [H.out.1, H.out.2]; rfl, rfl⟩

theorem times_int (c N : Int) (n : Nat) (w : World) (e : N = n) (hc : 1 ≤ c) (hc2 : c ≤ 64) (hN : n ≤ 5000) :
    Calls Try.prog 17 #[.int .i64 c, .int .i64 N] w fun e w' => e = .returned (.tuple #[.int .i64 (sK c n), .int .i64 (sA c n)]) ∧ w' = w := by
  subst e
  exact times_any c n w hc hc2 hN
/-- The document's pace with its cap and ticks lies in block b. -/
def refObj (c : Int) (n : Nat) : Obj := .cells #[.int .i64 c, .int .i64 n] 53 (0, 0)
def RefAt (w : World) (b : Nat) (c : Int) (n : Nat) : Prop := w.heap[b]? = some (refObj c n)
def RefTurned (w w' : World) (b : Nat) (c : Int) (n : Nat) : Prop := OnlyB w w' b (refObj c n)
theorem RefAt.lt {w : World} {b : Nat} {c : Int} {n : Nat} (h : RefAt w b c n) : b < w.heap.size := lt_of_obj h

theorem ref_wait (b : Nat) (c : Int) (n : Nat) (w : World) (h : RefAt w b c n) (hc : 1 ≤ c) (hc2 : c ≤ 64) (hn : 1 ≤ n) (hN : n ≤ 5000) :
    Calls Try.prog 13 #[.pointer (some ⟨b, 0, none⟩)] w fun e w' => e = .returned (.int .i64 (sA c n - n)) ∧ ∃ k, w' = w.drewN k := by
  have h0 := cell_of_obj h 0
  have h1 := cell_of_obj h 1
  simp at h0 h1
  obtain ⟨r1, r2, r3, r4, r5, r6⟩ := s_range c hc n
  have hn0 : ((n : Int) == 0) = false := beq_eq_false_iff_ne.2 (by omega)
  clear h
  go_enter Try.func13, Try.ntmps13
  go_wp2
  go_quiet ((go_at_call 17; exact Calls.quiet_of_same (times_any c n _ hc hc2 hN)))
  go_wp2
  go_ret
  exact ⟨rfl, _, rfl⟩
theorem ref_wait0 (b : Nat) (c : Int) (w : World) (h : RefAt w b c 0) :
    Calls Try.prog 13 #[.pointer (some ⟨b, 0, none⟩)] w fun e w' => e = .returned (.int .i64 0) ∧ ∃ k, w' = w.drewN k := by
  have h1 := cell_of_obj h 1
  simp at h1
  clear h
  go_enter Try.func13, Try.ntmps13
  go_wp2
  go_ret
  exact ⟨rfl, 0, rfl⟩
theorem ref_reset (b : Nat) (c : Int) (n : Nat) (w : World) (h : RefAt w b c n) :
    Calls Try.prog 11 #[.pointer (some ⟨b, 0, none⟩)] w fun e w' => e = .returned (.tuple #[]) ∧ RefTurned w w' b c 0 := by
  have h1 := cell_of_obj h 1
  have f1 := free_of_obj h 1
  have o1 := (OnlyB.refl h).set (lt_of_obj h) 1 (.int .i64 0)
  have H1 : Hid (RefTurned w _ b c 0) := Lib.hid o1
  simp at h1
  clear h o1
  go_enter Try.func11, Try.ntmps11
  go_wp2
  go_end0
  exact ⟨rfl, H1.out⟩
theorem ref_turn (w : World) (b : Nat) (c : Int) (n : Nat) (h : RefAt w b c n) (i j : Nat) : RefTurned w ((((w.drewN i).setCell ⟨b, 1, none⟩ (.int .i64 ((n : Int) + 1))).drewN j)) b c (n + 1) :=
  OnlyB.drewN (((OnlyB.refl h).drewN i).set (lt_of_obj h) 1 (.int .i64 ((n : Int) + 1))) j
theorem ref_tick (b : Nat) (c : Int) (n : Nat) (w : World) (h : RefAt w b c n) (hc : 1 ≤ c) (hc2 : c ≤ 64) (hN : n ≤ 4000) :
    Calls Try.prog 9 #[.pointer (some ⟨b, 0, none⟩)] w fun e w' => e = .returned (.bool (decide (sA c n ≤ (n : Int) + 1))) ∧ RefTurned w w' b c (n + 1) := by
  have h0 := cell_of_obj h 0
  have h1 := cell_of_obj h 1
  have f1 := free_of_obj h 1
  have H1 := Lib.hid (fun i j => ref_turn w b c n h i j)
  simp at h0 h1
  have e : decide (sK c n < sK c (n + 1)) = decide (sA c n ≤ (n : Int) + 1) := by
    have := s_succ c n
    by_cases hs : sA c n ≤ (n : Int) + 1
    · have := this.1 hs; rw [decide_eq_true hs]; simp; omega
    · have := this.2 hs; rw [decide_eq_false hs]; simp; omega
  rw [← e]
  clear h e
  go_enter Try.func9, Try.ntmps9
  go_wp2
  go_quiet ((go_at_call 17; exact Calls.quiet_of_same (times_any c n _ hc hc2 (by omega))))
  go_wp2
  go_quiet ((go_at_call 17; exact Calls.quiet_of_same (times_int c _ (n + 1) _ (by omega) hc hc2 (by omega))))
  go_wp2
  go_ret
  exact ⟨rfl, H1.out _ _⟩
end Go.Proofs.Ytlaecfalegffkaa
