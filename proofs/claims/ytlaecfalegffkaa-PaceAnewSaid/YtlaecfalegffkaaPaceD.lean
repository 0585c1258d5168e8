/- The law 'bounded' (tallylaw7): a pace from a beginning on, n ticks: the walk over its loop, and the numbers' invariant. -/
import Derived.Test.YtlaecfalegffkaaPaceC
namespace Go.Proofs.Ytlaecfalegffkaa
open Go.RowKit

/-- The numbers of 'bounded' behind i ticks: times, the last gap, the ticks since; the pace's left and gap. -/
def Inv (c n T gap since i l g : Int) : Prop :=
  (i = 0 ∧ T = 0 ∧ gap = 0 ∧ since = 0 ∧ l = 0 ∧ g = 1) ∨
  (1 ≤ i ∧ i ≤ n ∧ 1 ≤ l ∧ 0 ≤ since ∧ l + since ≤ c ∧ g = min (2 * (l + since)) c ∧ 1 ≤ T ∧ T ≤ i ∧ i + c ≤ T * c + 1 + since ∧
    ((gap = 0 ∧ l + since = 1) ∨ (1 ≤ gap ∧ gap ≤ c ∧ l + since = min (2 * gap) c)))

theorem Inv.start (c n : Int) : Inv c n 0 0 0 0 0 1 := .inl ⟨rfl, rfl, rfl, rfl, rfl, rfl⟩
theorem Inv.range {c n T gap since i l g : Int} (h : Inv c n T gap since i l g) (hc : 1 ≤ c) (hc2 : c ≤ 64) (hn : 1 ≤ n) :
    0 ≤ i ∧ i ≤ n ∧ 0 ≤ T ∧ T ≤ i ∧ 0 ≤ since ∧ since ≤ 64 ∧ 0 ≤ gap ∧ gap ≤ 64 ∧ 0 ≤ l ∧ l ≤ 64 ∧ 1 ≤ g ∧ g ≤ 64 := by
  rcases h with ⟨rfl, rfl, rfl, rfl, rfl, rfl⟩ | ⟨h1, h2, h3, h4, h5, h6, h7, h7', h8, h9⟩
  · omega
  · rcases h9 with ⟨rfl, h9⟩ | ⟨h9, h10, h11⟩ <;> omega
theorem Inv.first {c n T gap since i l g : Int} (h : Inv c n T gap since i l g) (hT : T = 0) : i = 0 ∧ gap = 0 ∧ since = 0 ∧ l = 0 ∧ g = 1 := by
  rcases h with ⟨rfl, rfl, rfl, rfl, rfl, rfl⟩ | ⟨h1, h2, h3, h4, h5, h6, h7, h7', h8, h9⟩
  · exact ⟨rfl, rfl, rfl, rfl, rfl⟩
  · omega
/-- A tick that is no time. -/
theorem Inv.not_ {c n T gap since i l g : Int} (h : Inv c n T gap since i l g) (hl : 2 ≤ l) (hi : i < n) : Inv c n T gap (since + 1) (i + 1) (l - 1) g ∧ 1 ≤ i ∧ since + 1 < c := by
  rcases h with ⟨rfl, rfl, rfl, rfl, rfl, rfl⟩ | ⟨h1, h2, h3, h4, h5, h6, h7, h7', h8, h9⟩
  · omega
  · refine ⟨.inr ⟨by omega, by omega, by omega, by omega, by omega, by rw [h6]; congr 2; omega, h7, by omega, by omega, ?_⟩, by omega, by omega⟩
    rcases h9 with h9 | h9
    · left; omega
    · right; refine ⟨h9.1, h9.2.1, by omega⟩
theorem Inv.now0 {c n T gap since i l g : Int} (h : Inv c n T gap since i l g) (hT : T = 0) (hc : 1 ≤ c) (hi : i < n) : Inv c n (T + 1) gap 0 (i + 1) g (min (2 * g) c) := by
  rcases h with ⟨rfl, rfl, rfl, rfl, rfl, rfl⟩ | ⟨h1, h2, h3, h4, h5, h6, h7, h7', h8, h9⟩
  · right; refine ⟨by omega, by omega, by omega, by omega, by omega, by rfl, by omega, by omega, by omega, .inl ⟨rfl, by omega⟩⟩
  · omega
/-- A tick that is a time, not the first one. -/
theorem Inv.now {c n T gap since i l g : Int} (h : Inv c n T gap since i l g) (hl : l ≤ 1) (hT : 1 ≤ T) (hc : 1 ≤ c) (hi : i < n) :
    Inv c n (T + 1) (since + 1) 0 (i + 1) g (min (2 * g) c) ∧ gap ≤ since + 1 ∧ since + 1 ≤ c ∧ (1 ≤ gap → since + 1 ≤ 2 * gap ∧ (since + 1 < c → since + 1 = 2 * gap)) := by
  rcases h with ⟨rfl, rfl, rfl, rfl, rfl, rfl⟩ | ⟨h1, h2, h3, h4, h5, h6, h7, h7', h8, h9⟩
  · omega
  · have hl1 : l = 1 := by omega
    subst hl1
    have hm : (T + 1) * c = T * c + c := by rw [Int.add_mul, Int.one_mul]
    refine ⟨.inr ⟨by omega, by omega, by omega, by omega, by omega, by rw [show g + 0 = g by omega], by omega, by omega, by omega, .inr ⟨by omega, by omega, by omega⟩⟩, ?_, by omega, ?_⟩
    · rcases h9 with h9 | h9 <;> omega
    · intro hg
      rcases h9 with h9 | h9 <;> omega
theorem Inv.done {c n T gap since i l g : Int} (h : Inv c n T gap since i l g) (hi : n ≤ i) (hc : 1 ≤ c) (hn : 1 ≤ n) : n / c ≤ T := by
  rcases h with ⟨rfl, rfl, rfl, rfl, rfl, rfl⟩ | ⟨h1, h2, h3, h4, h5, h6, h7, h7', h8, h9⟩
  · omega
  · have : n ≤ T * c := by omega
    exact Int.ediv_le_of_le_mul (by omega) this

/-- The relation of the loop. -/
def BRel (w : World) (b : Nat) (c n : Int) (t gp sc iv : Value) (wr : World) : Prop :=
  ∃ T gap since i l g : Int, t = .int .i64 T ∧ gp = .int .i64 gap ∧ sc = .int .i64 since ∧ iv = .int .i64 i ∧ Inv c n T gap since i l g ∧ Turned w wr b c l g
def SomeTurned (w w' : World) (b : Nat) (c : Int) : Prop := ∃ l g, Turned w w' b c l g
theorem Turned.trans {w w1 w2 : World} {b : Nat} {c l g c' l' g' : Int} (h : Turned w w1 b c l g) (k : Turned w1 w2 b c' l' g') : Turned w w2 b c' l' g' := by
  refine ⟨k.os.trans h.os, k.tape.trans h.tape, k.output.trans h.output, ?_⟩
  rw [k.heap, h.heap, Array.setIfInBounds_setIfInBounds]

set_option maxRecDepth 100000 in
set_option maxHeartbeats 1000000 in
theorem bounded_ok (b : Nat) (c n : Int) (w : World) (h : PaceAt w b c 0 1) (hc : 1 ≤ c) (hc2 : c ≤ 64) (hn : 1 ≤ n) (hn2 : n ≤ 2000) :
    Calls Try.prog 15 #[.pointer (some ⟨b, 0, none⟩), .int .i64 c, .int .i64 n] w fun e w' => e = .returned (.bool true) ∧ SomeTurned w w' b c := by
  have hb := h.lt
  have hc0 : (c == 0) = false := beq_eq_false_iff_ne.2 (by omega)
  go_enter Try.func15, Try.ntmps15
  go_wp2_with (go_at_call 12; refine (wait_at b c 0 1 _ h).mono ?_; rintro e w1 ⟨rfl, rfl⟩)
  go_loopw [7, 8, 9, 10] (fun t gp sc i wr => BRel w b c n t gp sc i wr) (fun _ _ _ i _ => (n - intOf i).toNat)
  case atStart => exact ⟨0, 0, 0, 0, 0, 1, rfl, rfl, rfl, rfl, Inv.start c n, OnlyB.refl h⟩
  case round =>
    obtain ⟨T, gap, since, i, l, g, rfl, rfl, rfl, rfl, hI, hTu⟩ := hrel
    obtain ⟨r1, r2, r3, r4, r5, r6, r7, r8, r9, r10, r11, r12⟩ := hI.range hc hc2 hn
    have hp := hTu.at_ hb
    by_cases hi : i < n
    · by_cases hl : l ≤ 1
      · by_cases hT : T = 0
        · have hI' := hI.now0 hT hc hi
          have ht : ¬ 0 < T := by omega
          clear hT
          go_wp2_with (first | (go_at_call 12; refine (wait_at b c l g _ hp).mono ?_; rintro e w1 ⟨rfl, rfl⟩) | (go_at_call 8; refine (tick_now b c l g _ hp hl r11 r12 hc hc2).mono ?_; rintro e w1 ⟨rfl, ho⟩))
          exact ⟨⟨T + 1, gap, 0, i + 1, g, min (2 * g) c, rfl, rfl, rfl, rfl, hI', hTu.trans ho⟩, by simp [intOf]; omega⟩
        · obtain ⟨hI', k1, k2, k3⟩ := hI.now hl (by omega) hc hi
          have ht : 0 < T := by omega
          have q1 : ¬ since + 1 < gap := by omega
          have q2 : ¬ c < since + 1 := by omega
          clear hT
          by_cases hg0 : 0 < gap
          · obtain ⟨k4, k5⟩ := k3 (by omega)
            clear k3
            have q3 : ¬ 2 * gap < since + 1 := by omega
            by_cases hs : since + 1 < c
            · have q4 : (since + 1 != 2 * gap) = false := by rw [bne_eq_false_iff_eq]; omega
              clear k5
              go_wp2_with (first | (go_at_call 12; refine (wait_at b c l g _ hp).mono ?_; rintro e w1 ⟨rfl, rfl⟩) | (go_at_call 8; refine (tick_now b c l g _ hp hl r11 r12 hc hc2).mono ?_; rintro e w1 ⟨rfl, ho⟩))
              exact ⟨⟨T + 1, since + 1, 0, i + 1, g, min (2 * g) c, rfl, rfl, rfl, rfl, hI', hTu.trans ho⟩, by simp [intOf]; omega⟩
            · clear k5
              go_wp2_with (first | (go_at_call 12; refine (wait_at b c l g _ hp).mono ?_; rintro e w1 ⟨rfl, rfl⟩) | (go_at_call 8; refine (tick_now b c l g _ hp hl r11 r12 hc hc2).mono ?_; rintro e w1 ⟨rfl, ho⟩))
              exact ⟨⟨T + 1, since + 1, 0, i + 1, g, min (2 * g) c, rfl, rfl, rfl, rfl, hI', hTu.trans ho⟩, by simp [intOf]; omega⟩
          · clear k3
            go_wp2_with (first | (go_at_call 12; refine (wait_at b c l g _ hp).mono ?_; rintro e w1 ⟨rfl, rfl⟩) | (go_at_call 8; refine (tick_now b c l g _ hp hl r11 r12 hc hc2).mono ?_; rintro e w1 ⟨rfl, ho⟩))
            exact ⟨⟨T + 1, since + 1, 0, i + 1, g, min (2 * g) c, rfl, rfl, rfl, rfl, hI', hTu.trans ho⟩, by simp [intOf]; omega⟩
      · obtain ⟨hI', hi1, hs⟩ := hI.not_ (by omega) hi
        have hi0 : (i == 0) = false := beq_eq_false_iff_ne.2 (by omega)
        go_wp2_with (first | (go_at_call 12; refine (wait_at b c l g _ hp).mono ?_; rintro e w1 ⟨rfl, rfl⟩) | (go_at_call 8; refine (tick_not b c l g _ hp (by omega) (by omega)).mono ?_; rintro e w1 ⟨rfl, ho⟩; have hp1 := ho.at_ (PaceAt.lt hp)) | (go_at_call 12; refine (wait_at b c (l - 1) g _ hp1).mono ?_; rintro e w1 ⟨rfl, rfl⟩))
        exact ⟨⟨T, gap, since + 1, i + 1, l - 1, g, rfl, rfl, rfl, rfl, hI', hTu.trans ho⟩, by simp [intOf]; omega⟩
    · have hd := hI.done (by omega) hc hn
      go_wp2
      go_ret
      exact ⟨rfl, l, g, hTu⟩
end Go.Proofs.Ytlaecfalegffkaa
