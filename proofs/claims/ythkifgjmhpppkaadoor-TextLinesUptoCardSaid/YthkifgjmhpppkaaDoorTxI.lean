/- text.plain, text.bare: the walks. -/
import Derived.Test.YthkifgjmhpppkaaDoorTxP
namespace Go.Proofs.YthkifgjmhpppkaaDoor
open Go.RowKit

set_option maxRecDepth 100000 in
theorem plain_any (c : Nat) (w : World) (hc : c ≤ 1114111) : Calls Tryd.prog 55 #[.int .i32 (c : Int)] w fun e w' => e = .returned (.bool (plainN c)) ∧ w = w' := by
  unfold plainN
  have b0 : (0 : Int) ≤ (c : Int) := by omega
  have b1 : (c : Int) ≤ 1114111 := by omega
  clear hc
  by_cases h1 : 32 ≤ c
  · have q1 : (32 : Int) ≤ (c : Int) := by omega
    have q2 : ((c : Int) == 9) = false := by rw [beq_eq_false_iff_ne]; omega
    by_cases h2 : c = 127
    · have q3 : ((c : Int) != 127) = false := by simp; omega
      have HF := Lib.hid (show ((decide (32 ≤ c) && !decide (c = 127)) || decide (c = 9)) = false from by subst h2; rfl)
      rw [HF.out]
      clear h1 h2
      go_enter Tryd.func55, Tryd.ntmps55
      go_wp2
      go_ret
      exact ⟨rfl, rfl⟩
    · have q3 : ((c : Int) != 127) = true := by simp; omega
      have HF := Lib.hid (show ((decide (32 ≤ c) && !decide (c = 127)) || decide (c = 9)) = true from by rw [decide_eq_true h1, decide_eq_false h2]; rfl)
      rw [HF.out]
      clear h1 h2
      go_enter Tryd.func55, Tryd.ntmps55
      go_wp2
      go_ret
      exact ⟨rfl, rfl⟩
  · have q1 : ¬ (32 : Int) ≤ (c : Int) := by omega
    by_cases h2 : c = 9
    · have q2 : ((c : Int) == 9) = true := by simp; omega
      have HF := Lib.hid (show ((decide (32 ≤ c) && !decide (c = 127)) || decide (c = 9)) = true from by subst h2; rfl)
      rw [HF.out]
      clear h1 h2
      go_enter Tryd.func55, Tryd.ntmps55
      go_wp2
      go_ret
      exact ⟨rfl, rfl⟩
    · have q2 : ((c : Int) == 9) = false := by rw [beq_eq_false_iff_ne]; omega
      have HF := Lib.hid (show ((decide (32 ≤ c) && !decide (c = 127)) || decide (c = 9)) = false from by rw [decide_eq_false h1, decide_eq_false h2]; rfl)
      rw [HF.out]
      clear h1 h2
      go_enter Tryd.func55, Tryd.ntmps55
      go_wp2
      go_ret
      exact ⟨rfl, rfl⟩
theorem plain_yes (c : Nat) (w : World) (hc : c ≤ 1114111) (h : plainN c = true) : Calls Tryd.prog 55 #[.int .i32 (c : Int)] w fun e w' => e = .returned (.bool true) ∧ w = w' := by
  have := plain_any c w hc
  rw [h] at this
  exact this
theorem plain_not (c : Nat) (w : World) (hc : c ≤ 1114111) (h : plainN c = false) : Calls Tryd.prog 55 #[.int .i32 (c : Int)] w fun e w' => e = .returned (.bool false) ∧ w = w' := by
  have := plain_any c w hc
  rw [h] at this
  exact this
/-- What bare answers. -/
def bareS (s : ByteArray) : ByteArray × Nat := match bareN s.data.toList 0 with
  | none => (⟨#[]⟩, 0)
  | some n => (s.extract 0 n, n)
def BareEnd (s : ByteArray) (w : World) (e : Ending) (w' : World) : Prop := e = .returned (.tuple #[.string (bareS s).1, .int .i64 (bareS s).2]) ∧ Below w.heap.size w w'
def BareRel (w : World) (s : ByteArray) (wr : World) : Prop := ∃ pos, wr = w.iter s pos ∧ pos ≤ s.size ∧ bareN s.data.toList 0 = bareN (s.data.toList.drop pos) pos
theorem bareS_none {s : ByteArray} (h : bareN s.data.toList 0 = none) : bareS s = (⟨#[]⟩, 0) := by
  unfold bareS
  rw [h]
theorem bareS_some {s : ByteArray} {n : Nat} (h : bareN s.data.toList 0 = some n) : bareS s = (s.extract 0 n, n) := by
  unfold bareS
  rw [h]
set_option maxRecDepth 100000 in
theorem bare_any (s : ByteArray) (w : World) : Calls Tryd.prog 36 #[.string s] w (BareEnd s w) := by
  go_enter Tryd.func36, Tryd.ntmps36
  go_wp2
  go_loopw [] (fun wr => BareRel w s wr) (fun wr => s.size - wr.iterPos w.heap.size)
  case atStart => exact ⟨0, rfl, Nat.zero_le _, by simp⟩
  case round =>
    obtain ⟨pos, rfl, hle, hall⟩ := hrel
    have HA := Lib.hid hall
    clear hall
    by_cases hp : pos < s.size
    · obtain ⟨c, k, hck, hD, hk⟩ := dec_at s pos hp
      have hnx : ∀ ty, (Instr.next (.pointer (some ⟨w.heap.size, 0, none⟩)) true ty).run Tryd.prog (w.iter s pos) = _ := fun ty => run_next_any w s pos ty hp
      rw [hck] at hnx
      dsimp only at hnx
      have HD := Lib.hid hD
      have hk1 := hD.one
      have hcm := hD.max
      clear hD hck
      have b0 : (0 : Int) ≤ (c : Int) := by omega
      have b1 : (c : Int) ≤ 1114111 := by omega
      have b2 : (pos : Int) ≤ (s.size : Int) := by omega
      have b3 : (0 : Int) ≤ (pos : Int) := by omega
      by_cases hst : stopN c = true
      · have HR := Lib.hid (bareS_some (s := s) (n := pos) (by rw [HA.out, HD.out.bare, if_pos hst]))
        have hst2 : c = 32 ∨ c = 9 := by
          unfold stopN at hst
          simpa using hst
        clear hst
        rcases hst2 with h | h
        · have q1 : ((c : Int) == 32) = true := by simp; omega
          clear h
          go_wp2
          go_ret2
          exact ⟨by rw [HR.out]; rfl, below_iter _ _ _⟩
        · have q1 : ((c : Int) == 32) = false := by rw [beq_eq_false_iff_ne]; omega
          have q2 : ((c : Int) == 9) = true := by simp; omega
          clear h
          go_wp2
          go_ret2
          exact ⟨by rw [HR.out]; rfl, below_iter _ _ _⟩
      · have hns : c ≠ 32 ∧ c ≠ 9 := by
          unfold stopN at hst
          simpa using hst
        have q1 : ((c : Int) == 32) = false := by rw [beq_eq_false_iff_ne]; omega
        have q2 : ((c : Int) == 9) = false := by rw [beq_eq_false_iff_ne]; omega
        clear hns
        by_cases hb : badN c = true
        · have HR := Lib.hid (bareS_none (s := s) (by rw [HA.out, HD.out.bare, if_neg hst, if_pos hb]))
          have hb2 : c = 34 ∨ (c ≠ 34 ∧ c = 92) ∨ (c ≠ 34 ∧ c ≠ 92 ∧ plainN c = false) := by
            unfold badN at hb
            by_cases h1 : c = 34
            · exact .inl h1
            · by_cases h2 : c = 92
              · exact .inr (.inl ⟨h1, h2⟩)
              · rw [decide_eq_false h1, decide_eq_false h2] at hb
                exact .inr (.inr ⟨h1, h2, by simpa using hb⟩)
          clear hb hst
          rcases hb2 with h | ⟨h1, h⟩ | ⟨h1, h2, h3⟩
          · have q3 : ((c : Int) == 34) = true := by simp; omega
            clear h
            go_wp2
            go_ret2
            exact ⟨by rw [HR.out]; rfl, below_iter _ _ _⟩
          · have q3 : ((c : Int) == 34) = false := by rw [beq_eq_false_iff_ne]; omega
            have q4 : ((c : Int) == 92) = true := by simp; omega
            clear h h1
            go_wp2
            go_ret2
            exact ⟨by rw [HR.out]; rfl, below_iter _ _ _⟩
          · have q3 : ((c : Int) == 34) = false := by rw [beq_eq_false_iff_ne]; omega
            have q4 : ((c : Int) == 92) = false := by rw [beq_eq_false_iff_ne]; omega
            clear h1 h2
            have H3 := Lib.hid h3
            clear h3
            go_wp2_with (go_at_call 55; (with_reducible refine (plain_not c _ hcm H3.out).mono ?_); rintro e w1 ⟨rfl, rfl⟩)
            go_ret2
            exact ⟨by rw [HR.out]; rfl, below_iter _ _ _⟩
        · have HR := Lib.hid (show bareN s.data.toList 0 = bareN (s.data.toList.drop (pos + k)) (pos + k) from by rw [HA.out, HD.out.bare, if_neg hst, if_neg hb, List.drop_drop])
          have hb2 : c ≠ 34 ∧ c ≠ 92 ∧ plainN c = true := by
            unfold badN at hb
            refine ⟨fun h => hb ?_, fun h => hb ?_, ?_⟩
            · rw [h]; rfl
            · rw [h]; rfl
            · cases h : plainN c with
              | true => rfl
              | false => exact absurd (by rw [h]; simp) hb
          obtain ⟨h1, h2, h3⟩ := hb2
          have q3 : ((c : Int) == 34) = false := by rw [beq_eq_false_iff_ne]; omega
          have q4 : ((c : Int) == 92) = false := by rw [beq_eq_false_iff_ne]; omega
          clear h1 h2 hb hst
          have H3 := Lib.hid h3
          clear h3
          go_wp2_with (go_at_call 55; (with_reducible refine (plain_yes c _ hcm H3.out).mono ?_); rintro e w1 ⟨rfl, rfl⟩)
          go_roundw
          case rel => exact ⟨pos + k, rfl, hk, HR.out⟩
          case measure =>
            simp
            omega
    · have hnx : ∀ ty, (Instr.next (.pointer (some ⟨w.heap.size, 0, none⟩)) true ty).run Tryd.prog (w.iter s pos) = _ := fun ty => run_next_end w s pos ty hp
      have hpe : pos = s.size := by omega
      have HR := Lib.hid (bareS_some (s := s) (n := s.size) (by rw [HA.out, hpe, List.drop_of_length_le (show s.data.toList.length ≤ s.size from Nat.le_refl _)]; rfl))
      clear hpe
      go_wp2
      go_ret2
      exact ⟨by rw [HR.out, Lib.whole_piece]; rfl, below_iter _ _ _⟩
end Go.Proofs.YthkifgjmhpppkaaDoor
