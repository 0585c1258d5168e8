/- tallylaw2.formed (of a text that is formed), TextMoney: the walks. -/
import Derived.Test.YthkifgjmhpppkaaDoorTxU
import Derived.IntWalk
namespace Go.Proofs.YthkifgjmhpppkaaDoor
open Go.RowKit

def FmRel (s : ByteArray) (iv : Value) : Prop := ∃ i : Nat, iv = .int .i64 i ∧ i ≤ s.size
set_option maxRecDepth 100000 in
theorem formed_yes (s : ByteArray) (dot : Nat) (w : World) (hs : s.size ≤ 1048576) (hf : Formed s dot) : Calls Tryd.prog 19 #[.string s] w fun e w' => e = .returned (.bool true) ∧ w = w' := by
  have hsz := hf.size
  have h1 := hf.one
  have hd : dot < s.size := by omega
  have h0 : 0 < s.size := by omega
  have hda := hf.dotAt hd
  obtain ⟨hh1, hh2⟩ := hf.head h0
  have HE := Lib.hid hf.each
  have e3 : (s.size : Int) - 3 = (dot : Int) := by omega
  have q1 : ¬ (dot : Int) < 1 := by omega
  have q2 : (((s[dot]'hd).toNat : Int) != 46) = false := by simp; omega
  have q3 : (((s[0]'h0).toNat : Int) == 39) = false := by rw [beq_eq_false_iff_ne]; omega
  have q5 : (dot : Int) < (s.size : Int) := by omega
  have q6 : (0 : Int) ≤ (dot : Int) := by omega
  have hq4 : ((((s[0]'h0).toNat : Int) == 48) = false) ∨ ((((s[0]'h0).toNat : Int) == 48) = true ∧ ¬ (1 : Int) < (dot : Int)) := by
    by_cases h : (s[0]'h0).toNat = 48
    · have := hh2 h
      exact .inr ⟨by simp; omega, by omega⟩
    · exact .inl (by rw [beq_eq_false_iff_ne]; omega)
  have HSZ := Lib.hid hsz
  have HDA := Lib.hid hda
  clear hf hda hh1 hh2 hsz
  rcases hq4 with q4 | ⟨q4, q7⟩
  all_goals
    go_enter Tryd.func19, Tryd.ntmps19
    go_wp2
    go_loop [4] (fun iv => FmRel s iv) (fun iv => (s.size - intOf iv).toNat)
    case atStart => exact ⟨0, rfl, Nat.zero_le _⟩
    case round =>
      obtain ⟨i, rfl, hi⟩ := hrel
      by_cases hlt : i < s.size
      · have p1 : (i : Int) < (s.size : Int) := by omega
        have p2 : (0 : Int) ≤ (i : Int) := by omega
        have p9 : (i : Int) ≤ 1048576 := by omega
        rcases HE.out i hlt with ⟨⟨m1, m2⟩, m3⟩ | ⟨m1, m2, m3⟩
        · have p3 : (i : Int) < (dot : Int) := by omega
          have p4 : (((dot : Int) - (i : Int)) % 4 == 0) = true := by simp; omega
          have p5 : (((s[i]'hlt).toNat : Int) == 39) = true := by simp; omega
          have p6 : ¬ (48 : Int) ≤ ((s[i]'hlt).toNat : Int) := by omega
          have p7 : ((i : Int) != (dot : Int)) = true := by simp; omega
          clear m1 m2 m3
          go_wp2
          go_round
          case rel => exact ⟨i + 1, by go_num, by omega⟩
          case measure => simp [intOf]; omega
        · have p5 : (((s[i]'hlt).toNat : Int) == 39) = false := by rw [beq_eq_false_iff_ne]; omega
          by_cases hid : i = dot
          · have p3 : ¬ (i : Int) < (dot : Int) := by omega
            have p6 : ¬ (48 : Int) ≤ ((s[i]'hlt).toNat : Int) := by
              have : (s[i]'hlt).toNat = 46 := by
                have h46 := HDA.out
                simp only [← hid] at h46
                exact h46
              omega
            have p7 : ((i : Int) != (dot : Int)) = false := by simp; omega
            clear m1 m2 m3 hid
            go_wp2
            go_round
            case rel => exact ⟨i + 1, by go_num, by omega⟩
            case measure => simp [intOf]; omega
          · have hdg := m3.resolve_left hid
            have p6 : (48 : Int) ≤ ((s[i]'hlt).toNat : Int) := by omega
            have p8 : ((s[i]'hlt).toNat : Int) ≤ 57 := by omega
            have p7 : ((i : Int) != (dot : Int)) = true := by simp; omega
            by_cases hlt2 : i < dot
            · have p3 : (i : Int) < (dot : Int) := by omega
              have p4 : (((dot : Int) - (i : Int)) % 4 == 0) = false := by
                have : (dot - i) % 4 ≠ 0 := fun h => m1 ⟨hlt2, h⟩
                rw [beq_eq_false_iff_ne]
                omega
              clear m1 m2 m3 hid hdg hlt2
              go_wp2
              go_round
              case rel => exact ⟨i + 1, by go_num, by omega⟩
              case measure => simp [intOf]; omega
            · have p3 : ¬ (i : Int) < (dot : Int) := by omega
              clear m1 m2 m3 hid hdg hlt2
              go_wp2
              go_round
              case rel => exact ⟨i + 1, by go_num, by omega⟩
              case measure => simp [intOf]; omega
      · have p1 : ¬ (i : Int) < (s.size : Int) := by omega
        go_wp2
        go_ret
        exact ⟨rfl, rfl⟩
theorem refMB_len : ∀ (f W : Nat) (L : List UInt8), (refMB f W L).length ≤ 4 * f + L.length := fun f => by
  induction f with
  | zero => intro W L; exact Nat.le_of_eq (by rw [refMB]; omega)
  | succ f ih =>
    intro W L
    rw [refMB]
    split
    · have := ih (W / 1000) (39 :: dU (W % 1000 / 100) :: dU (W / 10 % 10) :: dU (W % 10) :: L)
      simp only [List.length_cons] at this
      omega
    · split
      · simp only [List.length_cons]; omega
      · split
        · simp only [List.length_cons]; omega
        · simp only [List.length_cons]; omega
theorem money_size (n : Nat) (hn : n < 18446744073709551616) : (moneyS n).size ≤ 1000 := by
  have h1 := (formed_money n hn).size
  have h2 : (moneyW n).length ≤ 4 * 7 + 0 := refMB_len 7 (n / 100) []
  omega
/-- Amount of what Money writes. -/
theorem amt_of_money (z : Int) (h0 : 0 ≤ z) (h1 : z < 18446744073709551616) (W : World) (hT : Tabs W) : Calls Tryd.prog 10 #[.string (moneyS z.toNat)] W fun e w' => (e = .returned (.tuple #[.int .u64 (if 9007199254740992 < z then 0 else z), .int .i64 (if 9007199254740992 < z then 22 else 0)]) ∧ Below W.heap.size W w') := by
  have hz := money_size z.toNat (by omega)
  have := amount_any (moneyS z.toNat) W hT (by omega)
  rw [amt_money z.toNat (by omega)] at this
  by_cases h : 9007199254740992 < z
  · rw [if_pos (by omega)] at this
    rw [if_pos h, if_pos h]
    exact this
  · rw [if_neg (by omega)] at this
    rw [if_neg h, if_neg h]
    dsimp only at this
    rw [Int.toNat_of_nonneg h0] at this
    exact this
theorem str_ne {a b : ByteArray} (h : a ≠ b) : (a.toList == b.toList) = false := by
  rw [beq_eq_false_iff_ne]
  exact fun e => h (toList_inj e)
set_option maxRecDepth 100000 in
set_option maxHeartbeats 8000000 in
theorem textMoney_walk (A0 A1 : Option Addr) (c0 c1 : Nat) (L : List ByteArray) (N : List Int) (w : World) (hT : Tabs w) (hL : RS w A0 L) (hN : RI .u64 w A1 N) (hLs : ∀ s ∈ L, s.size ≤ 1048576) (hNs : ∀ n ∈ N, 0 ≤ n ∧ n < 18446744073709551616) (hl0 : L.length ≤ 1048576) (hl1 : N.length ≤ 1048576) :
    Calls Tryd.prog 5 #[.agg #[.slice A0 L.length c0, .slice A1 N.length c1]] w (Begun w) := by
  have HLS := Lib.hid hLs
  have HNS := Lib.hid hNs
  clear hLs hNs
  go_enter Tryd.func5, Tryd.ntmps5
  go_wp2
  have hb0 : BelW w (w.alloc (.cells #[.slice A0 L.length c0, .slice A1 N.length c1] 25)) := (Below.refl _ _).alloc (Nat.le_refl _) _
  have hT0 : ∀ n, Tabs ((w.alloc (.cells #[.slice A0 L.length c0, .slice A1 N.length c1] 25)).drewN n) := fun n => hT.below (Below.trans hb0 ((belowD _ n).mono (Below.size hb0)))
  have HB0 := Lib.hid hb0
  clear hb0
  go_quiet (fail)
  go_wp2_with (go_at_call 9; (with_reducible refine (begun_any _ (hT0 _)).mono ?_); rintro e w1 ⟨rfl, hb1⟩)
  have hbw : BelW w w1 := Below.trans HB0.out (((belowD _ _).trans hb1).mono (Below.size HB0.out))
  clear hb1 hT0
  go_loopw [5] (fun iv wr => CntRel w N.length iv wr) (fun iv _ => (N.length - intOf iv).toNat)
  case atStart => exact ⟨0, rfl, Nat.zero_le _, hbw⟩
  case round =>
    obtain ⟨i, rfl, hi, hbr⟩ := hrel
    by_cases hlt : i < N.length
    · obtain ⟨ad, hA1, hc⟩ := hN.cell_at hlt
      have hc1 := cellKeep hbr hc
      obtain ⟨z, hz⟩ : ∃ z, N[i] = z := ⟨_, rfl⟩
      have hzz : 0 ≤ z ∧ z < 18446744073709551616 := hz ▸ HNS.out _ (List.getElem_mem hlt)
      rw [hz] at hc hc1
      have q1 : (i : Int) < (N.length : Int) := by omega
      have q2 : (0 : Int) ≤ (i : Int) := by omega
      have hfm := formed_money z.toNat (by omega)
      have hsz := money_size z.toNat (by omega)
      have hinj : ∀ y : Int, 0 ≤ y → y < 18446744073709551616 → z ≠ y → ((moneyS z.toNat).toList == (moneyS y.toNat).toList) = false := fun y h0 h1 hne => str_ne (fun e => hne (by have := money_inj _ _ (by omega) (by omega) e; omega))
      have hA := fun W (hb : BelW w W) => amt_of_money z hzz.1 hzz.2 W (hT.below hb)
      have hM := fun W => money_int z hzz.1 hzz.2 W
      obtain ⟨r, hr⟩ : ∃ r, moneyS z.toNat = r := ⟨_, rfl⟩
      rw [hr] at hfm hsz hinj
      simp only [hr] at hA hM
      have hF : ∀ W, Calls Tryd.prog 19 #[.string r] W fun e w' => e = .returned (.bool true) ∧ W = w' := fun W => formed_yes r _ W (by omega) hfm
      obtain ⟨a1, ha1⟩ : ∃ a1, (if 9007199254740992 < z then 0 else z) = a1 := ⟨_, rfl⟩
      obtain ⟨a2, ha2⟩ : ∃ a2, (if 9007199254740992 < z then (22 : Int) else 0) = a2 := ⟨_, rfl⟩
      rw [ha1, ha2] at hA
      have hcs : ((¬ (9007199254740992 : Int) < z ∧ z ≤ 9007199254740992) ∧ (a2 != 0) = false ∧ (a1 != z) = false) ∨ ((9007199254740992 : Int) < z ∧ ¬ z ≤ 9007199254740992 ∧ (a2 != 22) = false) := by
        by_cases h : 9007199254740992 < z
        · rw [if_pos h] at ha2
          exact .inr ⟨h, by omega, by rw [← ha2]; rfl⟩
        · rw [if_neg h] at ha1 ha2
          exact .inl ⟨⟨h, by omega⟩, by rw [← ha2]; rfl, by rw [ha1]; simp⟩
      have HA := Lib.hid hA
      have HM := Lib.hid hM
      have HF := Lib.hid hF
      have HJ := Lib.hid hinj
      have HZ := Lib.hid hzz
      clear hz hr hA hM hF ha1 ha2 hinj hzz hfm hsz hc
      obtain rfl := hA1
      rcases hcs with ⟨⟨k1, k2⟩, k3, k4⟩ | ⟨k1, k2, k3⟩
      all_goals
        go_wp2_with (first | (go_at_call 13; (with_reducible refine (HM.out _).mono ?_); rintro e w2 ⟨rfl, hb2⟩; have hbr2 := belowKeep hbr hb2; have hc2 := cellKeep hb2 hc1; clear hb2) | (go_at_call 10; (with_reducible refine (HA.out _ hbr2).mono ?_); rintro e w3 ⟨rfl, hb3⟩; have hbr3 := belowKeep hbr2 hb3; have hc3 := cellKeep hb3 hc2; clear hb3) | (go_at_call 12; (with_reducible refine (num_any _ _).mono ?_); rintro e w4 ⟨rfl, hb4⟩; have hbr3 := belowKeep hbr3 hb4; have hc3 := cellKeep hb4 hc3; clear hb4) | (go_at_call 19; (with_reducible refine (HF.out _).mono ?_); rintro e w5 ⟨rfl, rfl⟩))
        by_cases hi0 : i = 0
        · have g0 : decide (0 < i) = false := decide_eq_false (by omega)
          go_quiet (fail)
          go_wp2_with fail
          go_roundw
          case rel => exact ⟨i + 1, by go_num, by omega, Below.trans hbr3 ((belowD _ _).mono (Below.size hbr3))⟩
          case measure => simp [intOf]; omega
        · have hlt1 : i - 1 < N.length := by omega
          obtain ⟨ad', hA2, hc'⟩ := hN.cell_at hlt1
          obtain rfl : ad = ad' := by injection hA2
          obtain ⟨y, hy⟩ : ∃ y, N[i - 1] = y := ⟨_, rfl⟩
          have hyy : 0 ≤ y ∧ y < 18446744073709551616 := hy ▸ HNS.out _ (List.getElem_mem hlt1)
          rw [hy] at hc'
          have hc4 := cellKeep hbr3 hc'
          have g0 : decide (0 < i) = true := decide_eq_true (by omega)
          have g1 : ((i : Int) - 1).toNat = i - 1 := by omega
          have g2 : (1 : Int) ≤ (i : Int) := by omega
          have g3 : (i : Int) - 1 < (N.length : Int) := by omega
          have g5 : (0 : Int) ≤ (i : Int) - 1 := by omega
          by_cases hzy : z = y
          · have g4 : (z != y) = false := by rw [hzy]; simp
            clear hy hyy hc' hA2 hi0 hzy
            go_quiet (fail)
            go_wp2_with fail
            go_roundw
            case rel => exact ⟨i + 1, by go_num, by omega, Below.trans hbr3 ((belowD _ _).mono (Below.size hbr3))⟩
            case measure => simp [intOf]; omega
          · have g4 : (z != y) = true := by rw [bne_iff_ne]; exact hzy
            have hj := HJ.out y hyy.1 hyy.2 hzy
            have hMy := fun W => money_int y hyy.1 hyy.2 W
            obtain ⟨ry, hry⟩ : ∃ ry, moneyS y.toNat = ry := ⟨_, rfl⟩
            rw [hry] at hj
            simp only [hry] at hMy
            have HMY := Lib.hid hMy
            clear hy hyy hc' hA2 hi0 hzy hry hMy
            have g6 : IntKind.i64.wrap ((i : Int) - 1) = (i : Int) - 1 := IntWalk.i64_in _ (by omega)
            go_region_held3 (fun w' => w'.cell? (ad.add i) = some (.int .u64 z) ∧ w'.cell? (ad.add (i - 1)) = some (.int .u64 y) ∧ BelW w w')
              (first | (go_split_ands; refine ⟨?_, ?_, ?_⟩ <;> first | assumption | (refine cellKeep hb6 ?_; assumption) | (refine belowKeep ?_ hb6; assumption)) | (refine ⟨?_, ?_, ?_⟩ <;> first | exact BelW.drew hbr3 | assumption | go_keep))
              (first | (go_at_call 13; (with_reducible refine (HMY.out _).mono ?_); rintro e w6 ⟨rfl, hb6⟩))
            clear g6
            go_wp2_with fail
            go_roundw
            case rel => go_split_ands; exact ⟨i + 1, by go_num, by omega, ‹BelW w _›⟩
            case measure => simp [intOf]; omega
    · have q1 : ¬ (i : Int) < (N.length : Int) := by omega
      go_wp2_with fail
      go_loopw [9] (fun iv wr => CntRel w L.length iv wr) (fun iv _ => (L.length - intOf iv).toNat)
      case atStart => exact ⟨0, rfl, Nat.zero_le _, hbr⟩
      case round =>
        obtain ⟨j, rfl, hj, hbj⟩ := hrel
        by_cases hlt : j < L.length
        · obtain ⟨ad, rfl, hc⟩ := hL.cell_at hlt
          have hc1 := cellKeep hbj hc
          obtain ⟨s, hs⟩ : ∃ s, L[j] = s := ⟨_, rfl⟩
          have hsz : s.size ≤ 1048576 := hs ▸ HLS.out _ (List.getElem_mem hlt)
          rw [hs] at hc hc1
          obtain ⟨n1, hn1⟩ : ∃ n1, (amtP s).1 = n1 := ⟨_, rfl⟩
          obtain ⟨n2, hn2⟩ : ∃ n2, (amtP s).2 = n2 := ⟨_, rfl⟩
          have hA : ∀ W, BelW w W → Calls Tryd.prog 10 #[.string s] W fun e w' => e = .returned (.tuple #[.int .u64 n1, .int .i64 n2]) ∧ Below W.heap.size W w' := fun W hW => by
            have := amount_any s W (hT.below hW) hsz
            rw [hn1, hn2] at this
            exact this
          have hok := amt_ok s
          rw [hn1, hn2] at hok
          have HA := Lib.hid hA
          have q1 : (j : Int) < (L.length : Int) := by omega
          clear hs hn1 hn2 hA hc hsz
          rcases hok with ⟨h2, h1⟩ | ⟨h1, h2⟩
          · have hA2 : ∀ W, BelW w W → Calls Tryd.prog 10 #[.string (moneyS n1)] W fun e w' => e = .returned (.tuple #[.int .u64 (n1 : Int), .int .i64 0]) ∧ Below W.heap.size W w' := fun W hW => by
              have := amt_of_money (n1 : Int) (by omega) (by omega) W (hT.below hW)
              rw [if_neg (by omega), if_neg (by omega), Int.toNat_natCast] at this
              exact this
            have hM := fun W => money_any n1 W (by omega)
            have HA2 := Lib.hid hA2
            have HM := Lib.hid hM
            have q2 : (((n2 : Nat) : Int) != 0) = false := by simp; omega
            have q3 : ¬ (9007199254740992 : Int) < (n1 : Int) := by omega
            clear hA2 hM h2 h1
            go_wp2_with (first | (go_at_call 10; (with_reducible refine (HA.out _ hbj).mono ?_); rintro e w2 ⟨rfl, hb2⟩; have hbr2 := belowKeep hbj hb2; have hc2 := cellKeep hb2 hc1; clear hb2) | (go_at_call 12; (with_reducible refine (num_any _ _).mono ?_); rintro e w3 ⟨rfl, hb3⟩; have hbr2 := belowKeep hbr2 hb3; clear hb3) | (go_at_call 13; (with_reducible refine (HM.out _).mono ?_); rintro e w4 ⟨rfl, hb4⟩; have hbr2 := belowKeep hbr2 hb4; clear hb4) | (go_at_call 10; (with_reducible refine (HA2.out _ hbr2).mono ?_); rintro e w5 ⟨rfl, hb5⟩; have hbr2 := belowKeep hbr2 hb5; clear hb5))
            go_roundw
            case rel => exact ⟨j + 1, by go_num, by omega, hbr2⟩
            case measure => simp [intOf]; omega
          · have q2 : (((n2 : Nat) : Int) != 0) = true := by simp; omega
            have q3 : (((n1 : Nat) : Int) != 0) = false := by simp; omega
            have h3 : ((((n2 : Nat) : Int) != 21) = false) ∨ ((((n2 : Nat) : Int) != 21) = true ∧ (((n2 : Nat) : Int) != 22) = false) := by
              rcases h2 with h | h
              · exact .inl (by simp; omega)
              · exact .inr ⟨by simp; omega, by simp; omega⟩
            clear h1 h2
            rcases h3 with q4 | ⟨q4, q5⟩
            all_goals
              go_wp2_with (first | (go_at_call 10; (with_reducible refine (HA.out _ hbj).mono ?_); rintro e w2 ⟨rfl, hb2⟩; have hbr2 := belowKeep hbj hb2; have hc2 := cellKeep hb2 hc1; clear hb2) | (go_at_call 12; (with_reducible refine (num_any _ _).mono ?_); rintro e w3 ⟨rfl, hb3⟩; have hbr2 := belowKeep hbr2 hb3; clear hb3))
              go_roundw
              case rel => exact ⟨j + 1, by go_num, by omega, hbr2⟩
              case measure => simp [intOf]; omega
        · have q1 : ¬ (j : Int) < (L.length : Int) := by omega
          have hTj : Tabs wr := hT.below hbj
          go_wp2_with (go_at_call 9; (with_reducible refine (begun_any _ hTj).mono ?_); rintro e w9 ⟨rfl, hb9⟩)
          go_ret
          exact ⟨rfl, belowKeep hbj hb9⟩
end Go.Proofs.YthkifgjmhpppkaaDoor
