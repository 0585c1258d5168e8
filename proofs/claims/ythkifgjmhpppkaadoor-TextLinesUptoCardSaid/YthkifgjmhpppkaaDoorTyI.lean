/- The document's Good and Check, plain. -/
import Derived.Test.YthkifgjmhpppkaaDoorTyH
import Derived.Test.YthkifgjmhpppkaaDoorTxN
namespace Go.Proofs.YthkifgjmhpppkaaDoor
open Go.RowKit Go.Proofs.YthkifgjmhpppkaaDoorW.PrintWords Go.Proofs.YthkifgjmhpppkaaDoor.PTextAmounts Go.Proofs.YthkifgjmhpppkaaDoor.PTextLines

theorem point_fuel (s : ByteArray) (i : Nat) (hi : i < s.size) (hs : s.size ≤ 4611686018427387904) : ∀ d : Nat, tallyref2_Point.f (10 + d) s (i : Int) = some (pointZ (Utf8.decode s i))
  | 0 => point_any s i hi hs
  | d + 1 => tallyref2_Point.mono s (i : Int) (10 + d) _ (point_fuel s i hi hs d)
theorem good_out (k : Nat) (s : ByteArray) (i : Int) (h : ¬ i < (s.size : Int)) : tallyref2_Good.l0 (k + 1) s i = some true := by
  conv => lhs; unfold tallyref2_Good.l0
  exact if_neg h
theorem good_in (k : Nat) (s : ByteArray) (i : Int) (p : Int × Int) (h : i < (s.size : Int)) (hp : tallyref2_Point.f k s i = some p) : tallyref2_Good.l0 (k + 1) s i = if p.2 = 0 then some false else tallyref2_Good.l0 k s (wrap64 (i + p.2)) := by
  conv => lhs; unfold tallyref2_Good.l0
  rw [if_pos h, hp]
  rfl
theorem good_l0 (s : ByteArray) (hs : s.size ≤ 4611686018427387904) : ∀ (n i : Nat), s.size ≤ i + n → i ≤ s.size → tallyref2_Good.l0 (10 + n + 1) s (i : Int) = some (Lib.validD (s.data.toList.drop i)) := fun n => by
  induction n with
  | zero =>
    intro i h1 h2
    have hl : s.data.toList.length = s.size := rfl
    rw [good_out _ _ _ (by omega), List.drop_eq_nil_of_le (by omega), Lib.validD_nil]
  | succ n ih =>
    intro i h1 h2
    have hl : s.data.toList.length = s.size := rfl
    by_cases hi : i < s.size
    · obtain ⟨c, k, hd, hD, hk⟩ := dec_at s i hi
      have hp := point_fuel s i hi hs (n + 1)
      rw [hd] at hp
      have h3 := good_in (10 + (n + 1)) s (i : Int) _ (by omega) hp
      rw [h3, Lib.validD_step _ (drop_ne hi), hD.eq]
      dsimp only
      have h1k := hD.one
      by_cases hb : c = 65533 ∧ k = 1
      · rw [if_pos hb, show pointZ (c, k) = (0, 0) from if_pos hb, if_pos rfl]
      · rw [if_neg hb, show pointZ (c, k) = ((c : Int), (k : Int)) from if_neg hb, if_neg (show ¬ (k : Int) = 0 by omega), List.drop_drop]
        have hw : wrap64 ((i : Int) + (k : Int)) = ((i + k : Nat) : Int) := by rw [w64n _ ⟨by omega, by omega⟩]; omega
        show tallyref2_Good.l0 (10 + (n + 1)) s (wrap64 ((i : Int) + (k : Int))) = _
        rw [hw]
        exact ih (i + k) (by omega) hk
    · rw [good_out _ _ _ (by omega), List.drop_eq_nil_of_le (by omega), Lib.validD_nil]
theorem good_f (s : ByteArray) (hs : s.size ≤ 4611686018427387904) (n : Nat) (h : s.size ≤ n) : tallyref2_Good.f (10 + n + 1) s = some (Lib.validD s.data.toList) := good_l0 s hs n 0 (by omega) (Nat.zero_le _)
theorem check_out (k : Nat) (s : ByteArray) (i : Int) (h : ¬ i < (s.size : Int)) : tallyref2_Check.l0 (k + 1) s i = some 0 := by
  conv => lhs; unfold tallyref2_Check.l0
  exact if_neg h
set_option maxHeartbeats 8000000 in
theorem check_in (k : Nat) (s : ByteArray) (i : Nat) (h : i < s.size) : tallyref2_Check.l0 (k + 1) s (i : Int) = if nameN (byN s i) = true then tallyref2_Check.l0 k s (wrap64 ((i : Int) + 1)) else some 20 := by
  conv => lhs; unfold tallyref2_Check.l0
  rw [if_pos (by omega), if_pos (by omega), bt_byN s i h]
  generalize tallyref2_Check.l0 k s (wrap64 ((i : Int) + 1)) = X
  generalize byN s i = b
  by_cases hn : nameN b = true
  · rw [if_pos hn]
    simp only [nameN, Bool.or_eq_true, Bool.and_eq_true, decide_eq_true_eq] at hn
    repeat' split
    all_goals first | rfl | (exfalso; omega)
  · rw [if_neg hn]
    simp only [nameN, Bool.or_eq_true, Bool.and_eq_true, decide_eq_true_eq] at hn
    repeat' split
    all_goals first | rfl | (exfalso; omega)
theorem check_l0 (s : ByteArray) (hs : s.size ≤ 4611686018427387904) : ∀ (n i : Nat), s.size ≤ i + n → i ≤ s.size → tallyref2_Check.l0 (n + 1) s (i : Int) = some (if (s.data.toList.drop i).all (fun b => nameN b.toNat) = true then 0 else 20) := fun n => by
  induction n with
  | zero =>
    intro i h1 h2
    have hl : s.data.toList.length = s.size := rfl
    rw [check_out _ _ _ (by omega), List.drop_eq_nil_of_le (by omega)]
    rfl
  | succ n ih =>
    intro i h1 h2
    have hl : s.data.toList.length = s.size := rfl
    by_cases hi : i < s.size
    · have hw : wrap64 ((i : Int) + 1) = ((i + 1 : Nat) : Int) := by rw [w64n _ ⟨by omega, by omega⟩]; omega
      have hb : byN s i = (s.data.toList[i]'(by omega)).toNat := by
        unfold byN
        rw [List.getD_eq_getElem?_getD, List.getElem?_eq_getElem (by omega)]
        rfl
      have hd : s.data.toList.drop i = s.data.toList[i]'(by omega) :: s.data.toList.drop (i + 1) := List.drop_eq_getElem_cons (by omega)
      rw [check_in _ s i hi, hw, ih (i + 1) (by omega) (by omega), hd, List.all_cons, ← hb]
      cases nameN (byN s i)
      · rw [if_neg (by decide), Bool.false_and, if_neg (by decide)]
      · rw [if_pos rfl, Bool.true_and]
    · rw [check_out _ _ _ (by omega), List.drop_eq_nil_of_le (by omega)]
      rfl
theorem check_j0 (k : Nat) (s : ByteArray) (b : Bool) : tallyref2_Check.j0 (k + 1) s b = if b = true then some 20 else tallyref2_Check.l0 k s 0 := by
  conv => lhs; unfold tallyref2_Check.j0
theorem check_f (s : ByteArray) (hs : s.size ≤ 4611686018427387904) : tallyref2_Check.f (10 + s.size + 1 + 1) s = some ((checkN s.data.toList : Nat) : Int) := by
  have hl : s.data.toList.length = s.size := rfl
  unfold tallyref2_Check.f
  by_cases h1 : (s.size : Int) < 1
  · rw [if_pos h1, check_j0, if_pos rfl, checkN_bad (fun h => by omega)]
    rfl
  rw [if_neg h1]
  by_cases h2 : (s.size : Int) > 64
  · rw [if_pos h2, check_j0, if_pos rfl, checkN_bad (fun h => by omega)]
    rfl
  rw [if_neg h2]
  have hg := tallyref2_Good.mono s (10 + s.size + 1) _ (good_f s hs s.size (Nat.le_refl _))
  rw [hg]
  show tallyref2_Check.j0 (10 + s.size + 1 + 1) s (!Lib.validD s.data.toList) = _
  rw [check_j0]
  have hc := check_l0 s hs (10 + s.size) 0 (by omega) (Nat.zero_le _)
  rw [List.drop_zero] at hc
  cases hv : Lib.validD s.data.toList with
  | false =>
    rw [show (!false) = true from rfl, if_pos rfl, checkN_bad (fun h => by rw [hv] at h; exact absurd h.2.2.1 (by decide))]
    rfl
  | true =>
    rw [show (!true) = false from rfl, if_neg (by decide)]
    refine hc.trans ?_
    cases hn : s.data.toList.all (fun b => nameN b.toNat) with
    | false =>
      rw [if_neg (by decide), checkN_bad (fun h => by have := h.2.2.2; unfold nameL at this; rw [hn] at this; cases this)]
      rfl
    | true =>
      rw [if_pos rfl, checkN_good (by omega) (by omega) hv hn]
      rfl
theorem refCheck_any (s : ByteArray) (w : World) (hs : s.size ≤ 1048576) : Calls Tryd.prog 24 #[.string s] w fun e w' => e = .returned (.int .i64 (checkN s.data.toList : Nat)) ∧ ∃ n, w' = w.drewN n := (tallyref2_Check.calls _ s _ w (check_f s (by omega))).mono fun _ _ h => ⟨h.1, h.2.out⟩
end Go.Proofs.YthkifgjmhpppkaaDoor
