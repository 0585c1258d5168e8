/- What Money writes: Amount reads it; its form; no two numbers have one text. -/
import Derived.Test.YthkifgjmhpppkaaDoorTxT
namespace Go.Proofs.YthkifgjmhpppkaaDoor
open Go.RowKit

def dU (x : Nat) : UInt8 := UInt8.ofNat (48 + x)
theorem dU_nat {x : Nat} (h : x < 10) : (dU x).toNat = 48 + x := by
  unfold dU
  rw [UInt8.toNat_ofNat_of_lt']
  show 48 + x < 256
  omega
theorem dU_dig {x : Nat} (h : x < 10) : digB (dU x) = true := by
  unfold digB
  rw [dU_nat h, decide_eq_true (show 48 ≤ 48 + x by omega), decide_eq_true (show 48 + x ≤ 57 by omega)]
  rfl
theorem dig_ne {c : UInt8} (h : digB c = true) : c ≠ 39 ∧ c ≠ 46 := by
  constructor
  · rintro rfl
    revert h
    decide
  · rintro rfl
    revert h
    decide
def refMB : Nat → Nat → List UInt8 → List UInt8
  | 0, _, L => L
  | f + 1, W, L => if 1000 ≤ W then refMB f (W / 1000) (39 :: dU (W % 1000 / 100) :: dU (W / 10 % 10) :: dU (W % 10) :: L)
    else if 100 ≤ W then dU (W / 100) :: dU (W / 10 % 10) :: dU (W % 10) :: L
    else if 10 ≤ W then dU (W / 10) :: dU (W % 10) :: L
    else dU W :: L
def u8L (l : List Int) : List UInt8 := l.map fun n => UInt8.ofNat n.toNat
theorem map_refM : ∀ (f W : Nat) (L : List Int), u8L (refM f W L) = refMB f W (u8L L)
  | 0, _, _ => rfl
  | f + 1, W, L => by
    have e : ∀ x : Nat, UInt8.ofNat (((48 + x : Nat) : Int)).toNat = dU x := fun x => rfl
    rw [refM, refMB]
    split
    · rw [map_refM f]
      rfl
    · split
      · rfl
      · split <;> rfl
theorem refMB_app : ∀ (f W : Nat) (A B : List UInt8), refMB f W (A ++ B) = refMB f W A ++ B
  | 0, _, _, _ => rfl
  | f + 1, W, A, B => by
    have ih := refMB_app f (W / 1000) (39 :: dU (W % 1000 / 100) :: dU (W / 10 % 10) :: dU (W % 10) :: A) B
    simp only [refMB]
    by_cases h1 : 1000 ≤ W
    · rw [if_pos h1, if_pos h1, ← ih]
      simp only [List.cons_append]
    · rw [if_neg h1, if_neg h1]
      by_cases h2 : 100 ≤ W
      · rw [if_pos h2, if_pos h2]
        simp only [List.cons_append]
      · rw [if_neg h2, if_neg h2]
        by_cases h3 : 10 ≤ W
        · rw [if_pos h3, if_pos h3]
          simp only [List.cons_append]
        · rw [if_neg h3, if_neg h3]
          simp only [List.cons_append]
theorem filter_dig {c : UInt8} (h : digB c = true) (t : List UInt8) : (c :: t).filter (fun c => c != 39) = c :: t.filter (fun c => c != 39) := by
  rw [List.filter_cons_of_pos]
  simpa using (dig_ne h).1
theorem valL_cons (c : UInt8) (t : List UInt8) (n : Nat) : valL (c :: t) n = valL t (10 * n + (c.toNat - 48)) := by
  unfold valL
  rw [List.foldl_cons]
set_option maxHeartbeats 2000000 in
/-- The whole: its form and its number. -/
theorem whole_ok : ∀ (f W : Nat) (L : List UInt8), 1 ≤ f → W < 1000 ^ f → okR true L = true → L.length % 4 = 0 →
    ∃ c t, refMB f W L = c :: t ∧ digB c = true ∧ (c = 48 → W = 0 ∧ t = L) ∧ okR true (c :: t) = true ∧ valL ((c :: t).filter (fun c => c != 39)) 0 = valL (L.filter (fun c => c != 39)) W := fun f => by
  induction f with
  | zero => intro _ _ h; omega
  | succ f ih =>
    intro W L _ hW hok hlen
    rw [refMB]
    have big : ∀ (p : List UInt8), p.length ≤ 3 → p.all digB = true → okR true (p ++ L) = true := fun p h1 h2 => by
      have hp : 39 ∉ p := fun hm => (dig_ne (List.all_eq_true.1 h2 _ hm)).1 rfl
      rw [okR_app L hlen hok p hp, decide_eq_true h1, h2]
      rfl
    by_cases h1000 : 1000 ≤ W
    · rw [if_pos h1000]
      have hf : 1 ≤ f := by
        rcases Nat.eq_zero_or_pos f with h0 | h0
        · subst h0; simp at hW; omega
        · exact h0
      have hd1 : digB (dU (W % 1000 / 100)) = true := dU_dig (by omega)
      have hd2 : digB (dU (W / 10 % 10)) = true := dU_dig (by omega)
      have hd3 : digB (dU (W % 10)) = true := dU_dig (by omega)
      have h3 : okR true (dU (W % 1000 / 100) :: dU (W / 10 % 10) :: dU (W % 10) :: L) = true := big [dU (W % 1000 / 100), dU (W / 10 % 10), dU (W % 10)] (by simp) (by simp [hd1, hd2, hd3])
      have h4 : okR true (39 :: dU (W % 1000 / 100) :: dU (W / 10 % 10) :: dU (W % 10) :: L) = true := by
        rw [okR, h3, ok1_39 _ (by simp only [List.length_cons]; omega)]
        rfl
      obtain ⟨c, t, h5, h6, h7, h8, h9⟩ := ih (W / 1000) _ hf (by rw [Nat.pow_succ] at hW; omega) h4 (by simp only [List.length_cons]; omega)
      refine ⟨c, t, h5, h6, fun hc => ?_, h8, ?_⟩
      · have := (h7 hc).1
        omega
      · rw [h9, List.filter_cons_of_neg (by simp), filter_dig hd1, filter_dig hd2, filter_dig hd3, valL_cons, valL_cons, valL_cons, dU_nat (by omega), dU_nat (by omega), dU_nat (by omega)]
        congr 1
        omega
    · rw [if_neg h1000]
      by_cases h100 : 100 ≤ W
      · have hd1 : digB (dU (W / 100)) = true := dU_dig (by omega)
        have hd2 : digB (dU (W / 10 % 10)) = true := dU_dig (by omega)
        have hd3 : digB (dU (W % 10)) = true := dU_dig (by omega)
        rw [if_pos h100]
        refine ⟨_, _, rfl, hd1, fun hc => ?_, big [dU (W / 100), dU (W / 10 % 10), dU (W % 10)] (by simp) (by simp [hd1, hd2, hd3]), ?_⟩
        · have := congrArg UInt8.toNat hc
          rw [dU_nat (by omega)] at this
          have e : (48 : UInt8).toNat = 48 := rfl
          omega
        · rw [filter_dig hd1, filter_dig hd2, filter_dig hd3, valL_cons, valL_cons, valL_cons, dU_nat (by omega), dU_nat (by omega), dU_nat (by omega)]
          congr 1
          omega
      · rw [if_neg h100]
        by_cases h10 : 10 ≤ W
        · have hd1 : digB (dU (W / 10)) = true := dU_dig (by omega)
          have hd3 : digB (dU (W % 10)) = true := dU_dig (by omega)
          rw [if_pos h10]
          refine ⟨_, _, rfl, hd1, fun hc => ?_, big [dU (W / 10), dU (W % 10)] (by simp) (by simp [hd1, hd3]), ?_⟩
          · have := congrArg UInt8.toNat hc
            rw [dU_nat (by omega)] at this
            have e : (48 : UInt8).toNat = 48 := rfl
            omega
          · rw [filter_dig hd1, filter_dig hd3, valL_cons, valL_cons, dU_nat (by omega), dU_nat (by omega)]
            congr 1
            omega
        · have hd3 : digB (dU W) = true := dU_dig (by omega)
          rw [if_neg h10]
          refine ⟨_, _, rfl, hd3, fun hc => ?_, big [dU W] (by simp) (by simp [hd3]), ?_⟩
          · have := congrArg UInt8.toNat hc
            rw [dU_nat (by omega)] at this
            have e : (48 : UInt8).toNat = 48 := rfl
            exact ⟨by omega, rfl⟩
          · rw [filter_dig hd3, valL_cons, dU_nat (by omega)]
            congr 1
            omega
theorem okR_weak (l : List UInt8) (h : okR true l = true) : okR (l.contains 39) l = true := by
  cases hc : l.contains 39 with
  | true => exact h
  | false =>
    rw [okR_false]
    have hn : 39 ∉ l := fun hm => by
      have : l.contains 39 = true := by simpa using hm
      rw [hc] at this
      cases this
    clear hc
    induction l with
    | nil => rfl
    | cons c t ih =>
      rw [okR, Bool.and_eq_true] at h
      rw [List.all_cons, ih h.2 (fun hm => hn (List.mem_cons_of_mem _ hm)), Bool.and_true]
      have h39 : (c == 39) = false := by
        rw [beq_eq_false_iff_ne]
        rintro rfl
        exact hn List.mem_cons_self
      have h1 := h.1
      unfold ok1 at h1
      rw [h39] at h1
      cases hq : ((t.length + 1) % 4 == 0) with
      | true => rw [hq] at h1; simp at h1
      | false => rw [hq] at h1; simpa using h1
theorem okR_46 (l : List UInt8) (h : okR true l = true) : 46 ∉ l := by
  induction l with
  | nil => simp
  | cons c t ih =>
    rw [okR, Bool.and_eq_true] at h
    intro hm
    rcases List.mem_cons.1 hm with hm | hm
    · subst hm
      have h1 := h.1
      unfold ok1 at h1
      have e1 : ((46 : UInt8) == 39) = false := by decide
      have e2 : digB 46 = false := by decide
      rw [e1, e2] at h1
      cases hq : ((t.length + 1) % 4 == 0) <;> rw [hq] at h1 <;> simp at h1
    · exact ih h.2 hm
theorem index_at (c : UInt8) : ∀ (p q : List UInt8), c ∉ p → Lib.index (p ++ c :: q) [c] = (p.length : Int)
  | [], q, _ => by
    show Lib.index (c :: q) [c] = _
    unfold Lib.index
    rw [if_pos (by simp [List.isPrefixOf])]
    rfl
  | b :: p, q, h => by
    have hb : ¬ b = c := fun e => h (by rw [e]; exact List.mem_cons_self)
    have h0 : ([c].isPrefixOf (b :: (p ++ c :: q))) = false := by
      simp [List.isPrefixOf]
      exact fun h => hb h.symm
    have ih := index_at c p q (fun e => h (List.mem_cons_of_mem _ e))
    show Lib.index (b :: (p ++ c :: q)) [c] = _
    unfold Lib.index
    rw [h0, ih]
    have : (((p.length : Nat) : Int) == -1) = false := by rw [beq_eq_false_iff_ne]; omega
    simp [this]
theorem cut_at (p q : List UInt8) (h : 46 ∉ p) : Lib.cut (p ++ 46 :: q) [46] = (p, q, true) := by
  unfold Lib.cut
  rw [index_at 46 p q h, if_pos (by omega), Int.toNat_natCast]
  simp
def moneyW (n : Nat) : List UInt8 := refMB 7 (n / 100) []
theorem money_data (n : Nat) : (moneyS n).data.toList = moneyW n ++ [46, dU (n / 10 % 10), dU (n % 10)] := by
  unfold moneyS moneyW
  rw [strOfNums_data]
  show u8L _ = _
  rw [map_refM, ← refMB_app]
  rfl
theorem money_whole (n : Nat) (hn : n < 18446744073709551616) : ∃ c t, moneyW n = c :: t ∧ digB c = true ∧ (c = 48 → n / 100 = 0 ∧ t = []) ∧ okR true (moneyW n) = true ∧ valL ((moneyW n).filter (fun c => c != 39)) 0 = n / 100 := by
  obtain ⟨c, t, h1, h2, h3, h4, h5⟩ := whole_ok 7 (n / 100) [] (by omega) (by have : (1000 : Nat) ^ 7 = 1000000000000000000000 := by decide
                                                                              omega) rfl rfl
  have e : moneyW n = c :: t := h1
  exact ⟨c, t, e, h2, h3, by rw [e]; exact h4, by rw [e]; exact h5⟩
theorem money_whole_wf (n : Nat) (hn : n < 18446744073709551616) (x y : Nat) (he : n / 100 * 100 + (10 * x + y) = n) : wholeR (moneyW n) (10 * x + y) = if 9007199254740992 < n then (0, 22) else (n, 0) := by
  obtain ⟨c, t, h1, h2, h3, h4, h5⟩ := money_whole n hn
  unfold wholeR
  have hh : headDig (moneyW n) = true := by rw [h1]; exact h2
  have hz : ¬ ((moneyW n).head? = some 48 ∧ moneyW n ≠ [48]) := by
    rintro ⟨h6, h7⟩
    rw [h1] at h6 h7
    injection h6 with h6
    exact h7 (by rw [h6, (h3 h6).2])
  rw [hh, okR_weak _ h4, if_neg (by decide), if_neg hz, refF_val, h5]
  by_cases ho : 9007199254740992 < n
  · rw [if_pos (by omega), if_pos ho]
  · rw [if_neg (by omega), if_neg ho]
    congr 1
    omega
theorem amt_money (n : Nat) (hn : n < 18446744073709551616) : amtP (moneyS n) = if 9007199254740992 < n then (0, 22) else (n, 0) := by
  obtain ⟨c, t, h1, h2, h3, h4, h5⟩ := money_whole n hn
  have hd1 : digB (dU (n / 10 % 10)) = true := dU_dig (by omega)
  have hd2 : digB (dU (n % 10)) = true := dU_dig (by omega)
  unfold amtP
  rw [money_data, cut_at _ _ (okR_46 _ h4)]
  unfold amtB
  rw [if_neg]
  · have hx := dU_nat (show n / 10 % 10 < 10 by omega)
    have hy := dU_nat (show n % 10 < 10 by omega)
    have ha := amt_whole (moneyW n) (dU (n / 10 % 10)) (dU (n % 10)) ⟨[dU (n / 10 % 10), dU (n % 10)].toArray⟩ true rfl (by omega) (by omega)
    refine ha.trans ?_
    rw [hx, hy]
    have e1 : 48 + n / 10 % 10 - 48 = n / 10 % 10 := by omega
    have e2 : 48 + n % 10 - 48 = n % 10 := by omega
    rw [e1, e2]
    exact money_whole_wf n hn _ _ (by omega)
  · rintro ⟨_, h6⟩
    have e : (⟨[dU (n / 10 % 10), dU (n % 10)].toArray⟩ : ByteArray).data.toList = [dU (n / 10 % 10), dU (n % 10)] := by simp
    rcases h6 with h6 | h6
    · exact h6 rfl
    · rw [e, figs2, hd1, hd2] at h6
      cases h6
theorem money_inj (n m : Nat) (hn : n < 18446744073709551616) (hm : m < 18446744073709551616) (h : moneyS n = moneyS m) : n = m := by
  have h1 := congrArg (fun s : ByteArray => s.data.toList) h
  simp only [money_data] at h1
  obtain ⟨h2, h3⟩ := List.append_inj' h1 rfl
  obtain ⟨_, _, _, _, _, _, v1⟩ := money_whole n hn
  obtain ⟨_, _, _, _, _, _, v2⟩ := money_whole m hm
  rw [h2, v2] at v1
  injection h3 with _ h3
  injection h3 with h4 h3
  injection h3 with h5 _
  have d4 := congrArg UInt8.toNat h4
  have d5 := congrArg UInt8.toNat h5
  rw [dU_nat (by omega), dU_nat (by omega)] at d4
  rw [dU_nat (by omega), dU_nat (by omega)] at d5
  omega
/-- Amount's answers. -/
theorem amt_ok (s : ByteArray) : ((amtP s).2 = 0 ∧ (amtP s).1 ≤ 9007199254740992) ∨ ((amtP s).1 = 0 ∧ ((amtP s).2 = 21 ∨ (amtP s).2 = 22)) := by
  unfold amtP amtB
  split
  · exact .inr ⟨rfl, .inl rfl⟩
  · split
    · exact .inr ⟨rfl, .inl rfl⟩
    · split
      · exact .inr ⟨rfl, .inl rfl⟩
      · split
        · exact .inr ⟨rfl, .inr rfl⟩
        · rename_i h
          exact .inl ⟨rfl, by show amtN _ ≤ _; omega⟩
/-- A text's form: the dot's place, digits, marks. -/
structure Formed (s : ByteArray) (dot : Nat) : Prop where
  size : s.size = dot + 3
  one : 1 ≤ dot
  dotAt : ∀ h : dot < s.size, (s[dot]'h).toNat = 46
  head : ∀ h : 0 < s.size, (s[0]'h).toNat ≠ 39 ∧ ((s[0]'h).toNat = 48 → dot = 1)
  each : ∀ i (h : i < s.size), ((i < dot ∧ (dot - i) % 4 = 0) ∧ (s[i]'h).toNat = 39) ∨ (¬ (i < dot ∧ (dot - i) % 4 = 0) ∧ (s[i]'h).toNat ≠ 39 ∧ (i = dot ∨ (48 ≤ (s[i]'h).toNat ∧ (s[i]'h).toNat ≤ 57)))
theorem okR_at : ∀ (l : List UInt8), okR true l = true → ∀ i (h : i < l.length), ((l.length - i) % 4 = 0 ∧ l[i].toNat = 39) ∨ ((l.length - i) % 4 ≠ 0 ∧ l[i].toNat ≠ 39 ∧ 48 ≤ l[i].toNat ∧ l[i].toNat ≤ 57)
  | [], _, i, h => by simp at h
  | c :: t, hk, i, h => by
    rw [okR, Bool.and_eq_true] at hk
    cases i with
    | zero =>
      have h1 := hk.1
      unfold ok1 at h1
      show ((t.length + 1 - 0) % 4 = 0 ∧ c.toNat = 39) ∨ ((t.length + 1 - 0) % 4 ≠ 0 ∧ c.toNat ≠ 39 ∧ 48 ≤ c.toNat ∧ c.toNat ≤ 57)
      rw [Nat.sub_zero]
      by_cases hq : (t.length + 1) % 4 = 0
      · have e : ((t.length + 1) % 4 == 0) = true := by simpa using hq
        rw [e] at h1
        have hc : c = 39 := by simpa using h1
        exact .inl ⟨hq, by rw [hc]; rfl⟩
      · have e : ((t.length + 1) % 4 == 0) = false := by simpa using hq
        rw [e] at h1
        simp only [Bool.and_false, Bool.false_or, Bool.and_eq_true] at h1
        have hd : 48 ≤ c.toNat ∧ c.toNat ≤ 57 := by
          have := h1.2
          unfold digB at this
          simpa using this
        exact .inr ⟨hq, by omega, hd⟩
    | succ i =>
      have := okR_at t hk.2 i (by simpa using h)
      have e : (c :: t).length - (i + 1) = t.length - i := by simp
      rw [e]
      exact this
theorem formed_money (n : Nat) (hn : n < 18446744073709551616) : Formed (moneyS n) (moneyW n).length := by
  obtain ⟨c, t, h1, h2, h3, h4, h5⟩ := money_whole n hn
  have hd := money_data n
  have hsz : (moneyS n).size = (moneyW n).length + 3 := by
    have : (moneyS n).data.toList.length = (moneyS n).size := rfl
    rw [hd] at this
    simp at this
    omega
  have hget : ∀ i (h : i < (moneyS n).size), (moneyS n)[i] = (moneyW n ++ [46, dU (n / 10 % 10), dU (n % 10)])[i]'(by simp; omega) := fun i h => by
    have e : (moneyS n)[i] = (moneyS n).data.toList[i]'(by simpa using h) := rfl
    rw [e]
    simp only [hd]
  have hx := dU_nat (show n / 10 % 10 < 10 by omega)
  have hy := dU_nat (show n % 10 < 10 by omega)
  refine ⟨hsz, by rw [h1]; simp, fun h => ?_, fun h => ?_, fun i h => ?_⟩
  · rw [hget, List.getElem_append_right (Nat.le_refl _)]
    simp
  · rw [hget]
    have e : (moneyW n ++ [46, dU (n / 10 % 10), dU (n % 10)])[0]'(by simp) = c := by simp [h1]
    rw [e]
    have hd2 : 48 ≤ c.toNat ∧ c.toNat ≤ 57 := by
      unfold digB at h2
      simpa using h2
    refine ⟨by omega, fun h48 => ?_⟩
    have hc : c = 48 := UInt8.toNat_inj.1 (by show _ = 48; omega)
    rw [h1, (h3 hc).2]
    rfl
  · rw [hget]
    by_cases hi : i < (moneyW n).length
    · rw [List.getElem_append_left hi]
      rcases okR_at _ h4 i hi with ⟨h6, h7⟩ | ⟨h6, h7, h8⟩
      · exact .inl ⟨⟨hi, h6⟩, h7⟩
      · exact .inr ⟨fun h => h6 h.2, h7, .inr h8⟩
    · rw [List.getElem_append_right (by omega)]
      refine .inr ⟨fun h => hi h.1, ?_⟩
      have hj : i - (moneyW n).length = 0 ∨ i - (moneyW n).length = 1 ∨ i - (moneyW n).length = 2 := by omega
      rcases hj with hj | hj | hj
      · simp only [hj]
        show (46 : UInt8).toNat ≠ 39 ∧ _
        exact ⟨by decide, .inl (by omega)⟩
      · simp only [hj]
        show (dU (n / 10 % 10)).toNat ≠ 39 ∧ (_ ∨ (48 ≤ (dU (n / 10 % 10)).toNat ∧ (dU (n / 10 % 10)).toNat ≤ 57))
        exact ⟨by omega, .inr (by omega)⟩
      · simp only [hj]
        show (dU (n % 10)).toNat ≠ 39 ∧ (_ ∨ (48 ≤ (dU (n % 10)).toNat ∧ (dU (n % 10)).toNat ≤ 57))
        exact ⟨by omega, .inr (by omega)⟩
end Go.Proofs.YthkifgjmhpppkaaDoor
