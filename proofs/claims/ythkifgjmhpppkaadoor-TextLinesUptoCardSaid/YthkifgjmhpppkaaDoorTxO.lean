/- EqStrings, num, Money by contracts in plain words; begun. -/
import Derived.Test.YthkifgjmhpppkaaDoorTxN
import Derived.Test.YthkifgjmhpppkaaDoorTxF
import Derived.Test.YthkifgjmhpppkaaDoorTxD
namespace Go.Proofs.YthkifgjmhpppkaaDoor
open Go.RowKit Go.Proofs.YthkifgjmhpppkaaDoorW.PrintWords Go.Proofs.YthkifgjmhpppkaaDoor.PTextAmounts

/-- A slice of texts that reads as a list. -/
def RS (w : World) (A : Option Addr) (l : List ByteArray) : Prop := l.length ≤ 9223372036854775807 ∧ (0 < l.length → ∃ ad, A = some ad ∧ ∀ (j : Nat) (s : ByteArray), l[j]? = some s → w.cell? (ad.add j) = some (.string s))
theorem RS.kd {w : World} {A : Option Addr} {l : List ByteArray} (h : RS w A l) : Kd.C Kd.string w A l.length l :=
  ⟨rfl, h.1, fun h0 => by
    obtain ⟨ad, e, hc⟩ := h.2 h0
    refine ⟨ad, e, fun j p hp => ⟨[.string p], rfl, rfl, fun i u hu => ?_⟩⟩
    match i, hu with
    | 0, hu =>
      have : Value.string p = u := by simpa using hu
      subst this
      show w.cell? (ad.add (j * 1 + 0)) = _
      rw [Nat.mul_one, Nat.add_zero]
      exact hc j p hp
    | i + 1, hu => simp at hu⟩
theorem RS.below {w w' : World} {A : Option Addr} {l : List ByteArray} (h : RS w A l) (hb : Below w.heap.size w w') : RS w' A l :=
  ⟨h.1, fun h0 => by
    obtain ⟨ad, e, hc⟩ := h.2 h0
    exact ⟨ad, e, fun j s hs => (hb.cell (World.block_lt_of_cell? w _ (hc j s hs))).trans (hc j s hs)⟩⟩
theorem RS.own {w : World} {B n cap : Nat} {A : Option Addr} {l : List ByteArray} (h : w.ownsRow B 9 1 (.slice A n cap) n (l.map Value.string)) (hl : n ≤ 9223372036854775807) : l.length = n ∧ RS w A l := by
  have hn : l.length = n := by
    have := h.1
    rw [List.length_map] at this
    omega
  refine ⟨hn, by omega, fun h0 => ?_⟩
  obtain ⟨g, cap', hv, _⟩ := h.form (by omega)
  have hA : A = some ⟨g, 0, none⟩ := by injection hv
  subst hA
  exact ⟨_, rfl, fun j s hs => h.cells (g := g) rfl j (.string s) (by rw [List.getElem?_map, hs]; rfl)⟩
theorem row_cap {w : World} {B e sz n cap : Nat} {A : Option Addr} {xs : List Value} (h : w.ownsRow B e sz (.slice A n cap) n xs) : n ≤ cap := by
  rcases h.2 with ⟨_, h0⟩ | ⟨g, cap', cur, hv, _, _, hnc, _⟩
  · omega
  · injection hv with _ _ hc
    omega
theorem toList_inj {a b : ByteArray} (h : a.toList = b.toList) : a = b := by
  rw [Lib.toList_data, Lib.toList_data] at h
  apply ByteArray.ext
  exact Array.toList_inj.1 h
theorem eqs_loop (x0 x1 : List ByteArray) (hl : x0.length = x1.length) (hm : x0.length ≤ 9223372036854775807) : ∀ (d i k : Nat), i + d = x0.length → d < k → tallyref0_EqStrings.l0 k x0 x1 (i : Nat) = some (decide (x0.drop i = x1.drop i))
  | 0, i, k, hi, hk => by
    obtain ⟨k, rfl⟩ : ∃ m, k = m + 1 := ⟨k - 1, by omega⟩
    rw [tallyref0_EqStrings.l0, if_neg (by omega), List.drop_of_length_le (by omega), List.drop_of_length_le (by omega)]
    rfl
  | d + 1, i, k, hi, hk => by
    obtain ⟨k, rfl⟩ : ∃ m, k = m + 1 := ⟨k - 1, by omega⟩
    have h0 : i < x0.length := by omega
    have h1 : i < x1.length := by omega
    have ew : wrap64 ((i : Int) + 1) = ((i + 1 : Nat) : Int) := by unfold wrap64; omega
    have e0 : rdOf ByteArray.empty x0 (i : Int) = x0[i] := by unfold rdOf; rw [Int.toNat_natCast, List.getD_eq_getElem?_getD, List.getElem?_eq_getElem h0]; rfl
    have e1 : rdOf ByteArray.empty x1 (i : Int) = x1[i] := by unfold rdOf; rw [Int.toNat_natCast, List.getD_eq_getElem?_getD, List.getElem?_eq_getElem h1]; rfl
    rw [tallyref0_EqStrings.l0, if_pos (by omega), if_pos (by omega), if_pos (by omega), e0, e1, ew, eqs_loop x0 x1 hl hm d (i + 1) k (by omega) (by omega), List.drop_eq_getElem_cons h0, List.drop_eq_getElem_cons h1]
    by_cases h : x0[i].toList = x1[i].toList
    · rw [if_pos h, toList_inj h]
      congr 1
      exact decide_eq_decide.2 ⟨fun h => by rw [h], fun h => by injection h⟩
    · rw [if_neg h]
      congr 1
      symm
      refine decide_eq_false (fun he => h ?_)
      injection he with he
      rw [he]
theorem eqStrings_any (A0 A1 : Option Addr) (c0 c1 : Nat) (l0 l1 : List ByteArray) (w : World) (h0 : RS w A0 l0) (h1 : RS w A1 l1) (hc0 : l0.length ≤ c0) (hc1 : l1.length ≤ c1) :
    Calls Tryd.prog 17 #[.slice A0 l0.length c0, .slice A1 l1.length c1] w fun e w' => e = .returned (.bool (decide (l0 = l1))) ∧ Below w.heap.size w w' := by
  have hf : tallyref0_EqStrings.f (l0.length + 1) l0 l1 = some (decide (l0 = l1)) := by
    unfold tallyref0_EqStrings.f
    by_cases hl : l0.length = l1.length
    · have := eqs_loop l0 l1 hl h0.1 l0.length 0 (l0.length + 1) (by omega) (by omega)
      rw [if_pos (by omega)]
      exact this
    · rw [if_neg (by omega)]
      congr 1
      symm
      exact decide_eq_false (fun h => hl (by rw [h]))
  refine (tallyref0_EqStrings.calls _ A0 c0 l0 A1 c1 l1 _ w h0.kd hc0 h1.kd hc1 hf).mono fun _ _ ⟨h1, h2⟩ => ⟨h1, h2.below⟩
theorem num_any (n : Int) (w : World) : Calls Tryd.prog 12 #[.int .i64 n] w fun e w' => e = .returned (.int .i64 n) ∧ Below w.heap.size w w' :=
  (tallylaw2_num.calls n n w rfl).mono fun _ _ ⟨h1, h2⟩ => ⟨h1, h2.below⟩
theorem money_any (n : Nat) (w : World) (hn : n < 18446744073709551616) : Calls Tryd.prog 13 #[.int .u64 (n : Int)] w fun e w' => e = .returned (.string (moneyS n)) ∧ Below w.heap.size w w' :=
  (text_Money.calls 50 n _ w (money_text n hn)).mono fun _ _ ⟨h1, h2⟩ => ⟨h1, h2⟩
theorem moneyR_any (n : Nat) (w : World) (hn : n < 18446744073709551616) : Calls Tryd.prog 14 #[.int .u64 (n : Int)] w fun e w' => e = .returned (.string (moneyS n)) ∧ Below w.heap.size w w' :=
  (tallyref2_Money.calls 50 n _ w (money_ref n hn)).mono fun _ _ ⟨h1, h2⟩ => ⟨h1, by first | exact h2 | exact h2.below⟩
theorem k_amt : amtP ⟨#[49, 39, 50, 51, 52, 46, 53, 48]⟩ = (123450, 0) := by kernel_rfl
theorem k_words : wordsP [97, 32, 34, 98, 32, 99, 34] = some [[97], [98, 32, 99]] := by kernel_rfl
theorem k_check1 : checkN [97, 110, 110] = 0 := by kernel_rfl
theorem k_check2 : checkN [97, 32, 98] = 20 := by kernel_rfl
theorem k_fold : foldP [65, 110, 110] = [97, 110, 110] := by kernel_rfl
theorem k_money : moneyS 5 = ⟨#[48, 46, 48, 53]⟩ := by kernel_rfl
def Begun (w : World) (e : Ending) (w' : World) : Prop := e = .returned (.bool true) ∧ Below w.heap.size w w'
theorem calls_amt {w : World} (hT : Tabs w) : Calls Tryd.prog 10 #[.string ⟨#[49, 39, 50, 51, 52, 46, 53, 48]⟩] w fun e w' => e = .returned (.tuple #[.int .u64 123450, .int .i64 0]) ∧ Below w.heap.size w w' := by
  have h := amount_any ⟨#[49, 39, 50, 51, 52, 46, 53, 48]⟩ w hT (by decide)
  rw [k_amt] at h
  exact h
theorem calls_words {w : World} (hT : Tabs w) : Calls Tryd.prog 15 #[.string ⟨#[97, 32, 34, 98, 32, 99, 34]⟩] w fun e w' => ∃ A cap, e = .returned (.tuple #[.slice A 2 cap, .int .i64 0]) ∧ 2 ≤ cap ∧ RS w' A [⟨#[97]⟩, ⟨#[98, 32, 99]⟩] ∧ Below w.heap.size w w' := by
  have h := words_any ⟨#[97, 32, 34, 98, 32, 99, 34]⟩ w hT (by decide)
  unfold WordsEnd at h
  rw [k_words] at h
  refine h.mono fun e w' ⟨hb, A, cap, he, hown⟩ => ⟨A, cap, he, ?_, (RS.own (l := [⟨#[97]⟩, ⟨#[98, 32, 99]⟩]) hown (by decide)).2, hb⟩
  exact row_cap hown
theorem calls_check1 {w : World} (hT : Tabs w) : Calls Tryd.prog 23 #[.string ⟨#[97, 110, 110]⟩] w fun e w' => e = .returned (.int .i64 0) ∧ Below w.heap.size w w' := by
  have h := check_any ⟨#[97, 110, 110]⟩ w hT (by decide)
  rw [k_check1] at h
  exact h
theorem calls_check2 {w : World} (hT : Tabs w) : Calls Tryd.prog 23 #[.string ⟨#[97, 32, 98]⟩] w fun e w' => e = .returned (.int .i64 20) ∧ Below w.heap.size w w' := by
  have h := check_any ⟨#[97, 32, 98]⟩ w hT (by decide)
  rw [k_check2] at h
  exact h
theorem calls_fold {w : World} (hT : Tabs w) : Calls Tryd.prog 25 #[.string ⟨#[65, 110, 110]⟩] w fun e w' => e = .returned (.string ⟨#[97, 110, 110]⟩) ∧ Below w.heap.size w w' := by
  have h := fold_any ⟨#[65, 110, 110]⟩ w hT (by decide)
  unfold FoldEnd at h
  rw [k_fold] at h
  exact h
theorem calls_money {w : World} : Calls Tryd.prog 13 #[.int .u64 5] w fun e w' => e = .returned (.string ⟨#[48, 46, 48, 53]⟩) ∧ Below w.heap.size w w' := by
  have h := money_any 5 w (by decide)
  rw [k_money] at h
  exact h
theorem rs_two (W : World) : RS (W.alloc (.cells #[.string ⟨#[97]⟩, .string ⟨#[98, 32, 99]⟩] 9)) (some ⟨W.heap.size, 0, none⟩) [⟨#[97]⟩, ⟨#[98, 32, 99]⟩] :=
  ⟨by decide, fun _ => ⟨_, rfl, fun j s hs => by
    match j, hs with
    | 0, hs =>
      have : (⟨#[97]⟩ : ByteArray) = s := by simpa using hs
      subst this
      show (W.alloc _).cell? ⟨W.heap.size, 0, none⟩ = _
      rw [World.cell?_alloc_at _ _ _ _ rfl]
      rfl
    | 1, hs =>
      have : (⟨#[98, 32, 99]⟩ : ByteArray) = s := by simpa using hs
      subst this
      show (W.alloc _).cell? ⟨W.heap.size, 1, none⟩ = _
      rw [World.cell?_alloc_at _ _ _ _ rfl]
      rfl
    | j + 2, hs => simp at hs⟩⟩
theorem eqs_two {W : World} {A : Option Addr} {cap : Nat} (h : RS W A [⟨#[97]⟩, ⟨#[98, 32, 99]⟩]) (hcap : 2 ≤ cap) : Calls Tryd.prog 17 #[.slice A 2 cap, .slice (some ⟨W.heap.size, 0, none⟩) 2 2] (W.alloc (.cells #[.string ⟨#[97]⟩, .string ⟨#[98, 32, 99]⟩] 9)) fun e w' => e = .returned (.bool true) ∧ Below (W.heap.size + 1) (W.alloc (.cells #[.string ⟨#[97]⟩, .string ⟨#[98, 32, 99]⟩] 9)) w' := by
  have := eqStrings_any A (some ⟨W.heap.size, 0, none⟩) cap 2 [⟨#[97]⟩, ⟨#[98, 32, 99]⟩] [⟨#[97]⟩, ⟨#[98, 32, 99]⟩] _ (h.below ((Below.refl _ _).alloc (Nat.le_refl _) _)) (rs_two W) hcap (Nat.le_refl _)
  rw [decide_eq_true rfl] at this
  exact this.mono fun _ _ ⟨h1, h2⟩ => ⟨h1, h2.mono (by simp)⟩
set_option maxRecDepth 100000 in
theorem begun_any (w : World) (hT : Tabs w) : Calls Tryd.prog 9 #[] w (Begun w) := by
  go_enter Tryd.func9, Tryd.ntmps9
  have HB0 := Lib.hid (Below.refl w.heap.size w)
  have hb0 := HB0.out
  go_wp2_with (first
    | (go_at_call 10; (with_reducible refine (calls_amt (hT.below hb0)).mono ?_); rintro e w1 ⟨rfl, hb⟩; have hb0 := hb0.trans (hb.mono hb0.size); clear hb)
    | (go_at_call 15; (with_reducible refine (calls_words (hT.below hb0)).mono ?_); rintro e w2 ⟨A, cap, rfl, hcap, hrs, hb⟩; have hb0 := hb0.trans (hb.mono hb0.size); clear hb)
    | (go_at_call 12; (with_reducible refine (num_any _ _).mono ?_); rintro e w3 ⟨rfl, hb⟩; have hb0 := hb0.trans (hb.mono hb0.size); have hrs := hrs.below hb; clear hb)
    | (go_at_call 23; (with_reducible refine (calls_check1 (hT.below hb0)).mono ?_); rintro e w4 ⟨rfl, hb⟩; have hb0 := hb0.trans (hb.mono hb0.size); have hrs := hrs.below hb; clear hb)
    | (go_at_call 23; (with_reducible refine (calls_check2 (hT.below hb0)).mono ?_); rintro e w5 ⟨rfl, hb⟩; have hb0 := hb0.trans (hb.mono hb0.size); have hrs := hrs.below hb; clear hb)
    | (go_at_call 13; (with_reducible refine calls_money.mono ?_); rintro e w6 ⟨rfl, hb⟩; have hb0 := hb0.trans (hb.mono hb0.size); have hrs := hrs.below hb; clear hb)
    | (go_at_call 17; (with_reducible refine (eqs_two hrs hcap).mono ?_); rintro e w7 ⟨rfl, hb⟩; have hb0 := (hb0.alloc hb0.size _).trans (hb.mono (by have := hb0.size; omega)); clear hb)
    | (go_at_call 25; (with_reducible refine (calls_fold (hT.below hb0)).mono ?_); rintro e w8 ⟨rfl, hb⟩; have hb0 := hb0.trans (hb.mono hb0.size); clear hb))
  go_ret
  exact ⟨rfl, hb0⟩
end Go.Proofs.YthkifgjmhpppkaaDoor
