/- Money: the program's and the document's are one. -/
import Derived.Test.YthkifgjmhpppkaaDoorPrA
namespace Go.Proofs.YthkifgjmhpppkaaDoor
open Go.RowKit Go.Proofs.YthkifgjmhpppkaaDoorW.PrintWords Go.Proofs.YthkifgjmhpppkaaDoor.PTextAmounts

theorem strOf_app (a b : List Int) : strOfNums (a ++ b) = strOfNums a ++ strOfNums b := by
  apply ByteArray.ext
  apply Array.ext'
  rw [strOfNums_data]
  simp [strOfNums, ByteArray.data_append]
theorem u64_id (z : Int) (h0 : 0 ≤ z) (h1 : z < 18446744073709551616) : IntKind.u64.wrap z = z := by
  rw [IntKind.wrap_u64]
  omega
/-- One round of the program's. -/
theorem money_round (k : Nat) (x0 : Int) (x3 : List Int) (x4 : Int) (h0 : 0 ≤ x0) (h1 : x0 < 18446744073709551616) (h4 : 0 ≤ x4) (h5 : x4 < 1000) (hl : x3.length < 1000) (hc : 0 < x0 ∨ x4 = 0) :
    text_Money.l0 (k + 2) x0 x3 x4 = text_Money.l0 k (x0 / 10) ((48 + x0 % 10) :: if 0 < x4 ∧ x4 % 3 = 0 then 39 :: x3 else x3) (x4 + 1) := by
  have e1 : IntKind.u64.wrap (48 + Int.tmod x0 10) % 256 = 48 + x0 % 10 := by
    rw [Int.tmod_eq_emod_of_nonneg h0, u64_id _ (by omega) (by omega)]
    omega
  have e2 : IntKind.u64.wrap (Int.tdiv x0 10) = x0 / 10 := by
    rw [Int.tdiv_eq_ediv_of_nonneg h0, u64_id _ (by omega) (by omega)]
  have e3 : Int.tmod x4 3 = x4 % 3 := Int.tmod_eq_emod_of_nonneg h4
  have e4 : wrap64 (x4 + 1) = x4 + 1 := by unfold wrap64; omega
  have hstep : text_Money.l0 (k + 2) x0 x3 x4 = text_Money.j1 (k + 1) x0 x3 x4 true := by
    simp only [text_Money.l0]
    by_cases hx : x0 > 0
    · rw [if_pos hx]
    · rw [if_neg hx]
      have : x4 = 0 := by omega
      subst this
      rfl
  rw [hstep]
  simp only [text_Money.j1, if_true, e1, e2, e3, e4, Option.bind_some, List.length_append, List.length_cons, List.length_nil, List.cons_append, List.nil_append]
  by_cases hx4 : x4 > 0
  · rw [if_pos hx4]
    by_cases hm : x4 % 3 = 0
    · rw [if_pos hm, if_pos (by omega), if_pos (by omega), if_pos ⟨hx4, hm⟩]
    · rw [if_neg hm, if_pos (by omega), if_neg (fun h => hm h.2)]
  · rw [if_neg hx4, if_pos (by omega), if_neg (fun h => hx4 h.1)]
/-- The whole in groups, as the document lays it. -/
def refM : Nat → Nat → List Int → List Int
  | 0, _, L => L
  | f + 1, W, L => if 1000 ≤ W then refM f (W / 1000) (39 :: (48 + W % 1000 / 100 : Nat) :: (48 + W / 10 % 10 : Nat) :: (48 + W % 10 : Nat) :: L)
    else if 100 ≤ W then (48 + W / 100 : Nat) :: (48 + W / 10 % 10 : Nat) :: (48 + W % 10 : Nat) :: L
    else if 10 ≤ W then (48 + W / 10 : Nat) :: (48 + W % 10 : Nat) :: L
    else (48 + W : Nat) :: L
theorem money_end (k : Nat) (x3 : List Int) (x4 : Int) (h : 0 < x4) : text_Money.l0 (k + 2) 0 x3 x4 = some (strOfNums x3) := by
  simp only [text_Money.l0]
  rw [if_neg (by decide)]
  have : (x4 == 0) = false := by simp; omega
  rw [this]
  simp only [text_Money.j1]
  rw [if_neg (by decide)]
theorem text_money : ∀ (f W : Nat) (L : List Int) (m k : Nat), 1 ≤ f → W < 1000 ^ f → W < 18446744073709551616 → (0 < W ∨ m = 0) → m + f ≤ 50 → L.length + 4 * f < 900 → 6 * f + 2 ≤ k →
    text_Money.l0 k W L (3 * m : Nat) = some (strOfNums (refM f W (if 0 < m then 39 :: L else L)))
  | 0, _, _, _, _, h, _, _, _, _, _, _ => by omega
  | f + 1, W, L, m, k, _, hW, hW2, hm, hmf, hL, hk => by
    obtain ⟨k, rfl⟩ : ∃ j, k = j + 8 := ⟨k - 8, by omega⟩
    obtain ⟨L1, hL1⟩ : ∃ L1, (if 0 < m then 39 :: L else L) = L1 := ⟨_, rfl⟩
    have hL1l : L1.length ≤ L.length + 1 := by rw [← hL1]; split <;> simp
    rw [hL1]
    have r1 := money_round (k + 6) W L (3 * m : Nat) (by omega) (by omega) (by omega) (by omega) (by omega) (by omega)
    have e1 : (if 0 < ((3 * m : Nat) : Int) ∧ ((3 * m : Nat) : Int) % 3 = 0 then 39 :: L else L) = L1 := by
      rw [← hL1]
      by_cases h0 : 0 < m
      · rw [if_pos ⟨by omega, by omega⟩, if_pos h0]
      · rw [if_neg (by omega), if_neg h0]
    rw [e1] at r1
    rw [r1]
    by_cases h10 : 10 ≤ W
    · have r2 := money_round (k + 4) ((W : Int) / 10) ((48 + (W : Int) % 10) :: L1) (((3 * m : Nat) : Int) + 1) (by omega) (by omega) (by omega) (by omega) (by simp; omega) (by omega)
      rw [if_neg (by omega)] at r2
      rw [r2]
      by_cases h100 : 100 ≤ W
      · have r3 := money_round (k + 2) ((W : Int) / 10 / 10) ((48 + (W : Int) / 10 % 10) :: (48 + (W : Int) % 10) :: L1) (((3 * m : Nat) : Int) + 1 + 1) (by omega) (by omega) (by omega) (by omega) (by simp; omega) (by omega)
        rw [if_neg (by omega)] at r3
        rw [r3]
        by_cases h1000 : 1000 ≤ W
        · have hf : 1 ≤ f := by
            rcases Nat.eq_zero_or_pos f with h0 | h0
            · subst h0; simp at hW; omega
            · exact h0
          have ih := text_money f (W / 1000) ((48 + (W : Int) / 10 / 10 % 10) :: (48 + (W : Int) / 10 % 10) :: (48 + (W : Int) % 10) :: L1) (m + 1) (k + 2) hf (by rw [Nat.pow_succ] at hW; omega) (by omega) (by omega) (by omega) (by simp; omega) (by omega)
          rw [if_pos (by omega)] at ih
          have e5 : (W : Int) / 10 / 10 / 10 = ((W / 1000 : Nat) : Int) := by omega
          have e6 : ((3 * m : Nat) : Int) + 1 + 1 + 1 = ((3 * (m + 1) : Nat) : Int) := by omega
          rw [e5, e6, ih]
          have e7 : refM (f + 1) W L1 = refM f (W / 1000) (39 :: (48 + W % 1000 / 100 : Nat) :: (48 + W / 10 % 10 : Nat) :: (48 + W % 10 : Nat) :: L1) := by
            rw [refM, if_pos h1000]
          rw [e7]
          congr 6
          omega
        · have e5 : (W : Int) / 10 / 10 / 10 = 0 := by omega
          rw [e5, money_end _ _ _ (by omega)]
          have e7 : refM (f + 1) W L1 = ((48 + W / 100 : Nat) : Int) :: ((48 + W / 10 % 10 : Nat) : Int) :: ((48 + W % 10 : Nat) : Int) :: L1 := by
            rw [refM, if_neg h1000, if_pos h100]
          rw [e7]
          congr 3
          · omega
      · have e5 : (W : Int) / 10 / 10 = 0 := by omega
        rw [e5, money_end _ _ _ (by omega)]
        have e7 : refM (f + 1) W L1 = ((48 + W / 10 : Nat) : Int) :: ((48 + W % 10 : Nat) : Int) :: L1 := by
          rw [refM, if_neg (by omega), if_neg h100, if_pos h10]
        rw [e7]
        congr 3
        · omega
    · have e5 : (W : Int) / 10 = 0 := by omega
      rw [e5, money_end _ _ _ (by omega)]
      have e7 : refM (f + 1) W L1 = ((48 + W : Nat) : Int) :: L1 := by
        rw [refM, if_neg (by omega), if_neg (by omega), if_neg h10]
      rw [e7]
      congr 3
      omega
theorem ref_money : ∀ (f W : Nat) (L : List Int) (k : Nat), 1 ≤ f → W < 1000 ^ f → W < 18446744073709551616 → L.length + 4 * f < 900 → f ≤ k →
    tallyref2_Money.l0 k W (strOfNums L) = some (strOfNums (refM f W L))
  | 0, _, _, _, h, _, _, _, _ => by omega
  | f + 1, W, L, k, _, hW, hW2, hL, hk => by
    obtain ⟨k, rfl⟩ : ∃ j, k = j + 1 := ⟨k - 1, by omega⟩
    have g1 : Int.tmod (W : Int) 1000 = ((W % 1000 : Nat) : Int) := by rw [Int.tmod_eq_emod_of_nonneg (by omega)]; omega
    have q1000 : IntKind.u64.wrap (Int.tdiv (W : Int) 1000) = ((W / 1000 : Nat) : Int) := by rw [Int.tdiv_eq_ediv_of_nonneg (by omega), u64_id _ (by omega) (by omega)]; omega
    have dig : ∀ X : Nat, X < 18446744073709551616 → IntKind.u64.wrap (48 + Int.tmod (X : Int) 10) % 256 = ((48 + X % 10 : Nat) : Int) := fun X hX => by
      rw [Int.tmod_eq_emod_of_nonneg (by omega), u64_id _ (by omega) (by omega)]; omega
    have dig10 : ∀ X : Nat, X < 18446744073709551616 → IntKind.u64.wrap (48 + Int.tmod (IntKind.u64.wrap (Int.tdiv (X : Int) 10)) 10) % 256 = ((48 + X / 10 % 10 : Nat) : Int) := fun X hX => by
      have e : IntKind.u64.wrap (Int.tdiv (X : Int) 10) = ((X / 10 : Nat) : Int) := by rw [Int.tdiv_eq_ediv_of_nonneg (by omega), u64_id _ (by omega) (by omega)]; omega
      rw [e, dig _ (by omega)]
    have top : ∀ (X c : Nat), 1 ≤ c → X / c < 10 → X < 18446744073709551616 → IntKind.u64.wrap (48 + IntKind.u64.wrap (Int.tdiv (X : Int) (c : Nat))) % 256 = ((48 + X / c : Nat) : Int) := fun X c hc hX hX2 => by
      have h1 : Int.tdiv (X : Int) (c : Nat) = ((X / c : Nat) : Int) := by rw [Int.tdiv_eq_ediv_of_nonneg (by omega)]; rfl
      rw [h1]
      generalize X / c = z at hX
      rw [u64_id (z : Int) (by omega) (by omega), u64_id _ (by omega) (by omega)]
      omega
    have s39 : (⟨#[39]⟩ : ByteArray) = strOfNums [39] := rfl
    have hsz : ∀ A : List Int, (strOfNums A).size = A.length := strOfNums_size
    simp only [tallyref2_Money.l0, Option.bind_some]
    by_cases h1000 : 1000 ≤ W
    · rw [if_pos (by omega), g1, dig _ (by omega), dig10 _ (by omega), show (100 : Int) = ((100 : Nat) : Int) from rfl, top _ _ (by omega) (by omega) (by omega), q1000, s39, ← strOf_app, hsz, hsz, hsz, ← strOf_app]
      rw [if_pos (by simp), if_pos (by simp; omega)]
      have hf : 1 ≤ f := by
        rcases Nat.eq_zero_or_pos f with h0 | h0
        · subst h0; simp at hW; omega
        · exact h0
      rw [ref_money f (W / 1000) _ k hf (by rw [Nat.pow_succ] at hW; omega) (by omega) (by simp; omega) (by omega)]
      have e7 : refM (f + 1) W L = refM f (W / 1000) (39 :: ((48 + W % 1000 / 100 : Nat) : Int) :: ((48 + W / 10 % 10 : Nat) : Int) :: ((48 + W % 10 : Nat) : Int) :: L) := by
        rw [refM, if_pos h1000]
      rw [e7, show W % 1000 / 10 % 10 = W / 10 % 10 from by omega, show W % 1000 % 10 = W % 10 from by omega]
      rfl
    · rw [if_neg (by omega)]
      by_cases h100 : 100 ≤ W
      · rw [if_pos (by omega), dig _ (by omega), dig10 _ (by omega), show (100 : Int) = ((100 : Nat) : Int) from rfl, top _ _ (by omega) (by omega) (by omega), hsz, hsz, ← strOf_app, if_pos (by simp; omega)]
        have e7 : refM (f + 1) W L = ((48 + W / 100 : Nat) : Int) :: ((48 + W / 10 % 10 : Nat) : Int) :: ((48 + W % 10 : Nat) : Int) :: L := by
          rw [refM, if_neg h1000, if_pos h100]
        rw [e7]
        rfl
      · rw [if_neg (by omega)]
        by_cases h10 : 10 ≤ W
        · rw [if_pos (by omega), dig _ (by omega), show (10 : Int) = ((10 : Nat) : Int) from rfl, top _ _ (by omega) (by omega) (by omega), hsz, hsz, ← strOf_app, if_pos (by simp; omega)]
          have e7 : refM (f + 1) W L = ((48 + W / 10 : Nat) : Int) :: ((48 + W % 10 : Nat) : Int) :: L := by
            rw [refM, if_neg h1000, if_neg h100, if_pos h10]
          rw [e7]
          rfl
        · have e0 : IntKind.u64.wrap (48 + (W : Int)) % 256 = ((48 + W : Nat) : Int) := by rw [u64_id _ (by omega) (by omega)]; omega
          rw [if_neg (by omega), e0, hsz, hsz, ← strOf_app, if_pos (by simp; omega)]
          have e7 : refM (f + 1) W L = ((48 + W : Nat) : Int) :: L := by
            rw [refM, if_neg h1000, if_neg h100, if_neg h10]
          rw [e7]
          rfl
/-- What Money writes. -/
def moneyS (n : Nat) : ByteArray := strOfNums (refM 7 (n / 100) [46, ((48 + n / 10 % 10 : Nat) : Int), ((48 + n % 10 : Nat) : Int)])
theorem money_text (n : Nat) (hn : n < 18446744073709551616) : text_Money.f 50 n = some (moneyS n) := by
  unfold text_Money.f moneyS
  have e1 : IntKind.u64.wrap (Int.tdiv (n : Int) 100) = ((n / 100 : Nat) : Int) := by rw [Int.tdiv_eq_ediv_of_nonneg (by omega), u64_id _ (by omega) (by omega)]; omega
  have e2 : IntKind.u64.wrap (Int.tdiv (n : Int) 10) = ((n / 10 : Nat) : Int) := by rw [Int.tdiv_eq_ediv_of_nonneg (by omega), u64_id _ (by omega) (by omega)]; omega
  have e3 : ∀ X : Nat, IntKind.u64.wrap (48 + Int.tmod (X : Int) 10) % 256 = ((48 + X % 10 : Nat) : Int) := fun X => by
    rw [Int.tmod_eq_emod_of_nonneg (by omega), u64_id _ (by omega) (by omega)]; omega
  rw [e1, e2, e3, e3]
  exact text_money 7 (n / 100) _ 0 50 (by omega) (by have : (1000 : Nat) ^ 7 = 1000000000000000000000 := by decide
                                                     omega) (by omega) (.inr rfl) (by omega) (by simp) (by omega)
theorem money_ref (n : Nat) (hn : n < 18446744073709551616) : tallyref2_Money.f 50 n = some (moneyS n) := by
  unfold tallyref2_Money.f moneyS
  have e1 : IntKind.u64.wrap (Int.tdiv (n : Int) 100) = ((n / 100 : Nat) : Int) := by rw [Int.tdiv_eq_ediv_of_nonneg (by omega), u64_id _ (by omega) (by omega)]; omega
  have e2 : IntKind.u64.wrap ((n : Int) - IntKind.u64.wrap (100 * ((n / 100 : Nat) : Int))) = ((n % 100 : Nat) : Int) := by
    rw [u64_id (100 * _) (by omega) (by omega), u64_id _ (by omega) (by omega)]; omega
  have e3 : ∀ X : Nat, IntKind.u64.wrap (48 + Int.tmod (X : Int) 10) % 256 = ((48 + X % 10 : Nat) : Int) := fun X => by
    rw [Int.tmod_eq_emod_of_nonneg (by omega), u64_id _ (by omega) (by omega)]; omega
  have e4 : IntKind.u64.wrap (48 + IntKind.u64.wrap (Int.tdiv ((n % 100 : Nat) : Int) 10)) % 256 = ((48 + n % 100 / 10 : Nat) : Int) := by
    rw [Int.tdiv_eq_ediv_of_nonneg (by omega), u64_id (_ / 10) (by omega) (by omega), u64_id _ (by omega) (by omega)]; omega
  rw [e1, e2, e3, e4, show n % 100 / 10 = n / 10 % 10 from by omega, show n % 100 % 10 = n % 10 from by omega]
  exact ref_money 7 (n / 100) _ 50 (by omega) (by have : (1000 : Nat) ^ 7 = 1000000000000000000000 := by decide
                                                  omega) (by omega) (by simp) (by omega)
end Go.Proofs.YthkifgjmhpppkaaDoor
