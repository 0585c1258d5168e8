/- Folding, plain: length, fold of a fold, what may be called, letters A to Z. -/
import Derived.Test.YthkifgjmhpppkaaDoorTxN
import Derived.Lib.QuoteLoop
import Derived.Lib.TrimAscii
namespace Go.Proofs.YthkifgjmhpppkaaDoor
open Go.RowKit

theorem u8_of (x : Nat) (h : x < 256) : (UInt8.ofNat x).toNat = x := by
  rw [UInt8.toNat_ofNat_of_lt']
  exact h
/-- What encodeRune gives, byte by byte. -/
theorem enc1 (c : Nat) (h : c < 128) : Lib.encodeRune (c : Int) = [UInt8.ofNat c] := by
  unfold Lib.encodeRune
  rw [Lib.encodeRuneZ_one (by omega) (by omega)]
  rfl
theorem byte_nat (z : Int) (x : Nat) (h : z = (x : Int)) : z.toNat.toUInt8 = UInt8.ofNat x := by
  subst h
  rw [Int.toNat_natCast]
theorem enc2 (c : Nat) (h0 : 128 ≤ c) (h1 : c < 2048) : Lib.encodeRune (c : Int) = [UInt8.ofNat (192 + c / 64), UInt8.ofNat (128 + c % 64)] := by
  unfold Lib.encodeRune
  rw [Lib.encodeRuneZ_two (by omega) (by omega), List.map_cons, List.map_cons, List.map_nil, byte_nat _ (192 + c / 64) (by omega), byte_nat _ (128 + c % 64) (by omega)]
theorem enc3 (c : Nat) (h : (2048 ≤ c ∧ c < 55296) ∨ (57343 < c ∧ c ≤ 65535)) : Lib.encodeRune (c : Int) = [UInt8.ofNat (224 + c / 4096), UInt8.ofNat (128 + c / 64 % 64), UInt8.ofNat (128 + c % 64)] := by
  unfold Lib.encodeRune
  rw [Lib.encodeRuneZ_three (by omega), List.map_cons, List.map_cons, List.map_cons, List.map_nil, byte_nat _ (224 + c / 4096) (by omega), byte_nat _ (128 + c / 64 % 64) (by omega), byte_nat _ (128 + c % 64) (by omega)]
theorem enc4 (c : Nat) (h0 : 65536 ≤ c) (h1 : c ≤ 1114111) : Lib.encodeRune (c : Int) = [UInt8.ofNat (240 + c / 262144), UInt8.ofNat (128 + c / 4096 % 64), UInt8.ofNat (128 + c / 64 % 64), UInt8.ofNat (128 + c % 64)] := by
  unfold Lib.encodeRune
  rw [Lib.encodeRuneZ_four (by omega) (by omega), List.map_cons, List.map_cons, List.map_cons, List.map_cons, List.map_nil, byte_nat _ (240 + c / 262144) (by omega), byte_nat _ (128 + c / 4096 % 64) (by omega), byte_nat _ (128 + c / 64 % 64) (by omega), byte_nat _ (128 + c % 64) (by omega)]
/-- A code point that may be. -/
def OkC (c : Nat) : Prop := c < 55296 ∨ (57343 < c ∧ c ≤ 1114111)
theorem dec_enc (c : Nat) (hc : OkC c) (t : List UInt8) : Lib.decodeL (Lib.encodeRune (c : Int) ++ t) = (c, (Lib.encodeRune (c : Int)).length) := by
  unfold OkC at hc
  rw [Lib.decodeL_N]
  by_cases h1 : c < 128
  · rw [enc1 c h1]
    have e0 : ([UInt8.ofNat c] ++ t).getD 0 0 = UInt8.ofNat c := rfl
    rw [e0, u8_of c (by omega), Lib.decodeN_ascii _ _ _ _ _ h1]
    rfl
  · by_cases h2 : c < 2048
    · rw [enc2 c (by omega) h2]
      have e0 : ([UInt8.ofNat (192 + c / 64), UInt8.ofNat (128 + c % 64)] ++ t).getD 0 0 = UInt8.ofNat (192 + c / 64) := rfl
      have e1 : ([UInt8.ofNat (192 + c / 64), UInt8.ofNat (128 + c % 64)] ++ t).getD 1 0 = UInt8.ofNat (128 + c % 64) := rfl
      have hl : ([UInt8.ofNat (192 + c / 64), UInt8.ofNat (128 + c % 64)] ++ t).length = t.length + 2 := by simp
      rw [e0, e1, hl, u8_of _ (by omega), u8_of _ (by omega)]
      unfold Lib.decodeN
      rw [if_neg (by omega), if_pos (by omega), if_pos (by omega)]
      have : (192 + c / 64) % 32 * 64 + (128 + c % 64) % 64 = c := by omega
      rw [this]
      rfl
    · by_cases h3 : c ≤ 65535
      · rw [enc3 c (by omega)]
        have e0 : ([UInt8.ofNat (224 + c / 4096), UInt8.ofNat (128 + c / 64 % 64), UInt8.ofNat (128 + c % 64)] ++ t).getD 0 0 = UInt8.ofNat (224 + c / 4096) := rfl
        have e1 : ([UInt8.ofNat (224 + c / 4096), UInt8.ofNat (128 + c / 64 % 64), UInt8.ofNat (128 + c % 64)] ++ t).getD 1 0 = UInt8.ofNat (128 + c / 64 % 64) := rfl
        have e2 : ([UInt8.ofNat (224 + c / 4096), UInt8.ofNat (128 + c / 64 % 64), UInt8.ofNat (128 + c % 64)] ++ t).getD 2 0 = UInt8.ofNat (128 + c % 64) := rfl
        have hl : ([UInt8.ofNat (224 + c / 4096), UInt8.ofNat (128 + c / 64 % 64), UInt8.ofNat (128 + c % 64)] ++ t).length = t.length + 3 := by simp
        rw [e0, e1, e2, hl, u8_of _ (by omega), u8_of _ (by omega), u8_of _ (by omega)]
        unfold Lib.decodeN
        have : (224 + c / 4096) % 16 * 4096 + (128 + c / 64 % 64) % 64 * 64 + (128 + c % 64) % 64 = c := by omega
        rw [this, if_neg (by omega), if_neg (by omega), if_pos (by omega), if_pos (by omega)]
        rfl
      · rw [enc4 c (by omega) (by omega)]
        have e0 : ([UInt8.ofNat (240 + c / 262144), UInt8.ofNat (128 + c / 4096 % 64), UInt8.ofNat (128 + c / 64 % 64), UInt8.ofNat (128 + c % 64)] ++ t).getD 0 0 = UInt8.ofNat (240 + c / 262144) := rfl
        have e1 : ([UInt8.ofNat (240 + c / 262144), UInt8.ofNat (128 + c / 4096 % 64), UInt8.ofNat (128 + c / 64 % 64), UInt8.ofNat (128 + c % 64)] ++ t).getD 1 0 = UInt8.ofNat (128 + c / 4096 % 64) := rfl
        have e2 : ([UInt8.ofNat (240 + c / 262144), UInt8.ofNat (128 + c / 4096 % 64), UInt8.ofNat (128 + c / 64 % 64), UInt8.ofNat (128 + c % 64)] ++ t).getD 2 0 = UInt8.ofNat (128 + c / 64 % 64) := rfl
        have e3 : ([UInt8.ofNat (240 + c / 262144), UInt8.ofNat (128 + c / 4096 % 64), UInt8.ofNat (128 + c / 64 % 64), UInt8.ofNat (128 + c % 64)] ++ t).getD 3 0 = UInt8.ofNat (128 + c % 64) := rfl
        have hl : ([UInt8.ofNat (240 + c / 262144), UInt8.ofNat (128 + c / 4096 % 64), UInt8.ofNat (128 + c / 64 % 64), UInt8.ofNat (128 + c % 64)] ++ t).length = t.length + 4 := by simp
        rw [e0, e1, e2, e3, hl, u8_of _ (by omega), u8_of _ (by omega), u8_of _ (by omega), u8_of _ (by omega)]
        unfold Lib.decodeN
        have : (240 + c / 262144) % 8 * 262144 + (128 + c / 4096 % 64) % 64 * 4096 + (128 + c / 64 % 64) % 64 * 64 + (128 + c % 64) % 64 = c := by omega
        rw [this, if_neg (by omega), if_neg (by omega), if_neg (by omega), if_pos (by omega), if_pos (by omega)]
        rfl
theorem Dec.okC {l : List UInt8} {c k : Nat} (h : Dec l c k) : OkC c := by
  have h1 := h.eq
  rw [Lib.decodeL_N] at h1
  have := Lib.decodeN_valid l.length (l.getD 0 0).toNat (l.getD 1 0).toNat (l.getD 2 0).toNat (l.getD 3 0).toNat (UInt8.toNat_lt _)
  rw [h1] at this
  unfold OkC
  omega
theorem Dec.encLen {l : List UInt8} {c k : Nat} (h : Dec l c k) (hne : l ≠ []) (hb : ¬ (c = 65533 ∧ k = 1)) : (Lib.encodeRune (c : Int)).length = k := by
  rw [h.enc hne hb, List.length_take]
  have := h.le
  omega
theorem small_okC {c : Nat} (h : OkC c) : OkC (smallN c) := by
  unfold OkC smallN at *
  split <;> omega
theorem small_small (c : Nat) : smallN (smallN c) = smallN c := by
  unfold smallN
  by_cases h : (65 ≤ c ∧ c ≤ 90) ∨ (192 ≤ c ∧ c ≤ 214) ∨ (216 ≤ c ∧ c ≤ 222)
  · rw [if_pos h, if_neg (by omega)]
  · rw [if_neg h, if_neg h]
theorem small_ne {c : Nat} (h : c ≠ 65533) : smallN c ≠ 65533 := by
  unfold smallN
  split <;> omega
theorem small_len (c : Nat) : (Lib.encodeRune (smallN c : Int)).length = (Lib.encodeRune (c : Int)).length := by
  unfold smallN
  by_cases h : (65 ≤ c ∧ c ≤ 90) ∨ (192 ≤ c ∧ c ≤ 214) ∨ (216 ≤ c ∧ c ≤ 222)
  · rw [if_pos h]
    rcases Nat.lt_or_ge c 128 with h1 | h1
    · rw [enc1 c h1, enc1 (c + 32) (by omega)]
      rfl
    · rw [enc2 c h1 (by omega), enc2 (c + 32) (by omega) (by omega)]
      rfl
  · rw [if_neg h]
theorem fold_step_len {l : List UInt8} {c k : Nat} (h : Dec l c k) (hne : l ≠ []) : (foldStep l c k).length = k := by
  unfold foldStep
  by_cases hc : c = 65533
  · rw [if_pos hc, List.length_take]
    have := h.le
    omega
  · rw [if_neg hc, small_len, h.encLen hne (fun e => hc e.1)]
theorem fold_len : ∀ (n : Nat) (l : List UInt8), l.length ≤ n → (foldP l).length = l.length
  | _, [], _ => rfl
  | 0, b :: t, h => by simp at h
  | n + 1, b :: t, h => by
    obtain ⟨c, k, hD⟩ := dec_of (b :: t) (by simp)
    have h1 := hD.one
    have h2 := hD.le
    rw [hD.fold (by simp), List.length_append, fold_step_len hD (by simp), fold_len n _ (by rw [List.length_drop]; simp only [List.length_cons] at h ⊢; omega), List.length_drop]
    omega
/-- The first byte of a fold. -/
theorem fold_head (b : UInt8) (t : List UInt8) : ∃ b' t', foldP (b :: t) = b' :: t' ∧ (b' = b ∨ (b.toNat < 128 ∧ b'.toNat < 128)) ∧ (b.toNat / 64 = 2 → b' = b ∧ t' = foldP t) := by
  obtain ⟨c, k, hD⟩ := dec_of (b :: t) (by simp)
  have hf := hD.fold (by simp)
  have hk := hD.one
  rcases Nat.lt_or_ge c 128 with hlt | hge
  · obtain ⟨rfl, b0, t0, he, hb⟩ := hD.asc hlt
    injection he with he1 he2
    subst he1 he2
    have hs : smallN c < 128 := by unfold smallN; split <;> omega
    refine ⟨UInt8.ofNat (smallN c), foldP t, ?_, .inr ⟨by omega, by rw [u8_of _ (by omega)]; exact hs⟩, fun h => by omega⟩
    rw [hf]
    unfold foldStep
    rw [if_neg (by omega), enc1 _ hs]
    rfl
  · have hbh : 128 ≤ b.toNat := hD.high hge b (by
      obtain ⟨k', rfl⟩ : ∃ k', k = k' + 1 := ⟨k - 1, by omega⟩
      simp)
    have hcont : b.toNat / 64 = 2 → c = 65533 ∧ k = 1 := fun h => by
      have h1 := hD.eq
      rw [Lib.decodeL_N] at h1
      have e0 : (b :: t).getD 0 0 = b := rfl
      rw [e0, Lib.decodeN_cont _ _ _ _ _ h] at h1
      injection h1 with h1 h2
      exact ⟨h1.symm, h2.symm⟩
    by_cases hc : c = 65533
    · obtain ⟨k', rfl⟩ : ∃ k', k = k' + 1 := ⟨k - 1, by omega⟩
      refine ⟨b, t.take k' ++ foldP (t.drop k'), ?_, .inl rfl, fun h => ⟨rfl, ?_⟩⟩
      · rw [hf]
        unfold foldStep
        rw [if_pos hc]
        rfl
      · have := (hcont h).2
        obtain rfl : k' = 0 := by omega
        simp
    · have henc := hD.enc (by simp) (fun e => hc e.1)
      have hfirst : ∃ r, Lib.encodeRune (smallN c : Int) = b :: r := by
        obtain ⟨k', rfl⟩ : ∃ k', k = k' + 1 := ⟨k - 1, by omega⟩
        rw [List.take_succ_cons] at henc
        unfold smallN
        by_cases h : (65 ≤ c ∧ c ≤ 90) ∨ (192 ≤ c ∧ c ≤ 214) ∨ (216 ≤ c ∧ c ≤ 222)
        · rw [if_pos h, enc2 (c + 32) (by omega) (by omega)]
          rw [enc2 c hge (by omega)] at henc
          injection henc with e1 e2
          refine ⟨[UInt8.ofNat (128 + (c + 32) % 64)], ?_⟩
          rw [← e1]
          congr 2
          omega
        · rw [if_neg h]
          exact ⟨_, henc⟩
      obtain ⟨r, hr⟩ := hfirst
      refine ⟨b, r ++ foldP ((b :: t).drop k), ?_, .inl rfl, fun h => absurd (hcont h).1 hc⟩
      rw [hf]
      unfold foldStep
      rw [if_neg hc, hr]
      rfl
/-- A byte that belongs to none belongs to none ahead of a fold too. -/
theorem fold_bad (b : UInt8) (t : List UInt8) (h : Lib.decodeL (b :: t) = (65533, 1)) : Lib.decodeL (b :: foldP t) = (65533, 1) := by
  have hl : (foldP t).length = t.length := fold_len _ t (Nat.le_refl _)
  -- the next three bytes, one by one
  have h1 : (((foldP t).getD 0 0).toNat / 64 = 2 → (foldP t).getD 0 0 = t.getD 0 0 ∧ ∃ t1, t = t.getD 0 0 :: t1 ∧ foldP t = t.getD 0 0 :: foldP t1) := by
    cases t with
    | nil => intro hh; exact absurd hh (by decide)
    | cons x t1 =>
      obtain ⟨x', t', e, hx, hy⟩ := fold_head x t1
      rw [e]
      intro hh
      have hh : x'.toNat / 64 = 2 := hh
      rcases hx with hx | ⟨_, hx⟩
      · subst hx
        have := hy hh
        exact ⟨rfl, t1, rfl, by rw [this.2]; rfl⟩
      · omega
  have ge : ∀ (a : List UInt8) (x : UInt8) (r : List UInt8) (j : Nat), a = x :: r → a.getD (j + 1) 0 = r.getD j 0 := fun a x r j e => by rw [e]; rfl
  have step : ∀ u : List UInt8, (((foldP u).getD 0 0).toNat / 64 = 2 → (foldP u).getD 0 0 = u.getD 0 0 ∧ ∃ u1, u = u.getD 0 0 :: u1 ∧ foldP u = u.getD 0 0 :: foldP u1) := fun u => by
    cases u with
    | nil => intro hh; exact absurd hh (by decide)
    | cons x t1 =>
      obtain ⟨x', t', e, hx, hy⟩ := fold_head x t1
      rw [e]
      intro hh
      have hh : x'.toNat / 64 = 2 := hh
      rcases hx with hx | ⟨_, hx⟩
      · subst hx
        have := hy hh
        exact ⟨rfl, t1, rfl, by rw [this.2]; rfl⟩
      · omega
  clear h1
  rw [Lib.decodeL_N] at h ⊢
  have c0 : (b :: t).getD 0 0 = b := rfl
  have c0' : (b :: foldP t).getD 0 0 = b := rfl
  have c1 : (b :: t).getD 1 0 = t.getD 0 0 := rfl
  have c1' : (b :: foldP t).getD 1 0 = (foldP t).getD 0 0 := rfl
  have c2 : (b :: t).getD 2 0 = t.getD 1 0 := rfl
  have c2' : (b :: foldP t).getD 2 0 = (foldP t).getD 1 0 := rfl
  have c3 : (b :: t).getD 3 0 = t.getD 2 0 := rfl
  have c3' : (b :: foldP t).getD 3 0 = (foldP t).getD 2 0 := rfl
  have cl : (b :: foldP t).length = (b :: t).length := by simp [hl]
  rw [c0, c1, c2, c3] at h
  rw [c0', c1', c2', c3', cl]
  rcases Lib.decodeN_shape (b :: t).length b.toNat ((foldP t).getD 0 0).toNat ((foldP t).getD 1 0).toNat ((foldP t).getD 2 0).toNat with ⟨c, e⟩ | ⟨d1, d2, d3, dv, e⟩ | ⟨d1, d2, d3, d4, dv, ds, e⟩ | ⟨d1, d2, d3, d4, d5, dv, dw, e⟩ | e
  · rw [Lib.decodeN_ascii _ _ _ _ _ c] at h
    injection h with h _
    omega
  · have s1 := (step t d3).1
    rw [s1] at d3 dv e
    unfold Lib.decodeN at h
    rw [if_neg (by omega), if_pos ⟨d1, d2, d3⟩, if_pos (by omega)] at h
    injection h with _ h
    cases h
  · obtain ⟨s1, t1, s2, s3⟩ := step t d3
    have g1 : (foldP t).getD 1 0 = (foldP t1).getD 0 0 := ge _ _ _ 0 s3
    have g2 : t.getD 1 0 = t1.getD 0 0 := ge _ _ _ 0 s2
    rw [g1] at d4 dv ds e
    have s4 := (step t1 d4).1
    rw [s1] at d3 dv ds e
    rw [s4] at d4 dv ds e
    rw [g2] at h
    unfold Lib.decodeN at h
    rw [if_neg (by omega), if_neg (by omega), if_pos ⟨d1, ⟨by omega, d3⟩, d2, d4⟩, if_pos (by omega)] at h
    injection h with _ h
    cases h
  · obtain ⟨s1, t1, s2, s3⟩ := step t d3
    have g1 : (foldP t).getD 1 0 = (foldP t1).getD 0 0 := ge _ _ _ 0 s3
    have g2 : t.getD 1 0 = t1.getD 0 0 := ge _ _ _ 0 s2
    have g3 : (foldP t).getD 2 0 = (foldP t1).getD 1 0 := ge _ _ _ 1 s3
    have g4 : t.getD 2 0 = t1.getD 1 0 := ge _ _ _ 1 s2
    rw [g1] at d4 dv dw e
    rw [g3] at d5 dv dw e
    obtain ⟨s4, t2, s5, s6⟩ := step t1 d4
    have g5 : (foldP t1).getD 1 0 = (foldP t2).getD 0 0 := ge _ _ _ 0 s6
    have g6 : t1.getD 1 0 = t2.getD 0 0 := ge _ _ _ 0 s5
    rw [g5] at d5 dv dw e
    have s7 := (step t2 d5).1
    rw [s1] at d3 dv dw e
    rw [s4] at d4 dv dw e
    rw [s7] at d5 dv dw e
    rw [g2, g4, g6] at h
    unfold Lib.decodeN at h
    rw [if_neg (by omega), if_neg (by omega), if_neg (by omega), if_pos ⟨d1, ⟨by omega, d3⟩, ⟨by omega, d4⟩, d2, d5⟩, if_pos (by omega)] at h
    injection h with _ h
    cases h
  · exact e
/-- What stands ahead in a fold. -/
theorem fold_dec {l : List UInt8} {c k : Nat} (h : Dec l c k) (hne : l ≠ []) : Dec (foldP l) (smallN c) k ∧ foldStep (foldP l) (smallN c) k = foldStep l c k ∧ (foldP l).drop k = foldP (l.drop k) := by
  have hf := h.fold hne
  have hfl := fold_len _ l (Nat.le_refl _)
  have hsl := fold_step_len h hne
  have hk := h.one
  have hkl := h.le
  have hfne : foldP l ≠ [] := fun e => hne (List.eq_nil_of_length_eq_zero (by rw [e] at hfl; exact hfl.symm))
  have hdrop : (foldP l).drop k = foldP (l.drop k) := by
    rw [hf]
    have := List.drop_left (l₁ := foldStep l c k) (l₂ := foldP (l.drop k))
    rw [hsl] at this
    exact this
  have htake : (foldP l).take k = foldStep l c k := by
    rw [hf]
    have := List.take_left (l₁ := foldStep l c k) (l₂ := foldP (l.drop k))
    rw [hsl] at this
    exact this
  have hdec : Lib.decodeL (foldP l) = (smallN c, k) := by
    by_cases hc : c = 65533
    · have hs : smallN c = 65533 := by rw [hc]; rfl
      rw [hs]
      by_cases hk1 : k = 1
      · cases l with
        | nil => exact absurd rfl hne
        | cons b t =>
          rw [hf, hk1]
          unfold foldStep
          rw [if_pos hc]
          show Lib.decodeL (b :: foldP t) = _
          exact fold_bad b t (by rw [h.eq, hc, hk1])
      · have henc := h.enc hne (fun e => hk1 e.2)
        have hel := h.encLen hne (fun e => hk1 e.2)
        rw [hf]
        unfold foldStep
        rw [if_pos hc, ← henc, hc]
        rw [hc] at hel
        rw [dec_enc 65533 (by unfold OkC; omega), hel]
    · rw [hf]
      unfold foldStep
      rw [if_neg hc, dec_enc _ (small_okC h.okC), small_len, h.encLen hne (fun e => hc e.1)]
  obtain ⟨c', k', hD'⟩ := dec_of _ hfne
  have he := hD'.eq
  rw [hdec] at he
  injection he with e1 e2
  subst e1 e2
  refine ⟨hD', ?_, hdrop⟩
  by_cases hc : c = 65533
  · have hs : smallN c = 65533 := by rw [hc]; rfl
    unfold foldStep at htake ⊢
    rw [if_pos hs, if_pos hc, htake, if_pos hc]
  · unfold foldStep
    rw [if_neg (small_ne hc), if_neg hc, small_small]
theorem fold_fold : ∀ (n : Nat) (l : List UInt8), l.length ≤ n → foldP (foldP l) = foldP l
  | _, [], _ => rfl
  | 0, b :: t, h => by simp at h
  | n + 1, b :: t, h => by
    obtain ⟨c, k, hD⟩ := dec_of (b :: t) (by simp)
    have h1 := hD.one
    obtain ⟨hD', h2, h3⟩ := fold_dec hD (by simp)
    have hfl := fold_len _ (b :: t) (Nat.le_refl _)
    have hfne : foldP (b :: t) ≠ [] := fun e => by rw [e] at hfl; simp at hfl
    rw [hD'.fold hfne, h2, h3, fold_fold n _ (by rw [List.length_drop]; simp only [List.length_cons] at h ⊢; omega), ← hD.fold (by simp)]
theorem nameN_small (c : Nat) : nameN (smallN c) = nameN c := by
  unfold smallN
  by_cases h : (65 ≤ c ∧ c ≤ 90) ∨ (192 ≤ c ∧ c ≤ 214) ∨ (216 ≤ c ∧ c ≤ 222)
  · rw [if_pos h]
    have e1 : nameN (c + 32) = true := by
      unfold nameN
      simp only [Bool.or_eq_true, Bool.and_eq_true, decide_eq_true_iff]
      omega
    have e2 : nameN c = true := by
      unfold nameN
      simp only [Bool.or_eq_true, Bool.and_eq_true, decide_eq_true_iff]
      omega
    rw [e1, e2]
  · rw [if_neg h]
theorem fold_name : ∀ (n : Nat) (l : List UInt8), l.length ≤ n → Lib.validD (foldP l) = Lib.validD l ∧ nameL (foldP l) = nameL l
  | _, [], _ => ⟨rfl, rfl⟩
  | 0, b :: t, h => by simp at h
  | n + 1, b :: t, h => by
    obtain ⟨c, k, hD⟩ := dec_of (b :: t) (by simp)
    have h1 := hD.one
    obtain ⟨hD', h2, h3⟩ := fold_dec hD (by simp)
    have hfl := fold_len _ (b :: t) (Nat.le_refl _)
    have hfne : foldP (b :: t) ≠ [] := fun e => by rw [e] at hfl; simp at hfl
    obtain ⟨ih1, ih2⟩ := fold_name n ((b :: t).drop k) (by rw [List.length_drop]; simp only [List.length_cons] at h ⊢; omega)
    constructor
    · rw [Lib.validD_step _ hfne, Lib.validD_step (b :: t) (by simp), hD'.eq, hD.eq]
      dsimp only
      rw [h3, ih1]
      by_cases hc : c = 65533
      · have hs : smallN c = 65533 := by rw [hc]; rfl
        rw [hs, hc]
      · rw [if_neg (fun e => small_ne hc e.1), if_neg (fun e => hc e.1)]
    · rw [hD'.nameStep, hD.nameStep, h3, ih2, nameN_small]
theorem checkN_fold (l : List UInt8) : checkN (foldP l) = checkN l := by
  obtain ⟨h1, h2⟩ := fold_name _ l (Nat.le_refl _)
  have h3 := fold_len _ l (Nat.le_refl _)
  unfold checkN checkL
  unfold nameL at h2
  rw [h1, h2, h3]
/-! ### letters A to Z -/
def upB (b : UInt8) : UInt8 := if 97 ≤ b.toNat ∧ b.toNat ≤ 122 then b - 32 else b
def upL (l : List UInt8) : List UInt8 := l.map upB
theorem upB_nat (b : UInt8) : (upB b).toNat = if 97 ≤ b.toNat ∧ b.toNat ≤ 122 then b.toNat - 32 else b.toNat := by
  unfold upB
  by_cases h : 97 ≤ b.toNat ∧ b.toNat ≤ 122
  · rw [if_pos h, if_pos h, UInt8.toNat_sub_of_le]
    · rfl
    · rw [UInt8.le_iff_toNat_le]
      show 32 ≤ b.toNat
      omega
  · rw [if_neg h, if_neg h]
theorem upB_high {b : UInt8} (h : 128 ≤ b.toNat) : upB b = b := by
  unfold upB
  rw [if_neg (by omega)]
theorem upB_sim (b : UInt8) : upB b = b ∨ (b.toNat < 128 ∧ (upB b).toNat < 128) := by
  by_cases h : 97 ≤ b.toNat ∧ b.toNat ≤ 122
  · refine .inr ⟨by omega, ?_⟩
    rw [upB_nat, if_pos h]
    omega
  · exact .inl (by unfold upB; rw [if_neg h])
def Sim (x y : Nat) : Prop := x = y ∨ (x < 128 ∧ y < 128)
theorem decodeN_sim (n b0 b1 b2 b3 c1 c2 c3 : Nat) (h0 : 128 ≤ b0) (h1 : Sim b1 c1) (h2 : Sim b2 c2) (h3 : Sim b3 c3) : Lib.decodeN n b0 b1 b2 b3 = Lib.decodeN n b0 c1 c2 c3 := by
  have k1 : (b1 / 64 = 2 ↔ c1 / 64 = 2) ∧ (b1 / 64 = 2 → b1 = c1) := by unfold Sim at h1; omega
  have k2 : (b2 / 64 = 2 ↔ c2 / 64 = 2) ∧ (b2 / 64 = 2 → b2 = c2) := by unfold Sim at h2; omega
  have k3 : (b3 / 64 = 2 ↔ c3 / 64 = 2) ∧ (b3 / 64 = 2 → b3 = c3) := by unfold Sim at h3; omega
  unfold Lib.decodeN
  rw [if_neg (show ¬ b0 < 128 by omega), if_neg (show ¬ b0 < 128 by omega)]
  by_cases p1 : b0 / 32 = 6 ∧ (1 < n ∧ b1 / 64 = 2)
  · have := k1.2 p1.2.2
    subst this
    rw [if_pos p1, if_pos p1]
  · have n1 : ¬ (b0 / 32 = 6 ∧ (1 < n ∧ c1 / 64 = 2)) := by rw [← k1.1]; exact p1
    rw [if_neg p1, if_neg n1]
    by_cases p2 : b0 / 16 = 14 ∧ (1 < n ∧ b1 / 64 = 2) ∧ (2 < n ∧ b2 / 64 = 2)
    · have e1 := k1.2 p2.2.1.2
      have e2 := k2.2 p2.2.2.2
      subst e1 e2
      rw [if_pos p2, if_pos p2]
    · have n2 : ¬ (b0 / 16 = 14 ∧ (1 < n ∧ c1 / 64 = 2) ∧ (2 < n ∧ c2 / 64 = 2)) := by rw [← k1.1, ← k2.1]; exact p2
      rw [if_neg p2, if_neg n2]
      by_cases p3 : b0 / 8 = 30 ∧ (1 < n ∧ b1 / 64 = 2) ∧ (2 < n ∧ b2 / 64 = 2) ∧ (3 < n ∧ b3 / 64 = 2)
      · have e1 := k1.2 p3.2.1.2
        have e2 := k2.2 p3.2.2.1.2
        have e3 := k3.2 p3.2.2.2.2
        subst e1 e2 e3
        rw [if_pos p3]
      · have n3 : ¬ (b0 / 8 = 30 ∧ (1 < n ∧ c1 / 64 = 2) ∧ (2 < n ∧ c2 / 64 = 2) ∧ (3 < n ∧ c3 / 64 = 2)) := by rw [← k1.1, ← k2.1, ← k3.1]; exact p3
        rw [if_neg p3, if_neg n3]
theorem up_getD (l : List UInt8) (j : Nat) : Sim (l.getD j 0).toNat ((upL l).getD j 0).toNat := by
  unfold upL
  rw [List.getD_eq_getElem?_getD, List.getD_eq_getElem?_getD, List.getElem?_map]
  cases l[j]? with
  | none => exact .inl rfl
  | some b =>
    show Sim b.toNat (upB b).toNat
    rcases upB_sim b with h | h
    · exact .inl (by rw [h])
    · exact .inr h
theorem fold_up : ∀ (n : Nat) (l : List UInt8), l.length ≤ n → foldP (upL l) = foldP l
  | _, [], _ => rfl
  | 0, b :: t, h => by simp at h
  | n + 1, b :: t, h => by
    obtain ⟨c, k, hD⟩ := dec_of (b :: t) (by simp)
    have h1 := hD.one
    have hle := hD.le
    have ih := fold_up n ((b :: t).drop k) (by rw [List.length_drop]; simp only [List.length_cons] at h ⊢; omega)
    have hne : upL (b :: t) ≠ [] := by simp [upL]
    have hdr : (upL (b :: t)).drop k = upL ((b :: t).drop k) := by unfold upL; rw [List.map_drop]
    rcases Nat.lt_or_ge c 128 with hlt | hge
    · obtain ⟨rfl, b0, t0, he, hb⟩ := hD.asc hlt
      injection he with he1 he2
      subst he1 he2
      have hub := upB_nat b
      obtain ⟨c', k', hD'⟩ := dec_of _ hne
      have hlt' : (upB b).toNat < 128 := by rw [hub]; split <;> omega
      have hde : Lib.decodeL (upL (b :: t)) = ((upB b).toNat, 1) := Lib.decodeL_ascii (upB b) (upL t) hlt'
      have he := hD'.eq
      rw [hde] at he
      injection he with e1 e2
      subst e1 e2
      rw [hD'.fold hne, hD.fold (by simp), hdr, ih]
      congr 1
      unfold foldStep
      rw [if_neg (by omega), if_neg (by omega)]
      congr 2
      rw [hub]
      unfold smallN
      split <;> split <;> split <;> omega
    · have hbh : 128 ≤ b.toNat := hD.high hge b (by
        obtain ⟨k', rfl⟩ : ∃ k', k = k' + 1 := ⟨k - 1, by omega⟩
        simp)
      have hde : Lib.decodeL (upL (b :: t)) = (c, k) := by
        have h2 := hD.eq
        rw [Lib.decodeL_N] at h2 ⊢
        have e0 : ((upL (b :: t)).getD 0 0).toNat = ((b :: t).getD 0 0).toNat := by
          show (upB b).toNat = b.toNat
          rw [upB_high hbh]
        have el : (upL (b :: t)).length = (b :: t).length := by unfold upL; simp
        rw [e0, el]
        exact (decodeN_sim (b :: t).length b.toNat _ _ _ _ _ _ hbh (up_getD (b :: t) 1) (up_getD (b :: t) 2) (up_getD (b :: t) 3)).symm.trans h2
      obtain ⟨c', k', hD'⟩ := dec_of _ hne
      have he := hD'.eq
      rw [hde] at he
      injection he with e1 e2
      subst e1 e2
      rw [hD'.fold hne, hD.fold (by simp), hdr, ih]
      congr 1
      unfold foldStep
      split
      · unfold upL
        rw [← List.map_take]
        conv => rhs; rw [← List.map_id ((b :: t).take k)]
        refine List.map_congr_left fun x hx => ?_
        exact upB_high (hD.high hge x hx)
      · rfl
end Go.Proofs.YthkifgjmhpppkaaDoor
