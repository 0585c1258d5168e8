/- The document's code point, plain: what the printed function answers. -/
import Derived.Test.YthkifgjmhpppkaaDoorTxY
import Derived.Test.YthkifgjmhpppkaaDoorPrD
namespace Go.Proofs.YthkifgjmhpppkaaDoor
open Go.RowKit Go.Proofs.YthkifgjmhpppkaaDoorW.PrintWords Go.Proofs.YthkifgjmhpppkaaDoor.PTextAmounts Go.Proofs.YthkifgjmhpppkaaDoor.PTextLines

theorem w64n (n : Int) (h : -9223372036854775808 ≤ n ∧ n ≤ 9223372036854775807) : wrap64 n = n := by unfold wrap64; omega
/-- The byte at a place. -/
def byN (s : ByteArray) (i : Nat) : Nat := (s.data.toList.getD i 0).toNat
theorem byN_lt (s : ByteArray) (i : Nat) : byN s i < 256 := by
  unfold byN
  have := (s.data.toList.getD i 0).toNat_lt
  omega
theorem bt_byN (s : ByteArray) (i : Nat) (h : i < s.size) : bt s (i : Int) = (byN s i : Int) := by
  have hl : s.data.toList.length = s.size := rfl
  unfold bt byN
  rw [Int.toNat_natCast, dif_pos h, List.getD_eq_getElem?_getD, List.getElem?_eq_getElem (by omega)]
  rfl
theorem l0_end (k : Nat) (s : ByteArray) (i c N : Nat) (L : Nat) : tallyref2_Point.l0 (k + 1) s i c N L N = if L ≤ c ∧ c ≤ 1114111 ∧ ¬ (55296 ≤ c ∧ c ≤ 57343) then some ((c : Int), (N : Int)) else some (0, 0) := by
  conv => lhs; unfold tallyref2_Point.l0
  rw [if_neg (by omega)]
  by_cases h1 : c < L
  · rw [if_pos (by omega), if_neg (by omega)]
  rw [if_neg (by omega)]
  by_cases h2 : c > 1114111
  · rw [if_pos (by omega), if_neg (by omega)]
  rw [if_neg (by omega)]
  by_cases h3 : c ≥ 55296
  · rw [if_pos (by omega)]
    by_cases h4 : c ≤ 57343
    · rw [if_pos (by omega), if_neg (by omega)]
    · rw [if_neg (by omega), if_pos (by omega)]
  · rw [if_neg (by omega), if_pos (by omega)]
theorem l0_step (k : Nat) (s : ByteArray) (i c N j : Nat) (L : Int) (hi : i + j < 9223372036854775807) (hc : c < 1073741824) (hj : j < N) : tallyref2_Point.l0 (k + 1) s i c N L j = if i + j < s.size ∧ byN s (i + j) / 64 = 2 then tallyref2_Point.l0 k s i ((c * 64 + byN s (i + j) % 64 : Nat) : Int) N L ((j + 1 : Nat) : Int) else some (0, 0) := by
  have e1 : wrap64 ((i : Int) + (j : Int)) = ((i + j : Nat) : Int) := by unfold wrap64; omega
  have e2 : wrap64 ((j : Int) + 1) = ((j + 1 : Nat) : Int) := by unfold wrap64; omega
  conv => lhs; unfold tallyref2_Point.l0
  rw [if_pos (by omega), e1, e2]
  by_cases h1 : i + j < s.size
  · rw [if_neg (by omega), if_pos (by omega), if_pos (by omega), bt_byN s _ h1]
    have hb := byN_lt s (i + j)
    by_cases h2 : byN s (i + j) < 128
    · rw [if_pos (by omega), if_neg (by omega)]
    rw [if_neg (by omega)]
    by_cases h3 : byN s (i + j) > 191
    · rw [if_pos (by omega), if_neg (by omega)]
    rw [if_neg (by omega), if_pos (by omega)]
    have e3 : wrap64 (wrap64 (wrap64 (64 * (c : Int)) + wrap64 (byN s (i + j) : Int)) - 128) = ((c * 64 + byN s (i + j) % 64 : Nat) : Int) := by
      generalize byN s (i + j) = b at *
      rw [w64n (64 * (c : Int)) ⟨by omega, by omega⟩, w64n (b : Int) ⟨by omega, by omega⟩, w64n (64 * (c : Int) + (b : Int)) ⟨by omega, by omega⟩, w64n (64 * (c : Int) + (b : Int) - 128) ⟨by omega, by omega⟩]
      omega
    rw [e3]
  · rw [if_pos (by omega), if_neg (by omega)]
theorem j0_one (k : Nat) (s : ByteArray) (i x : Int) (b : Bool) : tallyref2_Point.j0 (k + 1) s i x b = if b = true then tallyref2_Point.j2 k s i (wrap64 (x - 192)) 2 128 else if x ≥ 224 then tallyref2_Point.j1 k s i x (decide (x ≤ 239)) else tallyref2_Point.j1 k s i x false := by
  conv => lhs; unfold tallyref2_Point.j0
theorem j1_one (k : Nat) (s : ByteArray) (i x : Int) (b : Bool) : tallyref2_Point.j1 (k + 1) s i x b = if b = true then tallyref2_Point.j2 k s i (wrap64 (x - 224)) 3 2048 else if x ≥ 240 then if x ≤ 244 then tallyref2_Point.j2 k s i (wrap64 (x - 240)) 4 65536 else some (0, 0) else some (0, 0) := by
  conv => lhs; unfold tallyref2_Point.j1
theorem j2_one (k : Nat) (s : ByteArray) (i c n m : Int) : tallyref2_Point.j2 (k + 1) s i c n m = tallyref2_Point.l0 k s i c n m 1 := by
  conv => lhs; unfold tallyref2_Point.j2
/-- A decoded point as the document gives it. -/
def pointZ (p : Nat × Nat) : Int × Int := if p.1 = 65533 ∧ p.2 = 1 then (0, 0) else ((p.1 : Int), (p.2 : Int))
def endO (L c N : Nat) : Option (Int × Int) := if L ≤ c ∧ c ≤ 1114111 ∧ ¬ (55296 ≤ c ∧ c ≤ 57343) then some ((c : Int), (N : Int)) else some (0, 0)
def refO (n b0 b1 b2 b3 : Nat) : Option (Int × Int) :=
  if b0 < 128 then some ((b0 : Int), 1)
  else if b0 < 194 then some (0, 0)
  else if b0 < 224 then (if 1 < n ∧ b1 / 64 = 2 then endO 128 ((b0 - 192) * 64 + b1 % 64) 2 else some (0, 0))
  else if b0 < 240 then (if 1 < n ∧ b1 / 64 = 2 then (if 2 < n ∧ b2 / 64 = 2 then endO 2048 (((b0 - 224) * 64 + b1 % 64) * 64 + b2 % 64) 3 else some (0, 0)) else some (0, 0))
  else if b0 < 245 then (if 1 < n ∧ b1 / 64 = 2 then (if 2 < n ∧ b2 / 64 = 2 then (if 3 < n ∧ b3 / 64 = 2 then endO 65536 ((((b0 - 240) * 64 + b1 % 64) * 64 + b2 % 64) * 64 + b3 % 64) 4 else some (0, 0)) else some (0, 0)) else some (0, 0))
  else some (0, 0)
theorem point_refO (s : ByteArray) (i : Nat) (hi : i < s.size) (hs : s.size ≤ 4611686018427387904) : tallyref2_Point.f 10 s (i : Int) = refO (s.size - i) (byN s i) (byN s (i + 1)) (byN s (i + 2)) (byN s (i + 3)) := by
  have hb := byN_lt s i
  have h1 := byN_lt s (i + 1)
  have h2 := byN_lt s (i + 2)
  have h3 := byN_lt s (i + 3)
  have hw : wrap64 (byN s i : Int) = (byN s i : Int) := by unfold wrap64; omega
  have c1 : (i + 1 < s.size) = (1 < s.size - i) := propext ⟨fun h => by omega, fun h => by omega⟩
  have c2 : (i + 2 < s.size) = (2 < s.size - i) := propext ⟨fun h => by omega, fun h => by omega⟩
  have c3 : (i + 3 < s.size) = (3 < s.size - i) := propext ⟨fun h => by omega, fun h => by omega⟩
  unfold tallyref2_Point.f
  rw [if_pos (by omega), if_pos (by omega), bt_byN s i hi, hw]
  unfold refO
  generalize byN s i = b0 at *
  by_cases k1 : b0 < 128
  · rw [if_pos (by omega), if_pos k1]
  rw [if_neg (by omega), if_neg k1]
  by_cases k2 : b0 < 194
  · rw [if_neg (by omega), if_pos k2]
    rw [j0_one 9, if_neg (by decide), if_neg (by omega), j1_one 8, if_neg (by decide), if_neg (by omega)]
  rw [if_pos (by omega), if_neg k2]
  by_cases k3 : b0 < 224
  · rw [if_pos k3, decide_eq_true (show (b0 : Int) ≤ 223 by omega)]
    rw [j0_one 9, if_pos rfl, j2_one 8, show wrap64 ((b0 : Int) - 192) = ((b0 - 192 : Nat) : Int) by unfold wrap64; omega]
    have e1 := l0_step 7 s i (b0 - 192) 2 1 128 (by omega) (by omega) (by omega)
    have e2 := l0_end 6 s i ((b0 - 192) * 64 + byN s (i + 1) % 64) 2 128
    refine e1.trans ?_
    exact ite_congr (congrArg (· ∧ _) c1) (fun _ => e2) (fun _ => rfl)
  rw [if_neg k3, decide_eq_false (show ¬ (b0 : Int) ≤ 223 by omega)]
  rw [j0_one 9, if_neg (by decide), if_pos (by omega), j1_one 8]
  by_cases k4 : b0 < 240
  · rw [if_pos k4, decide_eq_true (show (b0 : Int) ≤ 239 by omega), if_pos rfl, j2_one 7, show wrap64 ((b0 : Int) - 224) = ((b0 - 224 : Nat) : Int) by unfold wrap64; omega]
    have e1 := l0_step 6 s i (b0 - 224) 3 1 2048 (by omega) (by omega) (by omega)
    have e2 := l0_step 5 s i ((b0 - 224) * 64 + byN s (i + 1) % 64) 3 2 2048 (by omega) (by omega) (by omega)
    have e3 := l0_end 4 s i (((b0 - 224) * 64 + byN s (i + 1) % 64) * 64 + byN s (i + 2) % 64) 3 2048
    refine e1.trans ?_
    refine ite_congr (congrArg (· ∧ _) c1) (fun _ => e2.trans ?_) (fun _ => rfl)
    exact ite_congr (congrArg (· ∧ _) c2) (fun _ => e3) (fun _ => rfl)
  rw [if_neg k4, decide_eq_false (show ¬ (b0 : Int) ≤ 239 by omega), if_neg (by decide), if_pos (by omega)]
  by_cases k5 : b0 < 245
  · rw [if_pos k5, if_pos (by omega), j2_one 7, show wrap64 ((b0 : Int) - 240) = ((b0 - 240 : Nat) : Int) by unfold wrap64; omega]
    have e1 := l0_step 6 s i (b0 - 240) 4 1 65536 (by omega) (by omega) (by omega)
    have e2 := l0_step 5 s i ((b0 - 240) * 64 + byN s (i + 1) % 64) 4 2 65536 (by omega) (by omega) (by omega)
    have e3 := l0_step 4 s i (((b0 - 240) * 64 + byN s (i + 1) % 64) * 64 + byN s (i + 2) % 64) 4 3 65536 (by omega) (by omega) (by omega)
    have e4 := l0_end 3 s i ((((b0 - 240) * 64 + byN s (i + 1) % 64) * 64 + byN s (i + 2) % 64) * 64 + byN s (i + 3) % 64) 4 65536
    refine e1.trans ?_
    refine ite_congr (congrArg (· ∧ _) c1) (fun _ => e2.trans ?_) (fun _ => rfl)
    refine ite_congr (congrArg (· ∧ _) c2) (fun _ => e3.trans ?_) (fun _ => rfl)
    exact ite_congr (congrArg (· ∧ _) c3) (fun _ => e4) (fun _ => rfl)
  · rw [if_neg k5, if_neg (by omega)]
theorem refO_dec (n b0 b1 b2 b3 : Nat) (h0 : b0 < 256) : refO n b0 b1 b2 b3 = some (pointZ (Lib.decodeN n b0 b1 b2 b3)) := by
  unfold refO endO Lib.decodeN
  repeat' split
  all_goals first
    | (exfalso; omega)
    | (refine (congrArg some (show ((0 : Int), (0 : Int)) = pointZ (65533, 1) from ?_)); unfold pointZ; exact (if_pos ⟨rfl, rfl⟩).symm)
    | (unfold pointZ; rw [if_neg (fun h => by have h1 := h.1; have h2 := h.2; dsimp only at h1 h2; omega)]; exact congrArg some (Prod.ext (by first | (dsimp only; done) | (dsimp only; omega)) (by first | (dsimp only; done) | (dsimp only; omega))))
theorem point_any (s : ByteArray) (i : Nat) (hi : i < s.size) (hs : s.size ≤ 4611686018427387904) : tallyref2_Point.f 10 s (i : Int) = some (pointZ (Utf8.decode s i)) := by
  rw [point_refO s i hi hs, refO_dec _ _ _ _ _ (byN_lt s i), Lib.decode_N]
  rfl
end Go.Proofs.YthkifgjmhpppkaaDoor
