/- Code points against bytes: what a decoding step says of the bytes. -/
import Derived.Test.YthkifgjmhpppkaaDoorTxC
import Derived.Lib.MapLaws
import Derived.Lib.ValidLaws
import Derived.Lib.SpaceUEq
import Derived.Lib.Explode
namespace Go.Proofs.YthkifgjmhpppkaaDoor
open Go.RowKit

/-- A code point c of k bytes stands ahead in l. -/
structure Dec (l : List UInt8) (c k : Nat) : Prop where
  eq : Lib.decodeL l = (c, k)
  one : 1 ≤ k
  le : k ≤ l.length
  asc : c < 128 → k = 1 ∧ ∃ b t, l = b :: t ∧ b.toNat = c
  high : 128 ≤ c → ∀ x ∈ l.take k, 128 ≤ x.toNat
  max : c ≤ 1114111
theorem dec_take (l : List UInt8) (k : Nat) (h : k ≤ l.length) (p : Nat → Prop) (h0 : ∀ j, j < k → p (l.getD j 0).toNat) : ∀ x ∈ l.take k, p x.toNat := by
  intro x hx
  obtain ⟨j, hj, rfl⟩ := List.mem_iff_getElem.1 hx
  rw [List.length_take] at hj
  have := h0 j (by omega)
  rw [List.getD_eq_getElem?_getD, List.getElem?_eq_getElem (by omega)] at this
  rw [List.getElem_take]
  exact this
theorem dec_of (l : List UInt8) (hne : l ≠ []) : ∃ c k, Dec l c k := by
  have hl : 0 < l.length := List.length_pos_iff.2 hne
  refine ⟨(Lib.decodeL l).1, (Lib.decodeL l).2, ⟨rfl, Lib.decodeL_width l, Lib.decodeL_le l hne, ?_, ?_, Lib.decodeL_rune l⟩⟩
  · intro h
    rw [Lib.decodeL_N] at h ⊢
    rcases Lib.decodeN_shape l.length (l.getD 0 0).toNat (l.getD 1 0).toNat (l.getD 2 0).toNat (l.getD 3 0).toNat with ⟨c, e⟩ | ⟨c1, c2, c3, cv, e⟩ | ⟨c1, c2, c3, c4, cv, cs, e⟩ | ⟨c1, c2, c3, c4, c5, cv, cw, e⟩ | e
    · rw [e]
      refine ⟨rfl, ?_⟩
      cases l with
      | nil => exact absurd rfl hne
      | cons b t => exact ⟨b, t, rfl, rfl⟩
    all_goals (rw [e] at h; dsimp only at h; omega)
  · intro h
    have hle := Lib.decodeL_le l hne
    rw [Lib.decodeL_N] at h hle ⊢
    have hc := Lib.decodeN_conts l.length (l.getD 0 0).toNat (l.getD 1 0).toNat (l.getD 2 0).toNat (l.getD 3 0).toNat
    have h0 : 128 ≤ (l.getD 0 0).toNat := by
      rcases Nat.lt_or_ge (l.getD 0 0).toNat 128 with hlt | hge
      · rw [Lib.decodeN, if_pos hlt] at h
        dsimp only at h
        omega
      · exact hge
    generalize Lib.decodeN l.length (l.getD 0 0).toNat (l.getD 1 0).toNat (l.getD 2 0).toNat (l.getD 3 0).toNat = d at *
    refine dec_take l d.2 hle (fun n => 128 ≤ n) (fun j hj => ?_)
    have hj4 : j = 0 ∨ j = 1 ∨ j = 2 ∨ j = 3 := by have := hc.2.2.2; omega
    rcases hj4 with rfl | rfl | rfl | rfl
    · exact h0
    · have := (hc.1 (by omega)).1; show 128 ≤ _; omega
    · have := (hc.2.1 (by omega)).1; show 128 ≤ _; omega
    · have := (hc.2.2.1 (by omega)).1; show 128 ≤ _; omega
theorem drop_ne {s : ByteArray} {pos : Nat} (hp : pos < s.size) : s.data.toList.drop pos ≠ [] := by
  intro h
  have := congrArg List.length h
  rw [List.length_drop] at this
  have h2 : s.data.toList.length = s.size := rfl
  simp at this
  omega
theorem dec_at (s : ByteArray) (pos : Nat) (hp : pos < s.size) : ∃ c k, Utf8.decode s pos = (c, k) ∧ Dec (s.data.toList.drop pos) c k ∧ pos + k ≤ s.size := by
  obtain ⟨c, k, h⟩ := dec_of _ (drop_ne hp)
  refine ⟨c, k, by rw [← h.eq, Lib.decodeL_drop], h, ?_⟩
  have := h.le
  rw [List.length_drop] at this
  have h2 : s.data.toList.length = s.size := rfl
  omega
theorem Dec.valid {l : List UInt8} {c k : Nat} (h : Dec l c k) (hne : l ≠ []) (hv : Lib.validD l = true) : ¬ (c = 65533 ∧ k = 1) ∧ Lib.validD (l.drop k) = true := by
  rw [Lib.validD_step l hne, h.eq] at hv
  dsimp only at hv
  by_cases hb : c = 65533 ∧ k = 1
  · rw [if_pos hb] at hv
    cases hv
  · rw [if_neg hb] at hv
    exact ⟨hb, hv⟩
theorem Dec.enc {l : List UInt8} {c k : Nat} (h : Dec l c k) (hne : l ≠ []) (hb : ¬ (c = 65533 ∧ k = 1)) : Lib.encodeRune (c : Int) = l.take k := by
  have := Lib.encode_decode l hne (by rw [h.eq]; exact hb)
  rw [h.eq] at this
  exact this
/-- May a code point, or a byte, stand in a line? -/
def plainN (c : Nat) : Bool := (decide (32 ≤ c) && !decide (c = 127)) || decide (c = 9)
theorem plainN_high {c : Nat} (h : 128 ≤ c) : plainN c = true := by
  unfold plainN
  rw [decide_eq_true (show 32 ≤ c by omega), decide_eq_false (show ¬ c = 127 by omega)]
  rfl
/-! ### a bare word -/
def stopN (c : Nat) : Bool := decide (c = 32) || decide (c = 9)
def badN (c : Nat) : Bool := decide (c = 34) || decide (c = 92) || !plainN c
def bareN : List UInt8 → Nat → Option Nat
  | [], i => some i
  | b :: t, i => if stopN b.toNat = true then some i else if badN b.toNat = true then none else bareN t (i + 1)
theorem stopN_high {c : Nat} (h : 128 ≤ c) : stopN c = false := by
  unfold stopN
  rw [decide_eq_false (show ¬ c = 32 by omega), decide_eq_false (show ¬ c = 9 by omega)]
  rfl
theorem badN_high {c : Nat} (h : 128 ≤ c) : badN c = false := by
  unfold badN
  rw [decide_eq_false (show ¬ c = 34 by omega), decide_eq_false (show ¬ c = 92 by omega), plainN_high h]
  rfl
theorem bareN_high : ∀ (k : Nat) (l : List UInt8) (i : Nat), k ≤ l.length → (∀ x ∈ l.take k, 128 ≤ x.toNat) → bareN l i = bareN (l.drop k) (i + k)
  | 0, l, i, _, _ => by simp
  | k + 1, [], i, h, _ => by simp at h
  | k + 1, b :: t, i, h, hx => by
    have h0 : 128 ≤ b.toNat := hx b (by simp)
    rw [bareN, stopN_high h0, badN_high h0]
    show bareN t (i + 1) = bareN (t.drop k) (i + (k + 1))
    rw [bareN_high k t (i + 1) (by simpa using h) (fun x hx' => hx x (by rw [List.take_succ_cons]; exact List.mem_cons_of_mem _ hx'))]
    congr 1
    omega
theorem Dec.bare {l : List UInt8} {c k : Nat} (h : Dec l c k) (i : Nat) : bareN l i = if stopN c = true then some i else if badN c = true then none else bareN (l.drop k) (i + k) := by
  rcases Nat.lt_or_ge c 128 with hlt | hge
  · obtain ⟨rfl, b, t, rfl, hb⟩ := h.asc hlt
    rw [bareN, hb]
    rfl
  · rw [stopN_high hge, badN_high hge, if_neg (by decide), if_neg (by decide)]
    exact bareN_high k l i h.le (h.high hge)
/-! ### a quoted word, behind its first quote -/
def quoN : Bool → List UInt8 → Nat → List UInt8 → Option (List UInt8 × Nat)
  | _, _, _, [] => none
  | true, acc, i, b :: t => if b.toNat = 34 ∨ b.toNat = 92 then quoN false (acc ++ [b]) (i + 1) t else none
  | false, acc, i, b :: t => if b.toNat = 92 then quoN true acc (i + 1) t else if b.toNat = 34 then some (acc, i + 2) else if plainN b.toNat = true then quoN false (acc ++ [b]) (i + 1) t else none
theorem quoN_high : ∀ (k : Nat) (l acc : List UInt8) (i : Nat), k ≤ l.length → (∀ x ∈ l.take k, 128 ≤ x.toNat) → quoN false acc i l = quoN false (acc ++ l.take k) (i + k) (l.drop k)
  | 0, l, acc, i, _, _ => by simp
  | k + 1, [], acc, i, h, _ => by simp at h
  | k + 1, b :: t, acc, i, h, hx => by
    have h0 : 128 ≤ b.toNat := hx b (by simp)
    rw [quoN, if_neg (by omega), if_neg (by omega), plainN_high h0]
    show quoN false (acc ++ [b]) (i + 1) t = _
    rw [quoN_high k t (acc ++ [b]) (i + 1) (by simpa using h) (fun x hx' => hx x (by rw [List.take_succ_cons]; exact List.mem_cons_of_mem _ hx'))]
    have : acc ++ [b] ++ t.take k = acc ++ (b :: t).take (k + 1) := by simp
    rw [this]
    congr 1
    omega
theorem Dec.quo {l : List UInt8} {c k : Nat} (h : Dec l c k) (acc : List UInt8) (i : Nat) : quoN false acc i l = if c = 92 then quoN true acc (i + k) (l.drop k) else if c = 34 then some (acc, i + 2) else if plainN c = true then quoN false (acc ++ l.take k) (i + k) (l.drop k) else none := by
  rcases Nat.lt_or_ge c 128 with hlt | hge
  · obtain ⟨rfl, b, t, rfl, hb⟩ := h.asc hlt
    rw [quoN, hb]
    rfl
  · rw [if_neg (by omega), if_neg (by omega), plainN_high hge, if_pos rfl]
    exact quoN_high k l acc i h.le (h.high hge)
theorem Dec.quoE {l : List UInt8} {c k : Nat} (h : Dec l c k) (acc : List UInt8) (i : Nat) : quoN true acc i l = if c = 34 ∨ c = 92 then quoN false (acc ++ l.take k) (i + k) (l.drop k) else none := by
  rcases Nat.lt_or_ge c 128 with hlt | hge
  · obtain ⟨rfl, b, t, rfl, hb⟩ := h.asc hlt
    rw [quoN, hb]
    rfl
  · rw [if_neg (by omega)]
    have h1 := h.one
    cases l with
    | nil => have := h.le; simp at this; omega
    | cons b t =>
      have h0 : 128 ≤ b.toNat := h.high hge b (by
        obtain ⟨k', rfl⟩ : ∃ k', k = k' + 1 := ⟨k - 1, by omega⟩
        simp)
      rw [quoN, if_neg (by omega)]
/-! ### folding -/
def smallN (c : Nat) : Nat := if (65 ≤ c ∧ c ≤ 90) ∨ (192 ≤ c ∧ c ≤ 214) ∨ (216 ≤ c ∧ c ≤ 222) then c + 32 else c
/-- What the program writes for a code point c of k bytes ahead of l. -/
def foldStep (l : List UInt8) (c k : Nat) : List UInt8 := if c = 65533 then l.take k else Lib.encodeRune (smallN c : Int)
def foldG : Nat → List UInt8 → List UInt8
  | 0, _ => []
  | f + 1, l => if l = [] then [] else foldStep l (Lib.decodeL l).1 (Lib.decodeL l).2 ++ foldG f (l.drop (Lib.decodeL l).2)
def foldP (l : List UInt8) : List UInt8 := foldG l.length l
theorem foldG_fuel : ∀ (f g : Nat) (l : List UInt8), l.length ≤ f → l.length ≤ g → foldG f l = foldG g l
  | 0, g, l, hf, _ => by
    have : l = [] := List.eq_nil_of_length_eq_zero (by omega)
    subst this
    cases g <;> simp [foldG]
  | f + 1, 0, l, _, hg => by
    have : l = [] := List.eq_nil_of_length_eq_zero (by omega)
    subst this
    simp [foldG]
  | f + 1, g + 1, l, hf, hg => by
    rw [foldG, foldG]
    by_cases hl : l = []
    · rw [if_pos hl, if_pos hl]
    · rw [if_neg hl, if_neg hl]
      have := Lib.decodeL_width l
      have h0 : 0 < l.length := List.length_pos_iff.2 hl
      rw [foldG_fuel f g _ (by rw [List.length_drop]; omega) (by rw [List.length_drop]; omega)]
theorem foldP_nil : foldP [] = [] := rfl
theorem Dec.fold {l : List UInt8} {c k : Nat} (h : Dec l c k) (hne : l ≠ []) : foldP l = foldStep l c k ++ foldP (l.drop k) := by
  unfold foldP
  have h0 : 0 < l.length := List.length_pos_iff.2 hne
  obtain ⟨n, hn⟩ : ∃ n, l.length = n + 1 := ⟨l.length - 1, by omega⟩
  have h1 := h.one
  rw [hn, foldG, if_neg hne, h.eq]
  dsimp only
  rw [foldG_fuel n (l.drop k).length _ (by rw [List.length_drop]; omega) (Nat.le_refl _)]
/-! ### names -/
def nameN (c : Nat) : Bool := (decide (97 ≤ c) && decide (c ≤ 122)) || (decide (65 ≤ c) && decide (c ≤ 90)) || (decide (48 ≤ c) && decide (c ≤ 57)) || decide (c = 45) || decide (c = 46) || decide (c = 95) || decide (127 < c)
def checkL (l : List UInt8) : Bool := decide (1 ≤ l.length) && decide (l.length ≤ 64) && Lib.validD l && l.all (fun b => nameN b.toNat)
theorem nameN_high {c : Nat} (h : 128 ≤ c) : nameN c = true := by
  unfold nameN
  rw [decide_eq_true (show 127 < c by omega)]
  simp
theorem Dec.name {l : List UInt8} {c k : Nat} (h : Dec l c k) : l.all (fun b => nameN b.toNat) = (nameN c && (l.drop k).all (fun b => nameN b.toNat)) := by
  rcases Nat.lt_or_ge c 128 with hlt | hge
  · obtain ⟨rfl, b, t, rfl, hb⟩ := h.asc hlt
    rw [List.all_cons, hb]
    rfl
  · have h1 : (l.take k).all (fun b => nameN b.toNat) = true := by
      rw [List.all_eq_true]
      intro x hx
      exact nameN_high (h.high hge x hx)
    have h2 : l.all (fun b => nameN b.toNat) = ((l.take k ++ l.drop k).all (fun b => nameN b.toNat)) := by rw [List.take_append_drop]
    rw [h2, List.all_append, h1, nameN_high hge]
end Go.Proofs.YthkifgjmhpppkaaDoor
