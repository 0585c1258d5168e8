/- Amount: what the document's function comes to is what the program's comes to. -/
import Derived.Test.YthkifgjmhpppkaaDoorTxG
namespace Go.Proofs.YthkifgjmhpppkaaDoor
open Go.RowKit Go.Proofs.YthkifgjmhpppkaaDoorW.PrintWords Go.Proofs.YthkifgjmhpppkaaDoor.PTextAmounts

def valL (l : List UInt8) (n : Nat) : Nat := l.foldl (fun n d => 10 * n + (d.toNat - 48)) n
theorem foldl_min (C : Nat) : ∀ (l : List UInt8) (a b : Nat), a = min b C → l.foldl (fun n d => min (10 * n + (d.toNat - 48)) C) a = min (valL l b) C
  | [], a, b, h => h
  | c :: t, a, b, h => by
    show t.foldl _ _ = min (valL t (10 * b + (c.toNat - 48))) C
    refine foldl_min C t _ _ ?_
    subst h
    show min (10 * min b C + (c.toNat - 48)) C = _
    generalize c.toNat - 48 = d
    omega
theorem amtN_val (l : List UInt8) : amtN l = min (valL l 0) amtC := foldl_min amtC l 0 0 (by unfold amtC; omega)
def refF (l : List UInt8) (n : Nat) : Nat := l.foldl (fun n d => min (10 * n + (d.toNat - 48)) 9007199254740992) n
theorem refF_val (l : List UInt8) : refF l 0 = min (valL l 0) 9007199254740992 := foldl_min _ l 0 0 (by omega)
theorem digit_f (c : UInt8) : tallyref2_digit.f (c.toNat : Int) = some (digB c) := by
  unfold tallyref2_digit.f digB
  by_cases h : 48 ≤ c.toNat
  · rw [if_pos (by omega), decide_eq_true h, Bool.true_and]
    congr 1
    exact decide_eq_decide.2 (by omega)
  · rw [if_neg (by omega), decide_eq_false h, Bool.false_and]
theorem bt_app (a0 : ByteArray) (p t : List UInt8) (c : UInt8) (h : a0.data.toList = p ++ c :: t) : bt a0 ((p.length : Nat) : Int) = (c.toNat : Int) := by
  have hs : a0.size = (p ++ c :: t).length := by rw [← h]; rfl
  unfold bt
  rw [Int.toNat_natCast]
  have hl : p.length < a0.size := by rw [hs]; simp
  rw [dif_pos hl]
  have e : a0[p.length] = a0.data.toList[p.length]'(by simpa using hl) := rfl
  rw [e]
  simp only [h]
  rw [List.getElem_append_right (Nat.le_refl _)]
  simp
theorem beq_39 (c : UInt8) : (((c.toNat : Nat) : Int) == 39) = (c == 39) := by
  rw [Bool.eq_iff_iff, beq_iff_eq, beq_iff_eq]
  constructor
  · intro h
    exact UInt8.toNat_inj.1 (by show _ = 39; omega)
  · rintro rfl
    rfl
def partB (m : Bool) (n : Nat) : Bool := m && (n % 4 == 0)
theorem ok1_part (m : Bool) (c : UInt8) (n : Nat) : ok1 m c n = ((partB m n == (c == 39)) && (partB m n || digB c)) := rfl
/-- One round of the document's last loop. -/
theorem ref_round (a0 : ByteArray) (p t r : List UInt8) (c : UInt8) (e cc : Int) (m : Bool) (n K : Nat) (h : a0.data.toList = p ++ c :: (t ++ r)) (he : e = ((p.length + t.length + 1 : Nat) : Int)) (hs : a0.size ≤ 1048576) (hn : n ≤ 9007199254740992) :
    tallyref2_Amount.l2 (K + 3) a0 e cc m n (p.length : Nat) = if ok1 m c (t.length + 1) = true then tallyref2_Amount.l2 K a0 e cc m (if partB m (t.length + 1) = true then n else min (10 * n + (c.toNat - 48)) 9007199254740992 : Nat) ((p ++ [c]).length : Nat) else some (0, 21) := by
  have hsz : a0.size = p.length + (1 + (t.length + r.length)) := by
    have : a0.data.toList.length = a0.size := rfl
    rw [h] at this
    simp at this
    omega
  have hb := bt_app a0 p (t ++ r) c h
  have hw : wrap64 (((p.length : Nat) : Int) + 1) = (((p ++ [c]).length : Nat) : Int) := by
    simp [wrap64]
    omega
  have hpart : (if m = true then tallyref2_Amount.j5 (K + 2) a0 e cc m (n : Int) ((p.length : Nat) : Int) ((Int.tmod (wrap64 (e - ((p.length : Nat) : Int))) 4) == 0) else tallyref2_Amount.j5 (K + 2) a0 e cc m (n : Int) ((p.length : Nat) : Int) false) = tallyref2_Amount.j5 (K + 2) a0 e cc m (n : Int) ((p.length : Nat) : Int) (partB m (t.length + 1)) := by
    unfold partB
    cases m with
    | false => rw [if_neg (by decide), Bool.false_and]
    | true =>
      rw [if_pos rfl, Bool.true_and]
      congr 1
      have : wrap64 (e - ((p.length : Nat) : Int)) = ((t.length + 1 : Nat) : Int) := by unfold wrap64; omega
      rw [this, Int.tmod_eq_emod_of_nonneg (by omega), Bool.eq_iff_iff, beq_iff_eq, beq_iff_eq]
      omega
  rw [tallyref2_Amount.l2, if_pos (by omega), hpart]
  rw [tallyref2_Amount.j5, if_pos (by omega), if_pos (by omega), hb, beq_39, ok1_part, digit_f]
  generalize hP : partB m (t.length + 1) = P
  have hc1 := c.toNat_lt
  have hj6 : ∀ x : Bool, tallyref2_Amount.j6 (K + 1) a0 e cc m (n : Int) ((p.length : Nat) : Int) P x = if x = true then some (0, 21) else if P = true then tallyref2_Amount.l2 K a0 e cc m (n : Nat) ((p ++ [c]).length : Nat) else if wrap64 (wrap64 (10 * (n : Int)) + ((((c.toNat : Nat) : Int) - 48) % 256)) > 9007199254740992 then tallyref2_Amount.l2 K a0 e cc m 9007199254740992 ((p ++ [c]).length : Nat) else tallyref2_Amount.l2 K a0 e cc m (wrap64 (wrap64 (10 * (n : Int)) + ((((c.toNat : Nat) : Int) - 48) % 256))) ((p ++ [c]).length : Nat) := fun x => by
    rw [tallyref2_Amount.j6, hw, if_neg (show ¬ ((n : Int) > 9007199254740992) by omega), if_pos (show (0 : Int) ≤ ((p.length : Nat) : Int) by omega), if_pos (show ((p.length : Nat) : Int) < (a0.size : Int) by omega), hb]
  rw [Option.bind_some, hj6, hj6, hj6]
  cases h39 : (c == 39) with
  | true =>
    cases P with
    | true => simp
    | false => simp
  | false =>
    cases P with
    | true => simp
    | false =>
      cases hd : digB c with
      | false => simp
      | true =>
        have hd2 : 48 ≤ c.toNat ∧ c.toNat ≤ 57 := by
          unfold digB at hd
          simpa using hd
        have e1 : wrap64 (wrap64 (10 * (n : Int)) + ((((c.toNat : Nat) : Int) - 48) % 256)) = ((10 * n + (c.toNat - 48) : Nat) : Int) := by
          have : wrap64 (10 * (n : Int)) = 10 * n := by unfold wrap64; omega
          rw [this]
          unfold wrap64
          omega
        rw [e1]
        simp only [bne_self_eq_false, Bool.false_eq_true, if_false, Bool.not_true, beq_self_eq_true, Bool.and_self, Bool.or_true, if_true]
        by_cases ho : 10 * n + (c.toNat - 48) > 9007199254740992
        · rw [if_pos (by omega)]
          congr 1
          omega
        · rw [if_neg (by omega)]
          congr 1
          omega
theorem ref_l2 (a0 : ByteArray) (hs : a0.size ≤ 1048576) (r : List UInt8) (e cc : Int) (m : Bool) : ∀ (t p : List UInt8) (n K : Nat), a0.data.toList = p ++ (t ++ r) → e = ((p.length + t.length : Nat) : Int) → n ≤ 9007199254740992 → 
    tallyref2_Amount.l2 (3 * t.length + K + 3) a0 e cc m n (p.length : Nat) = if okR m t = true then tallyref2_Amount.l2 (K + 3) a0 e cc m (refF (t.filter (fun c => c != 39)) n : Nat) e else some (0, 21)
  | [], p, n, K, h, he, hn => by
    rw [if_pos (show okR m [] = true from rfl)]
    simp at he
    rw [← he]
    congr 1
    simp
  | c :: t, p, n, K, h, he, hn => by
    have hr := ref_round a0 p t r c e cc m n (3 * t.length + K + 3) h (by rw [he, List.length_cons]; rfl) hs hn
    rw [List.length_cons, show 3 * (t.length + 1) + K + 3 = 3 * t.length + K + 3 + 3 by omega, hr, okR]
    cases h1 : ok1 m c (t.length + 1) with
    | false => simp
    | true =>
      rw [if_pos rfl, Bool.true_and]
      obtain ⟨n', hn'⟩ : ∃ n' : Nat, (if partB m (t.length + 1) = true then n else min (10 * n + (c.toNat - 48)) 9007199254740992 : Nat) = n' := ⟨_, rfl⟩
      have hn2 : n' ≤ 9007199254740992 := by rw [← hn']; split <;> omega
      rw [hn', ref_l2 a0 hs r e cc m t (p ++ [c]) n' K (by rw [h]; simp) (by rw [he]; simp; omega) hn2]
      have hf : refF (t.filter (fun c => c != 39)) n' = refF ((c :: t).filter (fun c => c != 39)) n := by
        rw [ok1_part, Bool.and_eq_true] at h1
        have h2 := h1.1
        rw [← hn']
        cases hp : partB m (t.length + 1) with
        | true =>
          rw [hp] at h2
          have h3 : (c == 39) = true := by
            cases h4 : (c == 39) with
            | true => rfl
            | false => rw [h4] at h2; exact absurd h2 (by decide)
          rw [List.filter_cons_of_neg (by simpa using h3), if_pos rfl]
        | false =>
          rw [hp] at h2
          have h3 : (c == 39) = false := by
            cases h4 : (c == 39) with
            | false => rfl
            | true => rw [h4] at h2; exact absurd h2 (by decide)
          rw [List.filter_cons_of_pos (by rw [bne, h3]; rfl), if_neg (by decide)]
          rfl
      rw [hf]
theorem ref_l1 (a0 : ByteArray) (hs : a0.size ≤ 1048576) (r : List UInt8) (e cc : Int) : ∀ (t p : List UInt8) (m : Bool) (K : Nat), a0.data.toList = p ++ (t ++ r) → e = ((p.length + t.length : Nat) : Int) →
    tallyref2_Amount.l1 (t.length + K) a0 e cc m (p.length : Nat) = tallyref2_Amount.l1 K a0 e cc (m || t.contains 39) e
  | [], p, m, K, h, he => by
    simp at he
    rw [← he]
    simp
  | c :: t, p, m, K, h, he => by
    have hsz : a0.size = p.length + (1 + (t.length + r.length)) := by
      have : a0.data.toList.length = a0.size := rfl
      rw [h] at this
      simp at this
      omega
    have hb := bt_app a0 p (t ++ r) c h
    have hw : wrap64 (((p.length : Nat) : Int) + 1) = (((p ++ [c]).length : Nat) : Int) := by
      simp [wrap64]
      omega
    have ih := fun m' => ref_l1 a0 hs r e cc t (p ++ [c]) m' K (by rw [h]; simp) (by rw [he]; simp; omega)
    have h8 : ((p.length : Nat) : Int) < e := by rw [he]; simp only [List.length_cons]; omega
    cases m with
    | true =>
      rw [List.length_cons, show t.length + 1 + K = t.length + K + 1 by omega, tallyref2_Amount.l1, if_pos h8, hw, if_pos rfl, ih]
      simp
    | false =>
      rw [List.length_cons, show t.length + 1 + K = t.length + K + 1 by omega, tallyref2_Amount.l1, if_pos h8, hw, if_neg (by decide), if_pos (by omega), if_pos (by omega), hb, beq_39, ih, List.contains_cons, Bool.false_or]
      have e : ((39 : UInt8) == c) = (c == 39) := by rw [Bool.eq_iff_iff, beq_iff_eq, beq_iff_eq]; exact eq_comm
      rw [e]
/-- The whole and the cents, as the document takes them. -/
def wholeR (b : List UInt8) (cc : Nat) : Nat × Nat :=
  if (headDig b && okR (b.contains 39) b) = false then (0, 21)
  else if b.head? = some 48 ∧ b ≠ [48] then (0, 21)
  else if 9007199254740992 < 100 * refF (b.filter (fun c => c != 39)) 0 + cc then (0, 22) else (100 * refF (b.filter (fun c => c != 39)) 0 + cc, 0)
def pairI (x : Nat × Nat) : Int × Int := ((x.1 : Int), (x.2 : Int))
theorem ref_j1 (a0 : ByteArray) (hs : a0.size ≤ 1048576) (b r : List UInt8) (h : a0.data.toList = b ++ r) (cc K : Nat) (hc : cc < 100) :
    tallyref2_Amount.j1 (4 * b.length + K + 9) a0 (b.length : Nat) cc = some (pairI (wholeR b cc)) := by
  have h1 := ref_l1 a0 hs r (b.length : Nat) cc b [] false (3 * b.length + K + 8) (by simpa using h) (by simp)
  rw [tallyref2_Amount.j1, show 4 * b.length + K + 8 = b.length + (3 * b.length + K + 8) by omega]
  rw [List.length_nil] at h1
  have h0 : ((0 : Nat) : Int) = 0 := rfl
  rw [h0] at h1
  rw [h1, Bool.false_or, tallyref2_Amount.l1, if_neg (by omega)]
  have h2 := ref_l2 a0 hs r (b.length : Nat) cc (b.contains 39) b [] 0 (K + 3) (by simpa using h) (by simp) (by omega)
  rw [List.length_nil, h0] at h2
  have hj : ∀ x : Bool, tallyref2_Amount.j3 (3 * b.length + K + 7) a0 (b.length : Nat) cc (b.contains 39) x = if x = true then some (0, 21) else if okR (b.contains 39) b = true then tallyref2_Amount.l2 (K + 3 + 3) a0 (b.length : Nat) cc (b.contains 39) (refF (b.filter (fun c => c != 39)) 0 : Nat) (b.length : Nat) else some (0, 21) := fun x => by
    rw [tallyref2_Amount.j3, show 3 * b.length + K + 6 = 3 * b.length + (K + 3) + 3 by omega, h2]
  cases hb : b with
  | nil =>
    rw [hb] at hj
    rw [if_pos (by simp), hj, if_pos rfl]
    rfl
  | cons c t =>
    rw [← hb]
    have hbt : bt a0 0 = (c.toNat : Int) := bt_app a0 [] (t ++ r) c (by rw [h, hb]; rfl)
    have hsz : b.length ≤ a0.size := by
      have : a0.data.toList.length = a0.size := rfl
      rw [h] at this
      simp at this
      omega
    have hl1 : b.length = t.length + 1 := by rw [hb]; rfl
    have hhd : headDig b = digB c := by rw [hb]; rfl
    have hh : b.head? = some c := by rw [hb]; rfl
    rw [if_neg (by omega), if_pos (by omega), hbt, digit_f, Option.bind_some, hj, hj, hj]
    unfold wholeR
    rw [hhd]
    cases hd : digB c with
    | false => rfl
    | true =>
      rw [if_pos rfl, Bool.true_and]
      have h48 : (((c.toNat : Nat) : Int) = 48) ↔ b.head? = some 48 := by
        rw [hh]
        constructor
        · intro h
          congr 1
          exact UInt8.toNat_inj.1 (by show _ = 48; omega)
        · intro h
          injection h with h
          rw [h]
          rfl
      have hb48 : b.head? = some 48 → (decide (((b.length : Nat) : Int) > 1) = true ↔ b ≠ [48]) := by
        intro hh'
        rw [hh] at hh'
        injection hh' with hh'
        rw [decide_eq_true_iff, hb, hh']
        cases t with
        | nil => simp
        | cons _ _ => simp
                      omega
      cases hok : okR (b.contains 39) b with
      | false =>
        simp only [Bool.false_eq_true, if_false, ite_self]
        rfl
      | true =>
        have hfin : tallyref2_Amount.l2 (K + 3 + 3) a0 (b.length : Nat) cc (b.contains 39) (refF (b.filter (fun c => c != 39)) 0 : Nat) (b.length : Nat) = some (pairI (if 9007199254740992 < 100 * refF (b.filter (fun c => c != 39)) 0 + cc then (0, 22) else (100 * refF (b.filter (fun c => c != 39)) 0 + cc, 0))) := by
          rw [tallyref2_Amount.l2, if_neg (by omega)]
          have hn : refF (b.filter (fun c => c != 39)) 0 ≤ 9007199254740992 := by rw [refF_val]; omega
          generalize refF (b.filter (fun c => c != 39)) 0 = n at hn ⊢
          have e1 : wrap64 (wrap64 (100 * (n : Int)) + (cc : Int)) = ((100 * n + cc : Nat) : Int) := by unfold wrap64; omega
          rw [e1]
          by_cases ho : 9007199254740992 < 100 * n + cc
          · rw [if_pos (by omega), if_pos ho]
            rfl
          · rw [if_neg (by omega), if_neg ho]
            have e2 : IntKind.u64.wrap ((100 * n + cc : Nat) : Int) = ((100 * n + cc : Nat) : Int) := by rw [IntKind.wrap_u64]; omega
            rw [e2]
            rfl
        rw [if_pos rfl, hfin]
        by_cases h0 : (((c.toNat : Nat) : Int) = 48)
        · rw [if_pos h0]
          have h3 := hb48 (h48.1 h0)
          by_cases h4 : decide (((b.length : Nat) : Int) > 1) = true
          · rw [if_pos h4, if_neg (show ¬ (true = false) by decide), if_pos ⟨h48.1 h0, h3.1 h4⟩]
            rfl
          · rw [if_neg h4, if_neg (show ¬ (true = false) by decide), if_neg (show ¬ (b.head? = some 48 ∧ b ≠ [48]) from fun hx => h4 (h3.2 hx.2))]
        · rw [if_neg h0, if_neg (show ¬ (true = false) by decide), if_neg (show ¬ (b.head? = some 48 ∧ b ≠ [48]) from fun hx => h0 (h48.2 hx.1)), if_neg (show ¬ (false = true) by decide)]
theorem ref_l0 (a0 : ByteArray) (hs : a0.size ≤ 1048576) (r : List UInt8) (e cc : Int) : ∀ (t p : List UInt8) (K : Nat), a0.data.toList = p ++ (t ++ r) → 46 ∉ t →
    tallyref2_Amount.l0 (t.length + K) a0 e cc (p.length : Nat) = tallyref2_Amount.l0 K a0 e cc ((p.length + t.length : Nat) : Int)
  | [], p, K, h, _ => by simp
  | c :: t, p, K, h, h46 => by
    have hsz : a0.size = p.length + (1 + (t.length + r.length)) := by
      have : a0.data.toList.length = a0.size := rfl
      rw [h] at this
      simp at this
      omega
    have hb := bt_app a0 p (t ++ r) c h
    have hw : wrap64 (((p.length : Nat) : Int) + 1) = (((p ++ [c]).length : Nat) : Int) := by
      simp [wrap64]
      omega
    have ih := ref_l0 a0 hs r e cc t (p ++ [c]) K (by rw [h]; simp) (fun h => h46 (List.mem_cons_of_mem _ h))
    have hc : ¬ ((c.toNat : Nat) : Int) = 46 := fun h => h46 (by
      have : c = 46 := UInt8.toNat_inj.1 (by show _ = 46; omega)
      rw [this]
      exact List.mem_cons_self)
    rw [List.length_cons, show t.length + 1 + K = t.length + K + 1 by omega, tallyref2_Amount.l0, if_pos (by omega), if_pos (by omega), hb, if_neg hc, hw, ih]
    congr 1
    simp
    omega
theorem cut46 (l : List UInt8) : (46 ∉ l ∧ Lib.cut l [46] = (l, [], false)) ∨ ∃ p q, l = p ++ 46 :: q ∧ 46 ∉ p ∧ Lib.cut l [46] = (p, q, true) := by
  rcases idx1 46 l with ⟨h1, h2⟩ | ⟨p, q, h1, h2, h3⟩
  · refine .inl ⟨h1, ?_⟩
    unfold Lib.cut
    rw [h2, if_neg (by decide)]
  · refine .inr ⟨p, q, h1, h2, ?_⟩
    unfold Lib.cut
    rw [h3, if_pos (by omega), Int.toNat_natCast, h1]
    simp
theorem valL_cents (l : List UInt8) (x y : UInt8) : valL (l ++ [x, y]) 0 = 100 * valL l 0 + (10 * (x.toNat - 48) + (y.toNat - 48)) := by
  unfold valL
  rw [List.foldl_append]
  simp only [List.foldl_cons, List.foldl_nil]
  omega
theorem grps_ne (b : ByteArray) : grps b ≠ [] := by
  intro h
  have := grps_spl b
  rw [h] at this
  exact spl_ne _ this.symm
theorem flat_eq (b : ByteArray) : ((grps b).map (·.data.toList)).flatten = b.data.toList.filter (fun c => c != 39) := by
  rw [grps_spl, spl_flat _ _ (Nat.le_refl _)]
/-- The whole and two digits. -/
theorem amt_whole (b : List UInt8) (x y : UInt8) (b2 : ByteArray) (dot : Bool) (hC : (if dot = true then b2.data.toList else [48, 48]) = [x, y]) (hx : x.toNat - 48 ≤ 9) (hy : y.toNat - 48 ≤ 9) :
    (if grpsOk (grps ⟨b.toArray⟩) = false then ((0 : Nat), (21 : Nat)) else if b.head? = some 48 ∧ b ≠ [48] then (0, 21) else if 9007199254740992 < amtN (amtD ⟨b.toArray⟩ b2 dot) then (0, 22) else (amtN (amtD ⟨b.toArray⟩ b2 dot), 0)) = wholeR b (10 * (x.toNat - 48) + (y.toNat - 48)) := by
  have hgo : grpsOk (grps ⟨b.toArray⟩) = (headDig b && okR (b.contains 39) b) := by
    rw [grpsOk_spl _ (grps_ne _), grps_spl]
    exact (ref_ok b).symm
  have hD : amtD ⟨b.toArray⟩ b2 dot = b.filter (fun c => c != 39) ++ [x, y] := by
    unfold amtD
    rw [flat_eq, hC]
  unfold wholeR
  rw [hgo, hD, amtN_val, refF_val, valL_cents]
  generalize valL (b.filter (fun c => c != 39)) 0 = V
  generalize x.toNat - 48 = x' at hx
  generalize y.toNat - 48 = y' at hy
  unfold amtC
  by_cases h1 : (headDig b && okR (b.contains 39) b) = false
  · rw [if_pos h1, if_pos h1]
  · rw [if_neg h1, if_neg h1]
    by_cases h2 : b.head? = some 48 ∧ b ≠ [48]
    · rw [if_pos h2, if_pos h2]
    · rw [if_neg h2, if_neg h2]
      by_cases h3 : 9007199254740992 < 100 * V + (10 * x' + y')
      · rw [if_pos (by omega), if_pos (by omega)]
      · rw [if_neg (by omega), if_neg (by omega)]
        have e1 : min (100 * V + (10 * x' + y')) 90071992547409920 = 100 * V + (10 * x' + y') := by omega
        have e2 : min V 9007199254740992 = V := by omega
        rw [e1, e2]
theorem figs2 (x y : UInt8) : figsL [x, y] = (digB x && digB y) := by
  unfold figsL
  simp
theorem amount_ref (a0 : ByteArray) (hs : a0.size ≤ 1048576) : tallyref2_Amount.f (8 * a0.size + 30) a0 = some (pairI (amtP a0)) := by
  unfold tallyref2_Amount.f amtP amtB
  have hsz : a0.data.toList.length = a0.size := rfl
  rcases cut46 a0.data.toList with ⟨h1, h2⟩ | ⟨p, q, h1, h2, h3⟩
  · have hl0 := ref_l0 a0 hs [] (a0.size : Int) 0 a0.data.toList [] (7 * a0.size + 30) (by simp) h1
    have h0 : ((([] : List UInt8).length : Nat) : Int) = 0 := rfl
    rw [h0, hsz] at hl0
    rw [show 8 * a0.size + 30 = a0.size + (7 * a0.size + 30) by omega, hl0, h2, tallyref2_Amount.l0, if_neg (by simp)]
    have hj := ref_j1 a0 hs a0.data.toList [] (by simp) 0 (3 * a0.size + 20) (by omega)
    rw [hsz] at hj
    rw [show 7 * a0.size + 29 = 4 * a0.size + (3 * a0.size + 20) + 9 by omega]
    rw [show ((0 : Nat) : Int) = 0 from rfl] at hj
    rw [hj]
    congr 2
    rw [if_neg (by simp)]
    exact (amt_whole a0.data.toList 48 48 ⟨#[]⟩ false rfl (by decide) (by decide)).symm
  · have hl0 := ref_l0 a0 hs (46 :: q) (a0.size : Int) 0 p [] (7 * a0.size + 30 + (a0.size - p.length)) (by simpa using h1) h2
    have h0 : ((([] : List UInt8).length : Nat) : Int) = 0 := rfl
    have hpz : a0.size = p.length + (q.length + 1) := by rw [← hsz, h1]; simp
    rw [h0] at hl0
    rw [show 8 * a0.size + 30 = p.length + (7 * a0.size + 30 + (a0.size - p.length)) by omega, hl0, h3]
    have hb := bt_app a0 p q 46 h1
    rw [List.length_nil, Nat.zero_add, show 7 * a0.size + 30 + (a0.size - p.length) = 7 * a0.size + 29 + (a0.size - p.length) + 1 by omega, tallyref2_Amount.l0, if_pos (by omega), if_pos (by omega), hb, if_pos (by decide)]
    have hqs : (ByteArray.mk q.toArray).size = q.length := by show q.toArray.size = _; simp
    by_cases hq : q.length = 2
    · obtain ⟨x, y, rfl⟩ : ∃ x y, q = [x, y] := by
        match q, hq with
        | [x, y], _ => exact ⟨x, y, rfl⟩
      have e1 : wrap64 (((p.length : Nat) : Int) + 3) = (a0.size : Int) := by unfold wrap64; simp at hpz; omega
      have hpz' : a0.size = p.length + 3 := hpz
      have w1 : wrap64 (((p.length : Nat) : Int) + 1) = (((p ++ [46]).length : Nat) : Int) := by simp only [wrap64, List.length_append, List.length_cons, List.length_nil]; omega
      have w2 : wrap64 (((p.length : Nat) : Int) + 2) = (((p ++ [46, x]).length : Nat) : Int) := by simp only [wrap64, List.length_append, List.length_cons, List.length_nil]; omega
      have b1 := bt_app a0 (p ++ [46]) [y] x (by rw [h1]; simp)
      have b2 := bt_app a0 (p ++ [46, x]) [] y (by rw [h1]; simp)
      have l1 : (((p ++ [46]).length : Nat) : Int) < (a0.size : Int) := by simp only [List.length_append, List.length_cons, List.length_nil]; omega
      have l2 : (((p ++ [46, x]).length : Nat) : Int) < (a0.size : Int) := by simp only [List.length_append, List.length_cons, List.length_nil]; omega
      rw [if_pos e1, w1, if_pos (by omega), if_pos l1, b1, digit_f, Option.bind_some, w2]
      simp only [hqs, figs2]
      cases hdx : digB x with
      | false =>
        rw [if_neg (show ¬ (false = true) by decide), if_pos ⟨trivial, .inr rfl⟩]
        rfl
      | true =>
        rw [if_pos rfl, if_pos (by omega), if_pos l2, b2, digit_f, Option.bind_some]
        cases hdy : digB y with
        | false =>
          rw [if_neg (show ¬ (false = true) by decide), if_pos ⟨trivial, .inr rfl⟩]
          rfl
        | true =>
          have hx2 : 48 ≤ x.toNat ∧ x.toNat ≤ 57 := by unfold digB at hdx; simpa using hdx
          have hy2 : 48 ≤ y.toNat ∧ y.toNat ≤ 57 := by unfold digB at hdy; simpa using hdy
          have hj := ref_j1 a0 hs p (46 :: [x, y]) h1 (10 * (x.toNat - 48) + (y.toNat - 48)) (7 * a0.size + 20 + (a0.size - p.length) - 4 * p.length) (by omega)
          have ec : 10 * (((x.toNat : Nat) : Int) - 48) % 256 + ((((y.toNat : Nat) : Int) - 48) % 256) = ((10 * (x.toNat - 48) + (y.toNat - 48) : Nat) : Int) := by omega
          have ec2 : 10 * ((((x.toNat : Nat) : Int) - 48) % 256) + ((((y.toNat : Nat) : Int) - 48) % 256) = ((10 * (x.toNat - 48) + (y.toNat - 48) : Nat) : Int) := by omega
          rw [if_pos rfl, ec2, show 7 * a0.size + 29 + (a0.size - p.length) = 4 * p.length + (7 * a0.size + 20 + (a0.size - p.length) - 4 * p.length) + 9 by omega, hj]
          congr 2
          rw [if_neg (by simp)]
          exact (amt_whole p x y ⟨#[x, y]⟩ true rfl (by omega) (by omega)).symm
    · have e1 : ¬ wrap64 (((p.length : Nat) : Int) + 3) = (a0.size : Int) := by unfold wrap64; omega
      rw [if_neg e1]
      simp only [hqs]
      rw [if_pos ⟨trivial, .inl hq⟩]
      rfl
end Go.Proofs.YthkifgjmhpppkaaDoor
