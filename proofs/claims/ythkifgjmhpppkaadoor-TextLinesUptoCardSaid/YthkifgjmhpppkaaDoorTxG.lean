/- Amount: the program's plain function and the document's are one. -/
import Derived.Test.YthkifgjmhpppkaaDoorTxE
import Derived.Test.YthkifgjmhpppkaaDoorPrA
namespace Go.Proofs.YthkifgjmhpppkaaDoor
open Go.RowKit Go.Proofs.YthkifgjmhpppkaaDoorW.PrintWords Go.Proofs.YthkifgjmhpppkaaDoor.PTextAmounts

/-! ### lists: the first instance of a byte, splitting -/
theorem idx1 (c : UInt8) : ∀ l : List UInt8, (c ∉ l ∧ Lib.index l [c] = -1) ∨ ∃ p q, l = p ++ c :: q ∧ c ∉ p ∧ Lib.index l [c] = (p.length : Int)
  | [] => .inl ⟨by simp, rfl⟩
  | b :: l => by
    by_cases hb : b = c
    · subst hb
      refine .inr ⟨[], l, rfl, by simp, ?_⟩
      unfold Lib.index
      rw [if_pos (by simp [List.isPrefixOf])]
      rfl
    · have h0 : ([c].isPrefixOf (b :: l)) = false := by
        simp [List.isPrefixOf]
        exact fun h => hb h.symm
      rcases idx1 c l with ⟨h1, h2⟩ | ⟨p, q, h1, h2, h3⟩
      · refine .inl ⟨?_, ?_⟩
        · intro h
          rcases List.mem_cons.1 h with h | h
          · exact hb h.symm
          · exact h1 h
        · unfold Lib.index
          rw [h0, h2]
          rfl
      · refine .inr ⟨b :: p, q, by rw [h1]; rfl, ?_, ?_⟩
        · intro h
          rcases List.mem_cons.1 h with h | h
          · exact hb h.symm
          · exact h2 h
        · unfold Lib.index
          rw [h0, h3]
          have : (((p.length : Nat) : Int) == -1) = false := by rw [beq_eq_false_iff_ne]; omega
          simp [this]
/-- Split at 39. -/
def spl : List UInt8 → List (List UInt8)
  | [] => [[]]
  | c :: t => if c = 39 then [] :: spl t else match spl t with
    | [] => [[c]]
    | g :: r => (c :: g) :: r
theorem spl_none : ∀ l : List UInt8, 39 ∉ l → spl l = [l]
  | [], _ => rfl
  | c :: t, h => by
    have h1 : ¬ c = 39 := fun e => h (by rw [e]; exact List.mem_cons_self)
    have h2 : 39 ∉ t := fun e => h (List.mem_cons_of_mem _ e)
    unfold spl
    rw [if_neg h1, spl_none t h2]
theorem spl_hit : ∀ (p q : List UInt8), 39 ∉ p → spl (p ++ 39 :: q) = p :: spl q
  | [], q, _ => by
    show spl (39 :: q) = _
    rw [spl, if_pos rfl]
  | c :: t, q, h => by
    have h1 : ¬ c = 39 := fun e => h (by rw [e]; exact List.mem_cons_self)
    have h2 : 39 ∉ t := fun e => h (List.mem_cons_of_mem _ e)
    show spl (c :: (t ++ 39 :: q)) = _
    rw [spl, if_neg h1, spl_hit t q h2]
theorem spl_ne (l : List UInt8) : spl l ≠ [] := by
  cases l with
  | nil => simp [spl]
  | cons c t =>
    unfold spl
    split
    · simp
    · split <;> simp
theorem splitK_spl : ∀ (n : Nat) (s : List UInt8) (k : Nat), s.length ≤ n → List.count 39 s ≤ k → Lib.splitK [39] 0 k s = spl s
  | n, s, 0, _, hk => by
    have h : 39 ∉ s := fun h => by have := List.count_pos_iff.2 h; omega
    rw [spl_none s h]
    rfl
  | 0, s, k + 1, hn, _ => by
    have : s = [] := List.eq_nil_of_length_eq_zero (by omega)
    subst this
    rfl
  | n + 1, s, k + 1, hn, hk => by
    unfold Lib.splitK
    rcases idx1 39 s with ⟨h1, h2⟩ | ⟨p, q, h1, h2, h3⟩
    · rw [h2, if_pos (by decide), spl_none s h1]
    · have h4 : ¬ (((p.length : Nat) : Int) == -1) = true := by simp
      rw [h3, if_neg h4, Int.toNat_natCast]
      subst h1
      rw [spl_hit p q h2]
      have e1 : (p ++ 39 :: q).take (p.length + 0) = p := by simp
      have e2 : (p ++ 39 :: q).drop (p.length + [(39 : UInt8)].length) = q := by simp
      rw [e1, e2, splitK_spl n q k (by simp at hn; omega) (by
        rw [List.count_append, List.count_cons_self] at hk
        omega)]
theorem countFrom_ge : ∀ (f : Nat) (s : List UInt8), s.length < f → List.count 39 s ≤ Lib.countFrom [39] f s
  | 0, _, h => by omega
  | f + 1, s, hf => by
    unfold Lib.countFrom
    rcases idx1 39 s with ⟨h1, h2⟩ | ⟨p, q, h1, h2, h3⟩
    · rw [h2, if_pos (by decide), List.count_eq_zero.2 h1]
      omega
    · have h4 : ¬ (((p.length : Nat) : Int) == -1) = true := by simp
      rw [h3, if_neg h4, Int.toNat_natCast]
      subst h1
      have e2 : (p ++ 39 :: q).drop (p.length + [(39 : UInt8)].length) = q := by simp
      rw [e2, List.count_append, List.count_cons_self, List.count_eq_zero.2 h2]
      have := countFrom_ge f q (by simp at hf; omega)
      omega
theorem grps_spl (b : ByteArray) : (grps b).map (·.data.toList) = spl b.data.toList := by
  unfold grps
  rw [Lib.splitB_data]
  refine splitK_spl _ _ _ (Nat.le_refl _) ?_
  have : Lib.countB b ⟨#[39]⟩ = Lib.countFrom [39] (b.data.toList.length + 1) b.data.toList := rfl
  rw [this]
  exact countFrom_ge _ _ (by omega)
theorem filt39 (p : List UInt8) (h : 39 ∉ p) : p.filter (fun c => c != 39) = p :=
  List.filter_eq_self.2 fun a ha => by
    have : a ≠ 39 := fun e => h (by rw [← e]; exact ha)
    simpa using this
theorem spl_flat : ∀ (n : Nat) (l : List UInt8), l.length ≤ n → (spl l).flatten = l.filter (fun c => c != 39)
  | n, l, hn => by
    rcases idx1 39 l with ⟨h1, _⟩ | ⟨p, q, rfl, h2, _⟩
    · rw [spl_none l h1, filt39 l h1]
      simp
    · cases n with
      | zero => simp at hn
      | succ n =>
        rw [spl_hit p q h2, List.flatten_cons, spl_flat n q (by simp at hn; omega), List.filter_append, filt39 p h2, List.filter_cons_of_neg (by simp)]

/-! ### the groups against the places -/
def ok1 (m : Bool) (c : UInt8) (n : Nat) : Bool := ((m && (n % 4 == 0)) == (c == 39)) && ((m && (n % 4 == 0)) || digB c)
def okR (m : Bool) : List UInt8 → Bool
  | [] => true
  | c :: t => ok1 m c (t.length + 1) && okR m t
theorem dig_39 {c : UInt8} (h : digB c = true) : (c == 39) = false := by
  rw [beq_eq_false_iff_ne]
  rintro rfl
  revert h
  decide
theorem okR_false (l : List UInt8) : okR false l = l.all digB := by
  induction l with
  | nil => rfl
  | cons c t ih =>
    rw [okR, ih, List.all_cons]
    congr 1
    unfold ok1
    simp only [Bool.false_and, Bool.false_or]
    cases h : digB c with
    | false => simp
    | true => rw [dig_39 h]; rfl
theorem okR_app (t : List UInt8) (ht : t.length % 4 = 0) (hk : okR true t = true) : ∀ p : List UInt8, 39 ∉ p → okR true (p ++ t) = (decide (p.length ≤ 3) && p.all digB)
  | [], _ => by simp [hk]
  | c :: p, h => by
    have h1 : (c == 39) = false := by
      rw [beq_eq_false_iff_ne]
      rintro rfl
      exact h List.mem_cons_self
    have h2 : 39 ∉ p := fun e => h (List.mem_cons_of_mem _ e)
    show okR true (c :: (p ++ t)) = _
    rw [okR, okR_app t ht hk p h2, List.all_cons]
    unfold ok1
    rw [h1, List.length_append, List.length_cons]
    by_cases hp : p.length ≤ 3
    · by_cases h4 : p.length = 3
      · have e : ((p.length + t.length + 1) % 4 == 0) = true := by rw [beq_iff_eq]; omega
        have e2 : decide (p.length + 1 ≤ 3) = false := decide_eq_false (by omega)
        rw [e, e2]
        simp
      · have e : ((p.length + t.length + 1) % 4 == 0) = false := by rw [beq_eq_false_iff_ne]; omega
        have e2 : decide (p.length + 1 ≤ 3) = true := decide_eq_true (by omega)
        rw [e, e2, decide_eq_true hp]
        simp
    · have e2 : decide (p.length + 1 ≤ 3) = false := decide_eq_false (by omega)
      rw [e2, decide_eq_false hp]
      simp
theorem okR_tail : ∀ (p t : List UInt8), okR true (p ++ t) = true → okR true t = true
  | [], _, h => h
  | c :: p, t, h => by
    have h' : okR true (c :: (p ++ t)) = true := h
    rw [okR, Bool.and_eq_true] at h'
    exact okR_tail p t h'.2
def g3 (g : List UInt8) : Bool := figsL g && decide (g.length = 3)
theorem g3_eq (g : List UInt8) : g3 g = (decide (g.length = 3) && g.all digB) := by
  unfold g3 figsL
  by_cases h : g.length = 3
  · have : g.isEmpty = false := by cases g with
      | nil => simp at h
      | cons _ _ => rfl
    rw [decide_eq_true h, this]
    simp
  · rw [decide_eq_false h]
    simp
theorem okR_39 (t : List UInt8) (h : okR true (39 :: t) = true) : (t.length + 1) % 4 = 0 := by
  rw [okR, Bool.and_eq_true] at h
  have h1 := h.1
  unfold ok1 at h1
  rw [Bool.and_eq_true] at h1
  have h2 := h1.1
  simp at h2
  exact h2
theorem ok1_39 (n : Nat) (h : n % 4 = 0) : ok1 true 39 n = true := by
  unfold ok1
  simp [h]
/-- Behind a mark: groups of three, and nothing else. -/
theorem tail_ok : ∀ (n : Nat) (q : List UInt8), q.length ≤ n → okR true (39 :: q) = (spl q).all g3
  | n, q, hn => by
    rcases idx1 39 q with ⟨h1, _⟩ | ⟨p, r, rfl, h2, _⟩
    · rw [spl_none q h1, okR, List.all_cons, List.all_nil, Bool.and_true, g3_eq]
      have := okR_app [] rfl rfl q h1
      rw [List.append_nil] at this
      rw [this]
      by_cases h3 : q.length = 3
      · rw [h3, ok1_39 _ (by omega), decide_eq_true (show (3 : Nat) ≤ 3 by omega), decide_eq_true (show (3 : Nat) = 3 from rfl)]
        simp
      · rw [decide_eq_false h3, Bool.false_and]
        by_cases h4 : q.length ≤ 3
        · have e : ok1 true 39 (q.length + 1) = false := by
            unfold ok1
            have : ((q.length + 1) % 4 == 0) = false := by rw [beq_eq_false_iff_ne]; omega
            rw [this]
            decide
          rw [e, Bool.false_and]
        · rw [decide_eq_false h4]
          simp
    · cases n with
      | zero => simp at hn
      | succ n =>
        have ih := tail_ok n r (by simp at hn; omega)
        rw [spl_hit p r h2, List.all_cons, ← ih, g3_eq]
        cases hr : okR true (39 :: r) with
        | false =>
          rw [Bool.and_false]
          cases hh : okR true (39 :: (p ++ 39 :: r)) with
          | false => rfl
          | true =>
            have := okR_tail (39 :: p) (39 :: r) hh
            rw [hr] at this
            exact this.symm
        | true =>
          have hl := okR_39 r hr
          have ha := okR_app (39 :: r) (by simpa using hl) hr p h2
          rw [okR, ha, Bool.and_true, List.length_append, List.length_cons]
          by_cases h3 : p.length = 3
          · rw [h3, ok1_39 _ (by omega), decide_eq_true (show (3 : Nat) ≤ 3 by omega), decide_eq_true (show (3 : Nat) = 3 from rfl)]
            simp
          · rw [decide_eq_false h3, Bool.false_and]
            by_cases h4 : p.length ≤ 3
            · have e : ok1 true 39 (p.length + (r.length + 1) + 1) = false := by
                unfold ok1
                have : ((p.length + (r.length + 1) + 1) % 4 == 0) = false := by rw [beq_eq_false_iff_ne]; omega
                rw [this]
                decide
              rw [e, Bool.false_and]
            · rw [decide_eq_false h4]
              simp
def headDig (b : List UInt8) : Bool := match b with
  | [] => false
  | c :: _ => digB c
def splOk (G : List (List UInt8)) : Bool := match G with
  | [] => false
  | [g] => figsL g
  | g :: r => figsL g && decide (g.length ≤ 3) && r.all g3
theorem figs_head (p : List UInt8) : figsL p = (!p.isEmpty && p.all digB) := rfl
theorem ref_ok (b : List UInt8) : (headDig b && okR (b.contains 39) b) = splOk (spl b) := by
  rcases idx1 39 b with ⟨h1, _⟩ | ⟨p, r, rfl, h2, _⟩
  · have e : b.contains 39 = false := by
      rw [Bool.eq_false_iff]
      intro h
      exact h1 (by simpa using h)
    rw [e, okR_false, spl_none b h1]
    show _ = figsL b
    cases b with
    | nil => rfl
    | cons c t =>
      unfold figsL headDig
      simp only [List.all_cons, List.isEmpty_cons, Bool.not_false, Bool.true_and]
      cases digB c <;> simp
  · have e : (p ++ 39 :: r).contains 39 = true := by simp
    have hs := spl_ne r
    rw [e, spl_hit p r h2]
    have et : splOk (p :: spl r) = (figsL p && decide (p.length ≤ 3) && (spl r).all g3) := by
      cases hr : spl r with
      | nil => exact absurd hr hs
      | cons g t => rfl
    rw [et, ← tail_ok _ r (Nat.le_refl _)]
    cases hr : okR true (39 :: r) with
    | false =>
      rw [Bool.and_false]
      cases hh : okR true (p ++ 39 :: r) with
      | false => rw [Bool.and_false]
      | true =>
        have := okR_tail p (39 :: r) hh
        rw [hr] at this
        exact absurd this (by simp)
    | true =>
      have ha := okR_app (39 :: r) (by simpa using okR_39 r hr) hr p h2
      rw [ha, Bool.and_true]
      cases p with
      | nil =>
        show (digB 39 && _) = _
        decide
      | cons c t =>
        show (digB c && _) = _
        unfold figsL
        simp only [List.all_cons, List.isEmpty_cons, Bool.not_false, Bool.true_and]
        cases digB c <;> simp [Bool.and_comm]
theorem grpsOk_spl (G : List ByteArray) (hG : G ≠ []) : grpsOk G = splOk (G.map (·.data.toList)) := by
  cases G with
  | nil => exact absurd rfl hG
  | cons g r =>
    cases r with
    | nil =>
      unfold grpsOk grpOk
      simp [splOk]
    | cons g2 r =>
      have e1 : splOk ((g :: g2 :: r).map (·.data.toList)) = (figsL g.data.toList && decide (g.data.toList.length ≤ 3) && ((g2 :: r).map (·.data.toList)).all g3) := rfl
      rw [e1, Bool.eq_iff_iff]
      unfold grpsOk
      rw [List.all_eq_true, Bool.and_eq_true, Bool.and_eq_true, List.all_eq_true]
      have hlen : ∀ g : ByteArray, g.data.toList.length = g.size := fun _ => rfl
      have hN : decide ((g :: g2 :: r).length ≤ 1) = false := decide_eq_false (by simp)
      constructor
      · intro h
        have h0 := h 0 (List.mem_range.2 (by simp))
        unfold grpOk at h0
        rw [hN] at h0
        simp at h0
        refine ⟨⟨h0.1, by rw [hlen]; simpa using h0.2⟩, fun x hx => ?_⟩
        obtain ⟨y, hy, rfl⟩ := List.mem_map.1 hx
        obtain ⟨i, hi, rfl⟩ := List.mem_iff_getElem.1 hy
        have hi1 := h (i + 1) (List.mem_range.2 (by simpa using hi))
        unfold grpOk at hi1
        rw [hN] at hi1
        have e : (g :: g2 :: r).getD (i + 1) ⟨#[]⟩ = (g2 :: r)[i] := by
          rw [List.getD_cons_succ, List.getD_eq_getElem?_getD, List.getElem?_eq_getElem hi]
          rfl
        rw [e] at hi1
        simp at hi1
        unfold g3
        rw [hi1.1, hlen, hi1.2.2]
        rfl
      · rintro ⟨⟨h1, h2⟩, h3⟩ i hi
        rw [List.mem_range] at hi
        unfold grpOk
        rw [hN]
        cases i with
        | zero =>
          show (figsL g.data.toList && (false || (decide (g.size ≤ 3) && (decide (0 = 0) || decide (g.size = 3))))) = true
          have : g.size ≤ 3 := by rw [← hlen]; simpa using h2
          rw [h1, decide_eq_true this]
          simp
        | succ i =>
          have hi' : i < (g2 :: r).length := by simpa using hi
          have e : (g :: g2 :: r).getD (i + 1) ⟨#[]⟩ = (g2 :: r)[i] := by
            rw [List.getD_cons_succ, List.getD_eq_getElem?_getD, List.getElem?_eq_getElem hi']
            rfl
          rw [e]
          have := h3 _ (List.mem_map.2 ⟨_, List.getElem_mem hi', rfl⟩)
          unfold g3 at this
          rw [Bool.and_eq_true] at this
          have h5 : (g2 :: r)[i].size = 3 := by rw [← hlen]; simpa using this.2
          rw [this.1, h5]
          simp
end Go.Proofs.YthkifgjmhpppkaaDoor
