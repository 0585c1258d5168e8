/- Quoted words in a line: what may, quote write; Words of such a line. -/
import Derived.Test.YthkifgjmhpppkaaDoorTxK
import Derived.Test.YthkifgjmhpppkaaDoorTxH
import Derived.Test.YthkifgjmhpppkaaDoorPrC
namespace Go.Proofs.YthkifgjmhpppkaaDoor
open Go.RowKit Go.Proofs.YthkifgjmhpppkaaDoorW.PrintWords Go.Proofs.YthkifgjmhpppkaaDoor.PTextAmounts

def escL : List UInt8 → List UInt8
  | [] => []
  | b :: t => if b = 34 ∨ b = 92 then 92 :: b :: escL t else b :: escL t
def quoteL (w : List UInt8) : List UInt8 := 34 :: (escL w ++ [34])
/-- A word that may stand in a line. -/
def GoodW (w : List UInt8) : Prop := w.length ≤ 40 ∧ ∀ b ∈ w, 32 ≤ b.toNat ∧ b.toNat ≤ 126
theorem escL_len : ∀ w : List UInt8, (escL w).length ≤ 2 * w.length
  | [] => Nat.le_refl _
  | b :: t => by
    have := escL_len t
    rw [escL]
    split <;> simp only [List.length_cons] <;> omega
theorem escL_asc : ∀ w : List UInt8, (∀ b ∈ w, 32 ≤ b.toNat ∧ b.toNat ≤ 126) → ∀ b ∈ escL w, b.toNat < 128
  | [], _, b, h => by simp [escL] at h
  | a :: t, hw, b, h => by
    have ih := escL_asc t (fun b hb => hw b (List.mem_cons_of_mem _ hb)) b
    have ha := hw a List.mem_cons_self
    rw [escL] at h
    split at h
    · rcases List.mem_cons.1 h with rfl | h
      · decide
      · rcases List.mem_cons.1 h with rfl | h
        · omega
        · exact ih h
    · rcases List.mem_cons.1 h with rfl | h
      · omega
      · exact ih h
def numsB (l : List UInt8) : List Int := l.map fun b => (b.toNat : Int)
theorem str_numsB (l : List UInt8) : (strOfNums (numsB l)).data.toList = l := by
  rw [strOfNums_data]
  unfold numsB
  rw [List.map_map]
  conv => rhs; rw [← List.map_id l]
  refine List.map_congr_left fun b _ => ?_
  show UInt8.ofNat (b.toNat : Int).toNat = b
  rw [Int.toNat_natCast]
  simp
theorem numsB_app (a b : List UInt8) : numsB (a ++ b) = numsB a ++ numsB b := by unfold numsB; rw [List.map_append]
theorem quote_loop (x0 : ByteArray) (hs : x0.size ≤ 1048576) : ∀ (t p : List UInt8) (acc : List UInt8) (k : Nat), x0.data.toList = p ++ t → acc.length + 2 * t.length ≤ 10000000 → t.length < k →
    tallylaw2_quote.l0 k x0 (numsB acc) (p.length : Nat) = some (strOfNums (numsB (acc ++ escL t ++ [34])))
  | [], p, acc, k, h, hl, hk => by
    obtain ⟨k, rfl⟩ : ∃ m, k = m + 1 := ⟨k - 1, by omega⟩
    have hsz : x0.size = p.length := by
      have : x0.data.toList.length = x0.size := rfl
      rw [h] at this
      simpa using this.symm
    have hn : (numsB acc).length = acc.length := by unfold numsB; simp
    rw [tallylaw2_quote.l0, if_neg (by omega), if_pos (by rw [hn]; simp at hl; omega), escL, List.append_nil, numsB_app]
    rfl
  | c :: t, p, acc, k, h, hl, hk => by
    obtain ⟨k, rfl⟩ : ∃ m, k = m + 1 := ⟨k - 1, by omega⟩
    have hsz : x0.size = p.length + (t.length + 1) := by
      have : x0.data.toList.length = x0.size := rfl
      rw [h] at this
      simpa using this.symm
    have hb := bt_app x0 p t c h
    have hw : wrap64 (((p.length : Nat) : Int) + 1) = (((p ++ [c]).length : Nat) : Int) := by
      simp only [wrap64, List.length_append, List.length_cons, List.length_nil]
      omega
    simp only [List.length_cons] at hl hk
    have hn : ∀ a : List UInt8, (numsB a).length = a.length := fun a => by unfold numsB; simp
    have hc : numsB acc ++ [((c.toNat : Nat) : Int)] = numsB (acc ++ [c]) := by rw [numsB_app]; rfl
    have h92 : numsB acc ++ [(92 : Int)] = numsB (acc ++ [92]) := by rw [numsB_app]; rfl
    have h2c : ∀ a, numsB a ++ [((c.toNat : Nat) : Int)] = numsB (a ++ [c]) := fun a => by rw [numsB_app]; rfl
    rw [tallylaw2_quote.l0, if_pos (by omega), if_pos (by omega), hb, hw, hc, h92, Option.bind_some, h2c]
    have ih := fun a (ha : a.length ≤ acc.length + 2) => quote_loop x0 hs t (p ++ [c]) a k (by rw [h]; simp) (by omega) (by omega)
    have l1 : (numsB acc).length < 140737488355328 := by rw [hn]; omega
    have l2 : (numsB (acc ++ [92])).length < 140737488355328 := by rw [hn]; simp; omega
    have cn : ∀ x : UInt8, (((c.toNat : Nat) : Int) = (x.toNat : Nat)) ↔ c = x := fun x => ⟨fun e => UInt8.toNat_inj.1 (by omega), fun e => by rw [e]⟩
    have c34 : (((c.toNat : Nat) : Int) = 34) ↔ c = 34 := cn 34
    have c92 : (((c.toNat : Nat) : Int) = 92) ↔ c = 92 := cn 92
    rw [escL]
    by_cases h34 : c = 34
    · rw [if_pos (c34.2 h34), if_pos l1, if_pos l2, ih _ (by simp), if_pos (.inl h34)]
      simp
    · rw [if_neg (fun e => h34 (c34.1 e))]
      by_cases hq : c = 92
      · rw [if_pos (c92.2 hq), if_pos l1, if_pos l2, ih _ (by simp), if_pos (.inr hq)]
        simp
      · rw [if_neg (fun e => hq (c92.1 e)), if_pos l1, ih _ (by simp), if_neg (fun e => e.elim h34 hq)]
        simp
theorem quote_f (x0 : ByteArray) (hs : x0.size ≤ 1048576) : tallylaw2_quote.f (x0.size + 1) x0 = some (strOfNums (numsB (quoteL x0.data.toList))) := by
  have hl : x0.data.toList.length = x0.size := rfl
  have := quote_loop x0 hs x0.data.toList [] [34] (x0.size + 1) rfl (by simp only [List.length_cons, List.length_nil]; omega) (by omega)
  exact this
theorem may_loop (x0 : ByteArray) (hs : x0.size ≤ 140737488355328) : ∀ (t p : List UInt8) (acc : List UInt8) (k : Nat), x0.data.toList = p ++ t → GoodW acc → 2 * t.length + 2 ≤ k →
    ∃ r : List UInt8, tallylaw2_may.l0 k x0 (numsB acc) (p.length : Nat) = some (strOfNums (numsB r)) ∧ GoodW r
  | [], p, acc, k, h, ha, hk => by
    obtain ⟨k, rfl⟩ : ∃ m, k = m + 2 := ⟨k - 2, by omega⟩
    have hsz : x0.size = p.length := by
      have : x0.data.toList.length = x0.size := rfl
      rw [h] at this
      simpa using this.symm
    exact ⟨acc, by rw [tallylaw2_may.l0, if_neg (by omega), tallylaw2_may.j1, if_neg (by decide)], ha⟩
  | c :: t, p, acc, k, h, ha, hk => by
    obtain ⟨k, rfl⟩ : ∃ m, k = m + 2 := ⟨k - 2, by omega⟩
    have hsz : x0.size = p.length + (t.length + 1) := by
      have : x0.data.toList.length = x0.size := rfl
      rw [h] at this
      simpa using this.symm
    have hb := bt_app x0 p t c h
    have hw : wrap64 (((p.length : Nat) : Int) + 1) = (((p ++ [c]).length : Nat) : Int) := by
      simp only [wrap64, List.length_append, List.length_cons, List.length_nil]
      omega
    simp only [List.length_cons] at hk
    have hn : (numsB acc).length = acc.length := by unfold numsB; simp
    have hc : numsB acc ++ [((c.toNat : Nat) : Int)] = numsB (acc ++ [c]) := by rw [numsB_app]; rfl
    have ih := fun a (ha : GoodW a) => may_loop x0 hs t (p ++ [c]) a k (by rw [h]; simp) ha (by omega)
    rw [tallylaw2_may.l0, if_pos (by omega), tallylaw2_may.j1, hn, hb, hw, hc]
    have ha40 := ha.1
    by_cases h40 : acc.length < 40
    · rw [if_pos (decide_eq_true (by omega)), if_pos (by omega), if_pos (by omega)]
      by_cases h32 : 32 ≤ c.toNat
      · rw [if_pos (by omega)]
        by_cases h127 : c.toNat < 127
        · rw [if_pos (by omega), if_pos (by omega)]
          refine ih _ ⟨by simp; omega, fun b hb' => ?_⟩
          rcases List.mem_append.1 hb' with hb' | hb'
          · exact ha.2 b hb'
          · rw [List.mem_singleton.1 hb']
            omega
        · rw [if_neg (by omega)]
          exact ih _ ha
      · rw [if_neg (by omega)]
        exact ih _ ha
    · rw [if_neg (by rw [decide_eq_true_iff]; omega)]
      exact ⟨acc, rfl, ha⟩
theorem may_f (x0 : ByteArray) (hs : x0.size ≤ 140737488355328) : ∃ r : List UInt8, tallylaw2_may.f (2 * x0.size + 2) x0 = some (strOfNums (numsB r)) ∧ GoodW r :=
  may_loop x0 hs x0.data.toList [] [] _ rfl ⟨by simp, fun b hb => by simp at hb⟩ (Nat.le_refl _)
/-! ### Words of a line of quoted words -/
theorem quo_esc : ∀ (w acc rest : List UInt8) (i : Nat), (∀ b ∈ w, 32 ≤ b.toNat ∧ b.toNat ≤ 126) → quoN false acc i (escL w ++ 34 :: rest) = some (acc ++ w, i + (escL w).length + 2)
  | [], acc, rest, i, _ => by
    show quoN false acc i (34 :: rest) = _
    rw [quoN, if_neg (by decide), if_pos (by decide)]
    simp [escL]
  | b :: t, acc, rest, i, hw => by
    have hb := hw b List.mem_cons_self
    have ih := fun acc i => quo_esc t acc rest i (fun b hb => hw b (List.mem_cons_of_mem _ hb))
    rw [escL]
    by_cases h : b = 34 ∨ b = 92
    · rw [if_pos h]
      show quoN false acc i (92 :: b :: (escL t ++ 34 :: rest)) = _
      have hb2 : b.toNat = 34 ∨ b.toNat = 92 := by rcases h with h | h <;> rw [h] <;> decide
      rw [quoN, if_pos (by decide), quoN, if_pos hb2, ih]
      simp
      omega
    · rw [if_neg h]
      show quoN false acc i (b :: (escL t ++ 34 :: rest)) = _
      have h1 : ¬ b.toNat = 92 := fun e => h (.inr (UInt8.toNat_inj.1 (by show _ = 92; omega)))
      have h2 : ¬ b.toNat = 34 := fun e => h (.inl (UInt8.toNat_inj.1 (by show _ = 34; omega)))
      have h3 : plainN b.toNat = true := by
        unfold plainN
        rw [decide_eq_true hb.1, decide_eq_false (show ¬ b.toNat = 127 by omega)]
        rfl
      rw [quoN, if_neg h1, if_neg h2, if_pos h3, ih]
      simp
      omega
/-- A line's part: blanks, a word. -/
structure Item where
  gap : List UInt8
  word : List UInt8
structure Item.Ok (x : Item) : Prop where
  ne : x.gap ≠ []
  blank : ∀ b ∈ x.gap, b = 32 ∨ b = 9
  short : x.gap.length ≤ 3
  word : GoodW x.word
def lineL (l : List Item) : List UInt8 := l.flatMap fun x => x.gap ++ quoteL x.word
theorem trimB_blanks : ∀ (g t : List UInt8), (∀ b ∈ g, b = 32 ∨ b = 9) → trimB (g ++ t) = trimB t
  | [], t, _ => rfl
  | b :: g, t, h => by
    show trimB (b :: (g ++ t)) = _
    rw [trimB_cons, if_pos (h b List.mem_cons_self), trimB_blanks g t (fun b hb => h b (List.mem_cons_of_mem _ hb))]
theorem words_line : ∀ (l : List Item) (f : Nat) (out : List (List UInt8)), (∀ x ∈ l, x.Ok) → l.length < f → out.length ≤ 16 → wordsG f (trimB (lineL l)) out = if out.length + l.length ≤ 16 then some (out ++ l.map (·.word)) else none
  | [], f, out, _, hf, ho => by
    obtain ⟨f, rfl⟩ : ∃ m, f = m + 1 := ⟨f - 1, by omega⟩
    show wordsG (f + 1) [] out = _
    rw [wordsG, if_pos rfl, if_pos (by simpa using ho)]
    simp
  | x :: r, f, out, hok, hf, ho => by
    obtain ⟨f, rfl⟩ : ∃ m, f = m + 1 := ⟨f - 1, by omega⟩
    have hx := hok x List.mem_cons_self
    have e1 : lineL (x :: r) = x.gap ++ (quoteL x.word ++ lineL r) := by
      unfold lineL
      rw [List.flatMap_cons, List.append_assoc]
    have e2 : trimB (lineL (x :: r)) = 34 :: (escL x.word ++ 34 :: lineL r) := by
      rw [e1, trimB_blanks _ _ hx.blank]
      show trimB (34 :: (escL x.word ++ [34] ++ lineL r)) = _
      rw [trimB_cons, if_neg (by decide)]
      simp
    have e3 : wordOne (34 :: (escL x.word ++ 34 :: lineL r)) = (x.word, (escL x.word).length + 2) := by
      unfold wordOne
      rw [if_pos (show (34 :: (escL x.word ++ 34 :: lineL r)).head? = some 34 from rfl)]
      show (match quoN false [] 0 (escL x.word ++ 34 :: lineL r) with | none => ([], 0) | some x => x) = _
      rw [quo_esc x.word [] (lineL r) 0 hx.word.2]
      simp
    have e4 : (34 :: (escL x.word ++ 34 :: lineL r)).drop ((escL x.word).length + 2) = lineL r := by
      rw [List.drop_succ_cons]
      have : escL x.word ++ 34 :: lineL r = (escL x.word ++ [34]) ++ lineL r := by simp
      rw [this]
      have h2 : (escL x.word).length + 1 = (escL x.word ++ [34]).length := by simp
      rw [h2, List.drop_left]
    have e5 : blankHead (lineL r) = true := by
      cases r with
      | nil => rfl
      | cons y r =>
        have hy := hok y (List.mem_cons_of_mem _ List.mem_cons_self)
        cases hg : y.gap with
        | nil => exact absurd hg hy.ne
        | cons b g =>
          have : lineL (y :: r) = b :: (g ++ quoteL y.word ++ lineL r) := by
            unfold lineL
            rw [List.flatMap_cons, hg]
            rfl
          rw [this]
          have hb := hy.blank b (by rw [hg]; exact List.mem_cons_self)
          show (b == 32 || b == 9) = true
          rcases hb with h | h <;> rw [h] <;> decide
    rw [e2, wordsG, if_neg (by simp), e3]
    dsimp only
    rw [e4, e5]
    by_cases h16 : out.length = 16
    · rw [if_pos (.inr h16), if_neg (by simp; omega)]
    · rw [if_neg (by omega), if_pos rfl, words_line r f (out ++ [x.word]) (fun y hy => hok y (List.mem_cons_of_mem _ hy)) (by simp at hf; omega) (by simp; omega)]
      have e6 : (out ++ [x.word]).length + r.length = out.length + (x :: r).length := by simp; omega
      rw [e6]
      simp
theorem line_asc (l : List Item) (h : ∀ x ∈ l, x.Ok) : ∀ b ∈ lineL l, b.toNat < 128 := fun b hb => by
  unfold lineL at hb
  obtain ⟨x, hx, hm⟩ := List.mem_flatMap.1 hb
  have hx := h x hx
  rcases List.mem_append.1 hm with hm | hm
  · rcases hx.blank b hm with h | h <;> rw [h] <;> decide
  · unfold quoteL at hm
    rcases List.mem_cons.1 hm with rfl | hm
    · decide
    · rcases List.mem_append.1 hm with hm | hm
      · exact escL_asc _ hx.word.2 b hm
      · rw [List.mem_singleton.1 hm]
        decide
theorem line_words (l : List Item) (h : ∀ x ∈ l, x.Ok) : wordsP (lineL l) = if 1024 < (lineL l).length ∨ 16 < l.length then none else some (l.map (·.word)) := by
  have hv : Lib.validD (lineL l) = true := by
    rw [Lib.validD_ascii (lineL l).length (lineL l) (fun b hb => line_asc l h b (List.mem_of_mem_take hb)), List.drop_of_length_le (Nat.le_refl _)]
    rfl
  unfold wordsP
  rw [hv]
  by_cases h1 : 1024 < (lineL l).length
  · rw [if_pos (.inl h1), if_pos (.inl h1)]
  · have hl : l.length ≤ (lineL l).length := by
      clear hv h1
      induction l with
      | nil => exact Nat.le_refl _
      | cons x r ih =>
        have := ih (fun y hy => h y (List.mem_cons_of_mem _ hy))
        have e1 : lineL (x :: r) = x.gap ++ (quoteL x.word ++ lineL r) := by
          unfold lineL
          rw [List.flatMap_cons, List.append_assoc]
        rw [e1]
        simp [quoteL]
        omega
    rw [if_neg (by rintro (h | h); exact h1 h; cases h), words_line l _ [] h (by omega) (by simp)]
    by_cases h2 : 16 < l.length
    · rw [if_neg (by simp; omega), if_pos (.inr h2)]
    · rw [if_pos (by simp; omega), if_neg (by rintro (h | h) <;> omega)]
      simp
theorem item_len (x : Item) (h : x.Ok) : (x.gap ++ quoteL x.word).length ≤ 85 := by
  have h1 := escL_len x.word
  have h2 := h.word.1
  have h3 := h.short
  simp [quoteL]
  omega
end Go.Proofs.YthkifgjmhpppkaaDoor
