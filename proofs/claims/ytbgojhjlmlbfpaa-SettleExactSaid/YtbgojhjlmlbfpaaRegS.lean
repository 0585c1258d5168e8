/- A region that draws its order, whose last operations (from number n on) write a cell that the region loads: a load may be taken first if none of the last operations can come up ahead of it ('ps': the operations that wait for it). S is to be shown behind the operations below n alone. Of no program. -/
import Derived.OrdersHeld
import Derived.StillTail
import Derived.WalkKit
import Derived.Deep.RegionHeld3
namespace Go.Proofs.Ytbgojhjlmlbfpaa
open Go.RowKit

section
variable {P : Program} {ops : Array Oper} {Q : Exit → Act → World → Prop} {md : Region.Mode} {S : World → Prop} {n : Nat}

def wpAnyS (P : Program) (md : Region.Mode) (ops : Array Oper) (Q : Exit → Act → World → Prop) (S : World → Prop) (n : Nat) : Nat → Array Bool → Act → World → Prop
  | 0, listed, a, w => Region.ready md ops listed = [] ∧ Q .normal a w
  | fuel + 1, listed, a, w =>
    (Region.ready md ops listed = [] → Q .normal a w) ∧
    ∀ i ∈ Region.ready md ops listed, wpOp P ops Q i (fun a' w' => (i < n → S w') ∧ wpAnyS P md ops Q S n fuel (listed.setIfInBounds i true) a' w') a w
theorem wpAny_of_S : ∀ (fuel : Nat) (listed : Array Bool) (a : Act) (w : World), wpAnyS P md ops Q S n fuel listed a w → wpAny P md ops Q fuel listed a w
  | 0, _, _, _, h => h
  | fuel + 1, _, _, _, h => ⟨h.1, fun i hi => wpOp_mono (fun a' w' h' => wpAny_of_S fuel _ a' w' h'.2) (h.2 i hi)⟩
/-- Each of ps but i waits for one of ps; all from n on are of ps. -/
def waitB (md : Region.Mode) (ops : Array Oper) (n i : Nat) (ps : List Nat) : Bool :=
  (ps.all fun j => j == i || ((ops[j]?).map fun o => o.after.any fun e => Region.binds md e && ps.contains e.on).getD false) && (List.range ops.size).all fun j => decide (j < n) || ps.contains j
theorem waitB_spec {i : Nat} {ps : List Nat} {listed : Array Bool} (h : waitB md ops n i ps = true) (hun : ∀ j ∈ ps, listed.getD j true = false) {j : Nat} (hj : j ∈ Region.ready md ops listed) (hji : j ≠ i) : j ∉ ps ∧ j < n := by
  unfold waitB at h
  rw [Bool.and_eq_true] at h
  obtain ⟨_, oj, hoj, hall⟩ := mem_ready.1 hj
  have hp : j ∉ ps := fun hm => by
    have h1 := List.all_eq_true.1 h.1 j hm
    rw [hoj] at h1
    simp only [Bool.or_eq_true, beq_iff_eq, hji, false_or, Option.map_some, Option.getD_some] at h1
    obtain ⟨e, he, h2⟩ := Array.any_eq_true'.1 h1
    rw [Bool.and_eq_true] at h2
    have h3 := hall e he h2.1
    have h4 := hun e.on (by simpa using h2.2)
    rw [getD_both h4] at h3
    cases h3
  refine ⟨hp, ?_⟩
  have h1 := List.all_eq_true.1 h.2 j (List.mem_range.2 (Array.getElem?_eq_some_iff.1 hoj).1)
  simp only [Bool.or_eq_true, decide_eq_true_eq] at h1
  rcases h1 with h1 | h1
  · exact h1
  · exact absurd (by simpa using h1) hp
theorem wpAnyS_first {i : Nat} {oi : Oper} {v : Value} {ps : List Nat} (hi : ops[i]? = some oi) (hsel : ∀ (j : Nat) (o : Oper) cs b, ops[j]? = some o → o.op ≠ .select cs b)
    (hQ : ∀ c a w, Q (.panic c) (a.put oi.dst v) w → Q (.panic c) a w) (hps : waitB md ops n i ps = true) :
    ∀ (fuel : Nat) (listed : Array Bool) (a : Act) (w : World),
      (∀ j oj, ops[j]? = some oj → j ≠ i → listed.getD j true = false → (∀ e ∈ oj.after, Region.binds md e = true → e.on ≠ i) → oi.apart ops oj = true) →
      i ∈ Region.ready md ops listed → (∀ j ∈ ps, listed.getD j true = false) → YieldsIf P ops S oi v a → S w →
      wpAnyS P md ops Q S n fuel (listed.setIfInBounds i true) (a.put oi.dst v) w → wpAnyS P md ops Q S n (fuel + 1) listed a w := by
  intro fuel
  induction fuel with
  | zero =>
    intro listed a w _ hr _ hy hS H
    refine ⟨fun h => (by rw [h] at hr; cases hr), fun j hj => ?_⟩
    by_cases hji : j = i
    · subst hji; exact hy.wpOp hi hS ⟨fun _ => hS, H⟩
    · have := ready_mono hj hji
      rw [H.1] at this
      cases this
  | succ fuel ih =>
    intro listed a w hfree hr hun0 hy hS H
    refine ⟨fun h => (by rw [h] at hr; cases hr), fun j hj => ?_⟩
    by_cases hji : j = i
    · subst hji; exact hy.wpOp hi hS ⟨fun _ => hS, H⟩
    · obtain ⟨hjp, hjn⟩ := waitB_spec hps hun0 hj hji
      have h1 := H.2 j (ready_mono hj hji)
      obtain ⟨hjun, oj, hoj, hall⟩ := mem_ready.1 hj
      have hnot : ∀ e ∈ oj.after, Region.binds md e = true → e.on ≠ i := fun e he hb heq => by
        have h1 := hall e he hb
        have h0 := (mem_ready.1 hr).1
        rw [heq, getD_both h0] at h1
        cases h1
      have h2 := wpOp_putIf hoj (hfree j oj hoj hji hjun hnot) (fun cs b => hsel i oi cs b hi) (fun cs b => hsel j oj cs b hoj) hQ hy h1
      have hfree' : ∀ k ok, ops[k]? = some ok → k ≠ i → (listed.setIfInBounds j true).getD k true = false →
          (∀ e ∈ ok.after, Region.binds md e = true → e.on ≠ i) → oi.apart ops ok = true := fun k ok hk hki hun hno => by
        refine hfree k ok hk hki ?_ hno
        by_cases hjk : j = k
        · subst hjk; exact hjun
        · rw [getD_set_ne true hjk] at hun; exact hun
      refine wpOp_mono (fun a' w' h3 => ⟨fun hn => h3.2.1 hn, ih (listed.setIfInBounds j true) a' w' hfree' (ready_mono hr (Ne.symm hji)) (fun k hk => ?_) h3.1 (h3.2.1 hjn) ?_⟩) h2
      · rw [getD_set_ne true (fun e => hjp (by rw [e]; exact hk))]
        exact hun0 k hk
      · rw [Array.setIfInBounds_comm _ _ hji]
        exact h3.2.2
theorem wpAnyS_take (ps : List Nat) {i : Nat} {oi : Oper} {v : Value} {fuel : Nat} {listed : Array Bool} {a : Act} {w : World} (hi : ops[i]? = some oi)
    (hs : Region.noSelect ops = true) (hf : Region.free md ops listed i = true) (hr : (Region.ready md ops listed).contains i = true) (hps : waitB md ops n i ps = true) (hun : (ps.all fun j => !listed.getD j true) = true)
    (hQ : ∀ c a w, Q (.panic c) (a.put oi.dst v) w → Q (.panic c) a w) (hy : YieldsIf P ops S oi v a) (hS : S w)
    (h : wpAnyS P md ops Q S n fuel (listed.setIfInBounds i true) (a.put oi.dst v) w) : wpAnyS P md ops Q S n (fuel + 1) listed a w :=
  wpAnyS_first hi (Region.noSelect_spec hs) hQ hps fuel listed a w (Region.free_spec hi hf) (by simpa using hr) (fun j hj => by have := List.all_eq_true.1 hun j hj; simpa using this) hy hS h
/-- The one operation that may come up. -/
theorem wpAnyS_one {k : Nat} {o : Oper} {fuel : Nat} {listed : Array Bool} {a : Act} {w : World} (ho : ops[k]? = some o) (hr : Region.ready md ops listed = [k]) (hw : Region.wanted o (yielded ops a.tmps) = true)
    (h : o.wp P a w (fun a' w' => (k < n → S w') ∧ wpAnyS P md ops Q S n fuel (listed.setIfInBounds k true) a' w') Q) : wpAnyS P md ops Q S n (fuel + 1) listed a w := by
  refine ⟨fun h0 => (by rw [hr] at h0; cases h0), fun i hi => ?_⟩
  rw [hr] at hi
  obtain rfl : i = k := by simpa using hi
  unfold wpOp
  simp only [ho, hw, if_true]
  exact .inl h
/-- From here on the operations come in the order of the text, and S is no more wanted. -/
theorem wpAnyS_seq : ∀ (l : List Oper) (k : Nat) (listed : Array Bool) (a : Act) (w : World), n ≤ k → (∀ j, l[j]? = ops[k + j]?) → Region.seqB md ops l.length k listed = true → wpList P ops Q l a w → wpAnyS P md ops Q S n l.length listed a w
  | [], _, _, _, _, _, _, hB, h => ⟨by simpa [Region.seqB] using hB, h⟩
  | o :: l, k, listed, a, w, hn, hl, hB, h => by
    have h0 : ops[k]? = some o := by simpa using (hl 0).symm
    simp only [List.length_cons, Region.seqB, Bool.and_eq_true, decide_eq_true_eq] at hB
    refine ⟨fun h1 => (by rw [hB.1] at h1; cases h1), fun i hi => ?_⟩
    rw [hB.1] at hi
    have hik : i = k := by simpa using hi
    subst hik
    have hw : wpOp P ops Q i (wpList P ops Q l) a w := by unfold wpOp; simp only [h0]; exact h
    exact wpOp_mono (fun a' w' h' => ⟨fun hlt => by omega, wpAnyS_seq l (i + 1) _ a' w' (by omega) (fun j => by have := hl (j + 1); simpa [Nat.add_assoc, Nat.add_comm 1 j] using this) hB.2 h'⟩) hw
theorem wpAnyS_tail (k : Nat) {fuel : Nat} {listed : Array Bool} {a : Act} {w : World} (hn : n ≤ k) (hf : fuel = (ops.toList.drop k).length) (hB : Region.seqB md ops (ops.toList.drop k).length k listed = true) (h : wpList P ops Q (ops.toList.drop k) a w) : wpAnyS P md ops Q S n fuel listed a w :=
  hf ▸ wpAnyS_seq (ops.toList.drop k) k listed a w hn (fun j => by simp) hB h
/-- The beginning. -/
theorem wp_region_S {id : Nat} {a : Act} {w : World} (n : Nat) (S : World → Prop) (hm : P.follows .mixedOrders = true) (h : wpAnyS P .any ops Q S n ops.size (Array.replicate ops.size false) a w.drew) : (Code.region id ops true).wp P Q a w :=
  wp_region_any hm (wpAny_of_S _ _ _ _ h)
end
end Go.Proofs.Ytbgojhjlmlbfpaa
