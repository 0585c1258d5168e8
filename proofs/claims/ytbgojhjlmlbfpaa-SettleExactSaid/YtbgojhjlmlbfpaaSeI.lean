/- settle.Settle: Look whole. -/
import Derived.Test.YtbgojhjlmlbfpaaSeH
import Derived.Deep.RegionHeld3
namespace Go.Proofs.Ytbgojhjlmlbfpaa
open Go.RowKit

def wsL (shard : Int) (Q : List Ent) (ws : Nat → Way) (i : Nat) : Nat → Way := fun j => if j < i ∧ (j : Int) ≠ shard then (ws j).look j Q else ws j
theorem wsL_at (shard : Int) (Q : List Ent) (ws : Nat → Way) (i : Nat) : wsL shard Q ws i i = ws i := if_neg (by omega)
theorem wsL_next (shard : Int) (Q : List Ent) (ws : Nat → Way) (i : Nat) (hi : (i : Int) ≠ shard) : updW (wsL shard Q ws i) i ((wsL shard Q ws i i).look i Q) = wsL shard Q ws (i + 1) := by
  funext k
  rw [wsL_at]
  unfold updW wsL
  by_cases hk : k = i
  · subst hk
    rw [if_pos rfl, if_pos ⟨by omega, hi⟩]
  · rw [if_neg hk]
    by_cases hlt : k < i ∧ (k : Int) ≠ shard
    · rw [if_pos hlt, if_pos ⟨by omega, hlt.2⟩]
    · rw [if_neg hlt, if_neg (fun h => hlt ⟨by omega, h.2⟩)]
theorem wsL_skip (shard : Int) (Q : List Ent) (ws : Nat → Way) (i : Nat) (hi : (i : Int) = shard) : wsL shard Q ws i = wsL shard Q ws (i + 1) := by
  funext k
  unfold wsL
  by_cases hlt : k < i ∧ (k : Int) ≠ shard
  · rw [if_pos hlt, if_pos ⟨by omega, hlt.2⟩]
  · rw [if_neg hlt, if_neg (fun h => hlt ⟨by have h1 := h.1; have h2 := h.2; omega, h.2⟩)]
def LookI (w : World) (base : Nat) (ρ : Nat → Nat) (r0 S : Nat) (node shard : Int) (N : Nat) (ws : Nat → Way) (wv qv : Value) (Q : List Ent) (b1 i : Nat) (wr : World) : Prop :=
  ∃ ρ', LookAt wr base ρ' r0 S node shard N (wsL shard Q ws i) wv qv Q b1 ∧ Keeps (fun r => r0 + 1 ≤ r ∧ r < r0 + 28) w ρ wr ρ' ∧ Below base w wr
theorem lookI_step (w : World) (base r0 S N W cap i b1 : Nat) (ρ : Nat → Nat) (node shard : Int) (ws : Nat → Way) (qv : Value) (Q : List Ent) (wr : World) (h : LookI w base ρ r0 S node shard N ws (.slice (some ⟨W, 0, none⟩) N cap) qv Q b1 i wr) (hi : i < N) (his : (i : Int) ≠ shard) (hq : Q.length ≤ 3518437208780) :
    Calls Try.prog 64 #[.int .i64 (i : Nat), .pointer (some ⟨W, i * 8, none⟩), .pointer (some ⟨b1, 0, none⟩)] wr fun e w' => e = .returned (.tuple #[]) ∧ LookI w base ρ r0 S node shard N ws (.slice (some ⟨W, 0, none⟩) N cap) qv Q b1 (i + 1) w' := by
  obtain ⟨ρ', ht, hK, hB⟩ := h
  have hnx := wsL_next shard Q ws i his
  cases hf : Q.findIdx? (fun e => e.peer == ((i : Nat) : Int)) with
  | none =>
    refine (look1_none wr base r0 S N W cap i b1 ρ' node shard _ qv Q ht hi hf hq).mono ?_
    rintro e w' ⟨rfl, ρ2, t2, K2, L2⟩
    rw [hnx] at t2
    exact ⟨rfl, ρ2, t2, hK.trans K2, hB.trans L2⟩
  | some k =>
    obtain ⟨hk, _⟩ := List.findIdx?_eq_some_iff_getElem.1 hf
    refine (look1_some wr base r0 S N W cap i b1 k ρ' node shard _ qv Q (Q[k]'hk) ht hi hf (List.getElem?_eq_getElem _) hq).mono ?_
    rintro e w' ⟨rfl, ρ2, t2, K2, L2⟩
    rw [hnx] at t2
    exact ⟨rfl, ρ2, t2, hK.trans K2, hB.trans L2⟩
theorem lookI_skip (w : World) (base r0 S N i b1 : Nat) (ρ : Nat → Nat) (node shard : Int) (ws : Nat → Way) (wv qv : Value) (Q : List Ent) (wr : World) (h : LookI w base ρ r0 S node shard N ws wv qv Q b1 i wr) (his : (i : Int) = shard) : LookI w base ρ r0 S node shard N ws wv qv Q b1 (i + 1) wr := by
  obtain ⟨ρ', ht, hK, hB⟩ := h
  exact ⟨ρ', by rw [← wsL_skip shard Q ws i his]; exact ht, hK, hB⟩
theorem OneN.slice {w : World} {base sz n : Nat} {e : TypeId} {v : Value} {c : Nat → Value} (h : One w base e sz v n c) : ∃ A m cp, v = .slice A m cp := by
  rcases h with ⟨rfl, _⟩ | ⟨g, cap, cur, k1, _⟩
  · exact ⟨_, _, _, rfl⟩
  · exact ⟨_, _, _, k1⟩
/-- The queue put anew. -/
theorem SetAt.newQ {w : World} {base r0 S N n : Nat} {ρ : Nat → Nat} {node shard : Int} {ws : Nat → Way} {wv qv v : Value} {Q Q' : List Ent} (h : SetAt w base ρ r0 S node shard N ws wv qv Q) (hq : One w base 104 4 v n (cQ Q')) (hn : Q'.length = n) (hr : ∀ g, v.ownBlock = some g → ρ g = r0 + 4) :
    SetAt (w.setCell ⟨S, 3, none⟩ v) base ρ r0 S node shard N ws wv v Q' ∧ Keeps (fun r => r = r0 + 1) w ρ (w.setCell ⟨S, 3, none⟩ v) ρ ∧ Below base w (w.setCell ⟨S, 3, none⟩ v) ∧ (w.setCell ⟨S, 3, none⟩ v).heap.size = w.heap.size := by
  have ho : OnlyB w (w.setCell ⟨S, 3, none⟩ v) S (setObj node shard wv v) := OnlyB.set (OnlyB.refl h.obj.1) (lt_of_obj h.obj.1) 3 v
  have hK : Keeps (fun r => r = r0 + 1) w ρ (w.setCell ⟨S, 3, none⟩ v) ρ := Keeps.only ρ ho h.obj.2
  obtain ⟨a1, a2⟩ := OneN.keep h.row h.rowr hK (by omega)
  obtain ⟨b1, b2⟩ := OneN.keep hq hr hK (by omega)
  refine ⟨⟨⟨ho.at_ (lt_of_obj h.obj.1), h.obj.2⟩, a1, a2, by rw [hn]; exact b1, b2, fun k hk => (h.pace k hk).keep hK (by omega), fun k hk => (h.cop k hk).keep hK (by omega), h.lo, h.num⟩, hK, ho.below h.lo.1, ho.size⟩
/-- A new list's block gets its role. -/
theorem label_new {w w' : World} {base sz n r : Nat} {ρ : Nat → Nat} {e : TypeId} {v : Value} {c : Nat → Value} (hB : Below w.heap.size w w') (hO : One w' w.heap.size e sz v n c) (hb : base ≤ w.heap.size) (hf : Free w ρ) :
    ∃ ρ', Keeps (fun _ => False) w ρ w' ρ' ∧ Free w' ρ' ∧ One w' base e sz v n c ∧ ∀ g, v.ownBlock = some g → ρ' g = r := by
  have hO' : One w' base e sz v n c := by
    rcases hO with k | ⟨g, cap, cur, k1, k2, k3⟩
    · exact .inl k
    · exact .inr ⟨g, cap, cur, k1, by omega, k3⟩
  cases hg : v.ownBlock with
  | none => exact ⟨ρ, Keeps.below _ _ hB, hf.le hB.size, hO', fun g h => by cases h⟩
  | some g =>
    have hbk := hO.block hg
    refine ⟨lab ρ g r, ⟨hB.size, fun k hk => ⟨lab_ne (by omega), fun _ => hB.block k hk⟩⟩, hf.lab hB.size hbk.2 r, hO', fun g' h => ?_⟩
    injection h with h
    subst h
    exact lab_eq
set_option maxRecDepth 100000 in
set_option maxHeartbeats 1000000 in
theorem settle_look (w : World) (base r0 S N W cap : Nat) (ρ : Nat → Nat) (node shard sh : Int) (ws : Nat → Way) (qv : Value) (Q0 : List Ent) (h : SetAt w base ρ r0 S node shard N ws (.slice (some ⟨W, 0, none⟩) N cap) qv Q0) (hf : Free w ρ)
    (A : Option Addr) (n cp : Nat) (Q : List Ent) (hQ : HasQ w (.slice A n cp) Q) (hq : Q.length ≤ 3518437208780) (a1 a3 a4 a5 : Option Addr) (n1 n3 n4 n5 c1 c3 c4 c5 : Nat) :
    Calls Try.prog 30 #[.pointer (some ⟨S, 0, none⟩), .agg #[.int .i64 sh, .slice a1 n1 c1, .slice A n cp, .slice a3 n3 c3, .slice a4 n4 c4, .slice a5 n5 c5]] w fun e w' => e = .returned (.tuple #[]) ∧
      ∃ ρ' qv', SetAt w' base ρ' r0 S node shard N (wsL shard Q ws N) (.slice (some ⟨W, 0, none⟩) N cap) qv' Q ∧ Keeps (fun r => r0 + 1 ≤ r ∧ r < r0 + 28) w ρ w' ρ' ∧ Free w' ρ' ∧ Below base w w' := by
  have hN := h.num.2.1
  have hbase : base ≤ w.heap.size := by have := h.lo.1; have := lt_of_obj h.obj.1; omega
  have hb : Below w.heap.size w ((w.alloc (.cells #[.pointer (some ⟨S, 0, none⟩)] 83)).alloc (.cells #[.int .i64 sh, .slice a1 n1 c1, .slice A n cp, .slice a3 n3 c3, .slice a4 n4 c4, .slice a5 n5 c5] 91)) := ((Below.refl _ _).alloc (Nat.le_refl _) _).alloc (by simp) _
  have hz : ((w.alloc (.cells #[.pointer (some ⟨S, 0, none⟩)] 83)).alloc (.cells #[.int .i64 sh, .slice a1 n1 c1, .slice A n cp, .slice a3 n3 c3, .slice a4 n4 c4, .slice a5 n5 c5] 91)).heap.size = w.heap.size + 2 := by simp
  have hK : Keeps (fun _ => False) w ρ ((w.alloc (.cells #[.pointer (some ⟨S, 0, none⟩)] 83)).alloc (.cells #[.int .i64 sh, .slice a1 n1 c1, .slice A n cp, .slice a3 n3 c3, .slice a4 n4 c4, .slice a5 n5 c5] 91)) (lab ρ w.heap.size (r0 + 5)) :=
    ⟨hb.size, fun k hk => ⟨lab_ne (by omega), fun _ => hb.block k hk⟩⟩
  have ho1 : ((w.alloc (.cells #[.pointer (some ⟨S, 0, none⟩)] 83)).alloc (.cells #[.int .i64 sh, .slice a1 n1 c1, .slice A n cp, .slice a3 n3 c3, .slice a4 n4 c4, .slice a5 n5 c5] 91)).heap[w.heap.size]? = some (.cells #[.pointer (some ⟨S, 0, none⟩)] 83 (0, 0)) := by
    rw [Below.heap_alloc _ _ _ (by simp)]; exact heap_alloc_new w _
  have ho2 : ((w.alloc (.cells #[.pointer (some ⟨S, 0, none⟩)] 83)).alloc (.cells #[.int .i64 sh, .slice a1 n1 c1, .slice A n cp, .slice a3 n3 c3, .slice a4 n4 c4, .slice a5 n5 c5] 91)).heap[w.heap.size + 1]? = some (.cells #[.int .i64 sh, .slice a1 n1 c1, .slice A n cp, .slice a3 n3 c3, .slice a4 n4 c4, .slice a5 n5 c5] 91 (0, 0)) := by
    have e := heap_alloc_new (w.alloc (.cells #[.pointer (some ⟨S, 0, none⟩)] 83)) (.cells #[.int .i64 sh, .slice a1 n1 c1, .slice A n cp, .slice a3 n3 c3, .slice a4 n4 c4, .slice a5 n5 c5] 91)
    rw [World.size_alloc] at e
    exact e
  have hf1 : Free ((w.alloc (.cells #[.pointer (some ⟨S, 0, none⟩)] 83)).alloc (.cells #[.int .i64 sh, .slice a1 n1 c1, .slice A n cp, .slice a3 n3 c3, .slice a4 n4 c4, .slice a5 n5 c5] 91)) (lab ρ w.heap.size (r0 + 5)) := hf.lab hb.size (by omega) _
  have hQ1 := hQ.below hb
  have s1 := h.keep hK (fun _ _ _ _ => id)
  have d1 : ((w.alloc (.cells #[.pointer (some ⟨S, 0, none⟩)] 83)).alloc (.cells #[.int .i64 sh, .slice a1 n1 c1, .slice A n cp, .slice a3 n3 c3, .slice a4 n4 c4, .slice a5 n5 c5] 91)).cell? ⟨w.heap.size, 0, none⟩ = some (.pointer (some ⟨S, 0, none⟩)) := by rw [cell_of_obj ho1 0]; rfl
  have d2 : ((w.alloc (.cells #[.pointer (some ⟨S, 0, none⟩)] 83)).alloc (.cells #[.int .i64 sh, .slice a1 n1 c1, .slice A n cp, .slice a3 n3 c3, .slice a4 n4 c4, .slice a5 n5 c5] 91)).cell? ⟨w.heap.size + 1, 2, none⟩ = some (.slice A n cp) := by rw [cell_of_obj ho2 2]; rfl
  have hr1 : lab ρ w.heap.size (r0 + 5) w.heap.size = r0 + 5 := lab_eq
  have hL1 := hb.mono hbase
  have hmf : ∀ (fn : Fn) (first cap : Array Value) (w : World), (Instr.makeFunc fn first cap).run Try.prog w = .ok (.func fn first cap) w := fun _ _ _ _ => rfl
  go_enter Try.func30, Try.ntmps30
  go_wp2
  generalize (w.alloc (.cells #[.pointer (some ⟨S, 0, none⟩)] 83)).alloc (.cells #[.int .i64 sh, .slice a1 n1 c1, .slice A n cp, .slice a3 n3 c3, .slice a4 n4 c4, .slice a5 n5 c5] 91) = w1 at hz hK ho1 ho2 hf1 hQ1 s1 d1 d2 hL1 ⊢
  have hcl := clone_ents w1.drew (.slice A n cp) Q hQ1 hq
  clear hb hQ
  go_region_held3 (fun w' => w'.cell? ⟨w.heap.size, 0, none⟩ = some (.pointer (some ⟨S, 0, none⟩)) ∧ w'.cell? ⟨w.heap.size + 1, 2, none⟩ = some (.slice A n cp))
    (first | exact ⟨d1, d2⟩ | exact ⟨cellKeep hb5 d1, cellKeep hb5 d2⟩ | exact ⟨d16, d26⟩ | go_keep)
    ((go_at_call 63; (with_reducible refine hcl.mono ?_); rintro e w5 ⟨v5, rfl, ho5, hb5⟩; obtain ⟨A5, n5', cp5, rfl⟩ := OneN.slice ho5; obtain ⟨ρ5, K5, F5, q5, r5⟩ := label_new (r := r0 + 4) hb5 ho5 (base := base) (ρ := lab ρ w.heap.size (r0 + 5)) (by have := s1.lo.1; have := lt_of_obj s1.obj.1; show base ≤ w1.heap.size; omega) hf1; have K15 : Keeps (fun _ => False) w1 (lab ρ w.heap.size (r0 + 5)) w5 ρ5 := K5; have s5 := s1.keep K15 (fun _ _ _ _ => id); have y5 := s5.cells.2.2.2; have fr5 := free_of_obj s5.obj.1 3; have N6 := s5.newQ q5 rfl r5; have d16 := (OnlyB.cell (a := ⟨w.heap.size, 0, none⟩) (OnlyB.set (OnlyB.refl s5.obj.1) (lt_of_obj s5.obj.1) 3 (.slice A5 n5' cp5)) (fun e => by have h1 := (K15.2 w.heap.size (by omega)).1; have h2 := s5.obj.2; rw [← e, h1, hr1] at h2; omega)).trans (cellKeep hb5 d1); have d26 := (OnlyB.cell (a := ⟨w.heap.size + 1, 2, none⟩) (OnlyB.set (OnlyB.refl s5.obj.1) (lt_of_obj s5.obj.1) 3 (.slice A5 n5' cp5)) (fun e => by have h1 := (hK.2 S (lt_of_obj h.obj.1)).1; have h2 := lt_of_obj h.obj.1; simp at e; omega)).trans (cellKeep hb5 d2)))
  obtain ⟨s6, K6, L6, z6⟩ := N6
  have o16 := Objr.keep (o := .cells #[.pointer (some ⟨S, 0, none⟩)] 83 (0, 0)) ⟨ho1, hr1⟩ K15 id
  have o17 := o16.keep K6 (by omega)
  have F6 := F5.le (Nat.le_of_eq z6.symm)
  have L5 : Below base w1 w5 := by
    have hb1w : base ≤ w1.heap.size := by rw [hz]; omega
    exact (show Below base w1 w5 from ⟨hb5.os, hb5.tape, hb5.output, hb5.size, fun k hk => hb5.block k (Nat.lt_of_lt_of_le hk hb1w)⟩)
  have K06 : Keeps (fun r => r0 + 1 ≤ r ∧ r < r0 + 28) w ρ (w5.setCell ⟨S, 3, none⟩ (.slice A5 n5' cp5)) ρ5 := ((hK.mono (fun _ hr => hr.elim)).trans (K15.mono (fun _ hr => hr.elim))).trans (K6.mono (fun r hr => by omega))
  have L06 : Below base w (w5.setCell ⟨S, 3, none⟩ (.slice A5 n5' cp5)) := (hL1.trans L5).trans L6
  have c17 := cell_of_obj o17.1 0
  simp only [List.getElem?_toArray, List.getElem?_cons_zero] at c17
  generalize w5.setCell ⟨S, 3, none⟩ (.slice A5 n5' cp5) = w6 at s6 K6 o17 F6 K06 L06 c17 ⊢
  have hI : LookI w6 base ρ5 r0 S node shard N ws (.slice (some ⟨W, 0, none⟩) N cap) (.slice A5 n5' cp5) Q w.heap.size 0 w6 := by
    have e : wsL shard Q ws 0 = ws := by funext k; unfold wsL; rw [if_neg (by omega)]
    exact ⟨ρ5, ⟨by rw [e]; exact s6, o17, F6, hbase⟩, Keeps.refl _ _ _, Below.refl _ _⟩
  have hE := each_look w6 S W N cap shard (.pointer (some ⟨w.heap.size, 0, none⟩)) (LookI w6 base ρ5 r0 S node shard N ws (.slice (some ⟨W, 0, none⟩) N cap) (.slice A5 n5' cp5) Q w.heap.size) hN
    (fun i wr hI => by obtain ⟨ρ', ht, _⟩ := hI; exact ht.set.each) (fun i wr hI hi his => lookI_step w6 base r0 S N W cap i _ ρ5 node shard ws _ Q wr hI hi his hq) (fun i wr hI his => lookI_skip w6 base r0 S N i _ ρ5 node shard ws _ _ Q wr hI his) hI
  have HE := Lib.hid hE
  clear hE hI s6 o17 o16
  go_wp2_with (go_at_call 60; (with_reducible refine (HE.out).mono ?_); rintro e w7 ⟨rfl, hI7⟩)
  go_end0
  obtain ⟨ρ7, t7, K7, L7⟩ := hI7
  exact ⟨rfl, ρ7, _, t7.set, K06.trans K7, t7.free, L06.trans L7⟩
end Go.Proofs.Ytbgojhjlmlbfpaa
