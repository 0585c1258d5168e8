/- settle.Settle: Tick's closure: one peer at one tick. -/
import Derived.Test.YtbgojhjlmlbfpaaSeC
namespace Go.Proofs.Ytbgojhjlmlbfpaa
open Go.RowKit

theorem TickAt.keep {R : Nat → Prop} {w w' : World} {base r0 S N b1 b2 : Nat} {ρ ρ' : Nat → Nat} {node shard : Int} {ws : Nat → Way} {wv qv : Value} {Q : List Ent} {ms : List SMsg} (h : TickAt w base ρ r0 S node shard N ws wv qv Q b1 b2 ms) (hK : Keeps R w ρ w' ρ') (hf : Free w' ρ') (hR : ∀ r, r0 + 1 ≤ r → r < r0 + 28 → ¬ R r) :
    TickAt w' base ρ' r0 S node shard N ws wv qv Q b1 b2 ms := by
  obtain ⟨lv, l1, l2, l3⟩ := h.o2
  obtain ⟨a1, a2⟩ := OneN.keep l2 l3 hK (hR _ (by omega) (by omega))
  exact ⟨h.set.keep hK (fun r a b _ => hR r a b), h.o1.keep hK (hR _ (by omega) (by omega)), ⟨lv, l1.keep hK (hR _ (by omega) (by omega)), a1, a2⟩, hf, h.lo⟩
theorem TickAt.sets {R : Nat → Prop} {w w' : World} {base r0 S N b1 b2 : Nat} {ρ ρ' : Nat → Nat} {node shard : Int} {ws ws' : Nat → Way} {wv qv : Value} {Q : List Ent} {ms : List SMsg} (h : TickAt w base ρ r0 S node shard N ws wv qv Q b1 b2 ms) (hs : SetAt w' base ρ' r0 S node shard N ws' wv qv Q) (hK : Keeps R w ρ w' ρ') (hf : Free w' ρ') (hR : ∀ r, r0 + 5 ≤ r → r ≤ r0 + 7 → ¬ R r) :
    TickAt w' base ρ' r0 S node shard N ws' wv qv Q b1 b2 ms := by
  obtain ⟨lv, l1, l2, l3⟩ := h.o2
  obtain ⟨a1, a2⟩ := OneN.keep l2 l3 hK (hR _ (by omega) (by omega))
  exact ⟨hs, h.o1.keep hK (hR _ (by omega) (by omega)), ⟨lv, l1.keep hK (hR _ (by omega) (by omega)), a1, a2⟩, hf, h.lo⟩
theorem grown_belowM {W w1 : World} {base : Nat} {v : Value} (hg : W.grownBy w1 v.ownBlock) (hv : ∀ g, v.ownBlock = some g → base ≤ g) (hbase : base ≤ W.heap.size) : Below base W w1 :=
  ⟨hg.os, hg.tape, hg.output, hg.size, fun k hk => hg.block k (by omega) (fun e => by have := hv k e.symm; omega)⟩
theorem TickAt.add {w w3 : World} {base r0 S N b1 b2 g cap : Nat} {ρ : Nat → Nat} {node shard : Int} {ws : Nat → Way} {wv qv lv : Value} {Q : List Ent} {ms : List SMsg} (m : SMsg) (h : TickAt w base ρ r0 S node shard N ws wv qv Q b1 b2 ms)
    (hl : Objr w ρ (r0 + 6) b2 (.cells #[lv] 85 (0, 0))) (hlr : ∀ g, lv.ownBlock = some g → ρ g = r0 + 7) (hlb : ∀ g, lv.ownBlock = some g → base ≤ g) (hg : w.grownBy w3 lv.ownBlock) (hat : lv.ownBlock = some g ∨ g = w.heap.size)
    (hone : One w3 base 102 22 (.slice (some ⟨g, 0, none⟩) (ms.length + 1) cap) (ms.length + 1) (cM (ms ++ [m]))) :
    w3.heap[b2]? = some (.cells #[lv] 85 (0, 0)) ∧ TickAt (w3.setCell ⟨b2, 0, none⟩ (.slice (some ⟨g, 0, none⟩) (ms.length + 1) cap)) base (lab ρ g (r0 + 7)) r0 S node shard N ws wv qv Q b1 b2 (ms ++ [m]) ∧
      Keeps (fun r => r = r0 + 6 ∨ r = r0 + 7) w ρ (w3.setCell ⟨b2, 0, none⟩ (.slice (some ⟨g, 0, none⟩) (ms.length + 1) cap)) (lab ρ g (r0 + 7)) ∧ Below base w (w3.setCell ⟨b2, 0, none⟩ (.slice (some ⟨g, 0, none⟩) (ms.length + 1) cap)) := by
  have hlt := (hone.block (g := g) rfl).2
  have hK : Keeps (fun r => r = r0 + 7) w ρ w3 (lab ρ g (r0 + 7)) := Keeps.grown hg hlr rfl hat
  have hb2 := hl.keep hK (by omega)
  have ho : OnlyB w3 (w3.setCell ⟨b2, 0, none⟩ (.slice (some ⟨g, 0, none⟩) (ms.length + 1) cap)) b2 (.cells #[.slice (some ⟨g, 0, none⟩) (ms.length + 1) cap] 85 (0, 0)) := OnlyB.set (OnlyB.refl hb2.1) (lt_of_obj hb2.1) 0 _
  have hK2 : Keeps (fun r => r = r0 + 6) w3 (lab ρ g (r0 + 7)) (w3.setCell ⟨b2, 0, none⟩ (.slice (some ⟨g, 0, none⟩) (ms.length + 1) cap)) (lab ρ g (r0 + 7)) := Keeps.only _ ho hb2.2
  have hK3 := (hK.mono (R' := fun r => r = r0 + 6 ∨ r = r0 + 7) (fun r hr => .inr hr)).trans (hK2.mono (fun r hr => .inl hr))
  obtain ⟨a1, a2⟩ := OneN.keep (r := r0 + 7) hone (fun g' hg' => by simp [Value.ownBlock] at hg'; subst hg'; exact lab_eq) hK2 (by omega)
  have hbw : base ≤ w.heap.size := by have := h.lo.2; have := lt_of_obj hl.1; omega
  refine ⟨hb2.1, ⟨h.set.keep hK3 (fun r h1 h2 h3 => by omega), h.o1.keep hK3 (by omega), ⟨_, ⟨ho.at_ (lt_of_obj hb2.1), hb2.2⟩, by simpa using a1, a2⟩, (h.free.lab hg.size hlt _).le (by rw [ho.size]; exact Nat.le_refl _), h.lo⟩, hK3, (grown_belowM hg hlb hbw).trans (ho.below h.lo.2)⟩
set_option maxRecDepth 100000 in
set_option maxHeartbeats 4000000 in
theorem tick1_fire (w : World) (base r0 S N W cap i b1 b2 : Nat) (ρ : Nat → Nat) (node shard : Int) (ws : Nat → Way) (qv : Value) (Q : List Ent) (ms : List SMsg) (h : TickAt w base ρ r0 S node shard N ws (.slice (some ⟨W, 0, none⟩) N cap) qv Q b1 b2 ms)
    (hi : i < N) (hth : (ws i).there = true) (hl1 : (ws i).l ≤ 1) (hms : ms.length ≤ 1000) :
    Calls Try.prog 61 #[.int .i64 (i : Nat), .pointer (some ⟨W, i * 8, none⟩), .pointer (some ⟨b1, 0, none⟩), .pointer (some ⟨b2, 0, none⟩)] w fun e w' => e = .returned (.tuple #[]) ∧
      ∃ ρ', TickAt w' base ρ' r0 S node shard N (updW ws i (ws i).tick) (.slice (some ⟨W, 0, none⟩) N cap) qv Q b1 b2 (ms ++ [msgOf node shard i (ws i)]) ∧ Keeps (fun r => r0 + 1 ≤ r ∧ r < r0 + 28) w ρ w' ρ' ∧ Below base w w' := by
  obtain ⟨k0, hkk, kz0, kz1, kz2⟩ := info_parts msg_info
  have hfill : ∀ m : SMsg, Instr.fill (fun i => some (i * k0.size, k0.size)) ((Array.range (1 * k0.size)).map (msgZero.cells[· % msgZero.cells.size]!)) [(0, .agg m.cells)] = some m.cells := by
    rw [kz1]
    exact msg_fill
  have hfit := h.set.num.2.2 i hi
  have hc7 := h.set.way i 7 hi (by omega)
  have hc0 := h.set.way i 0 hi (by omega)
  have hpace := (h.set.pace i hi).1
  have hT := tick_any _ _ _ _ w hpace hfit.l1.2 hfit.g1.1 hfit.g1.2 hfit.c1.1 hfit.c1.2
  have hB : tickB (ws i).l = true := by simp [tickB, hl1]
  rw [hB] at hT
  simp only [Way.cell] at hc7 hc0
  rw [Nat.add_zero] at hc0
  rw [hth] at hc7
  have hl2 : 0 ≤ tickL (ws i).l (ws i).g ∧ tickL (ws i).l (ws i).g ≤ 64 := by
    unfold tickL; rw [if_pos hl1]; have := hfit.g1; omega
  have hg2 : 1 ≤ tickG (ws i).c (ws i).l (ws i).g ∧ tickG (ws i).c (ws i).l (ws i).g ≤ 64 := by
    unfold tickG; rw [if_pos hl1]; have := hfit.g1; have := hfit.c1; omega
  have H := Lib.hid h
  have HT := Lib.hid hT
  clear hT hpace h
  go_enter Try.func61, Try.ntmps61
  go_wp2_with (go_at_call 62; (with_reducible refine (HT.out).mono ?_); rintro e w1 ⟨rfl, ht1⟩)
  obtain ⟨s1, K1, L1, z1⟩ := H.out.set.turn hi ht1 hl2 hg2
  have F1 := H.out.free.le (Nat.le_of_eq z1.symm)
  have t1 := H.out.sets s1 K1 F1 (fun r h1 h2 => by omega)
  obtain ⟨ws1, hws1⟩ : ∃ ws1, updW ws i { ws i with l := tickL (ws i).l (ws i).g, g := tickG (ws i).c (ws i).l (ws i).g } = ws1 := ⟨_, rfl⟩
  rw [hws1] at s1 t1
  have hw1i : ws1 i = { ws i with l := tickL (ws i).l (ws i).g, g := tickG (ws i).c (ws i).l (ws i).g } := by rw [← hws1, updW_eq]
  obtain ⟨gc, cpc, hcv⟩ := (s1.cop i hi).1.form (by have := (s1.num.2.2 i hi).t1; omega)
  have hcp := (s1.cop i hi).1
  rw [hcv] at hcp
  have hcx := hcp.cell rfl (k := (ws1 i).turn) (by have := (s1.num.2.2 i hi).t1; omega)
  have htl := (s1.num.2.2 i hi).t1.1
  obtain ⟨c0, c1, c2, c3⟩ := s1.cells
  have y1 := s1.way i 1 hi (by omega)
  have y2 := s1.way i 2 hi (by omega)
  simp only [Way.cell] at y1 y2
  rw [hcv] at y1
  have hx : lst (intsL (ws1 i).L) (ws1 i).turn = .int .i64 ((ws1 i).L.getD (ws1 i).turn 0) := by
    simp [lst, intsL, List.getElem?_eq_getElem htl]
  rw [hx] at hcx
  have o1 := cell_of_obj t1.o1.1 0
  simp at o1
  obtain ⟨tn, htn⟩ : ∃ tn, (ws1 i).turn = tn := ⟨_, rfl⟩
  obtain ⟨ln, hln⟩ : ∃ ln, (ws1 i).L.length = ln := ⟨_, rfl⟩
  obtain ⟨tx, htx⟩ : ∃ tx, (ws1 i).L.getD (ws1 i).turn 0 = tx := ⟨_, rfl⟩
  rw [htx] at hcx
  rw [htn] at hcx y2 htl
  rw [hln] at y1 htl
  have q1 : (tn : Int) < (ln : Int) := by omega
  have T1 := Lib.hid t1
  have HW := Lib.hid hw1i
  have HCV := Lib.hid hcv
  obtain ⟨en, hen⟩ : ∃ x, (ws1 i).e.num = x := ⟨_, rfl⟩
  obtain ⟨es, hes⟩ : ∃ x, (ws1 i).e.name = x := ⟨_, rfl⟩
  obtain ⟨ea, hea⟩ : ∃ x, (ws1 i).e.amt = x := ⟨_, rfl⟩
  have HEN := Lib.hid hen
  have HES := Lib.hid hes
  have HEA := Lib.hid hea
  clear hw1i hen hes hea
  have S1 := Lib.hid s1
  clear hcp hx c2 c3 t1 s1 hcv hc7 hc0 ht1
  go_region_held3 (fun w' => w'.cell? ⟨b1, 0, none⟩ = some (.pointer (some ⟨S, 0, none⟩)) ∧ w'.cell? ⟨S, 0, none⟩ = some (.int .i64 node) ∧ w'.cell? ⟨S, 1, none⟩ = some (.int .i64 shard) ∧ w'.cell? ⟨W, i * 8 + 1, none⟩ = some (.slice (some ⟨gc, 0, none⟩) ln cpc) ∧ w'.cell? ⟨W, i * 8 + 2, none⟩ = some (.int .i64 (tn : Nat)) ∧ w'.cell? ⟨gc, tn, none⟩ = some (.int .i64 tx)) (go_keep) (fail)
  have hb2 : Below w1.heap.size w1 ((w1.alloc (.cells #[.int .i64 8, .int .i64 node, .int .i64 tx, .int .i64 shard] 94)).drew) := ((Below.refl _ _).alloc (Nat.le_refl _) _).drew
  have K2 := Keeps.below (fun _ => False) ρ hb2
  have hh : ((w1.alloc (.cells #[.int .i64 8, .int .i64 node, .int .i64 tx, .int .i64 shard] 94)).drew).heap[w.heap.size]? = some (.cells #[.int .i64 8, .int .i64 node, .int .i64 tx, .int .i64 shard] 94 (0, 0)) := by
    rw [← z1]; exact heap_alloc_new w1 _
  generalize (w1.alloc (.cells #[.int .i64 8, .int .i64 node, .int .i64 tx, .int .i64 shard] 94)).drew = w2 at hb2 K2 hh ⊢
  have F2 := F1.le K2.1
  have t2 := T1.out.keep K2 F2 (fun _ _ _ => id)
  have L2 := L1.trans (hb2.mono (by have := T1.out.set.lo.1; have := lt_of_obj T1.out.set.obj.1; omega))
  have g0 := cell_of_obj hh 0
  have g1 := cell_of_obj hh 1
  have g2 := cell_of_obj hh 2
  have g3 := cell_of_obj hh 3
  simp at g0 g1 g2 g3
  obtain ⟨lv, l1, l2, l3⟩ := t2.o2
  have p0 := cell_of_obj l1.1 0
  simp at p0
  have e1 := t2.set.way i 4 hi (by omega)
  have e2 := t2.set.way i 5 hi (by omega)
  have e3 := t2.set.way i 6 hi (by omega)
  simp only [Way.cell, Ent.cell] at e1 e2 e3
  rw [HEN.out] at e1
  rw [HES.out] at e2
  rw [HEA.out] at e3
  have fr0 := free_of_obj l1.1 0
  clear o1 c0 c1 y1 y2 hcx
  go_wp2
  refine wp_region_S 20 (fun w' => w'.cell? ⟨b2, 0, none⟩ = some lv ∧ w'.cell? ⟨w.heap.size, 0, none⟩ = some (.int .i64 8) ∧ w'.cell? ⟨w.heap.size, 1, none⟩ = some (.int .i64 node) ∧ w'.cell? ⟨w.heap.size, 2, none⟩ = some (.int .i64 tx) ∧ w'.cell? ⟨w.heap.size, 3, none⟩ = some (.int .i64 shard) ∧
    w'.cell? ⟨W, i * 8 + 4, none⟩ = some (.int .u64 en) ∧ w'.cell? ⟨W, i * 8 + 5, none⟩ = some (.string es) ∧ w'.cell? ⟨W, i * 8 + 6, none⟩ = some (.int .u64 ea)) (by kernel_rfl) ?_
  have hSw0 := And.intro p0 (And.intro g0 (And.intro g1 (And.intro g2 (And.intro g3 (And.intro e1 (And.intro e2 e3))))))
  refine wpAnyS_take [0, 20, 21] (i := 0) (v := ?_) rfl (by kernel_rfl) (by kernel_rfl) (by kernel_rfl) (by kernel_rfl) (by kernel_rfl) (fun _ _ _ h => h) (Or.inl ⟨by rfl, fun w hSw => ?_⟩) hSw0 ?_
  rotate_left
  · (try dsimp only at hSw); go_split_ands; go_simp <;> with_reducible rfl
  simp only [Act.put, List.getElem_toArray, List.getElem_cons_zero, List.setIfInBounds_toArray, List.set_cons_zero, List.set_cons_succ]
  refine wpAnyS_take [1, 18, 19, 20, 21] (i := 1) (v := ?_) rfl (by kernel_rfl) (by kernel_rfl) (by kernel_rfl) (by kernel_rfl) (by kernel_rfl) (fun _ _ _ h => h) (Or.inl ⟨by rfl, fun w hSw => ?_⟩) hSw0 ?_
  rotate_left
  · (try dsimp only at hSw); go_split_ands; go_simp <;> with_reducible rfl
  simp only [Act.put, List.getElem_toArray, List.getElem_cons_succ, List.getElem_cons_zero, List.setIfInBounds_toArray, List.set_cons_zero, List.set_cons_succ]
  refine wpAnyS_take [2, 18, 19, 20, 21] (i := 2) (v := ?_) rfl (by kernel_rfl) (by kernel_rfl) (by kernel_rfl) (by kernel_rfl) (by kernel_rfl) (fun _ _ _ h => h) (Or.inl ⟨by rfl, fun w hSw => ?_⟩) hSw0 ?_
  rotate_left
  · (try dsimp only at hSw); go_split_ands; go_simp <;> with_reducible rfl
  simp only [Act.put, List.getElem_toArray, List.getElem_cons_succ, List.getElem_cons_zero, List.setIfInBounds_toArray, List.set_cons_zero, List.set_cons_succ]
  refine wpAnyS_take [3, 4, 5, 6, 7, 18, 19, 20, 21] (i := 3) (v := ?_) rfl (by kernel_rfl) (by kernel_rfl) (by kernel_rfl) (by kernel_rfl) (by kernel_rfl) (fun _ _ _ h => h) (Or.inl ⟨by rfl, fun w hSw => ?_⟩) hSw0 ?_
  rotate_left
  · (try dsimp only at hSw); go_split_ands; go_simp <;> with_reducible rfl
  simp only [Act.put, List.getElem_toArray, List.getElem_cons_succ, List.getElem_cons_zero, List.setIfInBounds_toArray, List.set_cons_zero, List.set_cons_succ]
  refine wpAnyS_take [4, 5, 6, 7, 18, 19, 20, 21] (i := 4) (v := ?_) rfl (by kernel_rfl) (by kernel_rfl) (by kernel_rfl) (by kernel_rfl) (by kernel_rfl) (fun _ _ _ h => h) (Or.inl ⟨by rfl, fun w hSw => ?_⟩) hSw0 ?_
  rotate_left
  · (try dsimp only at hSw); go_split_ands; go_simp <;> with_reducible rfl
  simp only [Act.put, List.getElem_toArray, List.getElem_cons_succ, List.getElem_cons_zero, List.setIfInBounds_toArray, List.set_cons_zero, List.set_cons_succ]
  refine wpAnyS_take [5, 6, 7, 18, 19, 20, 21] (i := 5) (v := ?_) rfl (by kernel_rfl) (by kernel_rfl) (by kernel_rfl) (by kernel_rfl) (by kernel_rfl) (fun _ _ _ h => h) (Or.inl ⟨by rfl, fun w hSw => ?_⟩) hSw0 ?_
  rotate_left
  · (try dsimp only at hSw); go_split_ands; go_simp <;> with_reducible rfl
  simp only [Act.put, List.getElem_toArray, List.getElem_cons_succ, List.getElem_cons_zero, List.setIfInBounds_toArray, List.set_cons_zero, List.set_cons_succ]
  refine wpAnyS_take [6, 7, 18, 19, 20, 21] (i := 6) (v := ?_) rfl (by kernel_rfl) (by kernel_rfl) (by kernel_rfl) (by kernel_rfl) (by kernel_rfl) (fun _ _ _ h => h) (Or.inl ⟨by rfl, fun w hSw => ?_⟩) hSw0 ?_
  rotate_left
  · (try dsimp only at hSw); go_split_ands; go_simp <;> with_reducible rfl
  simp only [Act.put, List.getElem_toArray, List.getElem_cons_succ, List.getElem_cons_zero, List.setIfInBounds_toArray, List.set_cons_zero, List.set_cons_succ]
  refine wpAnyS_take [7, 18, 19, 20, 21] (i := 7) (v := ?_) rfl (by kernel_rfl) (by kernel_rfl) (by kernel_rfl) (by kernel_rfl) (by kernel_rfl) (fun _ _ _ h => h) (Or.inl ⟨by rfl, fun w hSw => ?_⟩) hSw0 ?_
  rotate_left
  · (try dsimp only at hSw); go_split_ands; go_simp <;> with_reducible rfl
  simp only [Act.put, List.getElem_toArray, List.getElem_cons_succ, List.getElem_cons_zero, List.setIfInBounds_toArray, List.set_cons_zero, List.set_cons_succ]
  refine wpAnyS_take [8, 9, 10, 11, 12, 18, 19, 20, 21] (i := 8) (v := ?_) rfl (by kernel_rfl) (by kernel_rfl) (by kernel_rfl) (by kernel_rfl) (by kernel_rfl) (fun _ _ _ h => h) (Or.inl ⟨by rfl, fun w hSw => ?_⟩) hSw0 ?_
  rotate_left
  · (try dsimp only at hSw); go_split_ands; go_simp <;> with_reducible rfl
  simp only [Act.put, List.getElem_toArray, List.getElem_cons_succ, List.getElem_cons_zero, List.setIfInBounds_toArray, List.set_cons_zero, List.set_cons_succ]
  refine wpAnyS_take [9, 10, 11, 12, 18, 19, 20, 21] (i := 9) (v := ?_) rfl (by kernel_rfl) (by kernel_rfl) (by kernel_rfl) (by kernel_rfl) (by kernel_rfl) (fun _ _ _ h => h) (Or.inl ⟨by rfl, fun w hSw => ?_⟩) hSw0 ?_
  rotate_left
  · (try dsimp only at hSw); go_split_ands; go_simp <;> with_reducible rfl
  simp only [Act.put, List.getElem_toArray, List.getElem_cons_succ, List.getElem_cons_zero, List.setIfInBounds_toArray, List.set_cons_zero, List.set_cons_succ]
  refine wpAnyS_take [10, 11, 12, 18, 19, 20, 21] (i := 10) (v := ?_) rfl (by kernel_rfl) (by kernel_rfl) (by kernel_rfl) (by kernel_rfl) (by kernel_rfl) (fun _ _ _ h => h) (Or.inl ⟨by rfl, fun w hSw => ?_⟩) hSw0 ?_
  rotate_left
  · (try dsimp only at hSw); go_split_ands; go_simp <;> with_reducible rfl
  simp only [Act.put, List.getElem_toArray, List.getElem_cons_succ, List.getElem_cons_zero, List.setIfInBounds_toArray, List.set_cons_zero, List.set_cons_succ]
  refine wpAnyS_take [11, 12, 18, 19, 20, 21] (i := 11) (v := ?_) rfl (by kernel_rfl) (by kernel_rfl) (by kernel_rfl) (by kernel_rfl) (by kernel_rfl) (fun _ _ _ h => h) (Or.inl ⟨by rfl, fun w hSw => ?_⟩) hSw0 ?_
  rotate_left
  · (try dsimp only at hSw); go_split_ands; go_simp <;> with_reducible rfl
  simp only [Act.put, List.getElem_toArray, List.getElem_cons_succ, List.getElem_cons_zero, List.setIfInBounds_toArray, List.set_cons_zero, List.set_cons_succ]
  refine wpAnyS_take [12, 18, 19, 20, 21] (i := 12) (v := ?_) rfl (by kernel_rfl) (by kernel_rfl) (by kernel_rfl) (by kernel_rfl) (by kernel_rfl) (fun _ _ _ h => h) (Or.inl ⟨by rfl, fun w hSw => ?_⟩) hSw0 ?_
  rotate_left
  · (try dsimp only at hSw); go_split_ands; go_simp <;> with_reducible rfl
  simp only [Act.put, List.getElem_toArray, List.getElem_cons_succ, List.getElem_cons_zero, List.setIfInBounds_toArray, List.set_cons_zero, List.set_cons_succ]
  refine wpAnyS_take [13, 14, 15, 16, 17, 18, 19, 20, 21] (i := 13) (v := ?_) rfl (by kernel_rfl) (by kernel_rfl) (by kernel_rfl) (by kernel_rfl) (by kernel_rfl) (fun _ _ _ h => h) (Or.inl ⟨by rfl, fun w hSw => ?_⟩) hSw0 ?_
  rotate_left
  · (try dsimp only at hSw); go_split_ands; go_simp <;> with_reducible rfl
  simp only [Act.put, List.getElem_toArray, List.getElem_cons_succ, List.getElem_cons_zero, List.setIfInBounds_toArray, List.set_cons_zero, List.set_cons_succ]
  refine wpAnyS_take [14, 15, 16, 17, 18, 19, 20, 21] (i := 14) (v := ?_) rfl (by kernel_rfl) (by kernel_rfl) (by kernel_rfl) (by kernel_rfl) (by kernel_rfl) (fun _ _ _ h => h) (Or.inl ⟨by rfl, fun w hSw => ?_⟩) hSw0 ?_
  rotate_left
  · (try dsimp only at hSw); go_split_ands; go_simp <;> with_reducible rfl
  simp only [Act.put, List.getElem_toArray, List.getElem_cons_succ, List.getElem_cons_zero, List.setIfInBounds_toArray, List.set_cons_zero, List.set_cons_succ]
  refine wpAnyS_take [15, 16, 17, 18, 19, 20, 21] (i := 15) (v := ?_) rfl (by kernel_rfl) (by kernel_rfl) (by kernel_rfl) (by kernel_rfl) (by kernel_rfl) (fun _ _ _ h => h) (Or.inl ⟨by rfl, fun w hSw => ?_⟩) hSw0 ?_
  rotate_left
  · (try dsimp only at hSw); go_split_ands; go_simp <;> with_reducible rfl
  simp only [Act.put, List.getElem_toArray, List.getElem_cons_succ, List.getElem_cons_zero, List.setIfInBounds_toArray, List.set_cons_zero, List.set_cons_succ]
  refine wpAnyS_take [16, 17, 18, 19, 20, 21] (i := 16) (v := ?_) rfl (by kernel_rfl) (by kernel_rfl) (by kernel_rfl) (by kernel_rfl) (by kernel_rfl) (fun _ _ _ h => h) (Or.inl ⟨by rfl, fun w hSw => ?_⟩) hSw0 ?_
  rotate_left
  · (try dsimp only at hSw); go_split_ands; go_simp <;> with_reducible rfl
  simp only [Act.put, List.getElem_toArray, List.getElem_cons_succ, List.getElem_cons_zero, List.setIfInBounds_toArray, List.set_cons_zero, List.set_cons_succ]
  refine wpAnyS_take [17, 18, 19, 20, 21] (i := 17) (v := ?_) rfl (by kernel_rfl) (by kernel_rfl) (by kernel_rfl) (by kernel_rfl) (by kernel_rfl) (fun _ _ _ h => h) (Or.inl ⟨by rfl, fun w hSw => ?_⟩) hSw0 ?_
  rotate_left
  · (try dsimp only at hSw); go_split_ands; go_simp <;> with_reducible rfl
  simp only [Act.put, List.getElem_toArray, List.getElem_cons_succ, List.getElem_cons_zero, List.setIfInBounds_toArray, List.set_cons_zero, List.set_cons_succ]
  refine wpAnyS_take [18, 19, 20, 21] (i := 18) (v := .agg (SMsg.cells ⟨node, tx, shard, i, en, es, ea⟩)) rfl (by kernel_rfl) (by kernel_rfl) (by kernel_rfl) (by kernel_rfl) (by kernel_rfl) (fun _ _ _ h => h) (Or.inl ⟨by rfl, fun w hSw => ?_⟩) hSw0 ?_
  · exact exec_build w 102 #[(0, .tmp 40), (7, .tmp 41), (8, .tmp 46), (9, .tmp 51), (11, .tmp 56)] rfl [(0, .agg #[.int .i64 8, .int .i64 node, .int .i64 tx, .int .i64 shard]), (7, .int .i64 (i : Nat)), (8, .int .u64 en), (9, .string es), (11, .int .u64 ea)] (by simp [Act.eval]) _ (msg_build node tx shard i en ea es)
  simp only [Act.put, List.getElem_toArray, List.getElem_cons_succ, List.getElem_cons_zero, List.setIfInBounds_toArray, List.set_cons_zero, List.set_cons_succ]
  refine wpAnyS_one (k := 19) rfl (by kernel_rfl) (by rfl) ?_
  refine wp_buildSlice 85 102 1 #[(0, .tmp 57)] rfl (SMsg.cells ⟨node, tx, shard, i, en, es, ea⟩) k0 msgZero Try.underlying85 hkk kz0 (by rw [kz1]; decide) (by rw [kz1]; decide) ?_ ?_
  · refine Eq.trans (congrArg (Instr.fill _ _) ?_) (hfill ⟨node, tx, shard, i, en, es, ea⟩)
    simp only [List.map_toArray, List.map_cons, List.map_nil, Act.eval]
    rfl
  have hbA : Below w2.drew.heap.size w2.drew (w2.drew.alloc (.cells (SMsg.cells ⟨node, tx, shard, i, en, es, ea⟩) 102)) := (Below.refl _ _).alloc (Nat.le_refl _) _
  refine ⟨fun _ => ⟨cellKeep hbA p0, cellKeep hbA g0, cellKeep hbA g1, cellKeep hbA g2, cellKeep hbA g3, cellKeep hbA e1, cellKeep hbA e2, cellKeep hbA e3⟩, ?_⟩
  refine wpAnyS_tail 20 (Nat.le_refl _) rfl (by kernel_rfl) ?_
  simp only [List.drop_succ_cons, List.drop_zero]
  have hbA2 : Below w2.heap.size w2 (w2.drew.alloc (.cells (SMsg.cells ⟨node, tx, shard, i, en, es, ea⟩) 102)) := ((Below.refl _ _).drew).alloc (Nat.le_refl _) _
  have K3 := Keeps.below (fun _ => False) ρ hbA2
  have F3 := F2.le K3.1
  have t3 := t2.keep K3 F3 (fun _ _ _ => id)
  have l13 := l1.keep K3 id
  obtain ⟨l23, l33⟩ := OneN.keep l2 l3 K3 id
  have hbw2 : base ≤ w2.heap.size := by have := t2.lo.2; have := lt_of_obj l1.1; omega
  have L3 := L2.trans (hbA2.mono hbw2)
  have hbw3 : base ≤ (w2.drew.alloc (.cells (SMsg.cells ⟨node, tx, shard, i, en, es, ea⟩) 102)).heap.size := Nat.le_trans hbw2 K3.1
  have hn3 := World.news_of_block (heap_alloc_new w2.drew (.cells (SMsg.cells ⟨node, tx, shard, i, en, es, ea⟩) 102))
  have HL := Lib.hid (l23.congr (fun k hk => cM_old ms ⟨node, tx, shard, i, en, es, ea⟩ k hk))
  have hms2 : (ms.length + 1) * 208 ≤ 140737488355328 := by omega
  obtain ⟨mn, hmn⟩ : ∃ mn, ms.length = mn := ⟨_, rfl⟩
  have hcn := cM_new ms ⟨node, tx, shard, i, en, es, ea⟩
  rw [hmn] at HL hcn hms2 hms
  have h13 : mn + 1 ≤ maxLen := by unfold maxLen; omega
  have hadd := fun w3 g cap hg hat hone => t3.add (w3 := w3) (g := g) (cap := cap) ⟨node, tx, shard, i, en, es, ea⟩ l13 l33 (fun g hg => (l23.block hg).1) hg hat hone
  rw [hmn] at hadd
  have HADD := Lib.hid hadd
  have HCN := Lib.hid hcn
  clear hadd hcn t3 l13 l23 l33 l2 l3 t2 l1
  go_wp2_with (at_builtin; refine wpList_append_marked rfl (.tmp 39) (.tmp 58) 85 rfl base 102 k0 msgZero 22 208 Try.underlying85 hkk kz0 kz1 kz2 rfl (by decide) lv mn (cM (ms ++ [⟨node, tx, shard, i, en, es, ea⟩])) rfl HL.out ⟨w2.drew.heap.size, 0, none⟩ 1 1 (SMsg.cells ⟨node, tx, shard, i, en, es, ea⟩).toList rfl rfl HCN.out hn3 (SMsg.one _) (by omega) h13 hms2 hbw3 ?_; intro g cap3 w3 ho3 hgrow3 hat3 hkeep3; have q3 := HADD.out w3 g cap3 hgrow3 hat3 ho3; have hblk3 := q3.1; have fr3 := free_of_obj hblk3 0; have y3 := cell_of_obj hblk3 0; simp at y3; have H4 := Lib.hid q3.2; clear q3 ho3 hgrow3 hat3 hkeep3)
  obtain ⟨t4, K4, L4⟩ := H4.out
  generalize w3.setCell ⟨b2, 0, none⟩ (.slice (some ⟨g, 0, none⟩) (mn + 1) cap3) = w4 at t4 K4 L4 ⊢
  have s4 := t4.set
  have y1 := s4.way i 1 hi (by omega)
  have y2 := s4.way i 2 hi (by omega)
  simp only [Way.cell] at y1 y2
  rw [HCV.out, hln] at y1
  rw [htn] at y2
  have fr2 := OneN.free s4.row (i * 8 + 2)
  obtain ⟨r, hr⟩ : ∃ r, (tn + 1) % ln = r := ⟨_, rfl⟩
  have hrem : ((tn : Int) + 1).tmod (ln : Int) = ((r : Nat) : Int) := by
    rw [Int.tmod_eq_emod_of_nonneg (by omega), ← hr]
    simp
  have hln0 : ¬ (ln = 0) := by omega
  have htn9 : tn ≤ 9 ∧ ln ≤ 9 := by have := (s4.num.2.2 i hi).t1; omega
  have hwr : IntKind.i64.wrap ((tn : Int) + 1) = (tn : Int) + 1 := wrap_small _ (by omega) (by omega)
  have hrl : r < ln := by rw [← hr]; exact Nat.mod_lt _ (by omega)
  have hfit4 := s4.num.2.2 i hi
  have hput := s4.put (i := i) (j := 2) (v := .int .i64 (r : Nat)) (by omega) { ws1 i with turn := r } (by
    intro k hk
    match k, hk with
    | 0, _ => rfl
    | 1, _ => rfl
    | 2, _ => rfl
    | 3, _ => rfl
    | 4, _ => rfl
    | 5, _ => rfl
    | 6, _ => rfl
    | 7, _ => rfl) ⟨rfl, rfl, rfl, rfl, rfl, rfl⟩ (fun _ => ⟨hfit4.c1, hfit4.l1, hfit4.g1, by rw [hln]; exact ⟨hrl, htn9.2⟩⟩)
  have HP := Lib.hid hput
  have HT4 := Lib.hid t4
  have HR := Lib.hid hr
  clear hput t4 s4 H4
  refine wp_region_S 14 (fun w' => w'.cell? ⟨W, i * 8 + 2, none⟩ = some (.int .i64 (tn : Nat)) ∧ w'.cell? ⟨W, i * 8 + 1, none⟩ = some (.slice (some ⟨gc, 0, none⟩) ln cpc)) (by kernel_rfl) ?_
  have hSw3 := And.intro y2 y1
  refine wpAnyS_take [0, 12, 13, 14] (i := 0) (v := ?_) rfl (by kernel_rfl) (by kernel_rfl) (by kernel_rfl) (by kernel_rfl) (by kernel_rfl) (fun _ _ _ h => h) (Or.inl ⟨by rfl, fun w hSw => ?_⟩) hSw3 ?_
  rotate_left
  · (try dsimp only at hSw); go_split_ands; go_simp <;> with_reducible rfl
  simp only [Act.put, List.getElem_toArray,  List.getElem_cons_zero, List.setIfInBounds_toArray, List.set_cons_zero, List.set_cons_succ]
  refine wpAnyS_take [1, 2, 3, 4, 5, 11, 14] (i := 1) (v := ?_) rfl (by kernel_rfl) (by kernel_rfl) (by kernel_rfl) (by kernel_rfl) (by kernel_rfl) (fun _ _ _ h => h) (Or.inl ⟨by rfl, fun w hSw => ?_⟩) hSw3 ?_
  rotate_left
  · (try dsimp only at hSw); go_split_ands; go_simp <;> with_reducible rfl
  simp only [Act.put, List.getElem_toArray, List.getElem_cons_succ,  List.getElem_cons_zero, List.setIfInBounds_toArray, List.set_cons_zero, List.set_cons_succ]
  refine wpAnyS_take [2, 3, 4, 5, 11, 14] (i := 2) (v := ?_) rfl (by kernel_rfl) (by kernel_rfl) (by kernel_rfl) (by kernel_rfl) (by kernel_rfl) (fun _ _ _ h => h) (Or.inl ⟨by rfl, fun w hSw => ?_⟩) hSw3 ?_
  rotate_left
  · (try dsimp only at hSw); go_split_ands; go_simp <;> with_reducible rfl
  simp only [Act.put, List.getElem_toArray, List.getElem_cons_succ,  List.getElem_cons_zero, List.setIfInBounds_toArray, List.set_cons_zero, List.set_cons_succ]
  refine wpAnyS_take [3, 4, 5, 11, 14] (i := 3) (v := ?_) rfl (by kernel_rfl) (by kernel_rfl) (by kernel_rfl) (by kernel_rfl) (by kernel_rfl) (fun _ _ _ h => h) (Or.inl ⟨by rfl, fun w hSw => ?_⟩) hSw3 ?_
  rotate_left
  · (try dsimp only at hSw); go_split_ands; go_simp <;> with_reducible rfl
  simp only [Act.put, List.getElem_toArray, List.getElem_cons_succ,  List.getElem_cons_zero, List.setIfInBounds_toArray, List.set_cons_zero, List.set_cons_succ]
  refine wpAnyS_take [4, 5, 11, 14] (i := 4) (v := ?_) rfl (by kernel_rfl) (by kernel_rfl) (by kernel_rfl) (by kernel_rfl) (by kernel_rfl) (fun _ _ _ h => h) (Or.inl ⟨by rfl, fun w hSw => ?_⟩) hSw3 ?_
  rotate_left
  · (try dsimp only at hSw); go_split_ands; go_simp <;> with_reducible rfl
  simp only [Act.put, List.getElem_toArray, List.getElem_cons_succ,  List.getElem_cons_zero, List.setIfInBounds_toArray, List.set_cons_zero, List.set_cons_succ]
  refine wpAnyS_take [5, 11, 14] (i := 5) (v := ?_) rfl (by kernel_rfl) (by kernel_rfl) (by kernel_rfl) (by kernel_rfl) (by kernel_rfl) (fun _ _ _ h => h) (Or.inl ⟨by rfl, fun w hSw => ?_⟩) hSw3 ?_
  rotate_left
  · (try dsimp only at hSw); go_split_ands; go_simp <;> with_reducible rfl
  simp only [Act.put, List.getElem_toArray, List.getElem_cons_succ,  List.getElem_cons_zero, List.setIfInBounds_toArray, List.set_cons_zero, List.set_cons_succ]
  refine wpAnyS_take [6, 7, 8, 9, 10, 11, 14] (i := 6) (v := ?_) rfl (by kernel_rfl) (by kernel_rfl) (by kernel_rfl) (by kernel_rfl) (by kernel_rfl) (fun _ _ _ h => h) (Or.inl ⟨by rfl, fun w hSw => ?_⟩) hSw3 ?_
  rotate_left
  · (try dsimp only at hSw); go_split_ands; go_simp <;> with_reducible rfl
  simp only [Act.put, List.getElem_toArray, List.getElem_cons_succ,  List.getElem_cons_zero, List.setIfInBounds_toArray, List.set_cons_zero, List.set_cons_succ]
  refine wpAnyS_take [7, 8, 9, 10, 11, 14] (i := 7) (v := ?_) rfl (by kernel_rfl) (by kernel_rfl) (by kernel_rfl) (by kernel_rfl) (by kernel_rfl) (fun _ _ _ h => h) (Or.inl ⟨by rfl, fun w hSw => ?_⟩) hSw3 ?_
  rotate_left
  · (try dsimp only at hSw); go_split_ands; go_simp <;> with_reducible rfl
  simp only [Act.put, List.getElem_toArray, List.getElem_cons_succ,  List.getElem_cons_zero, List.setIfInBounds_toArray, List.set_cons_zero, List.set_cons_succ]
  refine wpAnyS_take [8, 9, 10, 11, 14] (i := 8) (v := ?_) rfl (by kernel_rfl) (by kernel_rfl) (by kernel_rfl) (by kernel_rfl) (by kernel_rfl) (fun _ _ _ h => h) (Or.inl ⟨by rfl, fun w hSw => ?_⟩) hSw3 ?_
  rotate_left
  · (try dsimp only at hSw); go_split_ands; go_simp <;> with_reducible rfl
  simp only [Act.put, List.getElem_toArray, List.getElem_cons_succ,  List.getElem_cons_zero, List.setIfInBounds_toArray, List.set_cons_zero, List.set_cons_succ]
  refine wpAnyS_take [9, 10, 11, 14] (i := 9) (v := ?_) rfl (by kernel_rfl) (by kernel_rfl) (by kernel_rfl) (by kernel_rfl) (by kernel_rfl) (fun _ _ _ h => h) (Or.inl ⟨by rfl, fun w hSw => ?_⟩) hSw3 ?_
  rotate_left
  · (try dsimp only at hSw); go_split_ands; go_simp <;> with_reducible rfl
  simp only [Act.put, List.getElem_toArray, List.getElem_cons_succ,  List.getElem_cons_zero, List.setIfInBounds_toArray, List.set_cons_zero, List.set_cons_succ]
  refine wpAnyS_take [10, 11, 14] (i := 10) (v := ?_) rfl (by kernel_rfl) (by kernel_rfl) (by kernel_rfl) (by kernel_rfl) (by kernel_rfl) (fun _ _ _ h => h) (Or.inl ⟨by rfl, fun w hSw => ?_⟩) hSw3 ?_
  rotate_left
  · (try dsimp only at hSw); go_split_ands; go_simp <;> with_reducible rfl
  simp only [Act.put, List.getElem_toArray, List.getElem_cons_succ,  List.getElem_cons_zero, List.setIfInBounds_toArray, List.set_cons_zero, List.set_cons_succ]
  refine wpAnyS_take [11, 14] (i := 11) (v := ?_) rfl (by kernel_rfl) (by kernel_rfl) (by kernel_rfl) (by kernel_rfl) (by kernel_rfl) (fun _ _ _ h => h) (Or.inl ⟨by rfl, fun w hSw => ?_⟩) hSw3 ?_
  rotate_left
  · (try dsimp only at hSw); go_split_ands; go_simp <;> with_reducible rfl
  simp only [Act.put, List.getElem_toArray, List.getElem_cons_succ,  List.getElem_cons_zero, List.setIfInBounds_toArray, List.set_cons_zero, List.set_cons_succ]
  refine wpAnyS_take [12, 13, 14] (i := 12) (v := ?_) rfl (by kernel_rfl) (by kernel_rfl) (by kernel_rfl) (by kernel_rfl) (by kernel_rfl) (fun _ _ _ h => h) (Or.inl ⟨by rfl, fun w hSw => ?_⟩) hSw3 ?_
  rotate_left
  · (try dsimp only at hSw); go_split_ands; go_simp <;> with_reducible rfl
  simp only [Act.put, List.getElem_toArray, List.getElem_cons_succ,  List.getElem_cons_zero, List.setIfInBounds_toArray, List.set_cons_zero, List.set_cons_succ]
  refine wpAnyS_take [13, 14] (i := 13) (v := ?_) rfl (by kernel_rfl) (by kernel_rfl) (by kernel_rfl) (by kernel_rfl) (by kernel_rfl) (fun _ _ _ h => h) (Or.inl ⟨by rfl, fun w hSw => ?_⟩) hSw3 ?_
  rotate_left
  · (try dsimp only at hSw); go_split_ands; go_simp <;> with_reducible rfl
  simp only [Act.put, List.getElem_toArray, List.getElem_cons_succ,  List.getElem_cons_zero, List.setIfInBounds_toArray, List.set_cons_zero, List.set_cons_succ]
  refine wpAnyS_tail 14 (Nat.le_refl _) rfl (by kernel_rfl) ?_
  simp only [List.drop_succ_cons, List.drop_zero]
  go_wp2
  go_end0
  obtain ⟨s5, K5, L5, z5⟩ := HP.out
  have KD : Keeps (fun _ => False) (w4.setCell ⟨W, i * 8 + 2, none⟩ (.int .i64 (r : Nat))) (lab ρ g (r0 + 7)) (w4.setCell ⟨W, i * 8 + 2, none⟩ (.int .i64 (r : Nat))).drew (lab ρ g (r0 + 7)) := Keeps.below _ _ ((Below.refl _ _).drew)
  have F5 := (HT4.out.free.le K5.1).le KD.1
  have s6 := s5.keep KD (fun _ _ _ _ => id)
  have K6 := K5.trans (KD.mono (fun _ hr => hr.elim))
  have t6 := HT4.out.sets s6 K6 F5 (fun r h1 h2 => by omega)
  have hws : updW ws1 i { ws1 i with turn := r } = updW ws i (ws i).tick := by
    funext k
    by_cases hk : k = i
    · subst hk
      rw [updW_eq, updW_eq, HW.out]
      unfold Way.tick
      rw [if_pos hth, if_pos hl1]
      have e1 : (ws k).turn = tn := by rw [← htn, HW.out]
      have e2 : (ws k).L.length = ln := by rw [← hln, HW.out]
      rw [e1, e2, HR.out]
    · rw [updW_ne hk, updW_ne hk, ← hws1, updW_ne hk]
  have hmsg : msgOf node shard i (ws i) = ⟨node, tx, shard, i, en, es, ea⟩ := by
    unfold msgOf
    have e1 : (ws i).L.getD (ws i).turn 0 = tx := by rw [← htx, HW.out]
    have e2 : (ws i).e.num = en := by rw [← HEN.out, HW.out]
    have e3 : (ws i).e.name = es := by rw [← HES.out, HW.out]
    have e4 : (ws i).e.amt = ea := by rw [← HEA.out, HW.out]
    rw [e1, e2, e3, e4]
  rw [hws] at t6
  have hN8 := H.out.set.num.2.1
  refine ⟨rfl, _, by rw [hmsg]; exact t6, ?_, ?_⟩
  · exact (((K1.mono (fun r hr => by omega)).trans (K2.mono (fun _ hr => hr.elim))).trans (K3.mono (fun _ hr => hr.elim))).trans ((K4.mono (fun r hr => by omega)).trans (K6.mono (fun r hr => by omega)))
  · exact ((L3.trans L4).trans L5).drew
end Go.Proofs.Ytbgojhjlmlbfpaa
