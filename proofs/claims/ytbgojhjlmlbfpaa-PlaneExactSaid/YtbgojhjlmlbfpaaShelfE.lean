/- tallylaw3.Shelf that keeps lists of ints alone: Given. -/
import Derived.Test.YtbgojhjlmlbfpaaShelfD
namespace Go.Proofs.Ytbgojhjlmlbfpaa
open Go.RowKit

theorem ShelfI.marks {w : World} {base S : Nat} {ρ : Nat → Nat} {f : Nat → Value} {V O : List Value} {D : List (List Int)} (h : ShelfI w base ρ S f V O D) : MarkSt w base ρ V 0 0 := fun i v hi => by
  obtain ⟨L, _, b, c⟩ := h.vals i v hi
  exact ⟨_, _, b, c, fun hd => by omega, fun _ j hj => by omega⟩
theorem MarkSt.keep {R : Nat → Prop} {w w' : World} {base d k : Nat} {ρ ρ' : Nat → Nat} {V : List Value} (h : MarkSt w base ρ V d k) (hK : Keeps R w ρ w' ρ') (hR : ∀ r, 9 ≤ r → ¬ R r) : MarkSt w' base ρ' V d k := fun i v hi => by
  obtain ⟨n, c, h1, h2, h3⟩ := h i v hi
  exact ⟨n, c, h1, h2.keep hK (hR _ (by omega)), h3⟩
theorem cell_far_set (w : World) (Y S j k : Nat) (v : Value) (h : S ≠ Y) : (w.setCell ⟨Y, j, none⟩ v).cell? ⟨S, k, none⟩ = w.cell? ⟨S, k, none⟩ :=
  World.cell?_of_block (by simp only [World.setCell, Array.getElem?_modify]; rw [if_neg (fun e => h e.symm)])
theorem Keeps.fromNil {w w' : World} {ρ : Nat → Nat} {g r : Nat} (hg : w.drew.grownBy w' none) (hat : (none : Option Nat) = some g ∨ g = w.heap.size) : Keeps (fun _ => False) w ρ w' (lab ρ g r) := by
  have hgw : g = w.heap.size := by
    rcases hat with h | h
    · cases h
    · exact h
  exact ⟨hg.size, fun k hk => ⟨lab_ne (by omega), fun _ => hg.block k hk (by simp)⟩⟩
theorem keep2 {w : World} {Y S j k : Nat} {u v : Value} (h : S ≠ Y) (hh : w.cell? ⟨Y, j, none⟩ = some u ∧ w.cell? ⟨S, k, none⟩ = some v) : (w.setCell ⟨Y, j, none⟩ u).drew.cell? ⟨Y, j, none⟩ = some u ∧ (w.setCell ⟨Y, j, none⟩ u).drew.cell? ⟨S, k, none⟩ = some v :=
  ⟨World.cell?_setCell_same _ _ _ hh.1, (cell_far_set w Y S j k u h).trans hh.2⟩
/-- Given's state once the lists are laid into y. -/
structure GSt (w ws : World) (base S Y : Nat) (ρ : Nat → Nat) (fy f : Nat → Value) (V : List Value) : Prop where
  y : SprI ws base ρ 5 6 Y fy V
  s : Objr ws ρ 1 S (cellsObj 30 11 f)
  rest : ∀ k, 3 ≤ k → k < 11 → f k = .slice none 0 0
  marks : MarkSt ws base ρ V 0 0
  free : Free ws ρ
  bel : Below base w ws
  lo : base ≤ Y
theorem setc_same {f : Nat → Value} {k : Nat} {v : Value} (h : f k = v) : setc f k v = f := by
  funext j
  unfold setc
  split
  · rename_i e; subst e; exact h.symm
  · rfl
theorem GSt.nilAt {w ws : World} {base S Y : Nat} {ρ : Nat → Nat} {fy f : Nat → Value} {V : List Value} (h : GSt w ws base S Y ρ fy f V) (k : Nat) (hk : 1 ≤ k ∧ k < 8) : GSt w (ws.setCell ⟨Y, k, none⟩ (.slice none 0 0)) base S Y ρ fy f V := by
  have ho := OnlyB.objSet h.y.blk.1 k (.slice none 0 0)
  rw [setc_same (h.y.rest k hk.1 hk.2)] at ho
  have hK : Keeps (fun r => r = 5) ws ρ (ws.setCell ⟨Y, k, none⟩ (.slice none 0 0)) ρ := Keeps.only ρ ho h.y.blk.2
  exact ⟨⟨⟨ho.at_ (lt_of_obj h.y.blk.1), h.y.blk.2⟩, h.y.rest, h.y.row.keep hK (by omega), h.y.small⟩, h.s.keep hK (by omega), h.rest, h.marks.keep hK (fun r hr => by omega), h.free.le (by rw [ho.size]; exact Nat.le_refl _), h.bel.trans (ho.below h.lo), h.lo⟩
theorem GSt.drew {w ws : World} {base S Y : Nat} {ρ : Nat → Nat} {fy f : Nat → Value} {V : List Value} (h : GSt w ws base S Y ρ fy f V) : GSt w ws.drew base S Y ρ fy f V := by
  have hK : Keeps (fun _ => False) ws ρ ws.drew ρ := Keeps.below _ _ ((Below.refl _ _).drew)
  exact ⟨h.y.keep hK id id, h.s.keep hK id, h.rest, h.marks.keep hK (fun _ _ => id), h.free.le (Nat.le_refl _), h.bel.drew, h.lo⟩
theorem GSt.start {w w2 : World} {base S Y : Nat} {ρ : Nat → Nat} {f : Nat → Value} {V : List Value} {yv : Value} (hy : Objr w2 ρ 5 Y (cellsObj 123 8 (fun _ => .slice none 0 0))) (hs : Objr w2 ρ 1 S (cellsObj 30 11 f))
    (hr : ∀ k, 3 ≤ k → k < 11 → f k = .slice none 0 0) (hrow : Lst w2 base ρ 6 31 yv V.length (lst V)) (hm : MarkSt w2 base ρ V 0 0) (hf : Free w2 ρ) (hb : Below base w w2) (hlo : base ≤ Y) (hV : V.length ≤ 5000) :
    GSt w (w2.setCell ⟨Y, 0, none⟩ yv) base S Y ρ (setc (fun _ => .slice none 0 0) 0 yv) f V := by
  have ho := OnlyB.objSet hy.1 0 yv
  have hK : Keeps (fun r => r = 5) w2 ρ (w2.setCell ⟨Y, 0, none⟩ yv) ρ := Keeps.only ρ ho hy.2
  exact ⟨⟨⟨ho.at_ (lt_of_obj hy.1), hy.2⟩, fun k h1 h2 => setc_ne (by omega), by rw [setc_eq]; exact hrow.keep hK (by omega), hV⟩, hs.keep hK (by omega), hr, hm.keep hK (fun r hr => by omega), hf.le (by rw [ho.size]; exact Nat.le_refl _), hb.trans (ho.below hlo), hlo⟩
set_option maxRecDepth 100000 in
set_option maxHeartbeats 2000000 in
theorem given_ints (w : World) (base S N : Nat) (ρ : Nat → Nat) (f : Nat → Value) (V O : List Value) (D : List (List Int)) (h : ShelfI w base ρ S f V O D) (hV : V.length = N) (hO : O.length = N) (hN : N ≤ 5000)
    (hfree : Free w ρ) (hS : base ≤ S) (h0 : N = 0 → f 1 = .slice none 0 0) :
    Calls Try.prog 14 #[.pointer (some ⟨S, 0, none⟩)] w fun e w' => e = .returned (.bool true) ∧ Below base w w' := by
  obtain ⟨j0, hjj, jz0, jz1, jz2⟩ := info_parts sh_info_ints
  have hsame := same_ints w base S N ρ f V O D h hV hO (by omega)
  have hlS := lt_of_obj h.blk.1
  go_enter Try.func14, Try.ntmps14
  go_wp2_with (go_at_call 43; (with_reducible refine hsame.mono ?_); rintro e w1 ⟨rfl, q, rfl⟩)
  have hb1 : Below w.heap.size w ((w.drewN q).alloc (cellsObj 123 8 (fun _ => .slice none 0 0))) := Below.alloc (below_drewN (Below.refl _ _) q) (Nat.le_refl _) _
  have hy1 : Objr ((w.drewN q).alloc (cellsObj 123 8 (fun _ => .slice none 0 0))) (lab ρ w.heap.size 5) 5 w.heap.size (cellsObj 123 8 (fun _ => .slice none 0 0)) := ⟨heap_alloc_new (w.drewN q) _, lab_eq⟩
  have hf1 : Free ((w.drewN q).alloc (cellsObj 123 8 (fun _ => .slice none 0 0))) (lab ρ w.heap.size 5) := hfree.lab hb1.size (by simp) 5
  have hbw : base ≤ w.heap.size := by omega
  have hL1 : Below base w ((w.drewN q).alloc (cellsObj 123 8 (fun _ => .slice none 0 0))) := Below.alloc (below_drewN (Below.refl _ _) q) hbw _
  have hK1 : Keeps (fun _ => False) w ρ ((w.drewN q).alloc (cellsObj 123 8 (fun _ => .slice none 0 0))) (lab ρ w.heap.size 5) := ⟨hb1.size, fun k hk => ⟨lab_ne (by omega), fun _ => hb1.block k hk⟩⟩
  have h1 := h.keep hK1 id id id id (fun _ _ => id)
  have hf0 := hf1
  have hlo := hbw
  generalize hw1 : (w.drewN q).alloc (cellsObj 123 8 (fun _ => .slice none 0 0)) = w1 at hy1 hf0 hL1 h1
  have hw1' : (w.drewN q).alloc (.cells #[.slice none 0 0, .slice none 0 0, .slice none 0 0, .slice none 0 0, .slice none 0 0, .slice none 0 0, .slice none 0 0, .slice none 0 0] 123) = w1 := hw1
  rw [hw1']
  obtain ⟨Y, hY⟩ : ∃ Y, w.heap.size = Y := ⟨_, rfl⟩
  rw [hY] at hy1 hf0 h1 hlo ⊢
  have hSY : S ≠ Y := by omega
  clear hf1 hb1 hK1 hw1 hw1' hfree hsame hbw hlS h
  have hlY := lt_of_obj hy1.1
  have hlS := lt_of_obj h1.blk.1
  have c1 := obj_cell h1.blk.1 1 (by omega)
  have y0 := obj_cell hy1.1 0 (by omega)
  have fr0 := free_of_obj hy1.1 0
  rcases Nat.eq_zero_or_pos N with hN0 | hN0
  · have hf1 := h0 hN0
    rw [hf1] at c1
    have hVn : V = [] := List.length_eq_zero_iff.1 (by omega)
    have hG := (GSt.start hy1 h1.blk h1.rest (yv := .slice none 0 0) (V := V) ⟨.inl ⟨rfl, by omega⟩, fun g hg => by simp [Value.ownBlock] at hg⟩ h1.marks hf0 hL1 hlo (by omega)).drew
    go_region_law (fail)
    all_goals
      generalize (w1.setCell ⟨Y, 0, none⟩ (.slice none 0 0)).drew = ws at hG ⊢
      clear h1 hy1 hf0 hL1 c1 y0 fr0 hlY hlS
      have y1 := obj_cell hG.y.blk.1 1 (by omega)
      have s3 := obj_cell hG.s.1 3 (by omega)
      rw [hG.y.rest 1 (by omega) (by omega)] at y1
      rw [hG.rest 3 (by omega) (by omega)] at s3
      have fr1 := free_of_obj hG.y.blk.1 1
      have hG1 := (hG.nilAt 1 (by omega)).drew
      have HG := Lib.hid hG
      clear hG
      go_wp2
      go_region_held3 (fun w' => w'.cell? ⟨Y, 1, none⟩ = some (.slice none 0 0) ∧ w'.cell? ⟨S, 3, none⟩ = some (.slice none 0 0)) (first | exact keep2 hSY ⟨y1, s3⟩ | go_keep) (fail)
      generalize (ws.setCell ⟨Y, 1, none⟩ (.slice none 0 0)).drew = ws1 at hG1 ⊢
      have y4 := obj_cell hG1.y.blk.1 4 (by omega)
      have s7 := obj_cell hG1.s.1 7 (by omega)
      rw [hG1.y.rest 4 (by omega) (by omega)] at y4
      rw [hG1.rest 7 (by omega) (by omega)] at s7
      have fr4 := free_of_obj hG1.y.blk.1 4
      have hG2 := (hG1.nilAt 4 (by omega)).drew
      clear hG1 y1 s3 fr1
      go_wp2
      go_region_held3 (fun w' => w'.cell? ⟨Y, 4, none⟩ = some (.slice none 0 0) ∧ w'.cell? ⟨S, 7, none⟩ = some (.slice none 0 0)) (first | exact keep2 hSY ⟨y4, s7⟩ | go_keep) (fail)
      generalize (ws1.setCell ⟨Y, 4, none⟩ (.slice none 0 0)).drew = ws2 at hG2 ⊢
      have s5 := obj_cell hG2.s.1 5 (by omega)
      have s9 := obj_cell hG2.s.1 9 (by omega)
      rw [hG2.rest 5 (by omega) (by omega)] at s5
      rw [hG2.rest 9 (by omega) (by omega)] at s9
      clear y4 s7 fr4
      have hcm := mark_ints ws2 Y base _ _ V hG2.y hG2.marks
      go_wp2
      repeat (refine wp_loop_rounds 1 ?_; rw [rounds_succ]; go_wp2_with (first | (go_at_call 44; (with_reducible refine hcm.mono ?_); rintro e w5 ⟨rfl, m5, y5, l5, z5⟩; have l05 := hG2.bel.trans l5; have f5 := hG2.free.le (Nat.le_of_eq z5.symm); have b5 := Nat.le_trans hG2.lo (Nat.le_of_lt (lt_of_obj y5.blk.1))) | (go_at_call 45; (with_reducible refine (grown_ints w5 Y base 100 _ _ V y5 m5 (by omega) b5 f5).mono ?_); rintro e w6 ⟨Z, ρ6, fz, Zs, rfl, hZ⟩; have l06 := l05.trans hZ.bel; have hmy := marked_ints w6 Y base 5 6 ρ6 _ V hZ.y 100 hZ.ym (by omega); have hmz := marked_ints w6 Z base 7 8 ρ6 _ Zs hZ.z 140 hZ.zm (by omega)) | (go_at_call 46; first | ((with_reducible refine hmy.mono ?_); rintro e w7 ⟨rfl, rfl⟩) | ((with_reducible refine hmz.mono ?_); rintro e w7 ⟨rfl, rfl⟩))))
      go_ret
      exact ⟨rfl, l06⟩
  · obtain ⟨g1, cap1, e1⟩ := h1.iv.1.form (by omega)
    rw [hV] at e1
    rw [e1] at c1
    have r1 := h1.iv.row rfl
    rw [hV, e1] at r1
    have n1 : ∀ (j : Nat) (u : Value), V[j]? = some u → w1.cell? ((⟨g1, 0, none⟩ : Addr).add j) = some u := fun j u hj => by
      have hjN : j < N := by rw [← hV]; exact (List.getElem?_eq_some_iff.1 hj).1
      have := World.ownsRow.cellAt r1 j (by omega)
      rw [hj] at this
      by_cases hj0 : j = 0 <;> simpa [Addr.add, hj0] using this
    have one : ∀ u ∈ V, u.oneCell' = true := fun u hu => by
      obtain ⟨i, hi⟩ := List.mem_iff_getElem?.1 hu
      obtain ⟨L, _, _, c⟩ := h1.vals i u hi
      obtain ⟨_, _, e⟩ := c.1.len
      rw [e]; rfl
    have b1 : base ≤ w1.heap.size := by omega
    go_region_law ((first | (refine step_append_lies _ (by rfl) (.tmp 17) (.tmp 21) 24 (by rfl) base 31 j0 (.slice none 0 0) 1 24 Try.underlying24 hjj jz0 jz1 jz2 rfl (by decide) (.slice none 0 0) 0 [] (by rfl) ⟨rfl, .inl ⟨rfl, rfl⟩⟩ ⟨g1, 0, none⟩ N cap1 V (by rfl) (by omega) n1 one (by omega) (by unfold maxLen; omega) (by omega) b1 w1.heap.size (by simp) ?_; intro g2 cap2 w2 hown2 hgrow2 hat2 hlt2; have K2 : Keeps (fun _ => False) w1 (lab ρ Y 5) w2 (lab (lab ρ Y 5) g2 6) := Keeps.fromNil hgrow2 hat2; have hy2 := hy1.keep K2 id; have y2 := obj_cell hy2.1 0 (by omega); have fr2 := free_of_obj hy2.1 0; have hrow2 : Lst w2 base (lab (lab ρ Y 5) g2 6) 6 31 (.slice (some ⟨g2, 0, none⟩) N cap2) V.length (lst V) := (by rw [hV]; exact Lst.ofRow (by simpa using hown2) (fun g' hg' => by simp [Value.ownBlock] at hg'; subst hg'; exact lab_eq)); have l2 : Below base w w2 := hL1.drew.trans (grown_belowL (v := .slice none 0 0) (W := w1.drew) hgrow2 (fun g hg => by cases hg) b1); have q2 := GSt.start hy2 (h1.blk.keep K2 id) h1.rest hrow2 (h1.marks.keep K2 (fun _ _ => id)) (hf0.lab (w := w1) hgrow2.size hlt2 6) l2 hlo (by omega)) | fail))
    all_goals
      have hG := q2
      generalize w2.setCell ⟨Y, 0, none⟩ (.slice (some ⟨g2, 0, none⟩) N cap2) = ws at hG ⊢
      clear q2 hgrow2 hown2 hat2 hlt2 y2 fr2 hy2 hrow2 l2 K2 n1 r1 one b1
      clear h1 hy1 hf0 hL1 c1 y0 fr0 hlY hlS
      have y1 := obj_cell hG.y.blk.1 1 (by omega)
      have s3 := obj_cell hG.s.1 3 (by omega)
      rw [hG.y.rest 1 (by omega) (by omega)] at y1
      rw [hG.rest 3 (by omega) (by omega)] at s3
      have fr1 := free_of_obj hG.y.blk.1 1
      have hG1 := (hG.nilAt 1 (by omega)).drew
      have HG := Lib.hid hG
      clear hG
      go_wp2
      go_region_held3 (fun w' => w'.cell? ⟨Y, 1, none⟩ = some (.slice none 0 0) ∧ w'.cell? ⟨S, 3, none⟩ = some (.slice none 0 0)) (first | exact keep2 hSY ⟨y1, s3⟩ | go_keep) (fail)
      generalize (ws.setCell ⟨Y, 1, none⟩ (.slice none 0 0)).drew = ws1 at hG1 ⊢
      have y4 := obj_cell hG1.y.blk.1 4 (by omega)
      have s7 := obj_cell hG1.s.1 7 (by omega)
      rw [hG1.y.rest 4 (by omega) (by omega)] at y4
      rw [hG1.rest 7 (by omega) (by omega)] at s7
      have fr4 := free_of_obj hG1.y.blk.1 4
      have hG2 := (hG1.nilAt 4 (by omega)).drew
      clear hG1 y1 s3 fr1
      go_wp2
      go_region_held3 (fun w' => w'.cell? ⟨Y, 4, none⟩ = some (.slice none 0 0) ∧ w'.cell? ⟨S, 7, none⟩ = some (.slice none 0 0)) (first | exact keep2 hSY ⟨y4, s7⟩ | go_keep) (fail)
      generalize (ws1.setCell ⟨Y, 4, none⟩ (.slice none 0 0)).drew = ws2 at hG2 ⊢
      have s5 := obj_cell hG2.s.1 5 (by omega)
      have s9 := obj_cell hG2.s.1 9 (by omega)
      rw [hG2.rest 5 (by omega) (by omega)] at s5
      rw [hG2.rest 9 (by omega) (by omega)] at s9
      clear y4 s7 fr4
      have hcm := mark_ints ws2 Y base _ _ V hG2.y hG2.marks
      go_wp2
      repeat (refine wp_loop_rounds 1 ?_; rw [rounds_succ]; go_wp2_with (first | (go_at_call 44; (with_reducible refine hcm.mono ?_); rintro e w5 ⟨rfl, m5, y5, l5, z5⟩; have l05 := hG2.bel.trans l5; have f5 := hG2.free.le (Nat.le_of_eq z5.symm); have b5 := Nat.le_trans hG2.lo (Nat.le_of_lt (lt_of_obj y5.blk.1))) | (go_at_call 45; (with_reducible refine (grown_ints w5 Y base 100 _ _ V y5 m5 (by omega) b5 f5).mono ?_); rintro e w6 ⟨Z, ρ6, fz, Zs, rfl, hZ⟩; have l06 := l05.trans hZ.bel; have hmy := marked_ints w6 Y base 5 6 ρ6 _ V hZ.y 100 hZ.ym (by omega); have hmz := marked_ints w6 Z base 7 8 ρ6 _ Zs hZ.z 140 hZ.zm (by omega)) | (go_at_call 46; first | ((with_reducible refine hmy.mono ?_); rintro e w7 ⟨rfl, rfl⟩) | ((with_reducible refine hmz.mono ?_); rintro e w7 ⟨rfl, rfl⟩))))
      go_ret
      exact ⟨rfl, l06⟩
end Go.Proofs.Ytbgojhjlmlbfpaa
