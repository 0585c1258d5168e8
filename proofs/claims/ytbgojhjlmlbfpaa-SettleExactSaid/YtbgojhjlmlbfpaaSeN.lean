/- tallylaw13's wakes. -/
import Derived.Test.YtbgojhjlmlbfpaaSeM
import Derived.Test.YtbgojhjlmlbfpaaSeE
import Derived.Test.YtbgojhjlmlbfpaaSeJ
namespace Go.Proofs.Ytbgojhjlmlbfpaa
open Go.RowKit

theorem One.msgCell {w : World} {base n g cap : Nat} {ms : List SMsg} (h : One w base 102 22 (.slice (some ⟨g, 0, none⟩) n cap) ms.length (cM ms)) {i : Nat} {m : SMsg} (hm : ms[i]? = some m) (j : Nat) (hj : j < 22) : w.cell? ⟨g, i * 22 + j, none⟩ = some ((m.cells[j]?).getD (.int .i64 0)) := by
  have hi := (List.getElem?_eq_some_iff.1 hm).1
  rw [h.cell rfl (k := i * 22 + j) (by omega), cM_at ms i j hj hm]
set_option maxRecDepth 100000 in
set_option maxHeartbeats 2000000 in
theorem wakes13 (w : World) : Calls Try.prog 28 #[] w fun e w' => e = .returned (.bool true) ∧ Below w.heap.size w w' := by
  have HC := config_any 2 1 1 3 w
  obtain ⟨en, hen⟩ : ∃ en : Ent, en = ⟨1, 4, ⟨#[97, 110, 110]⟩, 9⟩ := ⟨_, rfl⟩
  have hf0 : Free w (fun _ => 0) := fun _ _ => rfl
  go_enter Try.func28, Try.ntmps28
  go_wp2_with fail
  refine HC.mono ?_
  rintro e w1 ⟨n, N, cp, cap, rfl, hc, hN, hb1⟩
  obtain rfl : N = 2 := by omega
  have HN := settle_new w1 w.heap.size 0 (fun _ => 0) 1 0 1 16 64 100 n 2 cp cap none 0 0 hc.hN hc.hcap hc.hn hc.hcp (fun _ _ => rfl) hb1.size
  unfold confV
  go_wp2_with fail
  refine HN.mono ?_
  rintro e w2 ⟨S, W, cq, ρ2, ws, rfl, s2, hfr, K2, F2, L2⟩
  go_wp2_with fail
  have hb3 : Below w2.heap.size w2 (w2.alloc (.cells #[.int .i64 1, .int .u64 4, .string ⟨#[97, 110, 110]⟩, .int .u64 9] 104)) := (Below.refl _ _).alloc (Nat.le_refl _) _
  have ho3 := heap_alloc_new w2 (.cells #[.int .i64 1, .int .u64 4, .string ⟨#[97, 110, 110]⟩, .int .u64 9] 104)
  have hw2 : w.heap.size ≤ w2.heap.size := Nat.le_trans hb1.size L2.size
  have K3 := Keeps.below (fun _ => False) ρ2 hb3
  have s3 := s2.keep K3 (fun _ _ _ _ => id)
  have F3 := F2.le K3.1
  have L3 := (hb1.trans L2).trans (hb3.mono hw2)
  generalize hw3 : w2.alloc (.cells #[.int .i64 1, .int .u64 4, .string ⟨#[97, 110, 110]⟩, .int .u64 9] 104) = w3 at hb3 ho3 K3 s3 F3 L3 ⊢
  have hQ3 : HasQ w3 (.slice (some ⟨w2.heap.size, 0, none⟩) 1 1) [en] := by
    refine ⟨_, 1, rfl, fun h => (by cases h), fun k e hk => ?_⟩
    have hk0 : k = 0 := by
      rcases Nat.lt_or_ge k 1 with h | h
      · omega
      · rw [List.getElem?_eq_none (by simpa using h)] at hk; cases hk
    subst hk0
    simp at hk
    subst hk hen
    refine ⟨_, 0, rfl, ?_, ?_, ?_, ?_⟩
    · exact cell_of_obj ho3 0
    · exact cell_of_obj ho3 1
    · exact cell_of_obj ho3 2
    · exact cell_of_obj ho3 3
  refine (settle_look w3 w.heap.size 0 S 2 W cq ρ2 1 0 0 ws _ [] s3 F3 (some ⟨w2.heap.size, 0, none⟩) 1 1 [en] hQ3 (by simp) none none none none 0 0 0 0 0 0 0 0).mono ?_
  rintro e w4 ⟨rfl, ρ4, qv4, s4, K4, F4, L4⟩
  have hT := settle_tick w4 w.heap.size 0 S 2 W cq ρ4 1 0 _ qv4 [en] s4 F4
  have hy : wsL 0 [en] ws 2 1 = { ws 1 with l := 0, g := 1, e := en, there := true } := by
    unfold wsL
    rw [if_pos ⟨by omega, by decide⟩]
    unfold Way.look
    have h1 : firstE [en] ((1 : Nat) : Int) = some en := by subst hen; rfl
    rw [h1]
    have h2 : (ws 1).there = false := (hfr 1 (by omega)).there
    simp only [h2]
    rw [if_neg (by simp)]
  have hfir : (wsL 0 [en] ws 2 1).fires = true := by rw [hy]; rfl
  have hm : msT 1 0 (wsL 0 [en] ws 2) 2 = [msgOf 1 0 1 (wsL 0 [en] ws 2 1)] := by
    simp only [msT]
    rw [if_pos ⟨by decide, hfir⟩, if_neg (by simp)]
    rfl
  rw [hm] at hT
  have hmc : msgOf 1 0 1 (wsL 0 [en] ws 2 1) = ⟨1, (ws 1).L.getD (ws 1).turn 0, 0, 1, 4, ⟨#[97, 110, 110]⟩, 9⟩ := by
    rw [hy]
    subst hen
    rfl
  have HT := Lib.hid hT
  have ha : ([en].any (wantsB ((1 : Nat) : Int) 4)) = true := by subst hen; rfl
  have HWf : ∀ (w5 : World) (ρ5 : Nat → Nat) (qv4 : Value), SetAt w5 w.heap.size ρ5 0 S 1 0 2 (wsT 0 (wsL 0 [en] ws 2) 2) (.slice (some ⟨W, 0, none⟩) 2 cq) qv4 [en] → Calls Try.prog 34 #[.pointer (some ⟨S, 0, none⟩), .int .i64 1, .int .u64 4] w5 fun e w' => e = .returned (.bool true) ∧ Below w5.heap.size w5 w' := fun w5 ρ5 qv4 s5 => by
    have := settle_wants w5 w.heap.size 0 S 2 W cq 1 4 ρ5 1 0 _ qv4 [en] s5 (by omega) (by decide) (by simp)
    rw [ha] at this
    exact this
  have hw3s : w.heap.size ≤ w3.heap.size := L3.size
  have L4' := L4
  clear hT
  go_wp2_with (first | (go_at_call 29; (with_reducible refine (HT.out).mono ?_); rintro e w5 ⟨v5, ρ5, rfl, s5, o5, r5, K5, F5, L5⟩; obtain ⟨g5, cp5, rfl⟩ := OneN.form o5 (by simp); have m0 := o5.msgCell (i := 0) rfl 0 (by omega); have m1 := o5.msgCell (i := 0) rfl 1 (by omega); have m11 := o5.msgCell (i := 0) rfl 11 (by omega); have m12 := o5.msgCell (i := 0) rfl 12 (by omega); rw [hmc] at m0 m1 m11 m12; have n0 : w5.cell? ⟨g5, 0, none⟩ = some (.int .i64 8) := m0; have n1 : w5.cell? ⟨g5, 1, none⟩ = some (.int .i64 1) := m1; have n11 : w5.cell? ⟨g5, 11, none⟩ = some (.int .i64 1) := m11; have n12 : w5.cell? ⟨g5, 12, none⟩ = some (.int .u64 4) := m12; have hW := HWf w5 ρ5 qv4 s5; have HL5 := Lib.hid L5; clear m0 m1 m11 m12 s5 o5 r5 K5 F5 L5) | (go_at_call 34; (with_reducible refine hW.mono ?_); rintro e w6 ⟨rfl, hb6⟩))
  go_ret
  exact ⟨rfl, ((L3.trans L4').trans HL5.out |>.mono (Nat.le_refl _)).trans (hb6.mono (Nat.le_trans (Nat.le_trans hw3s L4'.size) HL5.out.size))⟩
end Go.Proofs.Ytbgojhjlmlbfpaa
