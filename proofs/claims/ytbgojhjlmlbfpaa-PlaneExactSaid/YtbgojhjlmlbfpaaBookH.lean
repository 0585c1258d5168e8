/- tallylaw1.Book that keeps lists of ints alone: Ints, the walk. -/
import Derived.Test.YtbgojhjlmlbfpaaBookG
namespace Go.Proofs.Ytbgojhjlmlbfpaa
open Go.RowKit

def BFillRel (w : World) (base n : Nat) (v : Value) (m : Nat) (iv : Value) (wr : World) : Prop := ∃ i : Nat, iv = .int .i64 i ∧ i ≤ n ∧ Fill w wr base n v m i
theorem intsMark_int (z : Int) (m : Nat) (w : World) (hz : z = m) (hm : m ≤ 1000000) : Calls Try.prog 84 #[.int .i64 z] w fun e w' => e = .returned (.int .i64 (1000 + (m : Nat))) ∧ w = w' := by
  subst hz; exact intsMark_any m w hm
set_option maxRecDepth 100000 in
set_option maxHeartbeats 1000000 in
theorem ints_any (w : World) (B base turn H n : Nat) (v : Value) (xs : List Value) (h : BookAt w B base turn H) (hl : w.ownsRow base 3 1 v n xs) (hfr : ∀ g, v.ownBlock = some g → H ≤ g) (hn : n ≤ 1000) (ht : turn ≤ 19000) :
    Calls Try.prog 51 #[.pointer (some ⟨B, 0, none⟩), v] w fun e w' => e = .returned (.tuple #[]) ∧ BookAt w' B base (turn + 1) w'.heap.size ∧ Below base w w' := by
  obtain ⟨f, V, M, X, at_, done, used, h⟩ := h
  obtain ⟨T, hT, hT2⟩ : ∃ T : Nat, (turn : Int) + 1 = (T : Int) ∧ T = turn + 1 := ⟨turn + 1, by omega, rfl⟩
  obtain ⟨c, hc, hc2⟩ : ∃ c : Nat, 8000 + 300 * (n : Int) = (c : Int) ∧ c ≤ 1000000 := ⟨8000 + 300 * n, by omega, by omega⟩
  have c36 := book_cell h.bk.blk 36 (by omega)
  rw [h.turn_] at c36
  have fr36 := free_of_obj h.bk.blk 36
  have o36 := OnlyB.book (OnlyB.refl h.bk.blk) (lt_of_obj h.bk.blk) 36 (.int .i64 (T : Nat))
  have hb1 := h.bk.setN 36 (by omega) (.int .i64 (T : Nat))
  have hl1 : (w.setCell ⟨B, 36, none⟩ (.int .i64 (T : Nat))).ownsRow base 3 1 v n xs := ownsRow_keep hl fun g hg => o36.far (fun e => by have := hfr g hg; have := h.hB; omega)
  have hF := Fill.start (m := T) hl1
  obtain ⟨A, cp, rfl⟩ := own_len' hl
  have HT := Lib.hid hT2
  clear hT2 hl hl1
  go_enter Try.func51, Try.ntmps51
  go_wp2_with (go_at_call 84; (with_reducible refine (intsMark_int _ T _ (by omega) (by have := HT.out; omega)).mono ?_); rintro e w9 ⟨rfl, rfl⟩)
  go_loopw [6] (fun iv wr => BFillRel (w.setCell ⟨B, 36, none⟩ (.int .i64 (T : Nat))) base n (.slice A n cp) T iv wr) (fun iv _ => (n - intOf iv).toNat)
  case atStart => exact ⟨0, rfl, by omega, hF⟩
  case round =>
    clear hF
    obtain ⟨i, rfl, hi, hF⟩ := hrel
    by_cases hin : i < n
    · have hrow := hF.row
      rcases hrow with ⟨_, k0, _⟩ | ⟨g, cap, cur, k1, k2, k3, k4, k5, k6, k7, k8⟩
      · omega
      injection k1 with k1 _ _
      subst k1
      have hobj := k4.at_ k3
      have hfree := free_of_obj hobj i
      have hcell : wr.cell? ⟨g, i, none⟩ = some (cur[i]'(by omega)) := by rw [cell_of_obj hobj i]; exact Array.getElem?_eq_getElem _
      have hput := Lib.hid (hF.put hin)
      clear k4 hobj hF
      go_wp2
      exact ⟨⟨i + 1, by go_num, by omega, hput.out⟩, by simp [intOf]; omega⟩
    · obtain rfl : i = n := by omega
      have hA := hb1.adopt (m := T) h.hB (by rw [upd_ne (by omega)]; exact h.h9) (by rw [upd_ne (by omega)]; exact h.h10) h.hX hfr (fun k _ hk => hF.far k hk) hF.done (by omega) (by have := HT.out; omega)
      have hbel1 : Below base w wr := (o36.below h.lo).trans hF.below
      have hu : upd f 36 (.int .i64 (T : Nat)) 38 = .int .i64 used := by rw [upd_ne (by omega)]; exact h.used_
      have hcost := h.cost
      have hat2 := h.at2
      obtain ⟨L2, hL2⟩ : ∃ L2, V.length = L2 := ⟨_, rfl⟩
      have hLE : L2 + 1 ≤ 1000000 := by rw [← hL2]; omega
      have hLF : M.length = L2 := by rw [← hL2]; exact h.len.symm
      have HL2 := Lib.hid hL2
      have HLF := Lib.hid hLF
      have HC := Lib.hid hcost
      have HA2 := Lib.hid hat2
      clear hL2 hLF hF hcost hat2
      obtain ⟨i0, hii, hz0, hz1, hz2⟩ := info_parts bk_info_int
      obtain ⟨j0, hjj, jz0, jz1, jz2⟩ := info_parts bk_info_ints
      by_cases hroom : used + c ≤ 16777216
      · go_wp2_with (first | (go_at_call 85; (with_reducible refine (tight_room _ B _ used c hA.blk hu hroom).mono ?_); rintro e w2 ⟨rfl, o2⟩; have h2 := hA.only o2 (upd_ne (by omega)) (upd_ne (by omega)) (hA.rest.upd 38 (by omega) _); have t9 := book_cell h2.blk 9 (by omega); rw [upd_ne (by omega), upd_ne (by omega)] at t9; have hb7 := h2.below (w1 := w2.alloc (.cells #[.slice A i cp] 31)) ((Below.refl _ _).alloc (Nat.le_refl _) _); have hn7 := World.news_of_block (heap_alloc_new w2 (.cells #[.slice A i cp] 31)); have hiv7 := hb7.iv; rw [HL2.out, upd_ne (by omega), upd_ne (by omega)] at hiv7; have hbs7 := Nat.le_trans h.lo (Nat.le_of_lt (lt_of_obj hb7.blk))) | (at_builtin; refine wpList_append_lies _ rfl (.tmp 40) (.tmp 42) 24 rfl base 31 j0 (.slice none 0 0) 1 24 Try.underlying24 hjj jz0 jz1 jz2 rfl (by decide) _ L2 V rfl hiv7 ⟨w2.heap.size, 0, none⟩ 1 1 [.slice A i cp] rfl rfl hn7 (by simp [Value.oneCell']) (by omega) (by unfold maxLen; omega) (by omega) hbs7 _ rfl ?_; intro g7 cap7 w7 hown7 hgrow7 hat7 hlt7; have hg7 : (w2.alloc (.cells #[.slice A i cp] 31)).grownBy w7 ((upd (upd f 36 (.int .i64 (T : Nat))) 38 (.int .i64 ((used + c : Nat) : Int))) 9).ownBlock := (by rw [upd_ne (by omega), upd_ne (by omega)]; exact hgrow7); have ha7 : ((upd (upd f 36 (.int .i64 (T : Nat))) 38 (.int .i64 ((used + c : Nat) : Int))) 9).ownBlock = some g7 ∨ g7 = (w2.alloc (.cells #[.slice A i cp] 31)).heap.size := (by rw [upd_ne (by omega), upd_ne (by omega)]; exact hat7); have hblk7 := hb7.blkV hg7; have hfr7 := free_of_obj hblk7 9; have y9 := book_cell hblk7 9 (by omega); have t10b := book_cell hblk7 10 (by omega); rw [upd_ne (by omega), upd_ne (by omega)] at t10b; have hb8 := hb7.pushV HL2.out hown7 hg7 ha7 (fun m' hm' => by rw [List.getElem?_eq_none (Nat.le_of_eq HLF.out)] at hm'; cases hm') hLE; have hb9 := hb8.below (w1 := (w7.setCell ⟨B, 9, none⟩ (.slice (some ⟨g7, 0, none⟩) (L2 + 1) cap7)).alloc (.cells #[.int .i64 (T : Nat)] 3)) ((Below.refl _ _).alloc (Nat.le_refl _) _); have hov9 := hb9.ov; rw [upd_ne (by omega), upd_ne (by omega), upd_ne (by omega), HLF.out] at hov9; have hn9 := World.news_of_block (heap_alloc_new (w7.setCell ⟨B, 9, none⟩ (.slice (some ⟨g7, 0, none⟩) (L2 + 1) cap7)) (.cells #[.int .i64 (T : Nat)] 3)); rw [(OnlyB.book (OnlyB.refl hblk7) (lt_of_obj hblk7) 9 (.slice (some ⟨g7, 0, none⟩) (L2 + 1) cap7)).size] at hn9; have hbs9 := Nat.le_trans h.lo (Nat.le_of_lt (lt_of_obj hb9.blk))) | (at_builtin; refine wpList_append_lies _ rfl (.tmp 50) (.tmp 52) 31 rfl base 3 i0 (.int .i64 0) 1 8 Try.underlying31 hii hz0 hz1 hz2 rfl (by decide) _ L2 _ rfl hov9 ⟨w7.heap.size, 0, none⟩ 1 1 [.int .i64 (T : Nat)] rfl rfl hn9 (by simp [Value.oneCell']) (by omega) (by unfold maxLen; omega) (by omega) hbs9 _ rfl ?_; intro g10 cap10 w10 hown10 hgrow10 hat10 hlt10; have hg10 : ((w7.setCell ⟨B, 9, none⟩ (.slice (some ⟨g7, 0, none⟩) (L2 + 1) cap7)).alloc (.cells #[.int .i64 (T : Nat)] 3)).grownBy w10 (upd (upd (upd f 36 (.int .i64 (T : Nat))) 38 (.int .i64 ((used + c : Nat) : Int))) 9 (.slice (some ⟨g7, 0, none⟩) (L2 + 1) cap7) 10).ownBlock := (by rw [upd_ne (by omega), upd_ne (by omega), upd_ne (by omega)]; exact hgrow10); have ha10 : (upd (upd (upd f 36 (.int .i64 (T : Nat))) 38 (.int .i64 ((used + c : Nat) : Int))) 9 (.slice (some ⟨g7, 0, none⟩) (L2 + 1) cap7) 10).ownBlock = some g10 ∨ g10 = ((w7.setCell ⟨B, 9, none⟩ (.slice (some ⟨g7, 0, none⟩) (L2 + 1) cap7)).alloc (.cells #[.int .i64 (T : Nat)] 3)).heap.size := (by rw [upd_ne (by omega), upd_ne (by omega), upd_ne (by omega)]; exact hat10); have hblk10 := hb9.blkM hg10; have hfr10 := free_of_obj hblk10 10; have y10 := book_cell hblk10 10 (by omega)))
        go_end0
        have hb11 := hb9.pushM (m := T) HLF.out hown10 hg10 ha10 (fun v' hv' => by
          rw [List.getElem?_append_right (Nat.le_of_eq HL2.out), HL2.out] at hv'
          simp at hv'
          subst hv'
          exact ⟨_, List.mem_cons_self⟩) hLE
        have l2 := hbel1.trans (o2.below h.lo)
        have l7 : Below base w w7 := (l2.alloc (Nat.le_trans h.lo (Nat.le_of_lt (lt_of_obj h2.blk))) _).trans (grown_below hgrow7 (fun g hg => (ownsRow_lt hiv7 hg).1) hbs7)
        have l8 := l7.trans ((OnlyB.book (OnlyB.refl hblk7) (lt_of_obj hblk7) 9 (.slice (some ⟨g7, 0, none⟩) (L2 + 1) cap7)).below h.lo)
        have l9 := l8.alloc (Nat.le_trans h.lo (Nat.le_of_lt (lt_of_obj hb8.blk))) (.cells #[.int .i64 (T : Nat)] 3)
        have l10 := l9.trans (grown_below hgrow10 (fun g hg => (ownsRow_lt hov9 hg).1) hbs9)
        have l11 := l10.trans ((OnlyB.book (OnlyB.refl hblk10) (lt_of_obj hblk10) 10 (.slice (some ⟨g10, 0, none⟩) (L2 + 1) cap10)).below h.lo)
        have hcost := HC.out
        have hat2 := HA2.out
        refine ⟨rfl, ⟨_, _, _, _, at_, done, used + c, ⟨hb11, by simp [h.len], ?_, by simp; omega, by simp; omega, ?_, ?_, ?_, ?_, hroom, h.lo, lt_of_obj hb11.blk, fun _ hg => (ownsRow_lt hb11.iv hg).2, fun _ hg => (ownsRow_lt hb11.ov hg).2, fun p hp _ hg => ((hb11.one p hp).block hg).2⟩⟩, l11⟩
        · rw [upd_ne (by omega), upd_ne (by omega), upd_ne (by omega), upd_ne (by omega)]; exact h.at1
        · intro k v' hk hv'
          by_cases hkV : k < V.length
          · rw [List.getElem?_append_left hkV] at hv'
            exact h.small k v' hk hv'
          · rw [List.getElem?_append_right (by omega)] at hv'
            have e : k = V.length := by
              rcases Nat.lt_or_ge (k - V.length) 1 with h' | h'
              · omega
              · rw [List.getElem?_eq_none (by simpa using h')] at hv'; cases hv'
            subst e
            simp at hv'
            subst hv'
            exact hn
        · rw [upd_ne (by omega), upd_ne (by omega), upd_ne (by omega), upd_eq, HT.out]
        · rw [upd_ne (by omega), upd_ne (by omega), upd_ne (by omega), upd_ne (by omega)]; exact h.done_
        · rw [upd_ne (by omega), upd_ne (by omega), upd_eq]
      · go_wp2_with (go_at_call 85; (with_reducible refine (tight_full _ B _ used c hA.blk hu h.used2 (by omega) (by omega)).mono ?_); rintro e w2 ⟨rfl, rfl⟩)
        refine bodyPost_ret (results_none rfl _ _ _) rfl ?_
        have hcost := HC.out
        have hat2 := HA2.out
        refine ⟨rfl, ⟨_, V, M, _, at_, done, used, ⟨hA, h.len, ?_, hat2, by omega, h.small, ?_, ?_, hu, h.used2, h.lo, lt_of_obj hA.blk, fun _ hg => (ownsRow_lt hA.iv hg).2, fun _ hg => (ownsRow_lt hA.ov hg).2, fun p hp _ hg => ((hA.one p hp).block hg).2⟩⟩, hbel1⟩
        · rw [upd_ne (by omega)]; exact h.at1
        · rw [upd_eq, HT.out]
        · rw [upd_ne (by omega)]; exact h.done_
end Go.Proofs.Ytbgojhjlmlbfpaa
