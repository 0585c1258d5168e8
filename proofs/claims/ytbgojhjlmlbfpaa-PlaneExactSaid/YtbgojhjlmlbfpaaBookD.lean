/- tallylaw1.Book that keeps lists of ints alone: growInts, grow, Look, Ints. -/
import Derived.Test.YtbgojhjlmlbfpaaBookC
namespace Go.Proofs.Ytbgojhjlmlbfpaa
open Go.RowKit

theorem bk_info_int : (Try.prog.info? 3).map (fun i => (i.zero, i.size, i.bytes)) = some (some (.int .i64 0), 1, 8) := by kernel_rfl
theorem bk_info_ints : (Try.prog.info? 31).map (fun i => (i.zero, i.size, i.bytes)) = some (some (.slice none 0 0), 1, 24) := by kernel_rfl
theorem grown_below {W w1 : World} {base : Nat} {v : Value} (hg : W.grownBy w1 v.ownBlock) (hv : ∀ g, v.ownBlock = some g → base ≤ g) (hbase : base ≤ W.heap.size) : Below base W w1 :=
  ⟨hg.os, hg.tape, hg.output, hg.size, fun k hk => hg.block k (by omega) (fun e => by have := hv k e.symm; omega)⟩
/-- What growInts leaves. -/
structure Grown (w wr : World) (B base : Nat) (f f' : Nat → Value) (V : List Value) (M : List Nat) (E : List Value) (F : List Nat) (X : List (Value × Nat × Nat)) (b : Nat) : Prop where
  bk : BookI wr B base f' (V ++ E) (M ++ F) X
  len : E.length = F.length
  bound : E.length ≤ b
  same : ∀ k, k ≠ 9 → k ≠ 10 → k ≠ 11 → f' k = f k
  bel : Below base w wr
def GRel (w : World) (B base : Nat) (f : Nat → Value) (V : List Value) (M : List Nat) (at_ : Nat) (kv : Value) (wr : World) : Prop :=
  ∃ (k : Nat) (f' : Nat → Value) (E : List Value) (F : List Nat) (X : List (Value × Nat × Nat)), kv = .int .i64 k ∧ at_ ≤ k ∧ k ≤ V.length ∧ Grown w wr B base f f' V M E F X (32 * (k - at_))
def GRel2 (w : World) (B base : Nat) (f : Nat → Value) (V : List Value) (M : List Nat) (b n0 m : Nat) (vv iv : Value) (wr : World) : Prop :=
  ∃ (i : Nat) (f' : Nat → Value) (E : List Value) (F : List Nat) (X : List (Value × Nat × Nat)), iv = .int .i64 i ∧ 1 ≤ i ∧ i ≤ 33 ∧ (vv, n0 + (i - 1), m) ∈ X ∧ Grown w wr B base f f' V M E F X (b + (i - 1))
def vlen : Value → Nat
  | .slice _ n _ => n
  | _ => 0
set_option maxRecDepth 100000 in
set_option maxHeartbeats 2000000 in
theorem growInts_any (w : World) (B base at_ : Nat) (f : Nat → Value) (V : List Value) (M : List Nat) (X : List (Value × Nat × Nat)) (h : BookI w B base f V M X) (hVM : V.length = M.length) (hat : f 11 = .int .i64 at_) (hat2 : at_ ≤ V.length)
    (hV : V.length + 32 * (V.length - at_) ≤ 900000) (hsm : ∀ (k : Nat) (v : Value), at_ ≤ k → V[k]? = some v → vlen v ≤ 900000) (hBb : base ≤ B) :
    Calls Try.prog 93 #[.pointer (some ⟨B, 0, none⟩)] w fun e w' => e = .returned (.tuple #[]) ∧
      ∃ f' E F X', Grown w w' B base f f' V M E F X' (32 * (V.length - at_)) ∧ f' 11 = .int .i64 ((V ++ E).length : Nat) := by
  obtain ⟨i0, hii, hz0, hz1, hz2⟩ := info_parts bk_info_int
  obtain ⟨j0, hjj, jz0, jz1, jz2⟩ := info_parts bk_info_ints
  have c9 := book_cell h.blk 9 (by omega)
  have c11 := book_cell h.blk 11 (by omega)
  rw [hat] at c11
  obtain ⟨A9, cap9, e9⟩ := own_len' h.iv
  rw [e9] at c9
  obtain ⟨N, hN⟩ : ∃ N, V.length = N := ⟨_, rfl⟩
  rw [hN] at c9
  go_enter Try.func93, Try.ntmps93
  go_wp2
  go_loopw [3] (fun kv wr => GRel w B base f V M at_ kv wr) (fun kv _ => (N - intOf kv).toNat)
  case atStart => exact ⟨at_, f, [], [], X, rfl, Nat.le_refl _, hat2, ⟨by simpa using h, rfl, by simp, fun _ _ _ _ => rfl, Below.refl _ _⟩⟩
  case round =>
    obtain ⟨k, f', E, F, X', rfl, hk1, hk2, hG⟩ := hrel
    clear c9 c11
    have d9 := book_cell hG.bk.blk 9 (by omega)
    have d10 := book_cell hG.bk.blk 10 (by omega)
    by_cases hkN : k < N
    · have hiv := hG.bk.iv
      have hov := hG.bk.ov
      obtain ⟨g9, cp9, k9, _, _⟩ := hiv.form (by simp; omega)
      obtain ⟨g10, cp10, k10, _, _⟩ := hov.form (by simp; omega)
      obtain ⟨v, hv⟩ : ∃ p, V[k]? = some p := ⟨V[k]'(by omega), List.getElem?_eq_getElem _⟩
      obtain ⟨m, hm⟩ : ∃ p, M[k]? = some p := ⟨M[k]'(by omega), List.getElem?_eq_getElem _⟩
      have hv' : (V ++ E)[k]? = some v := by rw [List.getElem?_append_left (by omega)]; exact hv
      have hm' : (M ++ F)[k]? = some m := by rw [List.getElem?_append_left (by omega)]; exact hm
      obtain ⟨n0, hp⟩ := hG.bk.pairs k v m hv' hm'
      rw [k9] at d9 hiv
      rw [k10] at d10 hov
      have x9 := World.ownsRow.cellAt hiv k (by simp; omega)
      have x10 := World.ownsRow.cellAt hov k (by simp; omega)
      rw [hv'] at x9
      rw [List.getElem?_map, hm'] at x10
      simp only [Option.map_some] at x10
      have hn0 : n0 ≤ 900000 := by
        have h1 := hsm k v hk1 hv
        obtain ⟨A, cp, hA⟩ := one_len (hG.bk.one _ hp)
        simp only at hA
        rw [hA] at h1
        exact h1
      obtain ⟨L, hL⟩ : ∃ L, (V ++ E).length = L := ⟨_, rfl⟩
      have hL2 : (M ++ F).length = L := by rw [← hL]; have := hG.len; simp; omega
      rw [hL] at d9
      rw [hL2] at d10
      have q1 : k < L := by rw [← hL]; simp; omega
      clear hiv hov
      go_wp2
      go_loopw [4, 6] (fun vv iv wr => GRel2 w B base f V M (32 * (k - at_)) n0 m vv iv wr) (fun _ iv _ => (33 - intOf iv).toNat)
      case atStart => exact ⟨1, f', E, F, X', rfl, by omega, by omega, hp, hG⟩
      case round =>
        clear hp hG x9 x10 d9 d10
        obtain ⟨i, f2, E2, F2, X2, rfl, hi1, hi2, hp, hG⟩ := hrel
        by_cases hi : i ≤ 32
        · obtain ⟨wo, rfl⟩ : ∃ wo : World, wo = wr := ⟨_, rfl⟩
          have hv1 := hG.bk.one _ hp
          have hmm := (hG.bk.small.2.2 _ hp).2
          simp only at hv1 hmm
          go_wp2_with fail
          refine (intsMark_any m _ hmm).mono ?_
          rintro e w9 ⟨rfl, rfl⟩
          have hbx : Below wo.heap.size wo (wo.alloc (.cells #[.int .i64 (1000 + (m : Nat))] 3)) := (Below.refl _ _).alloc (Nat.le_refl _) _
          have hbk1 := hG.bk.below hbx
          have hv2 := hv1.below hbx
          have hnews : ∀ (j : Nat) (u : Value), [Value.int .i64 (1000 + (m : Nat))][j]? = some u → (wo.alloc (.cells #[.int .i64 (1000 + (m : Nat))] 3)).cell? ((⟨wo.heap.size, 0, none⟩ : Addr).add j) = some u :=
            World.news_of_block (heap_alloc_new wo (.cells #[.int .i64 (1000 + (m : Nat))] 3))
          have hbase : base ≤ (wo.alloc (.cells #[.int .i64 (1000 + (m : Nat))] 3)).heap.size := by
            have := lt_of_obj hG.bk.blk
            simp
            omega
          have hlen1 : n0 + (i - 1) + 1 ≤ 1000000 := by omega
          have HN := Lib.hid hnews
          have HV := Lib.hid hv2
          have hv1b := fun g hg => hv1.block (g := g) hg
          clear hnews hv2 hv1
          have hi0 : i < 4 ∨ (¬ i < 4 ∧ ((i : Int) % 16 == 0) = true) ∨ (¬ i < 4 ∧ ((i : Int) % 16 == 0) = false) := by
            by_cases h4 : i < 4
            · exact .inl h4
            · by_cases h16 : (i : Int) % 16 = 0
              · exact .inr (.inl ⟨h4, beq_iff_eq.2 h16⟩)
              · exact .inr (.inr ⟨h4, beq_eq_false_iff_ne.2 h16⟩)
          obtain ⟨L2, hL2⟩ : ∃ L2, (V ++ E2).length = L2 := ⟨_, rfl⟩
          have hLE : L2 + 1 ≤ 1000000 := by rw [← hL2]; have := hG.bound; simp; omega
          have hLF : (M ++ F2).length = L2 := by rw [← hL2]; have := hG.len; simp; omega
          have HL2 := Lib.hid hL2
          have HLF := Lib.hid hLF
          clear hL2 hLF
          have hvb : ∀ g, u4.ownBlock = some g → base ≤ g := fun g hg => (hv1b g hg).1
          have hbel1 : Below base w (wo.alloc (.cells #[.int .i64 (1000 + (m : Nat))] 3)) := hG.bel.alloc (by have := lt_of_obj hG.bk.blk; omega) _
          rcases hi0 with hi0 | ⟨hi0, hi16⟩ | ⟨hi0, hi16⟩
          rotate_left 2
          · go_wp2_with (at_builtin; refine wpList_append_marked rfl (.tmp 39) (.tmp 42) 31 rfl base 3 i0 (.int .i64 0) 1 8 Try.underlying31 hii hz0 hz1 hz2 rfl (by decide) _ (n0 + (i - 1)) (fun _ => .int .i64 (1000 + (m : Nat))) rfl HV.out ⟨wo.heap.size, 0, none⟩ 1 1 [.int .i64 (1000 + (m : Nat))] rfl rfl (by intro k hk; obtain rfl : k = 0 := (by omega); rfl) HN.out (by simp [Value.oneCell']) (by omega) (by unfold maxLen; omega) (by omega) hbase ?_; intro g cap w6 ho6 hgrow hat6 hkeep; have hb6 := hbk1.grow hp ho6 hgrow hat6 hkeep hlen1; have hl6 := Below.trans hbel1 (grown_below hgrow hvb hbase); have t9 := book_cell hb6.blk 9 (by omega); have hb7 := hb6.below (w1 := w6.alloc (.cells #[.slice (some ⟨g, 0, none⟩) (n0 + (i - 1) + 1) cap] 31)) ((Below.refl _ _).alloc (Nat.le_refl _) _); have hn7 := World.news_of_block (heap_alloc_new w6 (.cells #[.slice (some ⟨g, 0, none⟩) (n0 + (i - 1) + 1) cap] 31)); have hiv7 := hb7.iv; rw [HL2.out] at hiv7; have hbs7 := Nat.le_trans hBb (Nat.le_of_lt (lt_of_obj hb7.blk)); have hbx6 := Nat.le_trans hBb (Nat.le_of_lt (lt_of_obj hb6.blk)))
            refine ⟨⟨i + 1, f2, E2, F2, _, by go_num, by omega, by omega, ?_, ⟨hb6, hG.len, by have := hG.bound; omega, hG.same, hl6⟩⟩, by simp [intOf]; omega⟩
            rw [show n0 + (i + 1 - 1) = n0 + (i - 1) + 1 by omega]
            exact List.mem_cons_self
          · go_wp2_with (first | (at_builtin; refine wpList_append_marked rfl (.tmp 39) (.tmp 42) 31 rfl base 3 i0 (.int .i64 0) 1 8 Try.underlying31 hii hz0 hz1 hz2 rfl (by decide) _ (n0 + (i - 1)) (fun _ => .int .i64 (1000 + (m : Nat))) rfl HV.out ⟨wo.heap.size, 0, none⟩ 1 1 [.int .i64 (1000 + (m : Nat))] rfl rfl (by intro k hk; obtain rfl : k = 0 := (by omega); rfl) HN.out (by simp [Value.oneCell']) (by omega) (by unfold maxLen; omega) (by omega) hbase ?_; intro g cap w6 ho6 hgrow hat6 hkeep; have hb6 := hbk1.grow hp ho6 hgrow hat6 hkeep hlen1; have hl6 := Below.trans hbel1 (grown_below hgrow hvb hbase); have t9 := book_cell hb6.blk 9 (by omega); have hb7 := hb6.below (w1 := w6.alloc (.cells #[.slice (some ⟨g, 0, none⟩) (n0 + (i - 1) + 1) cap] 31)) ((Below.refl _ _).alloc (Nat.le_refl _) _); have hn7 := World.news_of_block (heap_alloc_new w6 (.cells #[.slice (some ⟨g, 0, none⟩) (n0 + (i - 1) + 1) cap] 31)); have hiv7 := hb7.iv; rw [HL2.out] at hiv7; have hbs7 := Nat.le_trans hBb (Nat.le_of_lt (lt_of_obj hb7.blk)); have hbx6 := Nat.le_trans hBb (Nat.le_of_lt (lt_of_obj hb6.blk))) | (at_builtin; refine wpList_append_lies _ rfl (.tmp 55) (.tmp 57) 24 rfl base 31 j0 (.slice none 0 0) 1 24 Try.underlying24 hjj jz0 jz1 jz2 rfl (by decide) _ L2 (V ++ E2) rfl hiv7 ⟨w6.heap.size, 0, none⟩ 1 1 [.slice (some ⟨g, 0, none⟩) (n0 + (i - 1) + 1) cap] rfl rfl hn7 (by simp [Value.oneCell']) (by omega) (by unfold maxLen; omega) (by omega) hbs7 _ rfl ?_; intro g7 cap7 w7 hown7 hgrow7 hat7 hlt7; have hblk7 := hb7.blkV hgrow7; have hfr7 := free_of_obj hblk7 9; have y9 := book_cell hblk7 9 (by omega); have t10b := book_cell hblk7 10 (by omega); have hb8 := hb7.pushV HL2.out hown7 hgrow7 hat7 (fun m' hm' => by rw [List.getElem?_eq_none (Nat.le_of_eq HLF.out)] at hm'; cases hm') hLE; have t10 := book_cell hb8.blk 10 (by omega); rw [upd_ne (by omega)] at t10; have hb9 := hb8.below (w1 := (w7.setCell ⟨B, 9, none⟩ (.slice (some ⟨g7, 0, none⟩) (L2 + 1) cap7)).alloc (.cells #[.int .i64 (m : Nat)] 3)) ((Below.refl _ _).alloc (Nat.le_refl _) _); have hov9 := hb9.ov; rw [upd_ne (by omega), HLF.out] at hov9; have hn9 := World.news_of_block (heap_alloc_new (w7.setCell ⟨B, 9, none⟩ (.slice (some ⟨g7, 0, none⟩) (L2 + 1) cap7)) (.cells #[.int .i64 (m : Nat)] 3)); rw [(OnlyB.book (OnlyB.refl hblk7) (lt_of_obj hblk7) 9 (.slice (some ⟨g7, 0, none⟩) (L2 + 1) cap7)).size] at hn9; have hbs9 := Nat.le_trans hBb (Nat.le_of_lt (lt_of_obj hb9.blk))) | (at_builtin; refine wpList_append_lies _ rfl (.tmp 65) (.tmp 67) 31 rfl base 3 i0 (.int .i64 0) 1 8 Try.underlying31 hii hz0 hz1 hz2 rfl (by decide) _ L2 _ rfl hov9 ⟨w7.heap.size, 0, none⟩ 1 1 [.int .i64 (m : Nat)] rfl rfl hn9 (by simp [Value.oneCell']) (by omega) (by unfold maxLen; omega) (by omega) hbs9 _ rfl ?_; intro g10 cap10 w10 hown10 hgrow10 hat10 hlt10; have hblk10 := hb9.blkM (by rw [upd_ne (by omega)]; exact hgrow10); have hfr10 := free_of_obj hblk10 10; have y10 := book_cell hblk10 10 (by omega)))
            have hat10' : (upd f2 9 (.slice (some ⟨g7, 0, none⟩) (L2 + 1) cap7) 10).ownBlock = some g10 ∨ g10 = ((w7.setCell ⟨B, 9, none⟩ (.slice (some ⟨g7, 0, none⟩) (L2 + 1) cap7)).alloc (.cells #[.int .i64 (m : Nat)] 3)).heap.size := by
              rw [upd_ne (by omega)]; exact hat10
            have hb11 := hb9.pushM (m := m) HLF.out hown10 (by rw [upd_ne (by omega)]; exact hgrow10) hat10' (fun v' hv' => by
              rw [List.getElem?_append_right (by rw [HL2.out]; exact Nat.le_refl _), HL2.out] at hv'
              simp at hv'
              subst hv'
              exact ⟨_, List.mem_cons_self⟩) hLE
            have l7 : Below base w w7 := (hl6.alloc hbx6 _).trans (grown_below hgrow7 (fun g hg => (ownsRow_lt hb7.iv hg).1) hbs7)
            have l8 := l7.trans ((OnlyB.book (OnlyB.refl hblk7) (lt_of_obj hblk7) 9 (.slice (some ⟨g7, 0, none⟩) (L2 + 1) cap7)).below hBb)
            have l9 := l8.alloc (Nat.le_trans hBb (Nat.le_of_lt (lt_of_obj hb8.blk))) (.cells #[.int .i64 (m : Nat)] 3)
            have l10 := l9.trans (grown_below hgrow10 (fun g hg => (ownsRow_lt hov9 hg).1) hbs9)
            have l11 := l10.trans ((OnlyB.book (OnlyB.refl hblk10) (lt_of_obj hblk10) 10 (.slice (some ⟨g10, 0, none⟩) (L2 + 1) cap10)).below hBb)
            refine ⟨⟨i + 1, _, E2 ++ [_], F2 ++ [m], _, by go_num, by omega, by omega, ?_, ⟨by rw [← List.append_assoc, ← List.append_assoc]; exact hb11, by simp [hG.len], by simp; have := hG.bound; omega, fun k h9 h10 h11 => by rw [upd_ne h10, upd_ne h9]; exact hG.same k h9 h10 h11, l11⟩⟩, by simp [intOf]; omega⟩
            rw [show n0 + (i + 1 - 1) = n0 + (i - 1) + 1 by omega]
            exact List.mem_cons_self
          · go_wp2_with (first | (at_builtin; refine wpList_append_marked rfl (.tmp 39) (.tmp 42) 31 rfl base 3 i0 (.int .i64 0) 1 8 Try.underlying31 hii hz0 hz1 hz2 rfl (by decide) _ (n0 + (i - 1)) (fun _ => .int .i64 (1000 + (m : Nat))) rfl HV.out ⟨wo.heap.size, 0, none⟩ 1 1 [.int .i64 (1000 + (m : Nat))] rfl rfl (by intro k hk; obtain rfl : k = 0 := (by omega); rfl) HN.out (by simp [Value.oneCell']) (by omega) (by unfold maxLen; omega) (by omega) hbase ?_; intro g cap w6 ho6 hgrow hat6 hkeep; have hb6 := hbk1.grow hp ho6 hgrow hat6 hkeep hlen1; have hl6 := Below.trans hbel1 (grown_below hgrow hvb hbase); have t9 := book_cell hb6.blk 9 (by omega); have hb7 := hb6.below (w1 := w6.alloc (.cells #[.slice (some ⟨g, 0, none⟩) (n0 + (i - 1) + 1) cap] 31)) ((Below.refl _ _).alloc (Nat.le_refl _) _); have hn7 := World.news_of_block (heap_alloc_new w6 (.cells #[.slice (some ⟨g, 0, none⟩) (n0 + (i - 1) + 1) cap] 31)); have hiv7 := hb7.iv; rw [HL2.out] at hiv7; have hbs7 := Nat.le_trans hBb (Nat.le_of_lt (lt_of_obj hb7.blk)); have hbx6 := Nat.le_trans hBb (Nat.le_of_lt (lt_of_obj hb6.blk))) | (at_builtin; refine wpList_append_lies _ rfl (.tmp 55) (.tmp 57) 24 rfl base 31 j0 (.slice none 0 0) 1 24 Try.underlying24 hjj jz0 jz1 jz2 rfl (by decide) _ L2 (V ++ E2) rfl hiv7 ⟨w6.heap.size, 0, none⟩ 1 1 [.slice (some ⟨g, 0, none⟩) (n0 + (i - 1) + 1) cap] rfl rfl hn7 (by simp [Value.oneCell']) (by omega) (by unfold maxLen; omega) (by omega) hbs7 _ rfl ?_; intro g7 cap7 w7 hown7 hgrow7 hat7 hlt7; have hblk7 := hb7.blkV hgrow7; have hfr7 := free_of_obj hblk7 9; have y9 := book_cell hblk7 9 (by omega); have t10b := book_cell hblk7 10 (by omega); have hb8 := hb7.pushV HL2.out hown7 hgrow7 hat7 (fun m' hm' => by rw [List.getElem?_eq_none (Nat.le_of_eq HLF.out)] at hm'; cases hm') hLE; have t10 := book_cell hb8.blk 10 (by omega); rw [upd_ne (by omega)] at t10; have hb9 := hb8.below (w1 := (w7.setCell ⟨B, 9, none⟩ (.slice (some ⟨g7, 0, none⟩) (L2 + 1) cap7)).alloc (.cells #[.int .i64 (m : Nat)] 3)) ((Below.refl _ _).alloc (Nat.le_refl _) _); have hov9 := hb9.ov; rw [upd_ne (by omega), HLF.out] at hov9; have hn9 := World.news_of_block (heap_alloc_new (w7.setCell ⟨B, 9, none⟩ (.slice (some ⟨g7, 0, none⟩) (L2 + 1) cap7)) (.cells #[.int .i64 (m : Nat)] 3)); rw [(OnlyB.book (OnlyB.refl hblk7) (lt_of_obj hblk7) 9 (.slice (some ⟨g7, 0, none⟩) (L2 + 1) cap7)).size] at hn9; have hbs9 := Nat.le_trans hBb (Nat.le_of_lt (lt_of_obj hb9.blk))) | (at_builtin; refine wpList_append_lies _ rfl (.tmp 65) (.tmp 67) 31 rfl base 3 i0 (.int .i64 0) 1 8 Try.underlying31 hii hz0 hz1 hz2 rfl (by decide) _ L2 _ rfl hov9 ⟨w7.heap.size, 0, none⟩ 1 1 [.int .i64 (m : Nat)] rfl rfl hn9 (by simp [Value.oneCell']) (by omega) (by unfold maxLen; omega) (by omega) hbs9 _ rfl ?_; intro g10 cap10 w10 hown10 hgrow10 hat10 hlt10; have hblk10 := hb9.blkM (by rw [upd_ne (by omega)]; exact hgrow10); have hfr10 := free_of_obj hblk10 10; have y10 := book_cell hblk10 10 (by omega)))
            have hat10' : (upd f2 9 (.slice (some ⟨g7, 0, none⟩) (L2 + 1) cap7) 10).ownBlock = some g10 ∨ g10 = ((w7.setCell ⟨B, 9, none⟩ (.slice (some ⟨g7, 0, none⟩) (L2 + 1) cap7)).alloc (.cells #[.int .i64 (m : Nat)] 3)).heap.size := by
              rw [upd_ne (by omega)]; exact hat10
            have hb11 := hb9.pushM (m := m) HLF.out hown10 (by rw [upd_ne (by omega)]; exact hgrow10) hat10' (fun v' hv' => by
              rw [List.getElem?_append_right (by rw [HL2.out]; exact Nat.le_refl _), HL2.out] at hv'
              simp at hv'
              subst hv'
              exact ⟨_, List.mem_cons_self⟩) hLE
            have l7 : Below base w w7 := (hl6.alloc hbx6 _).trans (grown_below hgrow7 (fun g hg => (ownsRow_lt hb7.iv hg).1) hbs7)
            have l8 := l7.trans ((OnlyB.book (OnlyB.refl hblk7) (lt_of_obj hblk7) 9 (.slice (some ⟨g7, 0, none⟩) (L2 + 1) cap7)).below hBb)
            have l9 := l8.alloc (Nat.le_trans hBb (Nat.le_of_lt (lt_of_obj hb8.blk))) (.cells #[.int .i64 (m : Nat)] 3)
            have l10 := l9.trans (grown_below hgrow10 (fun g hg => (ownsRow_lt hov9 hg).1) hbs9)
            have l11 := l10.trans ((OnlyB.book (OnlyB.refl hblk10) (lt_of_obj hblk10) 10 (.slice (some ⟨g10, 0, none⟩) (L2 + 1) cap10)).below hBb)
            refine ⟨⟨i + 1, _, E2 ++ [_], F2 ++ [m], _, by go_num, by omega, by omega, ?_, ⟨by rw [← List.append_assoc, ← List.append_assoc]; exact hb11, by simp [hG.len], by simp; have := hG.bound; omega, fun k h9 h10 h11 => by rw [upd_ne h10, upd_ne h9]; exact hG.same k h9 h10 h11, l11⟩⟩, by simp [intOf]; omega⟩
            rw [show n0 + (i + 1 - 1) = n0 + (i - 1) + 1 by omega]
            exact List.mem_cons_self
        · obtain rfl : i = 33 := by omega
          clear hi
          go_wp2
          exact ⟨⟨k + 1, f2, E2, F2, X2, by go_num, by omega, by omega, ⟨hG.bk, hG.len, by have := hG.bound; omega, hG.same, hG.bel⟩⟩, by simp [intOf]; omega⟩
    · obtain rfl : k = N := by omega
      obtain ⟨A, cp, hA⟩ := own_len' hG.bk.iv
      obtain ⟨L, hL⟩ : ∃ L, (V ++ E).length = L := ⟨_, rfl⟩
      rw [hA, hL] at d9
      have hf11 := free_of_obj hG.bk.blk 11
      have y11 := book_cell hG.bk.blk 11 (by omega)
      have hb := hG.bk.setN 11 (by omega) (.int .i64 (L : Nat))
      have hbel := hG.bel.trans ((OnlyB.book (OnlyB.refl hG.bk.blk) (lt_of_obj hG.bk.blk) 11 (.int .i64 (L : Nat))).below hBb)
      have HB := Lib.hid hb
      have HE := Lib.hid hbel
      have HL := Lib.hid hL
      clear hb hbel hL
      go_wp2
      go_end0
      exact ⟨rfl, _, E, F, X', ⟨HB.out, hG.len, by rw [hN]; exact hG.bound, fun k h9 h10 h11 => by rw [upd_ne h11]; exact hG.same k h9 h10 h11, HE.out⟩, by rw [HL.out]; exact upd_eq⟩
end Go.Proofs.Ytbgojhjlmlbfpaa
