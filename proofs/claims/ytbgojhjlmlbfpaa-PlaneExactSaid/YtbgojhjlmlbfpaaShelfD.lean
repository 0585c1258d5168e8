/- tallylaw3.Shelf that keeps lists of ints alone: Ints. -/
import Derived.Test.YtbgojhjlmlbfpaaShelfC
import Derived.Deep.RegionLaw
namespace Go.Proofs.Ytbgojhjlmlbfpaa
open Go.RowKit

theorem own_empty (w : World) (base : Nat) (e : TypeId) (h : base ≤ w.heap.size) : (w.alloc (.cells #[] e (0, 0))).ownsRow base e 1 (.slice (some ⟨w.heap.size, 0, none⟩) 0 0) 0 [] :=
  ⟨rfl, .inr ⟨w.heap.size, 0, #[], rfl, h, heap_alloc_new w _, Nat.le_refl _, by unfold maxLen; omega, rfl, rfl⟩⟩
theorem news_of_one {w : World} {base n g cap : Nat} {e : TypeId} {L : List Int} (h : One w base e 1 (.slice (some ⟨g, 0, none⟩) n cap) n (lst (ints L))) (hn : L.length = n) (w' : World) (hb : Below w.heap.size w w') :
    ∀ (j : Nat) (u : Value), (ints L)[j]? = some u → w'.cell? ((⟨g, 0, none⟩ : Addr).add j) = some u := by
  intro j u hj
  have hjn : j < n := by
    rcases Nat.lt_or_ge j n with h' | h'
    · exact h'
    · rw [List.getElem?_eq_none (by simp [ints, hn]; omega)] at hj; cases hj
  have hc := h.cell (g := g) rfl (k := j) (by omega)
  rw [lst_at hj] at hc
  have := cellKeep hb hc
  by_cases hj0 : j = 0 <;> simpa [Addr.add, hj0] using this
/-- A list made new out of an empty one. -/
theorem newRow {w w' : World} {o : Obj} {base g r : Nat} (ρ : Nat → Nat) (hg : ((w.alloc o).drew).grownBy w' (some w.heap.size)) (hat : some w.heap.size = some g ∨ g = w.heap.size + 1) (hb : base ≤ w.heap.size) : Keeps (fun _ => False) w ρ w' (lab ρ g r) ∧ Below base w w' ∧ w.heap.size ≤ w'.heap.size := by
  have hs := hg.size
  have e : ((w.alloc o).drew).heap.size = w.heap.size + 1 := by simp
  have hblk : ∀ k, k < w.heap.size → w'.heap[k]? = w.heap[k]? := fun k hk => by
    rw [hg.block k (by omega) (by simp; omega)]
    exact ((Below.refl _ w).alloc (Nat.le_refl _) o).block k hk
  have hgw : w.heap.size ≤ g := by
    rcases hat with h | h
    · injection h with h; omega
    · omega
  exact ⟨⟨by omega, fun k hk => ⟨lab_ne (by omega), fun _ => hblk k hk⟩⟩, ⟨hg.os, hg.tape, hg.output, by omega, fun k hk => hblk k (by omega)⟩, by omega⟩

set_option maxRecDepth 100000 in
set_option maxHeartbeats 2000000 in
theorem shelfInts_some (w : World) (base S N s n : Nat) (ρ : Nat → Nat) (f : Nat → Value) (V O : List Value) (D : List (List Int)) (L : List Int) (v : Value) (h : ShelfI w base ρ S f V O D) (hV : V.length = N) (hO : O.length = N) (hD : D.length = N)
    (hs : f 0 = .int .i64 s) (hs2 : s + 8 * n + 50 ≤ 4194304) (hv : Lst w base ρ (9 + N) 3 v n (lst (ints L))) (hn : L.length = n) (hn0 : 0 < n) (hn1 : n ≤ 100) (hfree : Free w ρ) (hS : base ≤ S) (hN : N ≤ 4999) :
    Calls Try.prog 13 #[.pointer (some ⟨S, 0, none⟩), v] w fun e w' => e = .returned (.tuple #[]) ∧ ∃ ρ' f' o, ShelfI w' base ρ' S f' (V ++ [v]) (O ++ [o]) (D ++ [L]) ∧ f' 0 = .int .i64 ((s + 8 * n + 50 : Nat) : Int) ∧
      Keeps (fun r => r = 1 ∨ r = 2 ∨ r = 3) w ρ w' ρ' ∧ Free w' ρ' ∧ Below base w w' := by
  obtain ⟨i0, hii, hz0, hz1, hz2⟩ := info_parts sh_info_int
  obtain ⟨j0, hjj, jz0, jz1, jz2⟩ := info_parts sh_info_ints
  obtain ⟨gv, cpv, rfl⟩ := hv.1.form hn0
  obtain ⟨c, hc, hc2⟩ : ∃ c : Nat, 8 * (n : Int) = (c : Int) ∧ c = 8 * n := ⟨8 * n, by omega, rfl⟩
  have HC2 := Lib.hid hc2
  rw [← hc2] at hs2
  clear hc2
  have hDN : (D ++ [L])[N]? = some L := by rw [List.getElem?_append_right (by omega), hD, Nat.sub_self]; rfl
  have hm := h.more L
  have hblk0 := h.blk.1
  have hlS := lt_of_obj hblk0
  go_enter Try.func13, Try.ntmps13
  go_wp2_with (first | (go_at_call 42; go_loud ( (with_reducible refine (shelfHolds _ S s c f hblk0 hs hs2).mono ?_); rintro e w1 ⟨rfl, o1⟩; have p1 := hm.only o1 (fun k hk => setc_ne (by omega)); have h1 := p1.1; have K1 := p1.2; have F1 : Free w1 ρ := hfree.le K1.1; have L1 : Below base w w1 := o1.below hS; clear p1; have t1 := obj_cell h1.blk.1 1 (by omega); rw [setc_ne (by omega)] at t1; have A2 := Keeps.alloc w1 (fun _ => False) ρ (.cells #[.slice (some ⟨gv, 0, none⟩) n cpv] 31); have h2 := h1.keep A2 id id id id (fun _ _ => id); have F2 := F1.le A2.1; have K2 := K1.trans (A2.mono (fun _ h => h.elim)); have v2 := hv.keep K2 (by omega); have n2 := World.news_of_block (heap_alloc_new w1 (.cells #[.slice (some ⟨gv, 0, none⟩) n cpv] 31)); have L2 := L1.alloc (by rw [o1.size]; omega) (.cells #[.slice (some ⟨gv, 0, none⟩) n cpv] 31); have r2 := h2.iv.row rfl; rw [hV, setc_ne (by omega)] at r2; have b2 : base ≤ (w1.alloc (.cells #[.slice (some ⟨gv, 0, none⟩) n cpv] 31)).heap.size := (by have := lt_of_obj h2.blk.1; omega); have HP := Lib.hid (And.intro h2 (And.intro F2 (And.intro K2 (And.intro v2 (And.intro n2 (And.intro L2 (And.intro r2 b2))))))); clear h1 K1 F1 L1 A2 h2 F2 K2 v2 n2 L2 r2 b2 o1)) | (at_builtin; refine wpList_append_lies _ rfl (.tmp 13) (.tmp 15) 24 rfl base 31 j0 (.slice none 0 0) 1 24 Try.underlying24 hjj jz0 jz1 jz2 rfl (by decide) _ N V rfl HP.out.2.2.2.2.2.2.1 ⟨w1.heap.size, 0, none⟩ 1 1 [.slice (some ⟨gv, 0, none⟩) n cpv] rfl rfl HP.out.2.2.2.2.1 (by simp [Value.oneCell']) (by omega) (by unfold maxLen; omega) (by omega) HP.out.2.2.2.2.2.2.2 _ rfl ?_; intro g3 cap3 w3 hown3 hgrow3 hat3 hlt3; have q3 := HP.out.1.pushV (L := L) hV hown3 (by rw [setc_ne (by omega)]; exact hgrow3) (by rw [setc_ne (by omega)]; exact hat3) hlt3 (by rw [hn]; exact HP.out.2.2.2.1) (by omega) hDN HP.out.2.1 hS; have hblk3 := q3.1; have hfr3 := free_of_obj hblk3 1; have y3 := obj_cell hblk3 1 (by omega); rw [setc_ne (by omega)] at y3; have H4 := Lib.hid q3.2; clear q3))
  generalize hw4 : w3.setCell ⟨S, 1, none⟩ (.slice (some ⟨g3, 0, none⟩) (N + 1) cap3) = w4 at H4 ⊢
  obtain ⟨h4, K4, F4, L4⟩ := H4.out
  have v4 : Lst w4 base (lab ρ g3 2) (9 + N) 3 (.slice (some ⟨gv, 0, none⟩) n cpv) n (lst (ints L)) := HP.out.2.2.2.1.keep K4 (by omega)
  have K04 := (HP.out.2.2.1.mono (R' := fun r => r = 1 ∨ r = 2) (fun r hr => .inl hr)).trans K4
  have L04 := HP.out.2.2.2.2.2.1.trans L4
  have c2 := obj_cell h4.blk.1 2 (by omega)
  rw [setc_ne (by omega), setc_ne (by omega)] at c2
  have hS4 := lt_of_obj h4.blk.1
  clear hown3 hgrow3 hat3 hlt3 hblk3 hfr3 y3 t1 H4 HP hw4
  have n4 := news_of_one v4.1 hn (w4.alloc (.cells #[] 3)) ((Below.refl _ _).alloc (Nat.le_refl _) _)
  have b4 : base ≤ w4.heap.size := by omega
  have E4 := own_empty w4 base 3 b4
  go_region_law ((first | (refine step_append_lies _ (by rfl) (.tmp 24) (.tmp 25) 31 (by rfl) base 3 i0 (.int .i64 0) 1 8 Try.underlying31 hii hz0 hz1 hz2 rfl (by decide) (.slice (some ⟨w4.heap.size, 0, none⟩) 0 0) 0 [] (by rfl) E4.drew ⟨gv, 0, none⟩ n cpv (ints L) (by rfl) (by simp [ints, hn]) n4 (by simp [ints, Value.oneCell']) (by omega) (by unfold maxLen; omega) (by omega) (by simp; omega) (w4.heap.size + 1) (by simp) ?_; intro g5 cap5 w5 hown5 hgrow5 hat5 hlt5; obtain ⟨K5, L5, hs5⟩ := newRow (r := 4) (lab ρ g3 2) hgrow5 hat5 b4; have o5 : Lst w5 base (lab (lab ρ g3 2) g5 4) 4 3 (.slice (some ⟨g5, 0, none⟩) n cap5) n (lst (ints L)) := (Lst.ofRow (by simpa using hown5) (fun g' hg' => by simp [Value.ownBlock] at hg'; subst hg'; exact lab_eq)); have h5 := h4.keep K5 id id id id (fun _ _ => id); have F5 : Free w5 (lab (lab ρ g3 2) g5 4) := F4.lab hs5 hlt5 4; have c5 := obj_cell h5.blk.1 2 (by omega); rw [setc_ne (by omega), setc_ne (by omega)] at c5; have A6 := Keeps.alloc w5 (fun _ => False) (lab (lab ρ g3 2) g5 4) (.cells #[.slice (some ⟨g5, 0, none⟩) n cap5] 31); have h6 := h5.keep A6 id id id id (fun _ _ => id); have c6 := obj_cell h6.blk.1 2 (by omega); rw [setc_ne (by omega), setc_ne (by omega)] at c6; have o6 := o5.keep A6 id; have F6 := F5.le A6.1; have K6 := K5.trans A6; have b5 := Nat.le_trans b4 hs5; have L6 := L5.alloc b5 (.cells #[.slice (some ⟨g5, 0, none⟩) n cap5] 31); have r6 := h6.ov.row rfl; rw [hO, setc_ne (by omega), setc_ne (by omega)] at r6; have n6 := World.news_of_block (heap_alloc_new w5 (.cells #[.slice (some ⟨g5, 0, none⟩) n cap5] 31)); have b6 : base ≤ (w5.alloc (.cells #[.slice (some ⟨g5, 0, none⟩) n cap5] 31)).heap.size := (Nat.le_trans b5 A6.1)) | (refine step_append_lies _ (by rfl) (.tmp 23) (.tmp 27) 24 (by rfl) base 31 j0 (.slice none 0 0) 1 24 Try.underlying24 hjj jz0 jz1 jz2 rfl (by decide) (f 2) N O (by rfl) r6 ⟨w5.heap.size, 0, none⟩ 1 1 [.slice (some ⟨g5, 0, none⟩) n cap5] (by rfl) (by rfl) n6 (by simp [Value.oneCell']) (by omega) (by unfold maxLen; omega) (by omega) b6 (w5.heap.size + 1) (by simp) ?_; intro g7 cap7 w7 hown7 hgrow7 hat7 hlt7; have q7 := h6.pushO (L := L) hO hown7 (by rw [setc_ne (by omega), setc_ne (by omega)]; exact hgrow7) (by rw [setc_ne (by omega), setc_ne (by omega)]; simpa using hat7) hlt7 (by rw [hn]; exact o6) hDN F6 hS; have hblk7 := q7.1; have hfr7 := free_of_obj hblk7 2; have y7 := obj_cell hblk7 2 (by omega); rw [setc_ne (by omega), setc_ne (by omega)] at y7)))
  all_goals
    go_end0
    refine ⟨rfl, _, _, _, q7.2.1, ?_, ((K04.mono (fun r hr => by omega)).trans ((K6.mono (fun _ hr => hr.elim)).trans (q7.2.2.1.mono (fun r hr => by omega)))), q7.2.2.2.1, (L04.trans L6).trans q7.2.2.2.2⟩
    rw [setc_ne (by omega), setc_ne (by omega), setc_eq, HC2.out]

set_option maxRecDepth 100000 in
set_option maxHeartbeats 2000000 in
theorem shelfInts_none (w : World) (base S N s : Nat) (ρ : Nat → Nat) (f : Nat → Value) (V O : List Value) (D : List (List Int)) (h : ShelfI w base ρ S f V O D) (hV : V.length = N) (hO : O.length = N) (hD : D.length = N)
    (hs : f 0 = .int .i64 s) (hs2 : s + 50 ≤ 4194304) (hfree : Free w ρ) (hS : base ≤ S) (hN : N ≤ 4999) :
    Calls Try.prog 13 #[.pointer (some ⟨S, 0, none⟩), .slice none 0 0] w fun e w' => e = .returned (.tuple #[]) ∧ ∃ ρ' f' o, ShelfI w' base ρ' S f' (V ++ [.slice none 0 0]) (O ++ [o]) (D ++ [[]]) ∧ f' 0 = .int .i64 ((s + 50 : Nat) : Int) ∧
      Keeps (fun r => r = 1 ∨ r = 2 ∨ r = 3) w ρ w' ρ' ∧ Free w' ρ' ∧ Below base w w' := by
  obtain ⟨j0, hjj, jz0, jz1, jz2⟩ := info_parts sh_info_ints
  have hDN : (D ++ [[]])[N]? = some [] := by rw [List.getElem?_append_right (by omega), hD, Nat.sub_self]; rfl
  have hm := h.more []
  have hblk0 := h.blk.1
  have hlS := lt_of_obj hblk0
  have hH : Calls Try.prog 42 #[.pointer (some ⟨S, 0, none⟩), .int .i64 0] w fun e w' => e = .returned (.bool true) ∧ OnlyB w w' S (cellsObj 30 11 (setc f 0 (.int .i64 ((s + 50 : Nat) : Int)))) := shelfHolds w S s 0 f hblk0 hs (by omega)
  go_enter Try.func13, Try.ntmps13
  go_wp2_with (first | (go_at_call 42; (with_reducible refine hH.mono ?_); rintro e w1 ⟨rfl, o1⟩; have p1 := hm.only o1 (fun k hk => setc_ne (by omega)); have h1 := p1.1; have K1 := p1.2; have F1 : Free w1 ρ := hfree.le K1.1; have L1 : Below base w w1 := o1.below hS; clear p1; have t1 := obj_cell h1.blk.1 1 (by omega); rw [setc_ne (by omega)] at t1; have A2 := Keeps.alloc w1 (fun _ => False) ρ (.cells #[.slice none 0 0] 31); have h2 := h1.keep A2 id id id id (fun _ _ => id); have F2 := F1.le A2.1; have K2 := K1.trans (A2.mono (fun _ h => h.elim)); have n2 := World.news_of_block (heap_alloc_new w1 (.cells #[.slice none 0 0] 31)); have L2 := L1.alloc (by rw [o1.size]; omega) (.cells #[.slice none 0 0] 31); have r2 := h2.iv.row rfl; rw [hV, setc_ne (by omega)] at r2; have b2 : base ≤ (w1.alloc (.cells #[.slice none 0 0] 31)).heap.size := (by have := lt_of_obj h2.blk.1; omega); have HP := Lib.hid (And.intro h2 (And.intro F2 (And.intro K2 (And.intro n2 (And.intro L2 (And.intro r2 b2)))))); clear h1 K1 F1 L1 A2 h2 F2 K2 n2 L2 r2 b2 o1) | (at_builtin; refine wpList_append_lies _ rfl (.tmp 13) (.tmp 15) 24 rfl base 31 j0 (.slice none 0 0) 1 24 Try.underlying24 hjj jz0 jz1 jz2 rfl (by decide) _ N V rfl HP.out.2.2.2.2.2.1 ⟨w1.heap.size, 0, none⟩ 1 1 [.slice none 0 0] rfl rfl HP.out.2.2.2.1 (by simp [Value.oneCell']) (by omega) (by unfold maxLen; omega) (by omega) HP.out.2.2.2.2.2.2 _ rfl ?_; intro g3 cap3 w3 hown3 hgrow3 hat3 hlt3; have q3 := HP.out.1.pushV (L := []) hV hown3 (by rw [setc_ne (by omega)]; exact hgrow3) (by rw [setc_ne (by omega)]; exact hat3) hlt3 ⟨.inl ⟨rfl, rfl⟩, fun g hg => by simp [Value.ownBlock] at hg⟩ (by simp) hDN HP.out.2.1 hS; have hblk3 := q3.1; have hfr3 := free_of_obj hblk3 1; have y3 := obj_cell hblk3 1 (by omega); rw [setc_ne (by omega)] at y3; have H4 := Lib.hid q3.2; clear q3))
  generalize hw4 : w3.setCell ⟨S, 1, none⟩ (.slice (some ⟨g3, 0, none⟩) (N + 1) cap3) = w4 at H4 ⊢
  obtain ⟨h4, K4, F4, L4⟩ := H4.out
  have K04 := (HP.out.2.2.1.mono (R' := fun r => r = 1 ∨ r = 2) (fun r hr => .inl hr)).trans K4
  have L04 := HP.out.2.2.2.2.1.trans L4
  have c2 := obj_cell h4.blk.1 2 (by omega)
  rw [setc_ne (by omega), setc_ne (by omega)] at c2
  have hS4 := lt_of_obj h4.blk.1
  clear hown3 hgrow3 hat3 hlt3 hblk3 hfr3 y3 t1 H4 HP hw4
  have b4 : base ≤ w4.heap.size := by omega
  have E4 := own_empty w4 base 3 b4
  have hgr5 : ((w4.alloc (.cells #[] 3)).drew).grownBy (w4.alloc (.cells #[] 3)) (some w4.heap.size) := ⟨rfl, rfl, rfl, Nat.le_refl _, fun _ _ _ => rfl⟩
  obtain ⟨w5, hw5⟩ : ∃ w5, w5 = w4.alloc (.cells #[] 3) := ⟨_, rfl⟩
  obtain ⟨K5, L5, hs5⟩ := newRow (r := 4) (g := w4.heap.size) (lab ρ g3 2) hgr5 (.inl rfl) b4
  rw [← hw5] at K5 L5 hs5 E4
  have o5 : Lst w5 base (lab (lab ρ g3 2) w4.heap.size 4) 4 3 (.slice (some ⟨w4.heap.size, 0, none⟩) 0 0) 0 (lst (ints [])) := Lst.ofRow E4 (fun g' hg' => by simp [Value.ownBlock] at hg'; subst hg'; exact lab_eq)
  have h5 := h4.keep K5 id id id id (fun _ _ => id)
  have F5 : Free w5 (lab (lab ρ g3 2) w4.heap.size 4) := F4.lab hs5 (by rw [hw5]; simp) 4
  have c5 := obj_cell h5.blk.1 2 (by omega)
  rw [setc_ne (by omega), setc_ne (by omega), hw5] at c5
  have A6 : Keeps (fun _ => False) w5 (lab (lab ρ g3 2) w4.heap.size 4) ((w5.alloc (.cells #[.slice (some ⟨w4.heap.size, 0, none⟩) 0 0] 31)).drew) (lab (lab ρ g3 2) w4.heap.size 4) := Keeps.below _ _ (((Below.refl _ _).alloc (Nat.le_refl _) _).drew)
  have h6 := h5.keep A6 id id id id (fun _ _ => id)
  have c6 := obj_cell h6.blk.1 2 (by omega)
  rw [setc_ne (by omega), setc_ne (by omega), hw5] at c6
  have o6 := o5.keep A6 id
  have F6 := F5.le A6.1
  have K6 := K5.trans A6
  have b5 := Nat.le_trans b4 hs5
  have L6 := (L5.alloc b5 (.cells #[.slice (some ⟨w4.heap.size, 0, none⟩) 0 0] 31)).drew
  have r6 := h6.ov.row rfl
  rw [hO, setc_ne (by omega), setc_ne (by omega)] at r6
  have n6 : ∀ (j : Nat) (u : Value), [Value.slice (some ⟨w4.heap.size, 0, none⟩) 0 0][j]? = some u → ((w5.alloc (.cells #[.slice (some ⟨w4.heap.size, 0, none⟩) 0 0] 31)).drew).cell? ((⟨w5.heap.size, 0, none⟩ : Addr).add j) = some u := World.news_of_block (heap_alloc_new w5 (.cells #[.slice (some ⟨w4.heap.size, 0, none⟩) 0 0] 31))
  have b6 : base ≤ ((w5.alloc (.cells #[.slice (some ⟨w4.heap.size, 0, none⟩) 0 0] 31)).drew).heap.size := Nat.le_trans b5 A6.1
  subst hw5
  have e5 : (w4.alloc (.cells #[] 3)).heap.size = w4.heap.size + 1 := by simp
  rw [e5] at n6
  go_region_law ((first | (refine step_append_lies _ (by rfl) (.tmp 23) (.tmp 27) 24 (by rfl) base 31 j0 (.slice none 0 0) 1 24 Try.underlying24 hjj jz0 jz1 jz2 rfl (by decide) (f 2) N O (by rfl) r6 ⟨w4.heap.size + 1, 0, none⟩ 1 1 [.slice (some ⟨w4.heap.size, 0, none⟩) 0 0] (by rfl) (by rfl) n6 (by simp [Value.oneCell']) (by omega) (by unfold maxLen; omega) (by omega) b6 (w4.heap.size + 1 + 1) (by simp) ?_; intro g7 cap7 w7 hown7 hgrow7 hat7 hlt7; have q7 := h6.pushO (L := []) hO hown7 (by rw [setc_ne (by omega), setc_ne (by omega)]; exact hgrow7) (by rw [setc_ne (by omega), setc_ne (by omega)]; simpa using hat7) hlt7 o6 hDN F6 hS; have hblk7 := q7.1; have hfr7 := free_of_obj hblk7 2; have y7 := obj_cell hblk7 2 (by omega); rw [setc_ne (by omega), setc_ne (by omega)] at y7) | fail))
  all_goals
    go_end0
    refine ⟨rfl, _, _, _, q7.2.1, ?_, ((K04.mono (fun r hr => by omega)).trans ((K6.mono (fun _ hr => hr.elim)).trans (q7.2.2.1.mono (fun r hr => by omega)))), q7.2.2.2.1, (L04.trans L6).trans q7.2.2.2.2⟩
    rw [setc_ne (by omega), setc_ne (by omega), setc_eq]
end Go.Proofs.Ytbgojhjlmlbfpaa
