/- tallylaw3's spread that keeps lists of ints alone: grown. -/
import Derived.Test.YtbgojhjlmlbfpaaShelfA
namespace Go.Proofs.Ytbgojhjlmlbfpaa
open Go.RowKit

theorem sh_info_int : (Try.prog.info? 3).map (fun i => (i.zero, i.size, i.bytes)) = some (some (.int .i64 0), 1, 8) := by kernel_rfl
theorem sh_info_ints : (Try.prog.info? 31).map (fun i => (i.zero, i.size, i.bytes)) = some (some (.slice none 0 0), 1, 24) := by kernel_rfl
theorem grown_belowL {W w1 : World} {base : Nat} {v : Value} (hg : W.grownBy w1 v.ownBlock) (hv : ∀ g, v.ownBlock = some g → base ≤ g) (hbase : base ≤ W.heap.size) : Below base W w1 :=
  ⟨hg.os, hg.tape, hg.output, hg.size, fun k hk => hg.block k (by omega) (fun e => by have := hv k e.symm; omega)⟩
theorem MarkAll.keep {R : Nat → Prop} {w w' : World} {base b : Nat} {ρ ρ' : Nat → Nat} {V : List Value} (h : MarkAll w base ρ V b) (hK : Keeps R w ρ w' ρ') (hR : ∀ r, 9 ≤ r → ¬ R r) : MarkAll w' base ρ' V b := fun i v hi => by
  obtain ⟨n, h1, h2⟩ := h i v hi
  exact ⟨n, h1, h2.keep hK (hR _ (by omega))⟩
theorem MarkAll.push {w w' : World} {base b i : Nat} {ρ ρ' : Nat → Nat} {V : List Value} {v : Value} (h : MarkAll w base ρ V b) (hK : Keeps (fun r => r = 9 + i) w ρ w' ρ')
    (hkeep : ∀ u nu cu, One w base 3 1 u nu cu → (u.ownBlock = v.ownBlock → cu = (fun _ => mkv i)) → One w' base 3 1 u nu cu) (hv : ∀ g, v.ownBlock = some g → ρ g = 9 + i) : MarkAll w' base ρ' V b := fun j u hj => by
  obtain ⟨n, h1, h2⟩ := h j u hj
  by_cases hji : j = i
  · subst hji
    exact ⟨n, h1, hkeep _ _ _ h2.1 (fun _ => rfl), fun g hg => ((hK.2 g (h2.1.block hg).2).1).trans (h2.2 g hg)⟩
  · exact ⟨n, h1, h2.keep hK (by omega)⟩
/-- What grown has before its round i: the old spread Y, the new one Z with i lists. -/
structure ZSt (w wr : World) (base : Nat) (ρ : Nat → Nat) (Y : Nat) (f : Nat → Value) (V : List Value) (b Z i : Nat) (fz : Nat → Value) (Zs : List Value) : Prop where
  y : SprI wr base ρ 5 6 Y f V
  ym : MarkAll wr base ρ V b
  z : SprI wr base ρ 7 8 Z fz Zs
  zm : MarkAll wr base ρ Zs (b + 40)
  len : Zs.length = i
  free : Free wr ρ
  bel : Below base w wr
  lo : base ≤ Z
theorem ZSt.alloc {w wr : World} {base Y b Z i : Nat} {ρ : Nat → Nat} {f fz : Nat → Value} {V Zs : List Value} (h : ZSt w wr base ρ Y f V b Z i fz Zs) (o : Obj) : ZSt w (wr.alloc o) base ρ Y f V b Z i fz Zs :=
  have hK := Keeps.alloc wr (fun _ => False) ρ o
  ⟨h.y.keep hK id id, h.ym.keep hK (fun _ _ => id), h.z.keep hK id id, h.zm.keep hK (fun _ _ => id), h.len, h.free.le (by simp), h.bel.alloc (by have := lt_of_obj h.z.blk.1; have := h.lo; omega) _, h.lo⟩
theorem ZSt.push {w wr w' : World} {base Y b Z i g : Nat} {ρ : Nat → Nat} {f fz : Nat → Value} {V Zs : List Value} {v : Value} (h : ZSt w wr base ρ Y f V b Z i fz Zs) (hg : wr.grownBy w' v.ownBlock) (hat : v.ownBlock = some g ∨ g = wr.heap.size)
    (hkeep : ∀ u nu cu, One wr base 3 1 u nu cu → (u.ownBlock = v.ownBlock → cu = (fun _ => mkv i)) → One w' base 3 1 u nu cu) (hv : ∀ g, v.ownBlock = some g → ρ g = 9 + i) (hvb : ∀ g, v.ownBlock = some g → base ≤ g) (hlt : g < w'.heap.size) :
    ZSt w w' base (lab ρ g (9 + i)) Y f V b Z i fz Zs :=
  have hK : Keeps (fun r => r = 9 + i) wr ρ w' (lab ρ g (9 + i)) := Keeps.grown hg hv rfl hat
  ⟨h.y.keep hK (by omega) (by omega), h.ym.push hK hkeep hv, h.z.keep hK (by omega) (by omega), h.zm.push hK hkeep hv, h.len, h.free.lab hg.size hlt _,
    h.bel.trans (grown_belowL hg hvb (by have := lt_of_obj h.z.blk.1; have := h.lo; omega)), h.lo⟩
theorem ZSt.add {w wr w' : World} {base Y b Z i g cap n : Nat} {ρ : Nat → Nat} {f fz : Nat → Value} {V Zs : List Value} {v : Value} (h : ZSt w wr base ρ Y f V b Z i fz Zs) (hg : wr.grownBy w' (fz 0).ownBlock) (hat : (fz 0).ownBlock = some g ∨ g = wr.heap.size)
    (hlt : g < w'.heap.size) (hown : w'.ownsRow base 31 1 (.slice (some ⟨g, 0, none⟩) (i + 1) cap) (i + 1) (Zs ++ [v])) (hv : Lst wr base ρ (9 + i) 3 v n (fun _ => mkv i)) (hn : n ≤ b + 40) (hi : i + 1 ≤ 5000) :
    w'.heap[Z]? = some (cellsObj 123 8 fz) ∧
    ZSt w (w'.setCell ⟨Z, 0, none⟩ (.slice (some ⟨g, 0, none⟩) (i + 1) cap)) base (lab ρ g 8) Y f V b Z (i + 1) (setc fz 0 (.slice (some ⟨g, 0, none⟩) (i + 1) cap)) (Zs ++ [v]) := by
  have hK : Keeps (fun r => r = 8) wr ρ w' (lab ρ g 8) := Keeps.grown hg h.z.row.2 rfl hat
  have hZ := h.z.blk.keep hK (by omega)
  have ho := OnlyB.objSet hZ.1 0 (.slice (some ⟨g, 0, none⟩) (i + 1) cap)
  have hK2 : Keeps (fun r => r = 7) w' (lab ρ g 8) (w'.setCell ⟨Z, 0, none⟩ (.slice (some ⟨g, 0, none⟩) (i + 1) cap)) (lab ρ g 8) := Keeps.only _ ho hZ.2
  have hlen := h.len
  have hrow : Lst w' base (lab ρ g 8) 8 31 (.slice (some ⟨g, 0, none⟩) (i + 1) cap) (i + 1) (lst (Zs ++ [v])) := Lst.ofRow hown (fun g' hg' => by
    simp [Value.ownBlock] at hg'
    subst hg'
    exact lab_eq)
  have hbZ := lt_of_obj h.z.blk.1
  have hlo := h.lo
  refine ⟨hZ.1, (h.y.keep hK (by omega) (by omega)).keep hK2 (by omega) (by omega), (h.ym.keep hK (fun r hr => by omega)).keep hK2 (fun r hr => by omega), ⟨⟨ho.at_ (lt_of_obj hZ.1), hZ.2⟩, fun k h1 h2 => by rw [setc_ne (by omega)]; exact h.z.rest k h1 h2, ?_, by simp; omega⟩, ?_, by simp; omega, ?_, ?_, hlo⟩
  · rw [setc_eq]
    have := hrow.keep hK2 (by omega)
    simpa [hlen] using this
  · intro j u hj
    by_cases hji : j < Zs.length
    · rw [List.getElem?_append_left hji] at hj
      exact ((h.zm.keep hK (fun r hr => by omega)).keep hK2 (fun r hr => by omega)) j u hj
    · rw [List.getElem?_append_right (by omega)] at hj
      have e : j = i := by
        rcases Nat.lt_or_ge (j - Zs.length) 1 with h' | h'
        · omega
        · rw [List.getElem?_eq_none (by simpa using h')] at hj; cases hj
      subst e
      rw [hlen, Nat.sub_self] at hj
      simp at hj
      subst hj
      exact ⟨n, hn, (hv.keep hK (by omega)).keep hK2 (by omega)⟩
  · exact (h.free.lab hg.size hlt 8).le (by rw [ho.size]; exact Nat.le_refl _)
  · exact (h.bel.trans (grown_belowL hg (fun g' hg' => (h.z.row.1.block hg').1) (by omega))).trans (ho.below hlo)

def ZRel (w : World) (base : Nat) (Y : Nat) (f : Nat → Value) (V : List Value) (b Z : Nat) (iv : Value) (wr : World) : Prop :=
  ∃ (i : Nat) (ρ : Nat → Nat) (fz : Nat → Value) (Zs : List Value), iv = .int .i64 i ∧ i ≤ V.length ∧ ZSt w wr base ρ Y f V b Z i fz Zs
def ZRel2 (w : World) (base : Nat) (Y : Nat) (f : Nat → Value) (V : List Value) (b Z i n0 : Nat) (lv kv : Value) (wr : World) : Prop :=
  ∃ (k : Nat) (ρ : Nat → Nat) (fz : Nat → Value) (Zs : List Value), kv = .int .i64 k ∧ k ≤ 40 ∧ ZSt w wr base ρ Y f V b Z i fz Zs ∧ Lst wr base ρ (9 + i) 3 lv (n0 + k) (fun _ => mkv i)
set_option maxRecDepth 100000 in
set_option maxHeartbeats 2000000 in
theorem grown_ints (w : World) (Y base b : Nat) (ρ : Nat → Nat) (f : Nat → Value) (V : List Value) (h : SprI w base ρ 5 6 Y f V) (hm : MarkAll w base ρ V b) (hb : b ≤ 1000) (hbase : base ≤ w.heap.size) (hfree : Free w ρ) :
    Calls Try.prog 45 #[.pointer (some ⟨Y, 0, none⟩)] w fun e w' => ∃ Z ρ' fz Zs, e = .returned (.pointer (some ⟨Z, 0, none⟩)) ∧ ZSt w w' base ρ' Y f V b Z V.length fz Zs := by
  obtain ⟨i0, hii, hz0, hz1, hz2⟩ := info_parts sh_info_int
  obtain ⟨j0, hjj, jz0, jz1, jz2⟩ := info_parts sh_info_ints
  obtain ⟨N, hN⟩ : ∃ N, V.length = N := ⟨_, rfl⟩
  have hsm := h.small
  rw [hN] at hsm
  go_enter Try.func45, Try.ntmps45
  go_wp2
  go_loopw [4] (fun iv wr => ZRel w base Y f V b w.heap.size iv wr) (fun iv _ => (N - intOf iv).toNat)
  case atStart =>
    have hK : Keeps (fun _ => False) w ρ (w.alloc (cellsObj 123 8 (fun _ => .slice none 0 0))) ρ := Keeps.alloc w _ ρ _
    have hK2 : Keeps (fun _ => False) w ρ (w.alloc (cellsObj 123 8 (fun _ => .slice none 0 0))) (lab ρ w.heap.size 7) := ⟨hK.1, fun k hk => ⟨lab_ne (by omega), (hK.2 k hk).2⟩⟩
    exact ⟨0, lab ρ w.heap.size 7, fun _ => .slice none 0 0, [], rfl, by omega, ⟨h.keep hK2 id id, hm.keep hK2 (fun _ _ => id), ⟨⟨heap_alloc_new w _, lab_eq⟩, fun _ _ _ => rfl, ⟨.inl ⟨rfl, rfl⟩, by simp [Value.ownBlock]⟩, by simp⟩, by intro i v hi; simp at hi, rfl, hfree.lab (by simp) (by simp) _, (Below.refl _ _).alloc hbase _, hbase⟩⟩
  case round =>
    clear h hm
    obtain ⟨i, ρ1, fz, Zs, rfl, hi, hG⟩ := hrel
    rw [hN] at hi
    have c0 := obj_cell hG.y.blk.1 0 (by omega)
    obtain ⟨A0, cap0, e0⟩ := hG.y.row.1.len
    have hrow := hG.y.row.1
    rw [e0] at c0 hrow
    rw [hN] at c0 hrow
    by_cases hiN : i < N
    · obtain ⟨v, hv⟩ : ∃ p, V[i]? = some p := ⟨V[i]'(by omega), List.getElem?_eq_getElem _⟩
      obtain ⟨g0, rfl, x0⟩ := hrow.get hiN
      rw [lst_at hv] at x0
      obtain ⟨n, hn, ho⟩ := hG.ym i v hv
      clear hrow
      go_wp2
      go_loopw [5, 6] (fun lv kv wr => ZRel2 w base Y f V b w.heap.size i n lv kv wr) (fun _ kv _ => (40 - intOf kv).toNat)
      case atStart => exact ⟨0, ρ1, fz, Zs, rfl, by omega, hG, ho⟩
      case round =>
        clear c0 x0 hG ho
        obtain ⟨k, ρ2, fz2, Zs2, rfl, hk, hG, ho⟩ := hrel
        by_cases hk40 : k < 40
        · have hG1 := hG.alloc (.cells #[mkv i] 3)
          have ho1 := ho.keep (Keeps.alloc wr (fun _ => False) ρ2 (.cells #[mkv i] 3)) id
          have hn1 := World.news_of_block (heap_alloc_new wr (.cells #[mkv i] 3))
          have hb1 : base ≤ (wr.alloc (.cells #[mkv i] 3)).heap.size := by have := lt_of_obj hG1.z.blk.1; have := hG1.lo; omega
          have HO := Lib.hid ho1
          have HG := Lib.hid hG1
          have HN := Lib.hid hn1
          have HB := Lib.hid hb1
          clear hG1 ho1 hG ho hn1 hb1
          unfold mkv at HG HO HN HB
          go_wp2_with (at_builtin; refine wpList_append_marked rfl (.tmp 38) (.tmp 41) 31 rfl base 3 i0 (.int .i64 0) 1 8 Try.underlying31 hii hz0 hz1 hz2 rfl (by decide) _ (n + k) (fun _ => .int .i64 (-1 - (i : Int))) rfl HO.out.1 ⟨wr.heap.size, 0, none⟩ 1 1 [.int .i64 (-1 - (i : Int))] rfl rfl (by intro k hk; obtain rfl : k = 0 := (by omega); rfl) HN.out (by simp [Value.oneCell']) (by omega) (by unfold maxLen; omega) (by omega) HB.out ?_; intro g cap w6 ho6 hgrow hat6 hkeep; have hlt6 := (ho6.block (g := g) rfl).2; have hG6 := Lib.hid (HG.out.push hgrow hat6 hkeep HO.out.2 (fun g hg => (HO.out.1.block hg).1) hlt6); have ho6 := Lib.hid ho6)
          exact ⟨⟨k + 1, _, fz2, Zs2, by go_num, by omega, hG6.out, ho6.out, fun g' hg' => by simp [Value.ownBlock] at hg'; subst hg'; exact lab_eq⟩, by simp [intOf]; omega⟩
        · obtain rfl : k = 40 := by omega
          obtain ⟨n5, hn5⟩ : ∃ m, n + 40 = m := ⟨_, rfl⟩
          rw [hn5] at ho
          obtain ⟨A5, cp5, rfl⟩ := ho.1.len
          have hG1 := hG.alloc (.cells #[.slice A5 n5 cp5] 31)
          have ho1 := ho.keep (Keeps.alloc wr (fun _ => False) ρ2 (.cells #[.slice A5 n5 cp5] 31)) id
          have hn1 := World.news_of_block (heap_alloc_new wr (.cells #[.slice A5 n5 cp5] 31))
          have c0 := obj_cell hG.z.blk.1 0 (by omega)
          have hrow := hG1.z.row.row rfl
          have hb1 : base ≤ (wr.alloc (.cells #[.slice A5 n5 cp5] 31)).heap.size := by have := lt_of_obj hG1.z.blk.1; have := hG1.lo; omega
          rw [hG1.len] at hrow
          have HO := Lib.hid ho1
          have HG := Lib.hid hG1
          have HN := Lib.hid hn1
          have HR := Lib.hid hrow
          have HB := Lib.hid hb1
          clear hG1 ho1 hG ho hn1 hrow hb1
          go_wp2_with (at_builtin; refine wpList_append_lies _ rfl (.tmp 47) (.tmp 49) 24 rfl base 31 j0 (.slice none 0 0) 1 24 Try.underlying24 hjj jz0 jz1 jz2 rfl (by decide) _ i Zs2 rfl HR.out ⟨wr.heap.size, 0, none⟩ 1 1 [.slice A5 n5 cp5] rfl rfl HN.out (by simp [Value.oneCell']) (by omega) (by unfold maxLen; omega) (by omega) HB.out _ rfl ?_; intro g7 cap7 w7 hown7 hgrow7 hat7 hlt7; have hadd := HG.out.add hgrow7 hat7 hlt7 hown7 HO.out (by omega) (by omega); have hblk7 := hadd.1; have hfr7 := free_of_obj hblk7 0; have y7 := obj_cell hblk7 0 (by omega); have HA := Lib.hid hadd.2; clear hadd)
          exact ⟨⟨i + 1, _, _, _, by go_num, by omega, HA.out⟩, by simp [intOf]; omega⟩
    · obtain rfl : i = N := by omega
      have hcall := fun z => rest_none wr Y z f hG.y.blk.1 hG.y.rest
      have c1 := obj_cell hG.y.blk.1 1 (by omega)
      have c2 := obj_cell hG.y.blk.1 2 (by omega)
      have c3 := obj_cell hG.y.blk.1 3 (by omega)
      rw [hG.y.rest 1 (by omega) (by omega)] at c1
      rw [hG.y.rest 2 (by omega) (by omega)] at c2
      rw [hG.y.rest 3 (by omega) (by omega)] at c3
      go_wp2
      repeat (refine wp_loop_rounds 1 ?_; rw [rounds_succ]; go_wp2_with (go_at_call 80; (with_reducible refine (hcall _).mono ?_); rintro e w1 ⟨rfl, rfl⟩))
      go_ret
      exact ⟨_, _, _, _, rfl, by rw [hN]; exact hG⟩
end Go.Proofs.Ytbgojhjlmlbfpaa
