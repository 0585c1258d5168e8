/- The disk: List, words for Crash; its own law; readings. -/
import Derived.Test.YtgkpobajafjdeaaP4
import Derived.Test.YtgkpobajafjdeaaShelf
import Derived.Deep.RegionWith
import Derived.Deep.CutRange
import Derived.WalkKit
import Derived.ProofKit
import Derived.OpenShut
import Derived.Deep.Slices
import Derived.Below
import Derived.SizedLaws
/- The names that a range has met, and their order. Of no program but for the map's datum. -/
namespace Go.Proofs.Ytgkpobajafjdeaa
open Go.RowKit Go.Maps

/-- The names met so far: those that are not left. -/
def met (left : Lit → Bool) (l : NM) : List BS := (l.filter fun p => !left (.string p.1)).map Prod.fst
theorem met_other (left : Lit → Bool) {n : BS} : ∀ {l : NM}, (∀ p ∈ l, p.1 ≠ n) → met (strikeL left n) l = met left l
  | [], _ => rfl
  | y :: r, h => by
    have := met_other left (n := n) (l := r) (fun p hp => h p (by simp [hp]))
    unfold met at *
    simp only [List.filter_cons, strike_other left (h y (by simp))]
    split
    · simp only [List.map_cons, this]
    · exact this
theorem met_step (left : Lit → Bool) {n : BS} {f : Nat} (hl : left (.string n) = true) : ∀ {l : NM}, NM.Ok l → (n, f) ∈ l → (met (strikeL left n) l).Perm (n :: met left l)
  | [], _, hm => by cases hm
  | y :: r, h, hm => by
    unfold NM.Ok at h
    rw [List.pairwise_cons] at h
    rcases List.mem_cons.1 hm with e | hm
    · subst e
      have ho := met_other left (n := n) (l := r) (fun p hp e => bs_irrefl p.1 (by have := h.1 p hp; simp only [← e] at this; exact absurd this (bs_irrefl _)))
      unfold met at *
      simp only [List.filter_cons, strike_same, hl]
      simp [ho]
    · have ih := met_step left hl (l := r) h.2 hm
      have hne : y.1 ≠ n := fun e => by have := h.1 _ hm; simp only [e] at this; exact absurd this (bs_irrefl _)
      unfold met at *
      simp only [List.filter_cons, strike_other left hne]
      split
      · simp only [List.map_cons]
        exact (ih.cons _).trans (List.Perm.swap _ _ _)
      · exact ih
theorem met_end (left : Lit → Bool) (h : ∀ kl, left kl = false) (l : NM) : met left l = l.map Prod.fst := by
  unfold met
  rw [List.filter_eq_self.2 (fun p _ => by simp [h])]
theorem met_start (fb : Nat → Nat) (l : NM) (hl : NM.Ok l) : met (Maps.has (toD fb l)) l = [] := by
  unfold met
  rw [List.filter_eq_nil_iff.2 (fun p hp => ?_)]
  · rfl
  · rw [toD_has, NM.get_of hl (f := p.2) hp]
    simp
theorem keys_sorted {l : NM} (h : NM.Ok l) : (l.map Prod.fst).Pairwise (fun x y => (decide (x ≤ y)) = true) := by
  unfold NM.Ok at h
  rw [List.pairwise_map]
  exact h.imp fun hab => by simpa using List.le_of_lt hab
/-- The names met, sorted, are the names. -/
theorem sort_met {l : NM} {vis : List BS} (h : NM.Ok l) (hp : vis.Perm (l.map Prod.fst)) : vis.mergeSort (fun x y => decide (x ≤ y)) = l.map Prod.fst := by
  have ht : ∀ a b c : BS, decide (a ≤ b) = true → decide (b ≤ c) = true → decide (a ≤ c) = true := fun a b c h1 h2 => by simp at h1 h2 ⊢; exact List.le_trans h1 h2
  have ho : ∀ a b : BS, (decide (a ≤ b) || decide (b ≤ a)) = true := fun a b => by simp; exact List.le_total a b
  have h1 := List.pairwise_mergeSort ht ho vis
  refine List.Perm.eq_of_pairwise (le := fun x y => decide (x ≤ y) = true) (fun a b _ _ h1 h2 => ?_) h1 (keys_sorted h) ((List.mergeSort_perm vis _).trans hp)
  simp at h1 h2
  exact List.le_antisymm h1 h2
end Go.Proofs.Ytgkpobajafjdeaa

/- slices.Sort of names in a list of one's own. -/
namespace Go.Proofs.Ytgkpobajafjdeaa
open Go.RowKit Go.Maps

/-- The cells of a list of names. -/
def cS (l : List BS) (k : Nat) : Value := .string (str ((l[k]?).getD []))
theorem sorted_world {w : World} {base g n cap k : Nat} {vis srt : List BS} {os : Array Obj} (h : One w base 9 1 (.slice (some ⟨g, 0, none⟩) n cap) n (cS vis)) (hl : srt.length = n) :
    One (Go.Sort.grow (Go.Sort.putRow encStr (Go.Sort.ahead w k) g 0 srt.toArray) os) base 9 1 (.slice (some ⟨g, 0, none⟩) n cap) n (cS srt) ∧ Below base w (Go.Sort.grow (Go.Sort.putRow encStr (Go.Sort.ahead w k) g 0 srt.toArray) os) := by
  have hheap : (Go.Sort.grow (Go.Sort.putRow encStr (Go.Sort.ahead w k) g 0 srt.toArray) os).heap = w.heap.modify g (Go.Sort.onCells (Go.Sort.putCells encStr 0 srt.toArray)) ++ os := rfl
  rcases h with ⟨h1, h2⟩ | ⟨g', cap', cur, h1, h2, h3, h4, h5, h6, h7⟩
  · cases h1
  · injection h1 with e1 _ e3
    injection e1 with e1
    injection e1 with e1
    subst e1 e3
    have hg : g < w.heap.size := lt_of_obj h3
    refine ⟨.inr ⟨g, cap, Go.Sort.putCells encStr 0 srt.toArray cur, rfl, h2, ?_, h4, h5, by simp [Go.Sort.putCells, h6], fun j hj => ?_⟩, ⟨rfl, rfl, rfl, ?_, fun j hj => ?_⟩⟩
    · rw [hheap, Array.getElem?_append_left (by simpa using hg), Array.getElem?_modify, if_pos rfl, h3]
      rfl
    · have hjn : j < n := by omega
      have hjc : j < cur.size := by rw [h6]; omega
      unfold Go.Sort.putCells
      rw [Array.getElem?_mapIdx, Array.getElem?_eq_getElem hjc]
      simp only [Option.map_some, Nat.zero_le, true_and, Nat.zero_add, Nat.sub_zero, List.size_toArray]
      rw [if_pos (by omega)]
      have hjs : j < srt.length := by omega
      unfold cS
      rw [List.getElem?_eq_getElem hjs]
      congr 1
      show Value.string ⟨(srt.toArray[j]!).toArray⟩ = _
      rw [getElem!_pos srt.toArray j (by simpa using hjs)]
      rfl
    · rw [hheap]; simp
    · rw [hheap, Array.getElem?_append_left (by simp; omega), Array.getElem?_modify, if_neg (by omega)]
theorem info_st : (Try.prog.info? 9).map (fun i => (i.zero, i.size, i.bytes)) = some (some (.string ⟨#[]⟩), 1, 16) := by kernel_rfl
theorem cS_old (l : List BS) (x : BS) (k : Nat) (hk : k < l.length) : cS l k = cS (l ++ [x]) k := by
  unfold cS
  rw [List.getElem?_append_left hk]
theorem cS_new (l : List BS) (x : BS) : cS (l ++ [x]) l.length = .string (str x) := by
  unfold cS
  simp
theorem st_fill (x : ByteArray) : Instr.fill (fun i => some (i * 1, 1)) ((Array.range (1 * 1)).map ((Value.string ⟨#[]⟩).cells[· % (Value.string ⟨#[]⟩).cells.size]!)) [(0, .string x)] = some #[.string x] := by kernel_rfl
/-- Append of one name. -/
theorem append_name (w : World) (base ty : Nat) (v0 : Value) (l : List BS) (x : BS) (h0 : One w base 9 1 v0 l.length (cS l)) (hn : l.length ≤ 1000000000) (hbase : base ≤ w.heap.size) :
    ∃ A' cap' w', (Builtin.append_ #[38, 38] ty #[v0, .slice (some ⟨w.heap.size, 0, none⟩) 1 1]).run Try.prog (w.alloc (.cells #[.string (str x)] 9)) = .ok (.slice A' (l.length + 1) cap') w' ∧ One w' base 9 1 (.slice A' (l.length + 1) cap') (l.length + 1) (cS (l ++ [x])) ∧ Below base w w' ∧ (w.alloc (.cells #[.string (str x)] 9)).grownBy w' v0.ownBlock := by
  obtain ⟨k0, hkk, kz0, kz1, kz2⟩ := info_parts info_st
  have hb1 := (Below.refl w.heap.size w).alloc (Nat.le_refl _) (.cells #[.string (str x)] 9)
  have h1 := (h0.same fun g hg => hb1.block g (h0.block hg).2).congr (fun k hk => cS_old l x k (by omega))
  obtain ⟨v', w', r1, r2, r3, _, r5⟩ := run_append_own_at (P := Try.prog) (w := w.alloc (.cells #[.string (str x)] 9)) base 38 ty 9 k0 (.string ⟨#[]⟩) 1 16 Try.underlying38 hkk kz0 kz1 kz2 rfl (by decide) v0 _ _ h1.own ⟨w.heap.size, 0, none⟩ 1 1 [.string (str x)] rfl
    (World.news_of_block (heap_alloc_new w _)) (by intro u hu; simp at hu; subst hu; rfl) (by unfold maxLen; omega) (by omega) (Nat.le_trans hbase hb1.size)
  have e : (List.range (l.length * 1)).map (cS (l ++ [x])) ++ [.string (str x)] = (List.range ((l.length + 1) * 1)).map (cS (l ++ [x])) := by
    rw [show (l.length + 1) * 1 = l.length * 1 + 1 by omega, List.range_succ, List.map_append, Nat.mul_one, List.map_cons, List.map_nil, cS_new]
  rw [e] at r2
  have o2 := One.of r2
  obtain ⟨A', cap', rfl, _⟩ := o2.len2
  exact ⟨A', cap', w', r1, o2, (hb1.mono hbase).trans (below_grown r3 (fun g hg => (h1.block hg).1) (Nat.le_trans hbase hb1.size)), r3⟩
end Go.Proofs.Ytgkpobajafjdeaa

/- disk.sorted, Disk.List. -/
namespace Go.Proofs.Ytgkpobajafjdeaa
open Go.RowKit Go.Maps

theorem One.weak {w : World} {base base' sz n : Nat} {e : TypeId} {v : Value} {c : Nat → Value} (h : One w base e sz v n c) (hb : base' ≤ base) : One w base' e sz v n c := by
  rcases h with k | ⟨g, cap, cur, k1, k2, k3⟩
  · exact .inl k
  · exact .inr ⟨g, cap, cur, k1, by omega, k3⟩
def SortRel (w : World) (b : Nat) (fb : Nat → Nat) (l : NM) (sv : Value) (wr : World) : Prop :=
  ∃ left cnt A cap vis, wr.ranges Try.prog 9 ptrElem b w.heap.size l.length (toD fb l) left cnt ∧ sv = .slice A (List.length vis) cap ∧ One wr (w.heap.size + 1) 9 1 sv (List.length vis) (cS vis) ∧ vis.Perm (met left l) ∧ Below w.heap.size w wr
def SortedEnd (l : NM) (w : World) (e : Ending) (w' : World) : Prop := ∃ A cap, e = .returned (.slice A l.length cap) ∧ One w' w.heap.size 9 1 (.slice A l.length cap) l.length (cS (l.map Prod.fst)) ∧ Below w.heap.size w w'
theorem met_len (left : Lit → Bool) (l : NM) : (met left l).length ≤ l.length := by
  unfold met
  rw [List.length_map]
  exact List.length_filter_le _ _
set_option maxRecDepth 100000 in
set_option maxHeartbeats 2000000 in
theorem sorted_any (w : World) (b : Nat) (fb : Nat → Nat) (l : NM) (hm : MapAt w b fb l) (hok : NM.Ok l) (hl : l.length ≤ 1000000) :
    Calls Try.prog 40 #[.map (some b)] w (SortedEnd l w) := by
  have HM := Lib.hid hm
  have HO := Lib.hid hok
  have HL := Lib.hid hl
  unfold MapAt at hm
  clear hok hl
  go_enter Try.func40, Try.ntmps40
  go_wp2_with (first | (at_range; refine wpList_range_own _ rfl _ 78 rfl 9 72 keyS Try.underlying78 ptrElem b l.length (toD fb l) rfl hm ?_; intro w0 hrg0 hg0 hs0) | go_in)
  go_frame
  go_loopw [3] (fun sv wr => SortRel w b fb l sv wr) (fun _ wr => wr.rangeLeft b w.heap.size)
  case atStart => exact ⟨_, _, none, 0, [], hrg0, rfl, .inl ⟨rfl, rfl⟩, by rw [met_start fb l HO.out], (Below.refl w.heap.size w).grown hg0 (Nat.le_refl _) (fun q hq => by cases hq)⟩
  case round =>
    clear hrg0 hg0 hs0 hm
    obtain ⟨left, cnt, A, cap, vis, hrg, rfl, hone, hp, hb⟩ := hrel
    have HB := Lib.hid hb
    have HP := Lib.hid hp
    have HONE := Lib.hid hone
    have HVL := Lib.hid (Nat.le_trans (Nat.le_of_eq hp.length_eq) (met_len left l))
    clear hb hp hone
    go_wp2_with (first | (at_next; refine wpList_next_names _ rfl _ rfl b w.heap.size _ fb l left cnt rfl hrg ?_ ?_) | go_in)
    · intro hl0
      have he := met_end left hl0 l
      have hpp := HP.out
      rw [he] at hpp
      have hvl : List.length vis = l.length := by rw [hpp.length_eq, List.length_map]
      have hsrt := sort_met HO.out hpp
      have HVE := Lib.hid hvl
      have HSR := Lib.hid hsrt
      clear he hpp hrg hl0 hvl hsrt
      rcases Nat.eq_zero_or_pos (List.length vis) with h0 | h0
      · have hnone := fun w1 => Try.slices_Sort_string_none A cap w1
        have HNONE := Lib.hid hnone
        have HZ := Lib.hid h0
        rw [h0]
        clear h0 hnone
        go_wp2_with (go_at_call 53; (with_reducible refine (HNONE.out _).mono ?_); rintro e w1 ⟨rfl, rfl⟩)
        go_ret
        have hl0 : l.length = 0 := by rw [← HVE.out]; exact HZ.out
        obtain rfl : l = [] := List.eq_nil_of_length_eq_zero hl0
        have ho := HONE.out
        rw [HZ.out] at ho
        exact ⟨A, cap, rfl, (ho.weak (Nat.le_succ _)).congr (fun k hk => by omega), HB.out⟩
      · obtain ⟨g, cap', e, _⟩ := HONE.out.pos h0
        injection e with e1 _ e3
        subst e1 e3
        have HH0 := Lib.hid h0
        have hholds : Go.Sort.Holds encStr wr g 0 vis.toArray := fun j hj => by
          have hj' : j < List.length vis := by simpa using hj
          obtain ⟨g', e, hc⟩ := HONE.out.getN (k := j) HH0.out (by omega)
          injection e with e
          injection e with e
          subst e
          refine ⟨?_, ?_⟩
          · rw [Nat.zero_add, hc, getElem!_pos vis.toArray j (by simpa using hj')]
            unfold cS
            rw [List.getElem?_eq_getElem hj']
            rfl
          · rcases HONE.out with ⟨q, _⟩ | ⟨g2, c2, cur, q, _, q3, _⟩
            · cases q
            · injection q with q
              injection q with q
              injection q with q
              subst q
              exact free_of_obj q3 _
        have hgl : g < wr.heap.size := (HONE.out.block rfl).2
        have hsort := Try.slices_Sort_string g 0 cap vis wr hholds hgl (by have := HVL.out; have := HL.out; omega)
        have HS := Lib.hid hsort
        clear hholds hgl hsort h0
        go_wp2_with (go_at_call 53; (with_reducible refine HS.out.mono ?_); rintro e w1 ⟨rfl, kk, os, rfl⟩)
        go_ret
        rw [HSR.out]
        have hll : (l.map Prod.fst).length = List.length vis := by rw [List.length_map]; exact HVE.out.symm
        obtain ⟨s1, s2⟩ := sorted_world (k := kk) (os := os) HONE.out hll
        refine ⟨some ⟨g, 0, none⟩, cap, by rw [← HVE.out]; rfl, ?_, HB.out.trans (s2.mono (Nat.le_succ _))⟩
        rw [← HVE.out]
        exact s1.weak (Nat.le_succ _)
    · intro m f w' cnt' hmem hlm hsz hrg1 hlt hgr hs1 hen
      have hstep := met_step left hlm HO.out hmem
      have HPN := Lib.hid (((List.perm_append_singleton m vis).trans (HP.out.cons m)).trans hstep.symm)
      have hne : ∀ g, (Value.slice A (List.length vis) cap).ownBlock = some g → g ≠ w.heap.size := fun g hg => by have := (HONE.out.block hg).1; omega
      have hone' := HONE.out.same (w1 := w') fun g hg => hgr.block g (HONE.out.block hg).2 (fun e => hne g hg (by injection e with e; first | done | exact e.symm))
      obtain ⟨A', cap', w4, hr4, o4, B4, g4⟩ := append_name w' (w.heap.size + 1) 38 _ vis m hone' (by have := HVL.out; have := HL.out; omega) hrg1.lt
      have hbl : b < w.heap.size := HM.out.lt
      have hrg4 := (hrg1.alloc (.cells #[.string (str m)] 9)).kept g4 (fun e => by have := (HONE.out.block e.symm).1; omega) (fun e => hne _ e.symm rfl)
      have hb' := (grown_row HB.out hgr (Nat.le_refl _)).trans (B4.mono (Nat.le_succ _))
      obtain ⟨k0, hkk, kz0, kz1, kz2⟩ := info_parts info_st
      have HE := Lib.hid hrg.left_eq
      have HRG := Lib.hid hrg4
      have HR4 := Lib.hid hr4
      have HO4 := Lib.hid o4
      have HB4 := Lib.hid hb'
      have HLT := Lib.hid hlt
      clear hr4 o4 B4 g4 hrg4 hb' hone' hne hrg hrg1 hlt hgr hs1 hsz hlm hmem hstep hbl
      go_wp2_with (first
        | (refine wpList_buildSlice rfl 38 9 1 #[(0, .tmp 12)] rfl #[.string (str m)] k0 (.string ⟨#[]⟩) Try.underlying38 hkk kz0 (by rw [kz1]; decide) (by rw [kz1]; decide) (by rw [kz1]; refine Eq.trans (congrArg (Instr.fill _ _) ?_) (st_fill (str m)); simp only [List.map_toArray, List.map_cons, List.map_nil, Act.eval]; rfl) ?_)
        | (refine wpList_append_by (vs := .slice A (List.length vis) cap) (vx := .slice (some ⟨w'.heap.size, 0, none⟩) 1 1) rfl (.tmp 11) (.tmp 13) 38 rfl rfl rfl HR4.out ?_))
      exact ⟨⟨strikeL left m, cnt', A', cap', vis ++ [m], HRG.out, by rw [List.length_append]; rfl, by rw [List.length_append]; exact HO4.out, HPN.out, HB4.out⟩, by rw [HRG.out.left_eq, HE.out]; exact HLT.out⟩
/-- What List tells. -/
def ListEnd (d : DM) (w : World) (e : Ending) (w' : World) : Prop :=
  ∃ A cap, e = .returned (.tuple #[.slice A (if d.off then [] else d.names).length cap, .int .i64 (toldN d.off)]) ∧ One w' w.heap.size 9 1 (.slice A (if d.off then [] else d.names).length cap) (if d.off then [] else d.names).length (cS ((if d.off then [] else d.names).map Prod.fst)) ∧ Below w.heap.size w w'
set_option maxRecDepth 100000 in
theorem list_any (w : World) (base i D bN bS : Nat) (ρ : Nat → Nat) (d : DM) (fb : Nat → Nat) (chv : Value) (h : DiskD w base ρ i D d fb bN bS chv) (hok : NM.Ok d.names) (hl : d.names.length ≤ 1000000) :
    Calls Try.prog 16 #[.pointer (some ⟨D, 0, none⟩)] w (ListEnd d w) := by
  have c1 := h.cell 1
  have c2 := h.cell 2
  simp only [diskC, List.getElem?_toArray, List.getElem?_cons_zero, List.getElem?_cons_succ] at c1 c2
  have hs := sorted_any w bN fb d.names h.names hok hl
  have HS := Lib.hid hs
  unfold ListEnd
  obtain ⟨so, hso⟩ : ∃ so, d.off = so := ⟨_, rfl⟩
  rw [hso] at c1 ⊢
  clear h hok hl hs hso
  cases so with
  | true =>
    go_enter Try.func16, Try.ntmps16
    go_wp2
    go_ret2
    exact ⟨none, 0, rfl, .inl ⟨rfl, rfl⟩, Below.refl _ _⟩
  | false =>
    go_enter Try.func16, Try.ntmps16
    go_wp2_with (go_at_call 40; (with_reducible refine HS.out.mono ?_); rintro e w1 ⟨A, cap, rfl, ho, hb⟩)
    go_ret2
    exact ⟨A, cap, rfl, ho, hb⟩
end Go.Proofs.Ytgkpobajafjdeaa

/- Crash's picks: the closure that takes the next one. -/
namespace Go.Proofs.Ytgkpobajafjdeaa
open Go.RowKit Go.Maps

/-- The picks that are left, in the box that the closure holds. -/
def PicksAt (w : World) (B g : Nat) (ps : List Int) : Prop :=
  ∃ A cap, w.heap[g]? = some (.cells #[.slice A ps.length cap] 23 (0, 0)) ∧ ps.length ≤ cap ∧ ∀ (k : Nat) (p : Int), ps[k]? = some p → ∃ pb off, A = some ⟨pb, off, none⟩ ∧ pb ≠ g ∧ pb < B ∧ w.cell? ⟨pb, off + k, none⟩ = some (.int .i64 p)
theorem pick_law (p : Int) (n : Nat) : (if p.tmod ((n : Int) + 1) < 0 then p.tmod ((n : Int) + 1) + ((n : Int) + 1) else p.tmod ((n : Int) + 1)) = (((p % ((n : Int) + 1)).toNat : Nat) : Int) := by
  have h0 : 0 < (n : Int) + 1 := by omega
  have h1 := Int.emod_nonneg p (b := (n : Int) + 1) (by omega)
  rw [Int.toNat_of_nonneg h1]
  rcases Int.lt_or_le p 0 with hp | hp
  · have h2 := Int.tmod_eq_emod (a := p) (b := (n : Int) + 1)
    have h3 := Int.emod_lt_of_pos p h0
    rw [h2]
    split <;> split <;> first | omega | skip
    all_goals simp_all
    all_goals omega
  · rw [Int.tmod_eq_emod_of_nonneg hp]
    rw [if_neg (by omega)]
def NextEnd (B g : Nat) (ps : List Int) (n : Nat) (w : World) (e : Ending) (w' : World) : Prop :=
  e = .returned (.int .i64 (pickN ps n : Nat)) ∧ PicksAt w' B g ps.tail ∧ (w' = w ∨ ∃ v, w' = w.setCell ⟨g, 0, none⟩ v)
theorem PicksAt.tail {w : World} {B g cap : Nat} {p : Int} {r : List Int} {A : Option Addr} (hob : w.heap[g]? = some (.cells #[.slice A (r.length + 1) cap] 23 (0, 0))) (hcap : r.length + 1 ≤ cap) (hc : ∀ (k : Nat) (q : Int), (p :: r)[k]? = some q → ∃ pb off, A = some ⟨pb, off, none⟩ ∧ pb ≠ g ∧ pb < B ∧ w.cell? ⟨pb, off + k, none⟩ = some (.int .i64 q)) :
    PicksAt (w.setCell ⟨g, 0, none⟩ (.slice (if cap = 1 then A else A.map (·.add 1)) r.length (cap - 1))) B g r := by
  have hO := OnlyB.set (OnlyB.refl hob) (lt_of_obj hob) 0 (.slice (if cap = 1 then A else A.map (·.add 1)) r.length (cap - 1))
  refine ⟨_, _, hO.at_ (lt_of_obj hob), by omega, fun k q hk => ?_⟩
  obtain ⟨pb, off, e, hne, hlt, hcell⟩ := hc (k + 1) q (by simpa using hk)
  have hr : r.length ≠ 0 := fun h => by rw [List.eq_nil_of_length_eq_zero h] at hk; simp at hk
  refine ⟨pb, off + 1, by rw [if_neg (by omega), e]; rfl, hne, hlt, ?_⟩
  rw [show off + 1 + k = off + (k + 1) by omega]
  rw [World.cell?_setCell_far _ _ _ _ (fun e => hne e.symm)]
  exact hcell
set_option maxRecDepth 100000 in
set_option maxHeartbeats 1000000 in
theorem next_any (w : World) (B g n : Nat) (ps : List Int) (h : PicksAt w B g ps) (hn : n ≤ 1000000000000) :
    Calls Try.prog 44 #[.int .i64 (n : Int), .pointer (some ⟨g, 0, none⟩)] w (NextEnd B g ps n w) := by
  have HP := Lib.hid h
  obtain ⟨A, cap, hob, hcap, hc⟩ := h
  have c0 := cell_of_obj hob 0
  have f0 := free_of_obj hob 0
  simp only [List.getElem?_toArray, List.getElem?_cons_zero] at c0
  cases ps with
  | nil =>
    simp only [List.length_nil] at c0
    clear hob hcap hc hn
    go_enter Try.func44, Try.ntmps44
    go_wp2
    go_ret
    exact ⟨rfl, HP.out, .inl rfl⟩
  | cons p r =>
    simp only [List.length_cons] at c0 hob hcap
    have ht := PicksAt.tail hob hcap hc
    obtain ⟨pb, off, rfl, hne, hlt, hcell⟩ := hc 0 p rfl
    have hsl : ∀ w', (Instr.slice 23 (.slice (some ⟨pb, off, none⟩) (r.length + 1) cap) (some (.int .i64 1)) none none).run Try.prog w' = .ok (.slice (if cap = 1 then some ⟨pb, off, none⟩ else (some ⟨pb, off, none⟩ : Option Addr).map (·.add 1)) r.length (cap - 1)) w' := fun w' => by
      rw [run_slice_l w' 23 (some ⟨pb, off, none⟩) (r.length + 1) cap Try.underlying23 .i64 1 (by omega) (by omega)]
      have hz : ((sizeOf (Try.prog.elem 23)).run Try.prog w') = .ok 1 w' := by kernel_rfl
      rw [hz]
      rfl
    obtain ⟨A1, hA1⟩ : ∃ A1, (if cap = 1 then some ⟨pb, off, none⟩ else (some ⟨pb, off, none⟩ : Option Addr).map (·.add 1)) = A1 := ⟨_, rfl⟩
    obtain ⟨c1, hc1⟩ : ∃ c1, cap - 1 = c1 := ⟨_, rfl⟩
    obtain ⟨L, hL⟩ : ∃ L, r.length = L := ⟨_, rfl⟩
    simp only [hA1, hc1, hL] at ht hsl c0
    have hz0 : ((L : Int) + 1 == 0) = false := by simp; omega
    have hw : wrap64 ((n : Int) + 1) = (n : Int) + 1 := by unfold wrap64; omega
    have hnz : (((n : Int) + 1) == 0) = false := by simp; omega
    have hpl := pick_law p n
    obtain ⟨x, hx⟩ : ∃ x, p.tmod ((n : Int) + 1) = x := ⟨_, rfl⟩
    rw [hx] at hpl
    have HT := Lib.hid ht
    have HPL := Lib.hid hpl
    rw [Nat.add_zero] at hcell
    clear hob hcap hc hne hlt hA1 hc1 hL ht hpl HP
    have HX := Lib.hid hx
    have hxl : x < 0 → wrap64 (x + ((n : Int) + 1)) = x + ((n : Int) + 1) := fun h0 => by
      have h1 : -((n : Int) + 1) < x := by
        rw [← HX.out]
        have := Int.lt_tmod_of_pos p (b := (n : Int) + 1) (by omega)
        omega
      unfold wrap64
      omega
    rcases Int.lt_or_le x 0 with h0 | h0
    · have t0 : decide (x < 0) = true := by simpa using h0
      have hw2 := hxl h0
      have HPN : Hid (wrap64 (x + ((n : Int) + 1)) = ((pickN (p :: r) n : Nat) : Int)) := Lib.hid (by rw [hw2]; have := HPL.out; rw [if_pos h0] at this; exact this)
      clear hn hxl h0
      go_enter Try.func44, Try.ntmps44
      go_wp2
      go_ret
      exact ⟨by rw [← HPN.out]; rfl, HT.out, .inr ⟨_, rfl⟩⟩
    · have t0 : decide (x < 0) = false := by simpa using h0
      have HPN : Hid (x = ((pickN (p :: r) n : Nat) : Int)) := Lib.hid (by have := HPL.out; rw [if_neg (by omega)] at this; exact this)
      clear hn hxl h0
      go_enter Try.func44, Try.ntmps44
      go_wp2
      go_ret
      exact ⟨by rw [← HPN.out]; rfl, HT.out, .inr ⟨_, rfl⟩⟩
end Go.Proofs.Ytgkpobajafjdeaa

/- A map copied by a range: the part of the names that is copied. Of no program but for the map's datum. -/
namespace Go.Proofs.Ytgkpobajafjdeaa
open Go.RowKit Go.Maps

theorem NM.ext_mem {l m : NM} (h : NM.Ok l) (k : NM.Ok m) (he : ∀ p, p ∈ l ↔ p ∈ m) : l = m := by
  refine NM.ext h k fun n => ?_
  cases hg : NM.get l n with
  | some f => exact (NM.get_of k ((he _).1 (NM.get_mem hg))).symm
  | none =>
    have h1 := NM.get_none.1 hg
    exact (NM.get_none.2 fun p hp => h1 p ((he p).2 hp)).symm
/-- The names that are no more left. -/
def metL (left : Lit → Bool) (l : NM) : NM := l.filter fun p => !left (.string p.1)
theorem metL_ok (left : Lit → Bool) {l : NM} (h : NM.Ok l) : NM.Ok (metL left l) := List.Pairwise.filter _ h
theorem mem_metL {left : Lit → Bool} {l : NM} {p : BS × Nat} : p ∈ metL left l ↔ p ∈ l ∧ left (.string p.1) = false := by simp [metL]
theorem put_met (left : Lit → Bool) {m : BS} {f : Nat} {l : NM} (h : NM.Ok l) (hm : (m, f) ∈ l) : NM.put (metL left l) m f = metL (strikeL left m) l := by
  refine NM.ext_mem ((metL_ok left h).put m f) (metL_ok _ h) fun p => ?_
  rw [NM.mem_put, mem_metL, mem_metL]
  by_cases hp : p.1 = m
  · rw [hp, strike_same]
    constructor
    · rintro (e | ⟨_, e⟩)
      · exact ⟨by rw [e]; exact hm, rfl⟩
      · exact absurd rfl e
    · rintro ⟨h1, _⟩
      exact .inl (h.one h1 hm hp)
  · rw [strike_other left hp]
    constructor
    · rintro (e | ⟨h1, _⟩)
      · exact absurd (by rw [e]) hp
      · exact h1
    · exact fun h1 => .inr ⟨h1, hp⟩
theorem metL_end (left : Lit → Bool) (h : ∀ kl, left kl = false) (l : NM) : metL left l = l := by
  unfold metL
  rw [List.filter_eq_self.2 (fun p _ => by simp [h])]
theorem metL_start (fb : Nat → Nat) (l : NM) (hl : NM.Ok l) : metL (Maps.has (toD fb l)) l = [] := by
  unfold metL
  rw [List.filter_eq_nil_iff.2 (fun p hp => ?_)]
  rw [toD_has, NM.get_of hl (f := p.2) hp]
  simp
/-- The pick is in range. -/
theorem pickN_le (ps : List Int) (n : Nat) : pickN ps n ≤ n := by
  cases ps with
  | nil => exact Nat.zero_le _
  | cons p r =>
    have h1 := Int.emod_lt_of_pos p (b := (n : Int) + 1) (by omega)
    have h2 := Int.emod_nonneg p (b := (n : Int) + 1) (by omega)
    show (p % ((n : Int) + 1)).toNat ≤ n
    omega
/-- Replaying one unit more. -/
theorem replay_more {l : BS} {us : List Un} {k : Nat} {u : Un} (h : us[k]? = some u) : replay l (us.take (k + 1)) = (replay l (us.take k) |> fun x => Un.on x u) := by
  unfold replay
  rw [List.take_add_one, h]
  simp
end Go.Proofs.Ytgkpobajafjdeaa

/- What a crash leaves, name by name. Of no program. -/
namespace Go.Proofs.Ytgkpobajafjdeaa

theorem crashL_more (file : Nat → FM) {n : BS} {f : Nat} : ∀ {l : NM} {j : Nat} (ps : List Int), l[j]? = some (n, f) → crashL file (l.take (j + 1)) ps = crashL file (l.take j) ps ++ [(n, (file f).left (pickN (ps.drop j) (file f).units.length))]
  | [], _, _, h => by simp at h
  | (m, g) :: r, 0, ps, h => by
    simp at h
    obtain ⟨rfl, rfl⟩ := h
    rfl
  | (m, g) :: r, j + 1, ps, h => by
    have ih := crashL_more file (l := r) (j := j) ps.tail (by simpa using h)
    have e : (ps.drop (j + 1)) = ps.tail.drop j := by cases ps <;> simp
    rw [List.take_succ_cons, List.take_succ_cons]
    show (m, _) :: crashL file (r.take (j + 1)) ps.tail = ((m, _) :: crashL file (r.take j) ps.tail) ++ _
    rw [ih, e]
    rfl
theorem tail_drop (ps : List Int) (j : Nat) : (ps.drop j).tail = ps.drop (j + 1) := by simp
end Go.Proofs.Ytgkpobajafjdeaa

/- A list of files with their bytes, in memory; append of one. -/
namespace Go.Proofs.Ytgkpobajafjdeaa
open Go.RowKit Go.Maps

/-- The cells of a list of names with values. -/
def cI (l : List (BS × Value)) (k : Nat) : Value := if k % 2 = 0 then .string (str (((l[k / 2]?).map Prod.fst).getD [])) else ((l[k / 2]?).map Prod.snd).getD (.slice none 0 0)
theorem info_fb : (Try.prog.info? 28).map (fun i => (i.zero, i.size, i.bytes)) = some (some (.agg #[.string ⟨#[]⟩, .slice none 0 0]), 2, 40) := by kernel_rfl
theorem cI_old (l : List (BS × Value)) (x : BS × Value) (k : Nat) (hk : k < l.length * 2) : cI l k = cI (l ++ [x]) k := by
  unfold cI
  rw [List.getElem?_append_left (by omega)]
theorem cI_new0 (l : List (BS × Value)) (x : BS × Value) : cI (l ++ [x]) (l.length * 2) = .string (str x.1) := by
  unfold cI
  rw [show l.length * 2 / 2 = l.length by omega, if_pos (by omega)]
  simp
theorem cI_new1 (l : List (BS × Value)) (x : BS × Value) : cI (l ++ [x]) (l.length * 2 + 1) = x.2 := by
  unfold cI
  rw [show (l.length * 2 + 1) / 2 = l.length by omega, if_neg (by omega)]
  simp
theorem fb_fill (x : ByteArray) (A : Option Addr) (n c : Nat) : Instr.fill (fun i => some (i * 2, 2)) ((Array.range (1 * 2)).map ((Value.agg #[.string ⟨#[]⟩, .slice none 0 0]).cells[· % (Value.agg #[.string ⟨#[]⟩, .slice none 0 0]).cells.size]!)) [(0, .agg #[.string x, .slice A n c])] = some #[.string x, .slice A n c] := by kernel_rfl
/-- Append of one. -/
theorem append_img (w : World) (base ty : Nat) (v0 : Value) (l : List (BS × Value)) (x : BS) (A : Option Addr) (n c : Nat) (h0 : One w base 28 2 v0 l.length (cI l)) (hn : l.length ≤ 1000000000) (hbase : base ≤ w.heap.size) :
    ∃ A' cap' w', (Builtin.append_ #[22, 22] ty #[v0, .slice (some ⟨w.heap.size, 0, none⟩) 1 1]).run Try.prog (w.alloc (.cells #[.string (str x), .slice A n c] 28)) = .ok (.slice A' (l.length + 1) cap') w' ∧ One w' base 28 2 (.slice A' (l.length + 1) cap') (l.length + 1) (cI (l ++ [(x, .slice A n c)])) ∧ Below base w w' ∧ (w.alloc (.cells #[.string (str x), .slice A n c] 28)).grownBy w' v0.ownBlock := by
  obtain ⟨k0, hkk, kz0, kz1, kz2⟩ := info_parts info_fb
  have hb1 := (Below.refl w.heap.size w).alloc (Nat.le_refl _) (.cells #[.string (str x), .slice A n c] 28)
  have h1 := (h0.same fun g hg => hb1.block g (h0.block hg).2).congr (fun k hk => cI_old l (x, .slice A n c) k hk)
  obtain ⟨v', w', r1, r2, r3, _, r5⟩ := run_append_own_at (P := Try.prog) (w := w.alloc (.cells #[.string (str x), .slice A n c] 28)) base 22 ty 28 k0 (.agg #[.string ⟨#[]⟩, .slice none 0 0]) 2 40 Try.underlying22 hkk kz0 kz1 kz2 rfl (by decide) v0 _ _ h1.own ⟨w.heap.size, 0, none⟩ 1 1 [.string (str x), .slice A n c] rfl
    (World.news_of_block (heap_alloc_new w _)) (by intro u hu; simp at hu; rcases hu with rfl | rfl <;> rfl) (by unfold maxLen; omega) (by omega) (Nat.le_trans hbase hb1.size)
  have e : (List.range (l.length * 2)).map (cI (l ++ [(x, .slice A n c)])) ++ [.string (str x), .slice A n c] = (List.range ((l.length + 1) * 2)).map (cI (l ++ [(x, .slice A n c)])) := by
    rw [show (l.length + 1) * 2 = l.length * 2 + 1 + 1 by omega, List.range_succ, List.range_succ]
    simp only [List.map_append, List.map_cons, List.map_nil, List.append_assoc, List.cons_append, List.nil_append, cI_new0, cI_new1]
  rw [e] at r2
  have o2 := One.of r2
  obtain ⟨A', cap', rfl, _⟩ := o2.len2
  exact ⟨A', cap', w', r1, o2, (hb1.mono hbase).trans (below_grown r3 (fun g hg => (h1.block hg).1) (Nat.le_trans hbase hb1.size)), r3⟩
/-- The list of an image: each entry's bytes in a block of their own. -/
def ImgAt (w : World) (base : Nat) (sv : Value) (img : List (BS × BS)) : Prop :=
  ∃ l : List (BS × Value), One w base 28 2 sv l.length (cI l) ∧ l.length = img.length ∧ ∀ (k : Nat) (x : BS × BS), img[k]? = some x → ∃ v, l[k]? = some (x.1, v) ∧ One w base 5 1 v x.2.length (cB x.2)
/-- Lists of two kinds lie in two blocks. -/
theorem One.apart {w : World} {base base' sz sz' n n' : Nat} {e e' : TypeId} {v v' : Value} {c c' : Nat → Value} (h : One w base e sz v n c) (k : One w base' e' sz' v' n' c') (he : e ≠ e') : ∀ g, v.ownBlock = some g → v'.ownBlock ≠ some g := fun g hg hg' => by
  rcases h with ⟨rfl, _⟩ | ⟨g1, c1, cur1, rfl, _, q1, _⟩
  · simp [Value.ownBlock] at hg
  · rcases k with ⟨rfl, _⟩ | ⟨g2, c2, cur2, rfl, _, q2, _⟩
    · simp [Value.ownBlock] at hg'
    · simp [Value.ownBlock] at hg hg'
      subst hg hg'
      rw [q1] at q2
      injection q2 with q2
      injection q2 with _ q2
      exact he q2
theorem ImgAt.more (w : World) (base ty : Nat) (sv : Value) (img : List (BS × BS)) (h : ImgAt w base sv img) (x bs : BS) (A : Option Addr) (n c : Nat) (hb : One w base 5 1 (.slice A n c) bs.length (cB bs)) (hn : img.length ≤ 1000000000) (hbase : base ≤ w.heap.size) :
    ∃ A' cap' w', (Builtin.append_ #[22, 22] ty #[sv, .slice (some ⟨w.heap.size, 0, none⟩) 1 1]).run Try.prog (w.alloc (.cells #[.string (str x), .slice A n c] 28)) = .ok (.slice A' (img.length + 1) cap') w' ∧ ImgAt w' base (.slice A' (img.length + 1) cap') (img ++ [(x, bs)]) ∧ Below base w w' ∧ (w.alloc (.cells #[.string (str x), .slice A n c] 28)).grownBy w' sv.ownBlock := by
  obtain ⟨l, h1, h2, h3⟩ := h
  obtain ⟨A', cap', w', r1, r2, r3, r4⟩ := append_img w base ty sv l x A n c h1 (by omega) hbase
  have hb1 := (Below.refl w.heap.size w).alloc (Nat.le_refl _) (.cells #[.string (str x), .slice A n c] 28)
  have keep : ∀ {v : Value} {m : Nat} {cc : Nat → Value}, One w base 5 1 v m cc → One w' base 5 1 v m cc := fun {v m cc} ho => ho.same fun g hg => (r4.block g (Nat.lt_of_lt_of_le (ho.block hg).2 hb1.size) (fun e => ho.apart h1 (by decide) g hg e.symm)).trans (hb1.block g (ho.block hg).2)
  rw [h2] at r1 r2
  refine ⟨A', cap', w', r1, ⟨l ++ [(x, .slice A n c)], ?_, by simp [h2], fun k y hk => ?_⟩, r3, r4⟩
  · rw [List.length_append, h2]
    exact r2
  · rcases Nat.lt_or_ge k img.length with hl | hl
    · rw [List.getElem?_append_left hl] at hk
      obtain ⟨v, e, ho⟩ := h3 k y hk
      exact ⟨v, by rw [List.getElem?_append_left (by omega)]; exact e, keep ho⟩
    · have hk2 : k = img.length := by
        have := (List.getElem?_eq_some_iff.1 hk).1
        simp at this
        omega
      subst hk2
      simp at hk
      subst hk
      exact ⟨.slice A n c, by rw [← h2]; simp, keep hb⟩
theorem ImgAt.below {w w' : World} {base : Nat} {sv : Value} {img : List (BS × BS)} (h : ImgAt w base sv img) (hb : Below w.heap.size w w') : ImgAt w' base sv img := by
  obtain ⟨l, h1, h2, h3⟩ := h
  refine ⟨l, h1.same fun g hg => hb.block g (h1.block hg).2, h2, fun k y hk => ?_⟩
  obtain ⟨v, e, ho⟩ := h3 k y hk
  exact ⟨v, e, ho.same fun g hg => hb.block g (ho.block hg).2⟩
end Go.Proofs.Ytgkpobajafjdeaa

/- Append of one byte; the inner loop of Crash: what is replayed. -/
namespace Go.Proofs.Ytgkpobajafjdeaa
open Go.RowKit Go.Maps

theorem byte_fill (x : Int) : Instr.fill (fun i => some (i * 1, 1)) ((Array.range (1 * 1)).map ((Value.int .u8 0).cells[· % (Value.int .u8 0).cells.size]!)) [(0, .int .u8 x)] = some #[.int .u8 x] := by kernel_rfl
theorem append_byte (w : World) (base ty : Nat) (v0 : Value) (x : BS) (b : UInt8) (h0 : One w base 5 1 v0 x.length (cB x)) (hn : x.length ≤ 140737488351232) (hbase : base ≤ w.heap.size) :
    ∃ A' cap' w', (Builtin.append_ #[26, 26] ty #[v0, .slice (some ⟨w.heap.size, 0, none⟩) 1 1]).run Try.prog (w.alloc (.cells #[.int .u8 (b.toNat : Nat)] 5)) = .ok (.slice A' (x.length + 1) cap') w' ∧ One w' base 5 1 (.slice A' (x.length + 1) cap') (x ++ [b]).length (cB (x ++ [b])) ∧ Below base w w' := by
  have hb1 := (Below.refl w.heap.size w).alloc (Nat.le_refl _) (.cells #[.int .u8 (b.toNat : Nat)] 5)
  have h1 := h0.same fun g hg => hb1.block g (h0.block hg).2
  have hs : SrcAt (w.alloc (.cells #[.int .u8 (b.toNat : Nat)] 5)) (some ⟨w.heap.size, 0, none⟩) [b] := fun _ => by
    refine ⟨_, rfl, fun j v hj => ?_⟩
    rcases j with _ | j
    · simp at hj
      subst hj
      simp [Addr.add, byteV]
    · simp at hj
  obtain ⟨v', w', r1, r2, r3, r4⟩ := append_bytes _ base ty v0 x h1 _ 1 [b] hs (fun h => by cases h) (by simp; omega) (Nat.le_trans hbase hb1.size)
  obtain ⟨A', cap', rfl, _⟩ := r2.len2
  rw [List.length_append] at r1
  exact ⟨A', cap', w', r1, by simpa using r2, (hb1.mono hbase).trans (below_grown r3 (fun g hg => (h1.block hg).1) (Nat.le_trans hbase hb1.size))⟩
end Go.Proofs.Ytgkpobajafjdeaa

/- A file's own law: what is seen is what is safe with all units carried out, and each cut fits. Of no program. -/
namespace Go.Proofs.Ytgkpobajafjdeaa

structure FM.Ok (f : FM) : Prop where
  seen : f.seen = replay f.kept f.units
  cuts : ∀ (k n : Nat), f.units[k]? = some (.cut n) → n ≤ (replay f.kept (f.units.take k)).length
theorem replay_append (l : BS) (us vs : List Un) : replay l (us ++ vs) = replay (replay l us) vs := List.foldl_append
theorem replay_apps (l b : BS) : replay l (b.map Un.app) = l ++ b := by
  induction b generalizing l with
  | nil => simp [replay]
  | cons x r ih =>
    show replay (l ++ [x]) (r.map Un.app) = _
    rw [ih]
    simp
theorem FM.Ok.empty : FM.Ok ⟨[], [], []⟩ := ⟨rfl, fun k n h => by simp at h⟩
theorem FM.Ok.add {f : FM} (h : f.Ok) (b : BS) : FM.Ok ⟨f.kept, f.units ++ b.map Un.app, f.seen ++ b⟩ := by
  refine ⟨by show f.seen ++ b = replay f.kept (f.units ++ b.map Un.app); rw [replay_append, replay_apps, h.seen], fun k n hk => ?_⟩
  rcases Nat.lt_or_ge k f.units.length with hl | hl
  · have hk' : f.units[k]? = some (.cut n) := by rw [← hk]; exact (List.getElem?_append_left hl).symm
    show n ≤ (replay f.kept ((f.units ++ b.map Un.app).take k)).length
    rw [List.take_append_of_le_length (Nat.le_of_lt hl)]
    exact h.cuts k n hk'
  · have hk' : (b.map Un.app)[k - f.units.length]? = some (.cut n) := by rw [← hk]; exact (List.getElem?_append_right hl).symm
    rw [List.getElem?_map] at hk'
    cases hb : b[k - f.units.length]? with
    | none => rw [hb] at hk'; cases hk'
    | some x => rw [hb] at hk'; cases hk'
theorem FM.Ok.cut {f : FM} (h : f.Ok) {n : Nat} (hn : n ≤ f.seen.length) : FM.Ok ⟨f.kept, f.units ++ [.cut n], f.seen.take n⟩ := by
  refine ⟨by show f.seen.take n = replay f.kept (f.units ++ [Un.cut n]); rw [replay_append, ← h.seen]; rfl, fun k m hk => ?_⟩
  show m ≤ (replay f.kept ((f.units ++ [Un.cut n]).take k)).length
  rcases Nat.lt_or_ge k f.units.length with hl | hl
  · have hk' : f.units[k]? = some (.cut m) := by rw [← hk]; exact (List.getElem?_append_left hl).symm
    rw [List.take_append_of_le_length (Nat.le_of_lt hl)]
    exact h.cuts k m hk'
  · have hk' : [Un.cut n][k - f.units.length]? = some (.cut m) := by rw [← hk]; exact (List.getElem?_append_right hl).symm
    have hk0 : k = f.units.length := by
      have := (List.getElem?_eq_some_iff.1 hk').1
      simp at this
      omega
    subst hk0
    simp at hk'
    subst hk'
    rw [List.take_left, ← h.seen]
    exact hn
theorem FM.Ok.sync {f : FM} : FM.Ok ⟨f.seen, [], f.seen⟩ := ⟨rfl, fun k n h => by simp at h⟩
end Go.Proofs.Ytgkpobajafjdeaa

/- The disk's own law: what is always true of it, and how it is kept by each call. Of no program. -/
namespace Go.Proofs.Ytgkpobajafjdeaa

/-- A list of names that a disk may have. -/
structure NM.Good (n : Nat) (l : NM) : Prop where
  ok : NM.Ok l
  len : l.length ≤ 64
  fair : ∀ p ∈ l, fairB p.1 = true
  idx : ∀ p ∈ l, p.2 < n
  inj : ∀ p ∈ l, ∀ q ∈ l, p.2 = q.2 → p = q
theorem NM.Good.mono {n m : Nat} {l : NM} (h : NM.Good n l) (hm : n ≤ m) : NM.Good m l := ⟨h.ok, h.len, h.fair, fun p hp => Nat.lt_of_lt_of_le (h.idx p hp) hm, h.inj⟩
theorem NM.Good.nil (n : Nat) : NM.Good n [] := ⟨List.Pairwise.nil, Nat.zero_le _, fun _ h => by simp at h, fun _ h => by simp at h, fun _ h => by simp at h⟩
theorem NM.Good.makes {n f : Nat} {l : NM} {m : BS} (h : NM.Good n l) (hl : l.length < 64) (hm : fairB m = true) (hf : f < n) (hu : ∀ p ∈ l, p.2 ≠ f) : NM.Good n (NM.put l m f) := by
  refine ⟨h.ok.put m f, Nat.le_trans (length_put l m f) hl, fun p hp => ?_, fun p hp => ?_, fun p hp q hq e => ?_⟩
  · rcases NM.mem_put.1 hp with rfl | ⟨hp, _⟩
    · exact hm
    · exact h.fair p hp
  · rcases NM.mem_put.1 hp with rfl | ⟨hp, _⟩
    · exact hf
    · exact h.idx p hp
  · rcases NM.mem_put.1 hp with rfl | ⟨hp, _⟩ <;> rcases NM.mem_put.1 hq with rfl | ⟨hq, _⟩
    · rfl
    · exact absurd e.symm (hu q hq)
    · exact absurd e (hu p hp)
    · exact h.inj p hp q hq e
theorem NM.Good.removes {n : Nat} {l : NM} (h : NM.Good n l) (m : BS) : NM.Good n (NM.del l m) :=
  ⟨h.ok.del m, Nat.le_trans (length_del l m) h.len, fun p hp => h.fair p (NM.mem_del.1 hp).1, fun p hp => h.idx p (NM.mem_del.1 hp).1, fun p hp q hq => h.inj p (NM.mem_del.1 hp).1 q (NM.mem_del.1 hq).1⟩
theorem length_del_mem {l : NM} {n : BS} {f : Nat} (h : (n, f) ∈ l) : (NM.del l n).length + 1 ≤ l.length := by
  unfold NM.del
  have := (List.length_filter_lt_length_iff_exists (l := l) (p := fun p : BS × Nat => !(p.1 == n))).2 ⟨(n, f), h, by simp⟩
  omega
theorem mem_rename {l : NM} {m t : BS} {f : Nat} {p : BS × Nat} (hne : m ≠ t) : p ∈ NM.del (NM.put l t f) m ↔ p = (t, f) ∨ (p ∈ l ∧ p.1 ≠ t ∧ p.1 ≠ m) := by
  rw [NM.mem_del, NM.mem_put]
  constructor
  · rintro ⟨rfl | ⟨h1, h2⟩, h3⟩
    · exact .inl rfl
    · exact .inr ⟨h1, h2, h3⟩
  · rintro (rfl | ⟨h1, h2, h3⟩)
    · exact ⟨.inl rfl, fun e => hne e.symm⟩
    · exact ⟨.inr ⟨h1, h2⟩, h3⟩
theorem NM.Good.renames {n f : Nat} {l : NM} {m t : BS} (h : NM.Good n l) (hm : (m, f) ∈ l) (ht : fairB t = true) (hne : m ≠ t) : NM.Good n (NM.del (NM.put l t f) m) := by
  refine ⟨(h.ok.put t f).del m, ?_, fun p hp => ?_, fun p hp => ?_, fun p hp q hq e => ?_⟩
  · have h1 := length_put l t f
    have h2 := length_del_mem (l := NM.put l t f) (n := m) (f := f) (NM.mem_put.2 (.inr ⟨hm, hne⟩))
    have := h.len
    omega
  · rcases (mem_rename hne).1 hp with rfl | ⟨hp, _⟩
    · exact ht
    · exact h.fair p hp
  · rcases (mem_rename hne).1 hp with rfl | ⟨hp, _⟩
    · exact h.idx (m, f) hm
    · exact h.idx p hp
  · rcases (mem_rename hne).1 hp with rfl | ⟨hp, _, hp2⟩ <;> rcases (mem_rename hne).1 hq with rfl | ⟨hq, _, hq2⟩
    · rfl
    · exact absurd (by rw [h.inj q hq _ hm e.symm]) hq2
    · exact absurd (by rw [h.inj p hp _ hm e]) hp2
    · exact h.inj p hp q hq e
/-! ## Sums over names -/
def usedOf (g : Nat → Nat) (l : NM) : Nat := (l.map fun p => g p.2).sum
theorem usedOf_ins (g : Nat → Nat) (x : BS × Nat) : ∀ l : NM, usedOf g (NM.ins x l) = g x.2 + usedOf g l
  | [] => rfl
  | y :: r => by
    unfold NM.ins
    split
    · rfl
    · have := usedOf_ins g x r
      unfold usedOf at *
      simp only [List.map_cons, List.sum_cons, this]
      omega
theorem usedOf_del (g : Nat → Nat) (n : BS) : ∀ l : NM, usedOf g (NM.del l n) ≤ usedOf g l
  | [] => Nat.le_refl _
  | y :: r => by
    have := usedOf_del g n r
    unfold usedOf NM.del at *
    rw [List.filter_cons]
    split
    · simp only [List.map_cons, List.sum_cons]; omega
    · simp only [List.map_cons, List.sum_cons]; omega
theorem usedOf_del_mem (g : Nat → Nat) {n : BS} {f : Nat} : ∀ {l : NM}, (n, f) ∈ l → usedOf g (NM.del l n) + g f ≤ usedOf g l
  | [], h => by simp at h
  | y :: r, h => by
    rcases List.mem_cons.1 h with e | h
    · subst e
      have := usedOf_del g n r
      unfold usedOf NM.del at *
      rw [List.filter_cons, if_neg (by simp)]
      simp only [List.map_cons, List.sum_cons]
      omega
    · have := usedOf_del_mem g h
      unfold usedOf NM.del at *
      rw [List.filter_cons]
      split
      · simp only [List.map_cons, List.sum_cons]; omega
      · simp only [List.map_cons, List.sum_cons]; omega
theorem usedOf_put (g : Nat → Nat) (l : NM) (n : BS) (f : Nat) : usedOf g (NM.put l n f) ≤ g f + usedOf g l := by
  unfold NM.put
  rw [usedOf_ins]
  have := usedOf_del g n l
  show g f + _ ≤ _
  omega
theorem usedOf_rename (g : Nat → Nat) {l : NM} {m t : BS} {f : Nat} (hm : (m, f) ∈ l) (hne : m ≠ t) : usedOf g (NM.del (NM.put l t f) m) ≤ usedOf g l := by
  have h1 := usedOf_put g l t f
  have h2 := usedOf_del_mem g (l := NM.put l t f) (n := m) (f := f) (NM.mem_put.2 (.inr ⟨hm, hne⟩))
  omega
theorem usedOf_congr {g g' : Nat → Nat} {l : NM} (h : ∀ p ∈ l, g p.2 ≤ g' p.2) : usedOf g l ≤ usedOf g' l := by
  induction l with
  | nil => exact Nat.le_refl _
  | cons y r ih =>
    have h1 := ih fun p hp => h p (by simp [hp])
    have h2 := h y (by simp)
    unfold usedOf at *
    simp only [List.map_cons, List.sum_cons]
    omega
/-- One file turns, and no two names are for it. -/
theorem usedOf_one {g g' : Nat → Nat} {f k : Nat} (hf : g' f ≤ g f + k) (ho : ∀ j, j ≠ f → g' j ≤ g j) : ∀ {l : NM}, NM.Ok l → (∀ p ∈ l, ∀ q ∈ l, p.2 = q.2 → p = q) → usedOf g' l ≤ usedOf g l + k
  | [], _, _ => Nat.zero_le _
  | y :: r, hk, hi => by
    unfold NM.Ok at hk
    rw [List.pairwise_cons] at hk
    by_cases hy : y.2 = f
    · have h1 : usedOf g' r ≤ usedOf g r := usedOf_congr fun p hp => ho p.2 fun e => by
        have e1 := hi p (by simp [hp]) y (by simp) (by rw [e, hy])
        have := hk.1 p hp
        rw [e1] at this
        exact bs_irrefl _ this
      unfold usedOf at *
      simp only [List.map_cons, List.sum_cons, hy]
      omega
    · have h1 := usedOf_one hf ho hk.2 fun p hp q hq => hi p (by simp [hp]) q (by simp [hq])
      have h2 := ho y.2 hy
      unfold usedOf at *
      simp only [List.map_cons, List.sum_cons]
      omega
theorem used_of (d : DM) : d.used = usedOf (fun j => (d.file j).seen.length) d.names := rfl

/-! ## The law -/
structure DM.Ok (d : DM) : Prop where
  names : d.names = play d.sure d.ch
  good : ∀ k, NM.Good d.files.length (play d.sure (d.ch.take k))
  can : ∀ (k : Nat) (c : Ch), d.ch[k]? = some c → c.can (play d.sure (d.ch.take k)) ∧ c.fits
  file : ∀ j, (d.file j).Ok
  used : (d.used : Int) ≤ d.room
  room : 0 ≤ d.room ∧ d.room ≤ 67108864
theorem DM.Ok.nameG {d : DM} (h : d.Ok) : NM.Good d.files.length d.names := by
  have := h.good d.ch.length
  rw [List.take_length] at this
  rw [h.names]
  exact this
theorem DM.Ok.sureG {d : DM} (h : d.Ok) : NM.Good d.files.length d.sure := h.good 0
theorem DM.Ok.playOk {d : DM} (h : d.Ok) : PlayOk d.sure d.ch := ⟨h.can, fun k => by have := (h.good k).len; omega⟩
theorem DM.Ok.chIdx {d : DM} (h : d.Ok) : ChIdx d.ch d.files.length := fun m f hm => by
  obtain ⟨k, hk, e⟩ := List.getElem_of_mem hm
  have hk' : d.ch[k]? = some (.makes m f) := by rw [List.getElem?_eq_getElem hk, e]
  have h1 := h.good (k + 1)
  rw [play_next hk'] at h1
  exact h1.idx (m, f) (NM.mem_put.2 (.inl rfl))
theorem DM.Ok.new {room : Int} (h : 0 ≤ room ∧ room ≤ 67108864) : (DM.new room).Ok :=
  ⟨rfl, fun k => by show NM.Good 0 (play [] (List.take k [])); rw [List.take_nil]; exact NM.Good.nil 0, fun k c hk => by simp [DM.new] at hk, fun j => FM.Ok.empty, by simp [DM.new, DM.used]; exact h.1, h⟩
theorem play_snoc (l : NM) (cs : List Ch) (c : Ch) (k : Nat) : play l ((cs ++ [c]).take k) = if k ≤ cs.length then play l (cs.take k) else Ch.on (play l cs) c := by
  split
  · rename_i hk
    rw [List.take_append_of_le_length hk]
  · rename_i hk
    rw [List.take_of_length_le (by simp; omega)]
    unfold play
    rw [List.foldl_append]
    rfl
theorem DM.Ok.change {d : DM} (h : d.Ok) {c : Ch} (hc : c.can d.names) (hf : c.fits) (hg : NM.Good d.files.length (Ch.on d.names c)) (hu : ((d.change c).used : Int) ≤ d.room) : (d.change c).Ok := by
  refine ⟨?_, fun k => ?_, fun k c' hk => ?_, h.file, hu, h.room⟩
  · have := play_snoc d.sure d.ch c (d.ch.length + 1)
    rw [if_neg (by omega), List.take_of_length_le (by simp), ← h.names] at this
    exact this.symm
  · show NM.Good d.files.length (play d.sure ((d.ch ++ [c]).take k))
    rw [play_snoc, ← h.names]
    split
    · exact h.good k
    · exact hg
  · show c'.can (play d.sure ((d.ch ++ [c]).take k)) ∧ c'.fits
    have hk' : (d.ch ++ [c])[k]? = some c' := hk
    rcases Nat.lt_or_ge k d.ch.length with hl | hl
    · rw [List.getElem?_append_left hl] at hk'
      rw [play_snoc, if_pos (by omega)]
      exact h.can k c' hk'
    · have hk0 : k = d.ch.length := by
        have := (List.getElem?_eq_some_iff.1 hk').1
        simp at this
        omega
      subst hk0
      simp at hk'
      subst hk'
      rw [play_snoc, if_pos (Nat.le_refl _), List.take_length, ← h.names]
      exact ⟨hc, hf⟩
theorem DM.Ok.strk {d : DM} (h : d.Ok) : d.stroke.Ok := ⟨h.names, h.good, h.can, h.file, h.used, h.room⟩
theorem DM.Ok.setPlan {d : DM} (h : d.Ok) (p : Pl) : (d.setPlan p).Ok := by
  unfold DM.setPlan
  split
  · exact h
  · exact ⟨h.names, h.good, h.can, h.file, h.used, h.room⟩
theorem setF_ok {d : DM} (h : d.Ok) {f : Nat} {x : FM} (hx : x.Ok) (hf : f < d.files.length) (hu : ((d.setF f x).used : Int) ≤ d.room) : (d.setF f x).Ok := by
  refine ⟨h.names, fun k => ?_, h.can, fun j => ?_, hu, h.room⟩
  · rw [setF_len]
    exact h.good k
  · by_cases hj : j = f
    · subst hj
      rw [setF_file d hf]
      exact hx
    · rw [setF_other d hj]
      exact h.file j
theorem setF_used_le {d : DM} {f : Nat} {x : FM} (hf : f < d.files.length) (hx : x.seen.length ≤ (d.file f).seen.length) : (d.setF f x).used ≤ d.used := by
  rw [used_of, used_of]
  refine usedOf_congr fun p _ => ?_
  show ((d.setF f x).file p.2).seen.length ≤ _
  by_cases hj : p.2 = f
  · rw [hj, setF_file d hf]; exact hx
  · rw [setF_other d hj]; exact Nat.le_refl _
theorem addTo_used {d : DM} (h : d.Ok) {f : Nat} (hf : f < d.files.length) (b : BS) : (d.addTo f b).used ≤ d.used + b.length := by
  rw [used_of, used_of]
  refine usedOf_one (f := f) ?_ (fun j hj => ?_) h.nameG.ok h.nameG.inj
  · show ((d.setF f _).file f).seen.length ≤ _
    rw [setF_file d hf]
    simp
  · show ((d.setF f _).file j).seen.length ≤ _
    rw [setF_other d hj]
    exact Nat.le_refl _
theorem make_old (d : DM) (n : BS) {j : Nat} (h : j < d.files.length) : (d.make n).file j = d.file j := by
  unfold DM.make DM.change DM.file
  simp only
  rw [List.getElem?_append_left h]
theorem make_any (d : DM) (n : BS) {j : Nat} (h : ¬ j < d.files.length) : (d.make n).file j = ⟨[], [], []⟩ := by
  unfold DM.make DM.change DM.file
  simp only
  rw [List.getElem?_append_right (by omega)]
  cases hj : j - d.files.length with
  | zero => rfl
  | succ k => rfl
theorem DM.Ok.make {d : DM} (h : d.Ok) {n : BS} (hn : fairB n = true) (hl : d.names.length < 64) : (d.make n).Ok := by
  have hG : NM.Good (d.files.length + 1) (Ch.on d.names (.makes n d.files.length)) := (h.nameG.mono (Nat.le_succ _)).makes hl hn (Nat.lt_succ_self _) (fun p hp => Nat.ne_of_lt (h.nameG.idx p hp))
  have h1 : DM.Ok { d with files := d.files ++ [⟨[], [], []⟩] } := by
    have hfile : ∀ j, DM.file { d with files := d.files ++ [⟨[], [], []⟩] } j = if j < d.files.length then d.file j else ⟨[], [], []⟩ := fun j => by
      split
      · exact make_old d n ‹_›
      · exact make_any d n ‹_›
    refine ⟨h.names, fun k => ?_, h.can, fun j => ?_, ?_, h.room⟩
    · show NM.Good (d.files ++ [_]).length _
      rw [List.length_append]
      exact (h.good k).mono (Nat.le_succ _)
    · rw [hfile]
      split
      · exact h.file j
      · exact FM.Ok.empty
    · have : DM.used { d with files := d.files ++ [⟨[], [], []⟩] } ≤ d.used := by
        rw [used_of, used_of]
        refine usedOf_congr fun p _ => ?_
        show (DM.file _ p.2).seen.length ≤ _
        rw [hfile]
        split
        · exact Nat.le_refl _
        · exact Nat.zero_le _
      have := h.used
      show (((DM.used { d with files := d.files ++ [⟨[], [], []⟩] }) : Nat) : Int) ≤ d.room
      omega
  refine h1.change trivial (fair_len hn).2 ?_ ?_
  · show NM.Good (d.files ++ [_]).length _
    rw [List.length_append]
    exact hG
  · have : (d.make n).used ≤ d.used := by
      rw [used_of, used_of]
      refine Nat.le_trans (usedOf_put _ d.names n d.files.length) ?_
      rw [make_any d n (Nat.lt_irrefl _)]
      have : usedOf (fun j => ((d.make n).file j).seen.length) d.names ≤ usedOf (fun j => (d.file j).seen.length) d.names := usedOf_congr fun p hp => by
        show ((d.make n).file p.2).seen.length ≤ _
        rw [make_old d n (h.nameG.idx p hp)]
        exact Nat.le_refl _
      show 0 + _ ≤ _
      omega
    have h2 := h.used
    show ((d.make n).used : Int) ≤ d.room
    omega
end Go.Proofs.Ytgkpobajafjdeaa

/- The disk's own law is kept by every call; how much a disk may grow. Of no program. -/
namespace Go.Proofs.Ytgkpobajafjdeaa

theorem err_fair {d : DM} {n : BS} (h1 : d.err n ≠ 45) (h2 : d.err n ≠ 41) : d.off = false ∧ fairB n = true := by
  rcases err_cases d n with ⟨_, e⟩ | ⟨_, _, e⟩ | ⟨e1, e2, _, _⟩ | ⟨e1, e2, _, _⟩
  · exact absurd e h1
  · exact absurd e h2
  · exact ⟨e1, e2⟩
  · exact ⟨e1, e2⟩
theorem no_false {d : DM} {k : Nat} (h : d.no k = false) : (k : Int) ≤ d.room - d.used := by
  unfold DM.no at h
  simp at h
  omega
theorem DM.Ok.addTo {d : DM} (h : d.Ok) {f : Nat} (hf : f < d.files.length) {b : BS} (hb : (b.length : Int) ≤ d.room - d.used) : (d.addTo f b).Ok := by
  refine setF_ok h ((h.file f).add b) hf ?_
  have := addTo_used h hf b
  have e : (d.setF f ⟨(d.file f).kept, (d.file f).units ++ b.map Un.app, (d.file f).seen ++ b⟩).used = (d.addTo f b).used := rfl
  rw [e]
  omega
theorem make_used {d : DM} (h : d.Ok) (n : BS) : (d.make n).used ≤ d.used := by
  rw [used_of, used_of]
  refine Nat.le_trans (usedOf_put _ d.names n d.files.length) ?_
  rw [make_any d n (Nat.lt_irrefl _)]
  have : usedOf (fun j => ((d.make n).file j).seen.length) d.names ≤ usedOf (fun j => (d.file j).seen.length) d.names := usedOf_congr fun p hp => by
    show ((d.make n).file p.2).seen.length ≤ _
    rw [make_old d n (h.nameG.idx p hp)]
    exact Nat.le_refl _
  show 0 + _ ≤ _
  omega
/-- The ways of an append. -/
theorem append_ways (d : DM) (n b : BS) : (d.append n b).1 = d ∨ (d.append n b).1 = d.stroke ∨ (∃ f, d.names.get n = some f ∧ d.stroke.no b.length = false ∧ d.append n b = (d.stroke.addTo f b, toldN d.stroke.off)) ∨ (d.err n = 42 ∧ d.names.get n = none ∧ d.names.length < 64 ∧ fairB n = true ∧ d.stroke.no b.length = false ∧ d.append n b = ((d.stroke.make n).addTo d.files.length b, toldN d.stroke.off)) := by
  by_cases h1 : d.err n = 45
  · left; unfold DM.append; rw [if_pos h1]
  by_cases h2 : d.err n = 41
  · left; unfold DM.append; rw [if_neg h1, if_pos h2]
  cases hg : d.names.get n with
  | some f =>
    cases hn : d.stroke.no b.length with
    | true => right; left; unfold DM.append; rw [if_neg h1, if_neg h2]; simp only [hg, hn, if_true]
    | false => right; right; left; refine ⟨f, rfl, rfl, ?_⟩; unfold DM.append; rw [if_neg h1, if_neg h2]; simp only [hg, hn]; rfl
  | none =>
    rcases Nat.lt_or_ge d.names.length 64 with hl | hl
    · cases hn : d.stroke.no b.length with
      | true => right; left; unfold DM.append; rw [if_neg h1, if_neg h2]; simp only [hg, hn, if_true]; rw [if_neg (by omega)]
      | false =>
        right; right; right
        have hf := err_fair h1 h2
        refine ⟨?_, rfl, hl, hf.2, rfl, ?_⟩
        · unfold DM.err; rw [hf.1, hf.2, hg]; rfl
        · unfold DM.append; rw [if_neg h1, if_neg h2]; simp only [hg, hn]; rw [if_neg (by omega)]; rfl
    · left; unfold DM.append; rw [if_neg h1, if_neg h2]; simp only [hg]; rw [if_pos hl]
theorem DM.Ok.append {d : DM} (h : d.Ok) (n b : BS) : (d.append n b).1.Ok := by
  rcases append_ways d n b with e | e | ⟨f, hg, hn, e⟩ | ⟨_, _, hl, hf, hn, e⟩
  · rw [e]; exact h
  · rw [e]; exact h.strk
  · rw [e]
    exact h.strk.addTo (h.nameG.idx _ (NM.get_mem hg)) (no_false hn)
  · rw [e]
    refine (h.strk.make hf hl).addTo (by rw [make_len]; exact Nat.lt_succ_self _) ?_
    have h1 := make_used h.strk n
    have h2 := no_false hn
    show (b.length : Int) ≤ d.stroke.room - _
    omega
theorem cut_ways (d : DM) (n : BS) (k : Int) : (d.cut n k).1 = d ∨ (d.cut n k).1 = d.stroke ∨ (∃ f, d.err n = 0 ∧ d.names.get n = some f ∧ 0 ≤ k ∧ k < ((d.file f).seen.length : Int) ∧ d.cut n k = (d.stroke.setF f ⟨(d.file f).kept, (d.file f).units ++ [.cut k.toNat], (d.file f).seen.take k.toNat⟩, toldN d.stroke.off)) := by
  unfold DM.cut
  split
  · rename_i f he hf
    split
    · exact .inl rfl
    · rename_i hk
      split
      · exact .inr (.inr ⟨f, he, hf, by omega, by omega, rfl⟩)
      · exact .inr (.inl rfl)
  · exact .inl rfl
theorem DM.Ok.cut {d : DM} (h : d.Ok) (n : BS) (k : Int) : (d.cut n k).1.Ok := by
  rcases cut_ways d n k with e | e | ⟨f, _, hg, h0, hk, e⟩
  · rw [e]; exact h
  · rw [e]; exact h.strk
  · rw [e]
    have hf : f < d.stroke.files.length := h.nameG.idx _ (NM.get_mem hg)
    refine setF_ok h.strk ((h.file f).cut (by omega)) hf ?_
    have h1 := setF_used_le (d := d.stroke) (x := ⟨(d.file f).kept, (d.file f).units ++ [.cut k.toNat], (d.file f).seen.take k.toNat⟩) hf (by show (List.take _ _).length ≤ (d.file f).seen.length; rw [List.length_take]; omega)
    have := h.strk.used
    omega
theorem sync_ways (d : DM) (n : BS) : (d.sync n).1 = d ∨ (d.sync n).1 = d.stroke ∨ (∃ f, d.err n = 0 ∧ d.names.get n = some f ∧ d.stroke.off = false ∧ d.sync n = (d.stroke.setF f ⟨(d.file f).seen, [], (d.file f).seen⟩, toldN d.stroke.off)) := by
  unfold DM.sync
  split
  · rename_i f he hf
    cases ho : d.stroke.off with
    | true => exact .inr (.inl rfl)
    | false => exact .inr (.inr ⟨f, he, hf, rfl, rfl⟩)
  · exact .inl rfl
theorem DM.Ok.sync {d : DM} (h : d.Ok) (n : BS) : (d.sync n).1.Ok := by
  rcases sync_ways d n with e | e | ⟨f, _, hg, _, e⟩
  · rw [e]; exact h
  · rw [e]; exact h.strk
  · rw [e]
    have hf : f < d.stroke.files.length := h.nameG.idx _ (NM.get_mem hg)
    refine setF_ok h.strk FM.Ok.sync hf ?_
    have h1 := setF_used_le (d := d.stroke) (x := ⟨(d.file f).seen, [], (d.file f).seen⟩) hf (Nat.le_refl _)
    have := h.strk.used
    omega
theorem syncNames_ways (d : DM) : d.syncNames.1 = d ∨ d.syncNames.1 = d.stroke ∨ (d.off = false ∧ d.stroke.off = false ∧ d.syncNames = ({ d.stroke with sure := play d.sure d.ch, ch := [] }, 0)) := by
  unfold DM.syncNames
  cases d.off with
  | true => exact .inl rfl
  | false =>
    cases ho : d.stroke.off with
    | true => exact .inr (.inl rfl)
    | false => exact .inr (.inr ⟨rfl, rfl, rfl⟩)
theorem DM.Ok.syncNames {d : DM} (h : d.Ok) : d.syncNames.1.Ok := by
  rcases syncNames_ways d with e | e | ⟨_, _, e⟩
  · rw [e]; exact h
  · rw [e]; exact h.strk
  · rw [e]
    refine ⟨h.names, fun k => ?_, fun k c hk => by simp at hk, h.file, h.used, h.room⟩
    show NM.Good d.files.length (play (play d.sure d.ch) (List.take k []))
    rw [List.take_nil, ← h.names]
    exact h.nameG
theorem rename_ways (d : DM) (n t : BS) : (d.rename n t).1 = d ∨ (d.rename n t).1 = d.stroke ∨ (∃ f, d.err n = 0 ∧ d.names.get n = some f ∧ fairB t = true ∧ n ≠ t ∧ d.rename n t = (d.stroke.change (.renames n t), toldN d.stroke.off)) := by
  unfold DM.rename
  split
  · exact .inl rfl
  split
  · exact .inl rfl
  split
  · exact .inl rfl
  split
  · split
    · exact .inr (.inl rfl)
    · rename_i h1 h2 ht h0 hne
      refine .inr (.inr ?_)
      rcases err_cases d n with ⟨_, e⟩ | ⟨_, _, e⟩ | ⟨_, _, _, e⟩ | ⟨_, _, ⟨f, hf⟩, _⟩
      · rw [e] at h0; cases h0
      · rw [e] at h0; cases h0
      · rw [e] at h0; cases h0
      · exact ⟨f, h0, hf, by simpa using ht, hne, rfl⟩
  · exact .inl rfl
theorem on_rename {l : NM} {n t : BS} {f : Nat} (h : l.get n = some f) : Ch.on l (.renames n t) = (l.put t f).del n := by simp only [Ch.on, h]
theorem DM.Ok.rename {d : DM} (h : d.Ok) (n t : BS) : (d.rename n t).1.Ok := by
  rcases rename_ways d n t with e | e | ⟨f, h0, hg, ht, hne, e⟩
  · rw [e]; exact h
  · rw [e]; exact h.strk
  · rw [e]
    have hgs : d.stroke.names.get n = some f := hg
    have hm := NM.get_mem hg
    refine h.strk.change ?_ ⟨(fair_len (err_zero h0).2).2, (fair_len ht).2⟩ ?_ ?_
    · show (d.names.get n).isSome = true; rw [hg]; rfl
    · rw [on_rename hgs]; exact h.nameG.renames hm ht hne
    · have h1 : (d.stroke.change (.renames n t)).used ≤ d.stroke.used := by
        rw [used_of, used_of]
        show usedOf _ (Ch.on d.stroke.names (.renames n t)) ≤ _
        rw [on_rename hgs]
        exact usedOf_rename _ hm hne
      have := h.strk.used
      omega
theorem remove_ways (d : DM) (n : BS) : (d.remove n).1 = d ∨ (∃ f, d.err n = 0 ∧ d.names.get n = some f ∧ d.remove n = (d.stroke.change (.removes n), toldN d.stroke.off)) := by
  unfold DM.remove
  split
  · rename_i h0
    right
    rcases err_cases d n with ⟨_, e⟩ | ⟨_, _, e⟩ | ⟨_, _, _, e⟩ | ⟨_, _, ⟨f, hf⟩, _⟩
    · rw [e] at h0; cases h0
    · rw [e] at h0; cases h0
    · rw [e] at h0; cases h0
    · exact ⟨f, h0, hf, rfl⟩
  · exact .inl rfl
theorem DM.Ok.remove {d : DM} (h : d.Ok) (n : BS) : (d.remove n).1.Ok := by
  rcases remove_ways d n with e | ⟨f, h0, hg, e⟩
  · rw [e]; exact h
  · rw [e]
    refine h.strk.change trivial (fair_len (err_zero h0).2).2 (h.nameG.removes n) ?_
    have h1 : (d.stroke.change (.removes n)).used ≤ d.stroke.used := by
      rw [used_of, used_of]
      exact usedOf_del _ n _
    have := h.strk.used
    omega
/-! ## One step of a script -/
structure OpM where
  kind : Int
  name : BS
  dst : BS
  n : Int
  b : BS
def DM.op (d : DM) (o : OpM) : DM × Int :=
  if o.kind = 1 then d.append o.name o.b else if o.kind = 2 then d.cut o.name o.n else if o.kind = 3 then d.sync o.name else if o.kind = 4 then d.syncNames else if o.kind = 5 then d.rename o.name o.dst else if o.kind = 6 then d.remove o.name else (d, 0)
theorem DM.Ok.op {d : DM} (h : d.Ok) (o : OpM) : (d.op o).1.Ok := by
  unfold DM.op
  repeat' split
  · exact h.append _ _
  · exact h.cut _ _
  · exact h.sync _
  · exact h.syncNames
  · exact h.rename _ _
  · exact h.remove _
  · exact h
theorem stroke_room (d : DM) : d.stroke.room = d.room ∧ d.stroke.plan = d.plan := ⟨rfl, rfl⟩
theorem op_room (d : DM) (o : OpM) : (d.op o).1.room = d.room ∧ (d.op o).1.plan = d.plan := by
  unfold DM.op
  repeat' split
  · rcases append_ways d o.name o.b with e | e | ⟨f, _, _, e⟩ | ⟨_, _, _, _, _, e⟩ <;> rw [e] <;> exact ⟨rfl, rfl⟩
  · rcases cut_ways d o.name o.n with e | e | ⟨f, _, _, _, _, e⟩ <;> rw [e] <;> exact ⟨rfl, rfl⟩
  · rcases sync_ways d o.name with e | e | ⟨f, _, _, _, e⟩ <;> rw [e] <;> exact ⟨rfl, rfl⟩
  · rcases syncNames_ways d with e | e | ⟨_, _, e⟩ <;> rw [e] <;> exact ⟨rfl, rfl⟩
  · rcases rename_ways d o.name o.dst with e | e | ⟨f, _, _, _, _, e⟩ <;> rw [e] <;> exact ⟨rfl, rfl⟩
  · rcases remove_ways d o.name with e | ⟨f, _, _, e⟩ <;> rw [e] <;> exact ⟨rfl, rfl⟩
  · exact ⟨rfl, rfl⟩
/-! ## Sizes -/
def Un.isApp : Un → Bool
  | .app _ => true
  | .cut _ => false
/-- The most bytes that a file may have behind a crash. -/
def FM.most (f : FM) : Nat := f.kept.length + f.units.countP Un.isApp
theorem replay_len (us : List Un) : ∀ l : BS, (replay l us).length ≤ l.length + us.countP Un.isApp := by
  induction us with
  | nil => exact fun l => Nat.le_refl _
  | cons u r ih =>
    intro l
    have := ih (Un.on l u)
    show (replay (Un.on l u) r).length ≤ _
    rw [List.countP_cons]
    cases u with
    | app b =>
      have h1 : (Un.on l (.app b)).length = l.length + 1 := by simp [Un.on]
      simp only [Un.isApp, if_true]
      omega
    | cut n =>
      have h1 : (Un.on l (.cut n)).length ≤ l.length := by simp [Un.on]; omega
      simp only [Un.isApp]
      simp
      omega
theorem left_most (f : FM) (k : Nat) : (f.left k).length ≤ f.most := by
  have h1 := replay_len (f.units.take k) f.kept
  have h2 : (f.units.take k).countP Un.isApp ≤ f.units.countP Un.isApp := by
    conv => rhs; rw [← List.take_append_drop k f.units]
    rw [List.countP_append]
    omega
  unfold FM.left FM.most
  omega
theorem FM.Ok.seen_most {f : FM} (h : f.Ok) : f.seen.length ≤ f.most := by
  rw [h.seen]
  exact replay_len _ _
def DM.tot (d : DM) : Nat := (d.files.map FM.most).sum
/-- k calls, of t bytes together. -/
structure DM.Sz (d : DM) (k t : Nat) : Prop where
  strokes : d.strokes ≤ k
  count : d.count ≤ k
  chl : d.ch.length ≤ k
  tot : d.tot ≤ t
  units : ∀ j, (d.file j).units.length ≤ t + k
  filel : d.files.length ≤ k
theorem DM.Sz.mono {d : DM} {k t k' t' : Nat} (h : d.Sz k t) (hk : k ≤ k') (ht : t ≤ t') : d.Sz k' t' :=
  ⟨Nat.le_trans h.strokes hk, Nat.le_trans h.count hk, Nat.le_trans h.chl hk, Nat.le_trans h.tot ht, fun j => by have := h.units j; omega, Nat.le_trans h.filel hk⟩
theorem DM.Sz.new (room : Int) : (DM.new room).Sz 0 0 := ⟨Nat.le_refl _, Nat.le_refl _, Nat.le_refl _, Nat.le_refl _, fun _ => Nat.le_refl _, Nat.le_refl _⟩
theorem DM.Sz.strk {d : DM} {k t : Nat} (h : d.Sz k t) : d.stroke.Sz (k + 1) t :=
  ⟨Nat.succ_le_succ h.strokes, Nat.succ_le_succ h.count, Nat.le_succ_of_le h.chl, h.tot, fun j => by have := h.units j; show (d.file j).units.length ≤ _; omega, Nat.le_succ_of_le h.filel⟩
theorem sum_set : ∀ (l : List FM) (f : Nat) (x : FM), f < l.length → ((l.set f x).map FM.most).sum + ((l[f]?).getD ⟨[], [], []⟩).most = (l.map FM.most).sum + x.most
  | [], f, x, h => by simp at h
  | y :: r, 0, x, _ => by simp; omega
  | y :: r, f + 1, x, h => by
    have := sum_set r f x (by simpa using h)
    simp only [List.set_cons_succ, List.map_cons, List.sum_cons, List.getElem?_cons_succ]
    omega
theorem DM.Sz.setF {d : DM} {k t f s : Nat} {x : FM} (h : d.Sz k t) (hf : f < d.files.length) (hx : x.most ≤ (d.file f).most + s) (hu : x.units.length ≤ t + s + k) : (d.setF f x).Sz k (t + s) := by
  refine ⟨h.strokes, h.count, h.chl, ?_, fun j => ?_, by rw [setF_len]; exact h.filel⟩
  · have h1 := sum_set d.files f x hf
    have h2 := h.tot
    unfold DM.tot at *
    show ((d.files.set f x).map FM.most).sum ≤ _
    have h3 : ((d.files[f]?).getD ⟨[], [], []⟩).most = (d.file f).most := rfl
    omega
  · by_cases hj : j = f
    · subst hj
      rw [setF_file d hf]
      exact hu
    · rw [setF_other d hj]
      have := h.units j
      omega
theorem countP_apps (b : BS) : (b.map Un.app).countP Un.isApp = b.length := by
  rw [List.countP_map]
  have : (Un.isApp ∘ Un.app) = fun _ => true := rfl
  rw [this]
  simp
theorem DM.Sz.addTo {d : DM} {k t f : Nat} (h : d.Sz k t) (hf : f < d.files.length) (b : BS) : (d.addTo f b).Sz k (t + b.length) := by
  refine h.setF hf ?_ ?_
  · unfold FM.most
    simp only [List.countP_append, countP_apps]
    omega
  · have := h.units f
    simp only [List.length_append, List.length_map]
    omega
theorem DM.Sz.make {d : DM} {k t : Nat} (h : d.Sz k t) (hc : d.ch.length < k) (hf : d.files.length < k) (n : BS) : (d.make n).Sz k t := by
  refine ⟨h.strokes, h.count, ?_, ?_, fun j => ?_, by rw [make_len]; exact hf⟩
  · show (d.ch ++ [_]).length ≤ k
    rw [List.length_append]
    exact hc
  · have := h.tot
    unfold DM.tot at *
    show ((d.files ++ [_]).map FM.most).sum ≤ t
    simp [FM.most] at *
    exact this
  · by_cases hj : j < d.files.length
    · rw [make_old d n hj]; exact h.units j
    · rw [make_any d n hj]; exact Nat.zero_le _
theorem DM.Sz.change {d : DM} {k t : Nat} (h : d.Sz k t) (hc : d.ch.length < k) (c : Ch) : (d.change c).Sz k t := by
  refine ⟨h.strokes, h.count, ?_, h.tot, h.units, h.filel⟩
  show (d.ch ++ [_]).length ≤ k
  rw [List.length_append]
  exact hc
def OpM.bytes (o : OpM) : Nat := o.b.length
theorem DM.Sz.op {d : DM} {k t : Nat} (h : d.Sz k t) (ho : d.Ok) (o : OpM) : (d.op o).1.Sz (k + 1) (t + o.b.length) := by
  have h0 : d.Sz (k + 1) (t + o.b.length) := h.mono (Nat.le_succ _) (by omega)
  have hs : d.stroke.Sz (k + 1) (t + o.b.length) := h.strk.mono (Nat.le_refl _) (by omega)
  have hc : d.stroke.ch.length < k + 1 := Nat.lt_succ_of_le h.chl
  have hl : d.stroke.files.length < k + 1 := Nat.lt_succ_of_le h.filel
  unfold DM.op
  repeat' split
  · rcases append_ways d o.name o.b with e | e | ⟨f, hg, _, e⟩ | ⟨_, _, _, _, _, e⟩
    · rw [e]; exact h0
    · rw [e]; exact hs
    · rw [e]; exact h.strk.addTo (ho.nameG.idx _ (NM.get_mem hg)) o.b
    · rw [e]; exact (h.strk.make hc hl o.name).addTo (by rw [make_len]; exact Nat.lt_succ_self _) o.b
  · rcases cut_ways d o.name o.n with e | e | ⟨f, _, hg, _, _, e⟩
    · rw [e]; exact h0
    · rw [e]; exact hs
    · rw [e]
      have hf : f < d.stroke.files.length := ho.nameG.idx _ (NM.get_mem hg)
      have := (h.strk.setF (s := 0) (x := ⟨(d.file f).kept, (d.file f).units ++ [.cut o.n.toNat], (d.file f).seen.take o.n.toNat⟩) hf (by
        show _ ≤ (d.file f).most + 0
        unfold FM.most
        simp only [List.countP_append]
        simp [Un.isApp]) (by
        have := h.units f
        simp only [List.length_append, List.length_cons, List.length_nil]
        omega))
      exact this.mono (Nat.le_refl _) (by omega)
  · rcases sync_ways d o.name with e | e | ⟨f, _, hg, _, e⟩
    · rw [e]; exact h0
    · rw [e]; exact hs
    · rw [e]
      have hf : f < d.stroke.files.length := ho.nameG.idx _ (NM.get_mem hg)
      have := (h.strk.setF (s := 0) (x := ⟨(d.file f).seen, [], (d.file f).seen⟩) hf (by
        have := (ho.file f).seen_most
        show (d.file f).seen.length + 0 ≤ (d.file f).most + 0
        omega) (Nat.zero_le _))
      exact this.mono (Nat.le_refl _) (by omega)
  · rcases syncNames_ways d with e | e | ⟨_, _, e⟩
    · rw [e]; exact h0
    · rw [e]; exact hs
    · rw [e]; exact ⟨hs.strokes, hs.count, Nat.zero_le _, hs.tot, hs.units, hs.filel⟩
  · rcases rename_ways d o.name o.dst with e | e | ⟨f, _, _, _, _, e⟩
    · rw [e]; exact h0
    · rw [e]; exact hs
    · rw [e]; exact hs.change hc _
  · rcases remove_ways d o.name with e | ⟨f, _, _, e⟩
    · rw [e]; exact h0
    · rw [e]; exact hs.change hc _
  · exact h0
theorem DM.Ok.fit {d : DM} (h : d.Ok) {k t : Nat} (hs : d.Sz k t) (hk : k < 1000000) : d.Fit := by
  have h1 := h.used
  have h2 := h.room
  refine ⟨by have := hs.strokes; omega, by have := hs.count; omega, by have := hs.chl; omega, by have := h.nameG.len; omega, h.nameG.ok, h.nameG.idx, by omega⟩
theorem sum_le_of_mem {x : Nat} : ∀ {l : List Nat}, x ∈ l → x ≤ l.sum
  | [], h => by simp at h
  | y :: r, h => by
    rcases List.mem_cons.1 h with e | h
    · rw [List.sum_cons]; omega
    · have := sum_le_of_mem h; rw [List.sum_cons]; omega
theorem seen_used {d : DM} {n : BS} {f : Nat} (hg : d.names.get n = some f) : (d.file f).seen.length ≤ d.used := by
  unfold DM.used
  exact sum_le_of_mem (List.mem_map.2 ⟨(n, f), NM.get_mem hg, rfl⟩)
theorem DM.Ok.bytes_le {d : DM} (h : d.Ok) (n : BS) : (d.bytes n).length ≤ 67108864 := by
  unfold DM.bytes
  split
  · split
    · rename_i f hg
      have := seen_used hg
      have := h.used
      have := h.room
      omega
    · exact Nat.zero_le _
  · exact Nat.zero_le _
end Go.Proofs.Ytgkpobajafjdeaa

/- Disk.Crash: words for its loops. -/
namespace Go.Proofs.Ytgkpobajafjdeaa
open Go.RowKit Go.Maps

theorem chAt_take {w : World} {fb : Nat → Nat} {A : Option Addr} {cs : List Ch} {k : Nat} (h : ChAt w fb A cs) : ChAt w fb A (cs.take k) := fun j c hj => h j c (by
  rcases Nat.lt_or_ge j k with hl | hl
  · rwa [List.getElem?_take_of_lt hl] at hj
  · rw [List.getElem?_eq_none (by rw [List.length_take]; omega)] at hj; cases hj)
theorem PlayOk.take {l : NM} {cs : List Ch} (h : PlayOk l cs) (k : Nat) : PlayOk l (cs.take k) := by
  refine ⟨fun j c hj => ?_, fun j => ?_⟩
  · rcases Nat.lt_or_ge j k with hl | hl
    · rw [List.getElem?_take_of_lt hl] at hj
      have := h.step j c hj
      rwa [List.take_take, Nat.min_eq_left (Nat.le_of_lt hl)]
    · rw [List.getElem?_eq_none (by rw [List.length_take]; omega)] at hj; cases hj
  · rw [List.take_take]; exact h.len _
theorem on_ok {l : NM} (h : NM.Ok l) (c : Ch) : NM.Ok (Ch.on l c) := by
  cases c with
  | makes n f => exact h.put n f
  | removes n => exact h.del n
  | renames n t =>
    cases hg : l.get n with
    | none => simp only [Ch.on, hg]; exact h
    | some f => simp only [Ch.on, hg]; exact (h.put t f).del n
theorem play_ok {l : NM} (h : NM.Ok l) (cs : List Ch) : NM.Ok (play l cs) := by
  induction cs generalizing l with
  | nil => exact h
  | cons c r ih => exact ih (on_ok h c)
theorem PicksAt.grown {w w' : World} {B g m : Nat} {ps : List Int} (h : PicksAt w B g ps) (hg : w.grownBy w' (some m)) (hm : g ≠ m) (hB : B ≤ m) (hs : B ≤ w.heap.size) : PicksAt w' B g ps := by
  obtain ⟨A, cap, h1, h2, h3⟩ := h
  refine ⟨A, cap, (hg.block g (lt_of_obj h1) (fun e => hm (by injection e with e))).trans h1, h2, fun k p hk => ?_⟩
  obtain ⟨pb, off, e, hne, hlt, hc⟩ := h3 k p hk
  exact ⟨pb, off, e, hne, hlt, (World.cell?_of_block (w := w) (a := ⟨pb, off + k, none⟩) (hg.block pb (by omega) (fun e => by injection e with e; omega))).trans hc⟩
/-- A slice's first k. -/
theorem slice_to (t : TypeId) (ht : Try.prog.underlying t = some (.slice (Try.prog.elem t))) (sz : Nat) (hsz : ∀ w, (sizeOf (Try.prog.elem t)).run Try.prog w = .ok sz w) (A : Option Addr) (n cap k : Nat) (hk : k ≤ cap) (w : World) :
    (Instr.slice t (.slice A n cap) none (some (.int .i64 (k : Int))) none).run Try.prog w = .ok (.slice A k cap) w := by
  rw [run_slice_h w t A n cap ht .i64 (k : Int) (by omega) (by omega), hsz]
  cases A <;> simp [Result.andThen, sliced, Addr.add]
def CopyRel (w : World) (bS : Nat) (fb : Nat → Nat) (l : NM) (O : Obj) (wr : World) : Prop :=
  ∃ left cnt, wr.ranges Try.prog 9 ptrElem bS (w.heap.size + 2) l.length (toD fb l) left cnt ∧ MapAt wr (w.heap.size + 1) fb (metL left l) ∧ wr.heap[w.heap.size]? = some O ∧ Below w.heap.size w wr
/-- A step that leaves the blocks below B alone, but for W. -/
structure Aside (W B : Nat) (w w' : World) : Prop where
  os : w'.os = w.os
  tape : w'.tape = w.tape
  output : w'.output = w.output
  size : w.heap.size ≤ w'.heap.size
  block : ∀ k, k < B → k ≠ W → w'.heap[k]? = w.heap[k]?
theorem Aside.refl (W B : Nat) (w : World) : Aside W B w w := ⟨rfl, rfl, rfl, Nat.le_refl _, fun _ _ _ => rfl⟩
theorem Aside.trans {W B : Nat} {a b c : World} (h : Aside W B a b) (k : Aside W B b c) : Aside W B a c :=
  ⟨k.os.trans h.os, k.tape.trans h.tape, k.output.trans h.output, Nat.le_trans h.size k.size, fun j h1 h2 => (k.block j h1 h2).trans (h.block j h1 h2)⟩
theorem Aside.mono {W B B' : Nat} {a b : World} (h : Aside W B a b) (hB : B' ≤ B) : Aside W B' a b := ⟨h.os, h.tape, h.output, h.size, fun k hk => h.block k (by omega)⟩
theorem Aside.of {W B C : Nat} {a b : World} (h : Below C a b) (hB : B ≤ C) : Aside W B a b := ⟨h.os, h.tape, h.output, h.size, fun k hk _ => h.block k (by omega)⟩
theorem Aside.set {W B : Nat} (w : World) (hW : ∃ o, w.heap[W]? = some (.cells o 23 (0, 0))) (v : Value) : Aside W B w (w.setCell ⟨W, 0, none⟩ v) := by
  obtain ⟨o, h⟩ := hW
  have hO := OnlyB.set (OnlyB.refl h) (lt_of_obj h) 0 v
  exact ⟨rfl, rfl, rfl, by rw [hO.size]; exact Nat.le_refl _, fun k _ hk => hO.far hk⟩
theorem Aside.drew {W B : Nat} {a b : World} (h : Aside W B a b) : Aside W B a b.drew := ⟨h.os, h.tape, h.output, h.size, h.block⟩
theorem Aside.below {W B C : Nat} {a b : World} (h : Aside W B a b) (hC : C ≤ B) (hW : C ≤ W) : Below C a b := ⟨h.os, h.tape, h.output, h.size, fun k hk => h.block k (by omega) (by omega)⟩
theorem Aside.one {W B base sz n : Nat} {a b : World} {e : TypeId} {v : Value} {c : Nat → Value} (h : Aside W B a b) (ho : One a base e sz v n c) (hs : a.heap.size ≤ B) (hW : W < base) : One b base e sz v n c :=
  ho.same fun g hg => h.block g (Nat.lt_of_lt_of_le (ho.block hg).2 hs) (by have := (ho.block hg).1; omega)
theorem PicksAt.keep {w w' : World} {B g : Nat} {ps : List Int} (h : PicksAt w B g ps) (h1 : w'.heap[g]? = w.heap[g]?) (h2 : ∀ k, k < B → k ≠ g → w'.heap[k]? = w.heap[k]?) : PicksAt w' B g ps := by
  obtain ⟨A, cap, q1, q2, q3⟩ := h
  refine ⟨A, cap, h1.trans q1, q2, fun k p hk => ?_⟩
  obtain ⟨pb, off, e, hne, hlt, hc⟩ := q3 k p hk
  exact ⟨pb, off, e, hne, hlt, (World.cell?_of_block (w := w) (a := ⟨pb, off + k, none⟩) (h2 pb hlt hne)).trans hc⟩
theorem PicksAt.below {w w' : World} {B C g : Nat} {ps : List Int} (h : PicksAt w B g ps) (hb : Below C w w') (hB : B ≤ C) (hg : g < C) : PicksAt w' B g ps := h.keep (hb.block g hg) (fun k hk _ => hb.block k (by omega))
theorem PicksAt.box {w : World} {B g : Nat} {ps : List Int} (h : PicksAt w B g ps) : ∃ o, w.heap[g]? = some (.cells o 23 (0, 0)) := by
  obtain ⟨A, cap, h1, _⟩ := h
  exact ⟨_, h1⟩
theorem ImgAt.aside {W B base : Nat} {a b : World} {sv : Value} {img : List (BS × BS)} (h : Aside W B a b) (ho : ImgAt a base sv img) (hs : a.heap.size ≤ B) (hW : W < base) : ImgAt b base sv img := by
  obtain ⟨l, h1, h2, h3⟩ := ho
  refine ⟨l, h.one h1 hs hW, h2, fun k y hk => ?_⟩
  obtain ⟨v, e, o⟩ := h3 k y hk
  exact ⟨v, e, h.one o hs hW⟩
theorem ImgAt.nil (w : World) (base : Nat) : ImgAt w base (.slice none 0 0) [] := ⟨[], .inl ⟨rfl, rfl⟩, rfl, fun k x h => by simp at h⟩
theorem crashL_len (file : Nat → FM) : ∀ (l : NM) (ps : List Int), (crashL file l ps).length = l.length
  | [], _ => rfl
  | (n, f) :: r, ps => by simp [crashL, crashL_len file r]
theorem ImgAt.slice {w : World} {base : Nat} {sv : Value} {img : List (BS × BS)} (h : ImgAt w base sv img) : ∃ A cap, sv = .slice A img.length cap ∧ img.length ≤ cap := by
  obtain ⟨l, h1, h2, _⟩ := h
  obtain ⟨A, cap, e, hc⟩ := h1.len2
  rw [h2] at e hc
  exact ⟨A, cap, e, hc⟩
theorem ImgAt.weak {w : World} {base base' : Nat} {sv : Value} {img : List (BS × BS)} (h : ImgAt w base sv img) (hb : base' ≤ base) : ImgAt w base' sv img := by
  obtain ⟨l, h1, h2, h3⟩ := h
  refine ⟨l, h1.weak hb, h2, fun k y hk => ?_⟩
  obtain ⟨v, e, o⟩ := h3 k y hk
  exact ⟨v, e, o.weak hb⟩
theorem FileD.below {w w' : World} {base i j b : Nat} {ρ : Nat → Nat} {f : FM} {kv uv sv : Value} (h : FileD w base ρ i j b f kv uv sv) (hb : Below w.heap.size w w') : FileD w' base ρ i j b f kv uv sv := h.keep (Keeps.below (fun _ => False) ρ hb) (fun _ _ => id)
theorem un_at {w : World} {base n cap : Nat} {A : Option Addr} {us : List Un} (h : One w base 89 3 (.slice A n cap) n (cU us)) {k : Nat} {u : Un} (hk : us[k]? = some u) (hn : us.length = n) : ∃ g, A = some ⟨g, 0, none⟩ ∧ w.cell? ⟨g, k * 3, none⟩ = some (u.cell 0) ∧ w.cell? ⟨g, k * 3 + 1, none⟩ = some (u.cell 1) ∧ w.cell? ⟨g, k * 3 + 2, none⟩ = some (u.cell 2) := by
  have hl := (List.getElem?_eq_some_iff.1 hk).1
  obtain ⟨g, e, c0⟩ := h.getN (k := k * 3 + 0) (by omega) (by omega)
  obtain ⟨g1, e1, c1⟩ := h.getN (k := k * 3 + 1) (by omega) (by omega)
  obtain ⟨g2, e2, c2⟩ := h.getN (k := k * 3 + 2) (by omega) (by omega)
  rw [e] at e1 e2
  injection e1 with e1
  injection e1 with e1
  injection e2 with e2
  injection e2 with e2
  subst e1 e2
  rw [cU_at (by omega) hk] at c0 c1 c2
  exact ⟨g, e, c0, c1, c2⟩
/-- The loop over the names: j names are done. -/
def CrRel (W : Nat) (w7 : World) (file : Nat → FM) (l : NM) (ps : List Int) (sv iv : Value) (wr : World) : Prop :=
  ∃ j : Nat, iv = .int .i64 j ∧ j ≤ l.length ∧ ImgAt wr w7.heap.size sv (crashL file (l.take j) ps) ∧ PicksAt wr W W (ps.drop j) ∧ Aside W w7.heap.size w7 wr
/-- The loop over a file's units: u units are done. -/
def InRel (wr w9 : World) (kept : BS) (us : List Un) (bv iv : Value) (w2 : World) : Prop :=
  ∃ u : Nat, iv = .int .i64 u ∧ u ≤ us.length ∧ One w2 wr.heap.size 5 1 bv (replay kept (us.take u)).length (cB (replay kept (us.take u))) ∧ Below wr.heap.size w9 w2
def CrashEnd (d : DM) (ps : List Int) (w : World) (e : Ending) (w' : World) : Prop :=
  ∃ A cap, e = .returned (.slice A (d.crash ps).length cap) ∧ ImgAt w' w.heap.size (.slice A (d.crash ps).length cap) (d.crash ps) ∧ Below w.heap.size w w'
end Go.Proofs.Ytgkpobajafjdeaa

/- What an argument's reading gives a walk: cells of memory at the world of the call, layer by layer ('Tr': these cells read as a value of that type). -/
namespace Go.Proofs.Ytgkpobajafjdeaa
open Go.ChangeShapes Go.WideShapes Go.ChangeAt Go.RowKit

/-- At world W the cells read as a value of type t (whatever the reading's tokens are). -/
def Tr (P : Program) (W : World) (t : TypeId) (cs : List Value) : Prop :=
  ∃ (H : Type) (enc : TypeId × Value → H) (fuel : Nat) (x : DataW H × List MemPlace), DataW.trod enc P W 0 (fun _ => true) true fuel t cs = some x

section
variable {P : Program} {W : World} {t : TypeId} {cs : List Value}

theorem Tr.of {H : Type} {enc : TypeId × Value → H} {v : Value} {d : DataW H} {ps : List MemPlace} (h : DataW.Trod enc P W 0 (fun _ => true) true t v d ps) : Tr P W t v.cells.toList := by
  obtain ⟨fuel, hf⟩ := h
  exact ⟨H, enc, fuel, _, hf⟩
theorem Tr.int {k : IntKind} (hu : P.underlying t = some (.int k)) (h : Tr P W t cs) : ∃ n, cs = [.int k n] ∧ (Lit.int k n).wf = true := by
  obtain ⟨H, enc, fuel, x, hf⟩ := h
  obtain ⟨n, h1, _, h2⟩ := DataW.trod_int hu hf
  exact ⟨n, h1, h2⟩
theorem Tr.bool (hu : P.underlying t = some .bool) (h : Tr P W t cs) : ∃ b, cs = [.bool b] := by
  obtain ⟨H, enc, fuel, x, hf⟩ := h
  obtain ⟨n, h1, _⟩ := DataW.trod_bool hu hf
  exact ⟨n, h1⟩
theorem Tr.string (hu : P.underlying t = some .string) (h : Tr P W t cs) : ∃ s : ByteArray, cs = [.string s] ∧ s.size ≤ maxLen := by
  obtain ⟨H, enc, fuel, x, hf⟩ := h
  obtain ⟨s, h1, _, h2⟩ := DataW.trod_string hu hf
  exact ⟨s, h1, h2⟩
/-- The value of a struct or an array as one value. -/
theorem Tr.struct {fs : Array Field} (hu : P.underlying t = some (.struct fs)) (h : Tr P W t cs) :
    cs.length = P.cellsOf t ∧ ∀ (i : Nat) (f : Field), fs[i]? = some f → Tr P W f.type ((cs.drop f.offset).take (P.cellsOf f.type)) := by
  obtain ⟨H, enc, fuel, x, hf⟩ := h
  obtain ⟨xs, n, _, _, hl, hx, hall⟩ := DataW.trod_struct hu hf
  refine ⟨hl, fun i f hi => ?_⟩
  have hlt : i < xs.length := by rw [hx]; exact (Array.getElem?_eq_some_iff.1 hi).1
  exact ⟨H, enc, n, xs[i], (hall i f hi).trans (List.getElem?_eq_getElem hlt)⟩
theorem Tr.field {fs : Array Field} (hu : P.underlying t = some (.struct fs)) (h : Tr P W t cs) (i : Nat) {ty off n : Nat} (hf : fs[i]?.map (fun f => (f.type, f.offset)) = some (ty, off)) (hn : P.cellsOf ty = n) :
    Tr P W ty ((cs.drop off).take n) := by
  cases hx : fs[i]? with
  | none => rw [hx] at hf; cases hf
  | some f =>
    rw [hx] at hf
    simp only [Option.map_some, Option.some.injEq, Prod.mk.injEq] at hf
    have := (Tr.struct hu h).2 i f hx
    rw [hf.1, hf.2, hn] at this
    exact this
theorem Tr.array {n : Nat} {e : TypeId} (hu : P.underlying t = some (.array n e)) (h : Tr P W t cs) :
    cs.length = P.cellsOf t ∧ ∀ i, i < n → Tr P W e ((cs.drop (i * P.cellsOf e)).take (P.cellsOf e)) := by
  obtain ⟨H, enc, fuel, x, hf⟩ := h
  obtain ⟨xs, m, _, _, hl, hx, hall⟩ := DataW.trod_array hu hf
  refine ⟨hl, fun i hi => ?_⟩
  have hlt : i < xs.length := by omega
  exact ⟨H, enc, m, xs[i], (hall i hi).trans (List.getElem?_eq_getElem hlt)⟩

/-- Cells of memory that read as a value of type e, at a place of a row. -/
def At (P : Program) (W : World) (e : TypeId) (b off : Nat) (cs : List Value) : Prop :=
  b < W.heap.size ∧ (∀ j, j < cs.length → W.cell? ⟨b, off + j, none⟩ = cs[j]?) ∧ Tr P W e cs
theorem At.later {e : TypeId} {b off : Nat} {w : World} (h : At P W e b off cs) (hb : Below W.heap.size W w) {j : Nat} (hj : j < cs.length) : w.cell? ⟨b, off + j, none⟩ = cs[j]? :=
  (hb.cell (p := ⟨b, off + j, none⟩) h.1).trans (h.2.1 j hj)

theorem add_spot (b off n : Nat) : (⟨b, off, none⟩ : Addr).add n = ⟨b, off + n, none⟩ := by unfold Addr.add; split <;> simp_all
theorem spot_of_add {a : Addr} {n : Nat} {w : World} {v : Value} (h : w.cell? a = some v) (_hn : n = 0) : a.spot = none := World.cell?_spot h

/-- A slice: nil, or a row whose elements read. (An element takes 'size' cells, one at least.) -/
theorem Tr.slice {e : TypeId} (hu : P.underlying t = some (.slice e)) {size : Nat} (he : P.cellsOf e = size) (hs : 0 < size) (h : Tr P W t cs) :
    ∃ (A : Option Addr) (len cap : Nat), cs = [.slice A len cap] ∧ len ≤ cap ∧ cap ≤ maxLen ∧ ∀ i, i < len → ∃ b off, A = some ⟨b, off, none⟩ ∧ ∃ es, es.length = size ∧ At P W e b (off + i * size) es := by
  obtain ⟨H, enc, fuel, x, hf⟩ := h
  rcases Go.Deep.open_slice hu hf with ⟨rfl, _⟩ | ⟨a, len, cap, m, n, D, Pl, rfl, _, hl, hm, hmm, _, hall⟩
  · exact ⟨none, 0, 0, rfl, by omega, by unfold maxLen; omega, fun i hi => by omega⟩
  · simp only [if_true] at hmm
    refine ⟨some a, len, cap, rfl, hl, hm, fun i hi => ?_⟩
    have hsp : a.spot = none := by
      obtain ⟨c0, h0, _⟩ := hall 0 (by omega)
      obtain ⟨k1, k2, k3⟩ := World.cells?_some h0
      have hz := k3 0 (by omega)
      rw [Nat.zero_mul] at hz
      have hz' : W.cell? a = c0[0]? := by simpa [Addr.add] using hz
      rw [List.getElem?_eq_getElem (by omega)] at hz'
      exact World.cell?_spot hz'
    obtain ⟨b, off, sp⟩ := a
    simp only at hsp
    subst hsp
    obtain ⟨es, h0, h1⟩ := hall i (by omega)
    obtain ⟨k1, k2, k3⟩ := World.cells?_some h0
    rw [he] at h0 k2 k3
    refine ⟨b, off, rfl, es, k2, ?_, fun j hj => ?_, H, enc, n, _, h1⟩
    · have := World.cells?_block h0 hs
      rwa [add_spot] at this
    · have hz := k3 j (by omega)
      rw [add_spot, add_spot] at hz
      exact hz
end
end Go.Proofs.Ytgkpobajafjdeaa

/- As Read, with the reach beside it ('TrW': these cells read as a value of that type, and each slice and string in it takes at most reachBytes). -/
namespace Go.Proofs.Ytgkpobajafjdeaa
open Go.ChangeShapes Go.WideShapes Go.ChangeAt Go.RowKit

def TrW (P : Program) (W : World) (t : TypeId) (cs : List Value) : Prop :=
  ∃ (H : Type) (enc : TypeId × Value → H) (fuel : Nat) (x : DataW H × List MemPlace), DataW.trod enc P W 0 (fun _ => true) true fuel t cs = some x ∧ ∀ n ∈ x.1.weights P t, n ≤ reachBytes

section
variable {P : Program} {W : World} {t : TypeId} {cs : List Value}
theorem TrW.tr (h : TrW P W t cs) : Tr P W t cs := by
  obtain ⟨H, enc, fuel, x, hf, _⟩ := h
  exact ⟨H, enc, fuel, x, hf⟩
theorem TrW.of {H : Type} {enc : TypeId × Value → H} {v : Value} {d : DataW H} {ps : List MemPlace} (h : DataW.Trod enc P W 0 (fun _ => true) true t v d ps) (hs : (DataW.weightsEach P [t] [d]).all (· ≤ reachBytes) = true) : TrW P W t v.cells.toList := by
  obtain ⟨fuel, hf⟩ := h
  refine ⟨H, enc, fuel, _, hf, fun n hn => ?_⟩
  have := List.all_eq_true.1 hs n (by simp only [DataW.weightsEach, List.append_nil]; exact hn)
  simpa using this
theorem weightsAll_mem {H : Type} {e : TypeId} {d : DataW H} {n : Nat} : ∀ {ds : List (DataW H)}, d ∈ ds → n ∈ d.weights P e → n ∈ DataW.weightsAll P e ds
  | x :: r, hm, hn => by
    simp only [DataW.weightsAll, List.mem_append]
    rcases List.mem_cons.1 hm with rfl | hm
    · exact .inl hn
    · exact .inr (weightsAll_mem hm hn)
theorem TrW.struct {fs : Array Field} (hu : P.underlying t = some (.struct fs)) (h : TrW P W t cs) :
    cs.length = P.cellsOf t ∧ ∀ (i : Nat) (f : Field), fs[i]? = some f → TrW P W f.type ((cs.drop f.offset).take (P.cellsOf f.type)) := by
  obtain ⟨H, enc, fuel, x, hf, hw⟩ := h
  obtain ⟨xs, n, _, rfl, hl, hx, hall⟩ := DataW.trod_struct hu hf
  refine ⟨hl, fun i f hi => ?_⟩
  have hlt : i < xs.length := by rw [hx]; exact (Array.getElem?_eq_some_iff.1 hi).1
  refine ⟨H, enc, n, xs[i], (hall i f hi).trans (List.getElem?_eq_getElem hlt), fun m hm => hw m ?_⟩
  simp only [DataW.weights, hu]
  refine DataW.weights_mem_each (j := i) (t := f.type) (d := xs[i].1) ?_ ?_ m hm
  · rw [List.getElem?_map, Array.getElem?_toList, hi]; rfl
  · rw [List.getElem?_map, List.getElem?_eq_getElem hlt]; rfl
theorem TrW.field {fs : Array Field} (hu : P.underlying t = some (.struct fs)) (h : TrW P W t cs) (i : Nat) {ty off n : Nat} (hf : fs[i]?.map (fun f => (f.type, f.offset)) = some (ty, off)) (hn : P.cellsOf ty = n) :
    TrW P W ty ((cs.drop off).take n) := by
  cases hx : fs[i]? with
  | none => rw [hx] at hf; cases hf
  | some f =>
    rw [hx] at hf
    simp only [Option.map_some, Option.some.injEq, Prod.mk.injEq] at hf
    have := (TrW.struct hu h).2 i f hx
    rw [hf.1, hf.2, hn] at this
    exact this
/-- Cells of memory that read as a value of type e, at a place of a row. -/
def AtW (P : Program) (W : World) (e : TypeId) (b off : Nat) (cs : List Value) : Prop :=
  b < W.heap.size ∧ (∀ j, j < cs.length → W.cell? ⟨b, off + j, none⟩ = cs[j]?) ∧ TrW P W e cs
theorem TrW.slice {e : TypeId} (hu : P.underlying t = some (.slice e)) {size : Nat} (he : P.cellsOf e = size) (hs : 0 < size) (h : TrW P W t cs) :
    ∃ (A : Option Addr) (len cap : Nat), cs = [.slice A len cap] ∧ len ≤ cap ∧ cap ≤ maxLen ∧ len * P.bytesOf e ≤ reachBytes ∧ (A = none → cap = 0) ∧ ∀ i, i < len → ∃ b off, A = some ⟨b, off, none⟩ ∧ ∃ es, es.length = size ∧ AtW P W e b (off + i * size) es := by
  obtain ⟨H, enc, fuel, x, hf, hw⟩ := h
  rcases Go.Deep.open_slice hu hf with ⟨rfl, _⟩ | ⟨a, len, cap, m, n, D, Pl, rfl, _, hl, hm, hmm, rfl, hall⟩
  · exact ⟨none, 0, 0, rfl, by omega, by unfold maxLen; omega, by simp, fun _ => rfl, fun i hi => by omega⟩
  · simp only [if_true] at hmm
    have hweigh : (len + (m - len)) * P.bytesOf e ≤ reachBytes := by
      refine hw _ ?_
      simp only [DataW.weights, hu, List.length_map, List.length_range]
      exact List.mem_cons_self
    refine ⟨some a, len, cap, rfl, hl, hm, Nat.le_trans (Nat.mul_le_mul_right _ (by omega)) hweigh, (fun h => by cases h), fun i hi => ?_⟩
    have hsp : a.spot = none := by
      obtain ⟨c0, h0, _⟩ := hall 0 (by omega)
      obtain ⟨k1, k2, k3⟩ := World.cells?_some h0
      have hz := k3 0 (by omega)
      rw [Nat.zero_mul] at hz
      have hz' : W.cell? a = c0[0]? := by simpa [Addr.add] using hz
      rw [List.getElem?_eq_getElem (by omega)] at hz'
      exact World.cell?_spot hz'
    obtain ⟨b, off, sp⟩ := a
    simp only at hsp
    subst hsp
    obtain ⟨es, h0, h1⟩ := hall i (by omega)
    obtain ⟨k1, k2, k3⟩ := World.cells?_some h0
    rw [he] at h0 k2 k3
    refine ⟨b, off, rfl, es, k2, ?_, fun j hj => ?_, H, enc, n, _, h1, fun q hq => hw q ?_⟩
    · have := World.cells?_block h0 hs
      rwa [add_spot] at this
    · have hz := k3 j (by omega)
      rw [add_spot, add_spot] at hz
      exact hz
    · simp only [DataW.weights, hu]
      refine List.mem_cons_of_mem _ (List.mem_append.2 (.inl (weightsAll_mem (d := D i) ?_ hq)))
      exact List.mem_map.2 ⟨i, List.mem_range.2 hi, rfl⟩
end
end Go.Proofs.Ytgkpobajafjdeaa
