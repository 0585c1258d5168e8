/- The disk: Crash. -/
import Derived.Test.YtgkpobajafjdeaaP5
import Derived.Deep.RegionWith
import Derived.Deep.CutRange
/- Disk.Crash. -/
namespace Go.Proofs.Ytgkpobajafjdeaa
open Go.RowKit Go.Maps

set_option maxRecDepth 100000 in
set_option maxHeartbeats 4000000 in
theorem crash_any (w : World) (base i D bN bS : Nat) (ρ : Nat → Nat) (d : DM) (fb : Nat → Nat) (chv : Value) (h : DiskD w base ρ i D d fb bN bS chv) (A : Option Addr) (n cap : Nat) (ps : List Int) (hps : ps.length = n) (hcap : n ≤ cap) (hpc : ∀ (k : Nat) (p : Int), ps[k]? = some p → ∃ pb off, A = some ⟨pb, off, none⟩ ∧ pb < w.heap.size ∧ w.cell? ⟨pb, off + k, none⟩ = some (.int .i64 p)) (hP : PlayOk d.sure d.ch) (hcl : d.ch.length ≤ 100000000) (hok : NM.Ok d.sure) (hl : d.sure.length ≤ 100000) (hdo : d.Ok) (hun : ∀ j, (d.file j).units.length ≤ 1000000000) (hto : ∀ j, (d.file j).most ≤ 1000000000) :
    Calls Try.prog 21 #[.pointer (some ⟨D, 0, none⟩), .slice A n cap] w (CrashEnd d ps w) := by
  have hb1 : Below w.heap.size w ((w.alloc (.cells #[.slice A n cap] 23)).alloc (.map #[] 0)) := ((Below.refl _ _).alloc (Nat.le_refl _) _).alloc (by simp) _
  have h1 := h.below hb1
  have c3 := h1.cell 3
  simp only [diskC, List.getElem?_toArray, List.getElem?_cons_zero, List.getElem?_cons_succ] at c3
  have hm := h1.sure
  unfold MapAt at hm
  have hmm := @run_makeMap Try.prog
  have hbS := h.sure.lt
  have hm2 := map_new (w.alloc (.cells #[.slice A n cap] 23)) fb
  have hob : ((w.alloc (.cells #[.slice A n cap] 23)).alloc (.map #[] 0)).heap[w.heap.size]? = some (.cells #[.slice A n cap] 23 (0, 0)) := by
    rw [Below.heap_alloc _ _ _ (by simp)]
    exact heap_alloc_new w _
  rw [World.size_alloc] at hm2
  have HM2 := Lib.hid hm2
  have HOB := Lib.hid hob
  have HB1 := Lib.hid hb1
  have HBS := Lib.hid hbS
  have H := Lib.hid h
  have HOK := Lib.hid hok
  have HPS := Lib.hid (And.intro hps (And.intro hcap hpc))
  have HPO := Lib.hid hP
  have HCL := Lib.hid hcl
  have HL := Lib.hid hl
  clear h h1 hm2 hob hb1 hbS hok hl hps hcap hpc hP hcl
  go_enter Try.func21, Try.ntmps21
  go_wp2_with (first | (at_range; refine wpList_range_own _ rfl _ 78 rfl 9 72 keyS Try.underlying78 ptrElem bS d.sure.length (toD fb d.sure) rfl hm ?_; intro w0 hrg0 hg0 hs0) | go_in)
  go_frame
  have hsz : ((w.alloc (.cells #[.slice A n cap] 23)).alloc (.map #[] 0)).heap.size = w.heap.size + 2 := by simp
  rw [hsz] at hrg0 ⊢
  have HSZ := Lib.hid hsz
  clear hsz
  go_loopw [] (fun wr => CopyRel w bS fb d.sure (.cells #[.slice A n cap] 23 (0, 0)) wr) (fun wr => wr.rangeLeft bS (w.heap.size + 2))
  case atStart =>
    have hsz := HSZ.out
    refine ⟨_, _, hrg0, ?_, ?_, HB1.out.grown hg0 (by rw [hsz]; omega) (fun q hq => by cases hq)⟩
    · rw [metL_start fb _ HOK.out]
      exact HM2.out.same (hg0.block _ (by rw [hsz]; omega) (by simp))
    · exact (hg0.block _ (by rw [hsz]; omega) (by simp)).trans HOB.out
  case round =>
    clear hrg0 hg0 hs0 hm c3
    obtain ⟨left, cnt, hrg, hmp, hbx, hb⟩ := hrel
    have HMP := Lib.hid hmp
    have HBX := Lib.hid hbx
    have HB := Lib.hid hb
    have HE := Lib.hid hrg.left_eq
    clear hmp hbx hb
    go_wp2_with (first | (at_next; refine wpList_next_names _ rfl _ rfl bS (w.heap.size + 2) _ fb d.sure left cnt rfl hrg ?_ ?_) | go_in)
    · intro hl0
      have hmp := HMP.out
      rw [metL_end left hl0] at hmp
      have h3 := H.out.below HB.out
      obtain ⟨A4, cap4, rfl, _⟩ := h3.ch.len2
      have c4 := h3.cell 4
      simp only [diskC, List.getElem?_toArray, List.getElem?_cons_zero, List.getElem?_cons_succ] at c4
      have HM3 := Lib.hid hmp
      have H3 := Lib.hid h3
      obtain ⟨N4, hN4⟩ : ∃ N4, d.ch.length = N4 := ⟨_, rfl⟩
      rw [hN4] at c4
      have HN4 := Lib.hid hN4
      clear hrg hl0 hmp h3 hN4
      go_wp2_with fail
      refine wp_region_held_drew (S := fun w' => w'.cell? ⟨D, 4, none⟩ = some (.slice A4 N4 cap4)) (by kernel_rfl) c4 (fun hHeld => ?_)
      refine wpAnyH_take (i := 0) (v := ?_) rfl (by kernel_rfl) (by kernel_rfl) (by kernel_rfl) (fun _ _ _ h => h) (Or.inl ⟨by rfl, fun w hSw => ?_⟩) hHeld ?_
      rotate_left
      · (try dsimp only at hSw); go_split_ands; go_simp <;> with_reducible rfl
      (try simp only [Act.put, List.getElem_toArray, List.getElem_cons_zero, List.setIfInBounds_toArray, List.set_cons_zero, List.set_cons_succ])
      refine wpAnyH_take (i := 1) (v := ?_) rfl (by kernel_rfl) (by kernel_rfl) (by kernel_rfl) (fun _ _ _ h => h) (Or.inl ⟨by rfl, fun w hSw => ?_⟩) hHeld ?_
      rotate_left
      · (try dsimp only at hSw); go_split_ands; go_simp <;> with_reducible rfl
      (try simp only [Act.put, List.getElem_toArray, List.getElem_cons_succ, List.getElem_cons_zero, List.setIfInBounds_toArray, List.set_cons_zero, List.set_cons_succ])
      refine wpAnyH_take (i := 2) (v := ?_) rfl (by kernel_rfl) (by kernel_rfl) (by kernel_rfl) (fun _ _ _ h => h) (Or.inl ⟨by rfl, fun w hSw => ?_⟩) hHeld ?_
      rotate_left
      · (try dsimp only at hSw); go_split_ands; go_simp <;> with_reducible rfl
      (try simp only [Act.put, List.getElem_toArray, List.getElem_cons_succ, List.getElem_cons_zero, List.setIfInBounds_toArray, List.set_cons_zero, List.set_cons_succ])
      refine wpAnyH_take (i := 3) (v := ?_) rfl (by kernel_rfl) (by kernel_rfl) (by kernel_rfl) (fun _ _ _ h => h) (Or.inl ⟨by rfl, fun w hSw => ?_⟩) hHeld ?_
      rotate_left
      · (try dsimp only at hSw); go_split_ands; go_simp <;> with_reducible rfl
      (try simp only [Act.put, List.getElem_toArray, List.getElem_cons_succ, List.getElem_cons_zero, List.setIfInBounds_toArray, List.set_cons_zero, List.set_cons_succ])
      refine wpAnyH_take (i := 4) (v := ?_) rfl (by kernel_rfl) (by kernel_rfl) (by kernel_rfl) (fun _ _ _ h => h) (Or.inl ⟨by rfl, fun w hSw => ?_⟩) hHeld ?_
      rotate_left
      · (try dsimp only at hSw); go_split_ands; go_simp <;> with_reducible rfl
      (try simp only [Act.put, List.getElem_toArray, List.getElem_cons_succ, List.getElem_cons_zero, List.setIfInBounds_toArray, List.set_cons_zero, List.set_cons_succ])
      refine wpAnyH_take (i := 5) (v := ?_) rfl (by kernel_rfl) (by kernel_rfl) (by kernel_rfl) (fun _ _ _ h => h) (Or.inl ⟨by rfl, fun w hSw => ?_⟩) hHeld ?_
      rotate_left
      · (try dsimp only at hSw); go_split_ands; go_simp <;> with_reducible rfl
      (try simp only [Act.put, List.getElem_toArray, List.getElem_cons_succ, List.getElem_cons_zero, List.setIfInBounds_toArray, List.set_cons_zero, List.set_cons_succ])
      refine wpAnyH_take (i := 6) (v := ?_) rfl (by kernel_rfl) (by kernel_rfl) (by kernel_rfl) (fun _ _ _ h => h) (Or.inl ⟨by rfl, fun w hSw => ?_⟩) hHeld ?_
      rotate_left
      · (try dsimp only at hSw); go_split_ands; go_simp <;> with_reducible rfl
      (try simp only [Act.put, List.getElem_toArray, List.getElem_cons_succ, List.getElem_cons_zero, List.setIfInBounds_toArray, List.set_cons_zero, List.set_cons_succ])
      refine wpAnyH_take (i := 7) (v := ?_) rfl (by kernel_rfl) (by kernel_rfl) (by kernel_rfl) (fun _ _ _ h => h) (Or.inl ⟨by rfl, fun w hSw => ?_⟩) hHeld ?_
      rotate_left
      · (try dsimp only at hSw); go_split_ands; go_simp <;> with_reducible rfl
      (try simp only [Act.put, List.getElem_toArray, List.getElem_cons_succ, List.getElem_cons_zero, List.setIfInBounds_toArray, List.set_cons_zero, List.set_cons_succ])
      refine wpAnyH_take (i := 8) (v := ?_) rfl (by kernel_rfl) (by kernel_rfl) (by kernel_rfl) (fun _ _ _ h => h) (Or.inl ⟨by rfl, fun w hSw => ?_⟩) hHeld ?_
      rotate_left
      · (try dsimp only at hSw); go_split_ands; go_simp <;> with_reducible rfl
      (try simp only [Act.put, List.getElem_toArray, List.getElem_cons_succ, List.getElem_cons_zero, List.setIfInBounds_toArray, List.set_cons_zero, List.set_cons_succ])
      refine wpAnyH_take (i := 9) (v := ?_) rfl (by kernel_rfl) (by kernel_rfl) (by kernel_rfl) (fun _ _ _ h => h) (Or.inl ⟨by rfl, fun w hSw => ?_⟩) hHeld ?_
      rotate_left
      · (try dsimp only at hSw); go_split_ands; go_simp <;> with_reducible rfl
      (try simp only [Act.put, List.getElem_toArray, List.getElem_cons_succ, List.getElem_cons_zero, List.setIfInBounds_toArray, List.set_cons_zero, List.set_cons_succ])
      refine wpAnyH_take (i := 10) (v := ?_) rfl (by kernel_rfl) (by kernel_rfl) (by kernel_rfl) (fun _ _ _ h => h) (Or.inl ⟨by rfl, fun w hSw => ?_⟩) hHeld ?_
      rotate_left
      · (try dsimp only at hSw); go_split_ands; go_simp <;> with_reducible rfl
      (try simp only [Act.put, List.getElem_toArray, List.getElem_cons_succ, List.getElem_cons_zero, List.setIfInBounds_toArray, List.set_cons_zero, List.set_cons_succ])
      refine wpAnyH_ready (rs := [11]) (by kernel_rfl) (by simp) (AllReadyH.cons rfl (fun K hK => ?_) AllReadyH.nil)
      go_simp
      have hpk : PicksAt wr.drew w.heap.size w.heap.size ps := by
        obtain ⟨q1, q2, q3⟩ := HPS.out
        refine ⟨A, cap, ?_, by omega, fun k p hk => ?_⟩
        · rw [q1]; exact HBX.out
        · obtain ⟨pb, off, e, hlt, hc⟩ := q3 k p hk
          exact ⟨pb, off, e, by omega, hlt, cellKeep HB.out hc⟩
      (with_reducible refine (next_any wr.drew w.heap.size w.heap.size N4 ps hpk (by have := HCL.out; have := HN4.out; omega)).mono ?_)
      rintro e w5 ⟨rfl, hpk5, hw5⟩
      have hg5 : wr.drew.grownBy w5 (some w.heap.size) := by
        rcases hw5 with rfl | ⟨v, rfl⟩
        · exact grownBy_refl _ _
        · exact only_grown (OnlyB.set (OnlyB.refl (show wr.drew.heap[w.heap.size]? = _ from HBX.out)) (lt_of_obj HBX.out) 0 v)
      have hb5 : Below w.heap.size w w5 := (HB.out.drew).grown hg5 HB.out.size (fun q hq => by injection hq with hq; omega)
      have h5 := H.out.below hb5
      have d4 := h5.cell 4
      simp only [diskC, List.getElem?_toArray, List.getElem?_cons_zero, List.getElem?_cons_succ, HN4.out] at d4
      have hm5 := HM3.out.same (w' := w5) (hg5.block _ HM3.out.lt (by intro e; injection e with e; omega))
      have hkl := pickN_le ps N4
      obtain ⟨k, hk⟩ : ∃ k, pickN ps N4 = k := ⟨_, rfl⟩
      have HKP := Lib.hid hk
      rw [hk] at hkl ⊢
      have hcap4 : N4 ≤ cap4 := by
        have := h5.ch.len2
        obtain ⟨_, _, e, q⟩ := this
        injection e with _ _ e
        rw [← e] at q
        rw [HN4.out] at q
        exact q
      have hA := chAt_take (k := k) (chAt_of h5.ch rfl)
      have hPl := play_any w5 (w.heap.size + 1) k cap4 fb d.sure A4 (d.ch.take k) (by rw [List.length_take, HN4.out]; omega) hm5 hA (HPO.out.take k) (by have := HCL.out; have := HN4.out; omega)
      have hsl := slice_to 79 (by kernel_rfl) 4 (fun w' => by kernel_rfl) A4 N4 cap4 k (by omega)
      have HPL := Lib.hid hPl
      have H5 := Lib.hid (And.intro h5 (And.intro hb5 (And.intro hm5 hpk5)))
      refine hK.out _ _ d4 (fun hHeld => ?_)
      clear hK K h5 hb5 hm5 hPl hA hpk hpk5 hw5 hg5 hk hkl hcap4
      (try simp only [Act.put, List.getElem_toArray, List.getElem_cons_succ, List.getElem_cons_zero, List.setIfInBounds_toArray, List.set_cons_zero, List.set_cons_succ])
      refine wpAnyH_take (i := 12) (v := ?_) rfl (by kernel_rfl) (by kernel_rfl) (by kernel_rfl) (fun _ _ _ h => h) (Or.inl ⟨by rfl, fun w hSw => ?_⟩) hHeld ?_
      rotate_left
      · (try dsimp only at hSw); go_split_ands; go_simp <;> with_reducible rfl
      (try simp only [Act.put, List.getElem_toArray, List.getElem_cons_succ, List.getElem_cons_zero, List.setIfInBounds_toArray, List.set_cons_zero, List.set_cons_succ])
      refine wpAnyH_ready (rs := [13]) (by kernel_rfl) (by simp) (AllReadyH.cons rfl (fun K hK => ?_) AllReadyH.nil)
      go_simp
      go_at_call 45
      (with_reducible refine HPL.out.mono ?_)
      rintro e w6 ⟨rfl, hm6, hg6⟩
      have hb6 : Below w.heap.size w w6 := (H5.out.2.1).grown hg6 H5.out.2.1.size (fun q hq => by injection hq with hq; omega)
      have h6 := H.out.below hb6
      have d6 := h6.cell 4
      simp only [diskC, List.getElem?_toArray, List.getElem?_cons_zero, List.getElem?_cons_succ, HN4.out] at d6
      have hpk6 := H5.out.2.2.2.grown hg6 (by omega) (by omega) H5.out.2.1.size
      have H6 := Lib.hid (And.intro h6 (And.intro hb6 (And.intro hm6 hpk6)))
      refine hK.out _ _ d6 (fun hHeld => ?_)
      clear hK K h6 hb6 hm6 hpk6 hg6 H5 HPL
      (try simp only [Act.put, List.getElem_toArray, List.getElem_cons_succ, List.getElem_cons_zero, List.setIfInBounds_toArray, List.set_cons_zero, List.set_cons_succ])
      refine wpAnyH_done (by kernel_rfl) ?_ _
      have hsorted := sorted_any w6 (w.heap.size + 1) fb (play d.sure (d.ch.take k)) H6.out.2.2.1 (play_ok HOK.out _) (Nat.le_of_lt (HPO.out.len k))
      have HSO := Lib.hid hsorted
      clear hsorted
      clear d4 d6 c4 hsl
      go_wp2_with (go_at_call 40; (with_reducible refine HSO.out.mono ?_); rintro e w7 ⟨A7, cap7, rfl, ho7, hb7⟩; have H7 := Lib.hid (And.intro ho7 hb7); clear ho7 hb7)
      have hgd := hdo.good k
      have hdc : d.crash ps = crashL d.file (play d.sure (d.ch.take k)) ps.tail := by
        unfold DM.crash
        rw [HN4.out, HKP.out]
      obtain ⟨l, hl⟩ : ∃ l, play d.sure (d.ch.take k) = l := ⟨_, rfl⟩
      rw [hl] at H6 H7 hgd hdc
      have hm7 : MapAt w7 (w.heap.size + 1) fb l := H6.out.2.2.1.same (H7.out.2.block _ H6.out.2.2.1.lt)
      have hW6 : w.heap.size + 1 < w6.heap.size := H6.out.2.2.1.lt
      have hb7 : Below w.heap.size w w7 := H6.out.2.1.trans (H7.out.2.mono H6.out.2.1.size)
      have hpk7 : PicksAt w7 w.heap.size w.heap.size ps.tail := H6.out.2.2.2.below H7.out.2 (by omega) (by omega)
      have hs7 := H7.out.2.size
      have HA7 := Lib.hid (And.intro hm7 (And.intro H7.out.1 (And.intro hb7 hpk7)))
      have HGD := Lib.hid hgd
      have HDC := Lib.hid hdc
      have HW6 := Lib.hid (And.intro hW6 hs7)
      rw [hl]
      obtain ⟨L, hL⟩ : ∃ L, l.length = L := ⟨_, rfl⟩
      rw [hL]
      have HLL := Lib.hid hL
      clear hm7 hW6 hb7 hpk7 hs7 hgd hdc hl hL H6 H7 HSO HM3 H3 hmm
      go_loopw [9, 48] (fun sv iv wr => CrRel w.heap.size w7 d.file l ps.tail sv iv wr) (fun _ iv _ => (L - intOf iv).toNat)
      case atStart => exact ⟨0, rfl, Nat.zero_le _, ImgAt.nil _ _, HA7.out.2.2.2, Aside.refl _ _ _⟩
      case round =>
        obtain ⟨j, rfl, hj, himg, hpk, has⟩ := hrel
        have hsl := himg.slice
        rw [crashL_len, List.length_take, Nat.min_eq_left hj] at hsl
        obtain ⟨A9, cap9, rfl, hc9⟩ := hsl
        rw [HLL.out] at hj
        by_cases hlt : j < L
        · have q1 : (j : Int) < (L : Int) := by omega
          have hLl := HLL.out
          obtain ⟨p, hp⟩ : ∃ p, l[j]? = some p := ⟨l[j]'(by omega), List.getElem?_eq_getElem _⟩
          obtain ⟨m, f⟩ := p
          have hpm := List.mem_of_getElem? hp
          have hfair := HGD.out.fair _ hpm
          have hidx := HGD.out.idx _ hpm
          have hget := NM.get_of HGD.out.ok hpm
          have hmsz := str_size m (fair_len hfair).2
          obtain ⟨hW6, hs7⟩ := HW6.out
          have ho := has.one HA7.out.2.1 (Nat.le_refl _) (by omega)
          obtain ⟨g7, rfl, d7⟩ := ho.getN (k := j) (by omega) (by omega)
          have e7 : cS (l.map Prod.fst) j = .string (str m) := by
            unfold cS
            rw [List.getElem?_map, hp]
            rfl
          rw [e7] at d7
          have hmr := HA7.out.1.same (w' := wr) (has.block _ (by omega) (by omega))
          have HWJ := Lib.hid (w64s (k := j) (by have := HGD.out.len; omega))
          have hlk := hmr.look (s := str m) hmsz
          unfold lookV at hlk
          rw [list_str, hget] at hlk
          have hbr : Below w.heap.size w wr := HA7.out.2.2.1.trans (has.below (by omega) (Nat.le_refl _))
          obtain ⟨kv, uv, sv, hf⟩ := H.out.files f hidx
          obtain ⟨Ak, capk, rfl, _⟩ := hf.kept.len
          obtain ⟨Au, capu, rfl, hcu⟩ := hf.units.len2
          have hfr := hf.below hbr
          have c0 := cell_of_obj hfr.obj.1 0
          simp only [List.getElem?_toArray, List.getElem?_cons_zero] at c0
          have hkl : (d.file f).kept.length ≤ 1000000000 := by
            have := hto f
            unfold FM.most at this
            omega
          have hul := hun f
          have hclone := clone_any wr Ak (d.file f).kept.length capk (d.file f).kept rfl hfr.kept.1.src (fun h => hfr.kept.1.nil_len h) (by omega)
          have HCLO := Lib.hid hclone
          have HF := Lib.hid hf
          have HIMG := Lib.hid himg
          have HPK := Lib.hid hpk
          have HAS := Lib.hid has
          have HBR := Lib.hid hbr
          have HCU := Lib.hid hcu
          have HKL := Lib.hid hkl
          have HUL := Lib.hid hul
          have HLT := Lib.hid hlt
          have HJM := Lib.hid hp
          have HFI := Lib.hid (hdo.file f)
          obtain ⟨kept, hkept⟩ : ∃ kept, (d.file f).kept = kept := ⟨_, rfl⟩
          obtain ⟨us, hus⟩ : ∃ us, (d.file f).units = us := ⟨_, rfl⟩
          have HKE := Lib.hid hkept
          have HUS := Lib.hid hus
          rw [hkept] at HCLO HKL c0
          rw [hus] at HUL
          obtain ⟨nk, hnk⟩ : ∃ nk, kept.length = nk := ⟨_, rfl⟩
          obtain ⟨nu, hnu⟩ : ∃ nu, us.length = nu := ⟨_, rfl⟩
          have HNK := Lib.hid hnk
          have HNU := Lib.hid hnu
          unfold CloneEnd at HCLO
          rw [hnk] at c0 HCLO
          clear himg hpk has hbr hcu hkl hul hlt hp hpm hfair hidx hget hmsz ho hmr hf hfr hclone hkept hus hnk hnu hLl e7
          go_wp2_with (go_at_call 38; (with_reducible refine HCLO.out.mono ?_); rintro e w8 ⟨A8, cap8, rfl, ht8⟩; have HT8 := Lib.hid ht8; clear ht8)
          have hb8 : Below w.heap.size w w8 := HBR.out.trans (HT8.out.2.mono HBR.out.size)
          have has8 : Aside w.heap.size w7.heap.size w7 w8 := HAS.out.trans (Aside.of HT8.out.2 HAS.out.size)
          have hpk8 := HPK.out.below HT8.out.2 HBR.out.size (Nat.lt_of_lt_of_le (by have := HW6.out; omega) HAS.out.size)
          have hf8 := HF.out.below hb8
          have c1 := cell_of_obj hf8.obj.1 1
          simp only [List.getElem?_toArray, List.getElem?_cons_zero, List.getElem?_cons_succ] at c1
          rw [HUS.out, HNU.out] at c1
          have H8 := Lib.hid (And.intro hb8 (And.intro has8 hpk8))
          clear hb8 has8 hpk8 hf8
          refine wp_region_held_drew (S := fun w' => w'.cell? ⟨fb f, 1, none⟩ = some (.slice Au nu capu)) (by kernel_rfl) c1 (fun hHeld => ?_)
          refine wpAnyH_take (i := 0) (v := ?_) rfl (by kernel_rfl) (by kernel_rfl) (by kernel_rfl) (fun _ _ _ h => h) (Or.inl ⟨by rfl, fun w hSw => ?_⟩) hHeld ?_
          rotate_left
          · (try dsimp only at hSw); go_split_ands; go_simp <;> with_reducible rfl
          (try simp only [Act.put, List.getElem_toArray, List.getElem_cons_zero, List.setIfInBounds_toArray, List.set_cons_zero, List.set_cons_succ])
          refine wpAnyH_take (i := 1) (v := ?_) rfl (by kernel_rfl) (by kernel_rfl) (by kernel_rfl) (fun _ _ _ h => h) (Or.inl ⟨by rfl, fun w hSw => ?_⟩) hHeld ?_
          rotate_left
          · (try dsimp only at hSw); go_split_ands; go_simp <;> with_reducible rfl
          (try simp only [Act.put, List.getElem_toArray, List.getElem_cons_succ, List.getElem_cons_zero, List.setIfInBounds_toArray, List.set_cons_zero, List.set_cons_succ])
          refine wpAnyH_take (i := 2) (v := ?_) rfl (by kernel_rfl) (by kernel_rfl) (by kernel_rfl) (fun _ _ _ h => h) (Or.inl ⟨by rfl, fun w hSw => ?_⟩) hHeld ?_
          rotate_left
          · (try dsimp only at hSw); go_split_ands; go_simp <;> with_reducible rfl
          (try simp only [Act.put, List.getElem_toArray, List.getElem_cons_succ, List.getElem_cons_zero, List.setIfInBounds_toArray, List.set_cons_zero, List.set_cons_succ])
          refine wpAnyH_take (i := 3) (v := ?_) rfl (by kernel_rfl) (by kernel_rfl) (by kernel_rfl) (fun _ _ _ h => h) (Or.inl ⟨by rfl, fun w hSw => ?_⟩) hHeld ?_
          rotate_left
          · (try dsimp only at hSw); go_split_ands; go_simp <;> with_reducible rfl
          (try simp only [Act.put, List.getElem_toArray, List.getElem_cons_succ, List.getElem_cons_zero, List.setIfInBounds_toArray, List.set_cons_zero, List.set_cons_succ])
          refine wpAnyH_take (i := 4) (v := ?_) rfl (by kernel_rfl) (by kernel_rfl) (by kernel_rfl) (fun _ _ _ h => h) (Or.inl ⟨by rfl, fun w hSw => ?_⟩) hHeld ?_
          rotate_left
          · (try dsimp only at hSw); go_split_ands; go_simp <;> with_reducible rfl
          (try simp only [Act.put, List.getElem_toArray, List.getElem_cons_succ, List.getElem_cons_zero, List.setIfInBounds_toArray, List.set_cons_zero, List.set_cons_succ])
          refine wpAnyH_take (i := 5) (v := ?_) rfl (by kernel_rfl) (by kernel_rfl) (by kernel_rfl) (fun _ _ _ h => h) (Or.inl ⟨by rfl, fun w hSw => ?_⟩) hHeld ?_
          rotate_left
          · (try dsimp only at hSw); go_split_ands; go_simp <;> with_reducible rfl
          (try simp only [Act.put, List.getElem_toArray, List.getElem_cons_succ, List.getElem_cons_zero, List.setIfInBounds_toArray, List.set_cons_zero, List.set_cons_succ])
          refine wpAnyH_take (i := 6) (v := ?_) rfl (by kernel_rfl) (by kernel_rfl) (by kernel_rfl) (fun _ _ _ h => h) (Or.inl ⟨by rfl, fun w hSw => ?_⟩) hHeld ?_
          rotate_left
          · (try dsimp only at hSw); go_split_ands; go_simp <;> with_reducible rfl
          (try simp only [Act.put, List.getElem_toArray, List.getElem_cons_succ, List.getElem_cons_zero, List.setIfInBounds_toArray, List.set_cons_zero, List.set_cons_succ])
          refine wpAnyH_take (i := 7) (v := ?_) rfl (by kernel_rfl) (by kernel_rfl) (by kernel_rfl) (fun _ _ _ h => h) (Or.inl ⟨by rfl, fun w hSw => ?_⟩) hHeld ?_
          rotate_left
          · (try dsimp only at hSw); go_split_ands; go_simp <;> with_reducible rfl
          (try simp only [Act.put, List.getElem_toArray, List.getElem_cons_succ, List.getElem_cons_zero, List.setIfInBounds_toArray, List.set_cons_zero, List.set_cons_succ])
          refine wpAnyH_take (i := 8) (v := ?_) rfl (by kernel_rfl) (by kernel_rfl) (by kernel_rfl) (fun _ _ _ h => h) (Or.inl ⟨by rfl, fun w hSw => ?_⟩) hHeld ?_
          rotate_left
          · (try dsimp only at hSw); go_split_ands; go_simp <;> with_reducible rfl
          (try simp only [Act.put, List.getElem_toArray, List.getElem_cons_succ, List.getElem_cons_zero, List.setIfInBounds_toArray, List.set_cons_zero, List.set_cons_succ])
          refine wpAnyH_take (i := 9) (v := ?_) rfl (by kernel_rfl) (by kernel_rfl) (by kernel_rfl) (fun _ _ _ h => h) (Or.inl ⟨by rfl, fun w hSw => ?_⟩) hHeld ?_
          rotate_left
          · (try dsimp only at hSw); go_split_ands; go_simp <;> with_reducible rfl
          (try simp only [Act.put, List.getElem_toArray, List.getElem_cons_succ, List.getElem_cons_zero, List.setIfInBounds_toArray, List.set_cons_zero, List.set_cons_succ])
          refine wpAnyH_take (i := 13) (v := ?_) rfl (by kernel_rfl) (by kernel_rfl) (by kernel_rfl) (fun _ _ _ h => h) (Or.inl ⟨by rfl, fun w hSw => ?_⟩) hHeld ?_
          rotate_left
          · (try dsimp only at hSw); go_split_ands; go_simp <;> with_reducible rfl
          (try simp only [Act.put, List.getElem_toArray, List.getElem_cons_succ, List.getElem_cons_zero, List.setIfInBounds_toArray, List.set_cons_zero, List.set_cons_succ])
          refine wpAnyH_ready (rs := [10]) (by kernel_rfl) (by simp) (AllReadyH.cons rfl (fun K hK => ?_) AllReadyH.nil)
          go_simp
          have hpk8 : PicksAt w8.drew w.heap.size w.heap.size (ps.tail.drop j) := H8.out.2.2
          (with_reducible refine (next_any w8.drew w.heap.size w.heap.size nu (ps.tail.drop j) hpk8 (by have := HUL.out; have := HNU.out; omega)).mono ?_)
          rintro e w9 ⟨rfl, hpk9, hw9⟩
          have has89 : Aside w.heap.size w8.heap.size w8 w9 := by
            rcases hw9 with rfl | ⟨v, rfl⟩
            · exact (Aside.refl _ _ _).drew
            · exact ((Aside.refl _ _ w8).drew).trans (Aside.set w8.drew hpk8.box v)
          have hb9 : Below w.heap.size w w9 := H8.out.1.trans (has89.below H8.out.1.size (Nat.le_refl _))
          have hf9 := HF.out.below hb9
          have d1 := cell_of_obj hf9.obj.1 1
          simp only [List.getElem?_toArray, List.getElem?_cons_zero, List.getElem?_cons_succ] at d1
          rw [HUS.out, HNU.out] at d1
          have hk2l := pickN_le (ps.tail.drop j) nu
          obtain ⟨k2, hk2⟩ : ∃ k2, pickN (ps.tail.drop j) nu = k2 := ⟨_, rfl⟩
          have HK2 := Lib.hid hk2
          rw [hk2] at hk2l ⊢
          have hcu := HCU.out
          have hus := HUS.out
          have hnu := HNU.out
          rw [hus, hnu] at hcu
          have hsl2 := slice_to 75 (by kernel_rfl) 3 (fun w' => by kernel_rfl) Au nu capu k2 (by omega)
          have H9 := Lib.hid (And.intro has89 (And.intro hb9 hpk9))
          have HK2L := Lib.hid hk2l
          refine hK.out _ _ d1 (fun hHeld => ?_)
          clear hK K hf9 hb9 has89 hpk9 hpk8 hw9 hk2 hk2l hcu hus hnu c1 c0
          (try simp only [Act.put, List.getElem_toArray, List.getElem_cons_succ, List.getElem_cons_zero, List.setIfInBounds_toArray, List.set_cons_zero, List.set_cons_succ])
          refine wpAnyH_take (i := 11) (v := ?_) rfl (by kernel_rfl) (by kernel_rfl) (by kernel_rfl) (fun _ _ _ h => h) (Or.inl ⟨by rfl, fun w hSw => ?_⟩) hHeld ?_
          rotate_left
          · (try dsimp only at hSw); go_split_ands; go_simp <;> with_reducible rfl
          (try simp only [Act.put, List.getElem_toArray, List.getElem_cons_succ, List.getElem_cons_zero, List.setIfInBounds_toArray, List.set_cons_zero, List.set_cons_succ])
          refine wpAnyH_take (i := 12) (v := ?_) rfl (by kernel_rfl) (by kernel_rfl) (by kernel_rfl) (fun _ _ _ h => h) (Or.inl ⟨by rfl, fun w hSw => ?_⟩) hHeld ?_
          rotate_left
          · (try dsimp only at hSw); go_split_ands; go_simp <;> with_reducible rfl
          (try simp only [Act.put, List.getElem_toArray, List.getElem_cons_succ, List.getElem_cons_zero, List.setIfInBounds_toArray, List.set_cons_zero, List.set_cons_succ])
          refine wpAnyH_done (by kernel_rfl) ?_ _
          clear d1 hsl2 hlk d7
          go_wp2
          obtain ⟨wo, rfl⟩ : ∃ wo, wo = wr := ⟨_, rfl⟩
          go_loopw [13, 74] (fun bv iv w2 => InRel wo w9 kept (us.take k2) bv iv w2) (fun _ iv _ => (k2 - intOf iv).toNat)
          case atStart =>
            refine ⟨0, rfl, Nat.zero_le _, ?_, Below.refl _ _⟩
            have hone := HT8.out.1
            rw [HNK.out] at hone
            have hone2 := H9.out.1.one hone (Nat.le_refl _) (Nat.lt_of_lt_of_le (by have := HW6.out; omega) HAS.out.size)
            rw [List.take_zero]
            show One _ _ _ _ _ kept.length (cB kept)
            rw [HNK.out]
            exact hone2
          case round =>
            obtain ⟨u, rfl, hu, hob, hbb⟩ := hrel
            have hltk : (us.take k2).length = k2 := by rw [List.length_take]; have := HK2L.out; have := HNU.out; omega
            rw [hltk] at hu
            obtain ⟨Ab, capb, rfl, hcb⟩ := hob.len2
            have hb2 : Below w.heap.size w wr := H9.out.2.1.trans (hbb.mono HBR.out.size)
            have HB2 := Lib.hid hb2
            have HOB := Lib.hid hob
            have HBB := Lib.hid hbb
            have HU := Lib.hid hu
            by_cases hltu : u < k2
            · have q2 : (u : Int) < (k2 : Int) := by omega
              have hkk2 := HK2L.out
              have hnuu := HNU.out
              obtain ⟨x, hx⟩ : ∃ x, us[u]? = some x := ⟨us[u]'(by omega), List.getElem?_eq_getElem _⟩
              have hx2 : (us.take k2)[u]? = some x := by rw [List.getElem?_take_of_lt hltu]; exact hx
              have hmore : replay kept ((us.take k2).take (u + 1)) = Un.on (replay kept ((us.take k2).take u)) x := replay_more (l := kept) hx2
              have hws : wo.heap.size ≤ wr.heap.size := Nat.le_trans (Nat.le_trans HT8.out.2.size H9.out.1.size) hbb.size
              have HWS := Lib.hid hws
              have HWU := Lib.hid (w64s (k := u) (by have := HUL.out; omega))
              have hf2 := (HF.out.below hb2).units
              rw [HUS.out, HNU.out] at hf2
              obtain ⟨gu, rfl, x0, x1, x2⟩ := un_at hf2 hx HNU.out
              obtain ⟨bs, hbs⟩ : ∃ bs, replay kept ((us.take k2).take u) = bs := ⟨_, rfl⟩
              rw [hbs] at hmore HOB hcb
              obtain ⟨lb, hlb⟩ : ∃ lb, bs.length = lb := ⟨_, rfl⟩
              rw [hbs, hlb]
              rw [hlb] at HOB hcb
              have HMO := Lib.hid hmore
              have HLB := Lib.hid hlb
              have HBS := Lib.hid hbs
              have HLTU := Lib.hid hltu
              have HX := Lib.hid hx
              have hlbk : lb ≤ 1000000000 := by
                rw [← hlb, ← hbs]
                have h1 := replay_len ((us.take k2).take u) kept
                have h2 : ((us.take k2).take u).countP Un.isApp ≤ us.countP Un.isApp := (((List.take_sublist u _).trans (List.take_sublist k2 us)).countP_le)
                have h3 := hto f
                unfold FM.most at h3
                rw [HKE.out, HUS.out] at h3
                omega
              clear hws hmore hlb hbs hx2 hf2 hob hbb hb2 hu hltk hltu hkk2 hnuu hx
              cases x with
              | cut nn =>
                simp only [Un.cell] at x0 x1 x2
                have htt : (us.take k2).take u = us.take u := by rw [List.take_take, Nat.min_eq_left (by have := HLTU.out; omega)]
                have hnn : nn ≤ lb := by
                  have h1 := HFI.out.cuts u nn (by rw [HUS.out]; exact HX.out)
                  rw [HKE.out, HUS.out, ← htt, HBS.out, HLB.out] at h1
                  exact h1
                have hsl3 := slice_to 26 (by kernel_rfl) 1 (fun w' => by kernel_rfl) Ab lb capb nn (by omega)
                have HNN := Lib.hid hnn
                clear htt hnn
                go_wp2
                refine ⟨⟨u + 1, congrArg _ HWU.out, ?_, ?_, ?_⟩, by rw [HWU.out]; exact measure_less HLTU.out⟩
                · rw [List.length_take]; have := HLTU.out; have := HNU.out; have := HK2L.out; omega
                · have hO := HOB.out
                  rw [HMO.out]
                  have hal := ((Below.refl wr.heap.size wr).alloc (Nat.le_refl _) (.cells #[.bool true, .int .u8 0, .int .i64 (nn : Nat)] 89))
                  have h1 := (hO.firsts (m := nn) HNN.out).below hal
                  have e : (Un.on bs (.cut nn)).length = nn := by show (bs.take nn).length = nn; rw [List.length_take]; have := HLB.out; have := HNN.out; omega
                  rw [e]
                  exact h1.congr fun k hk => cB_take bs nn k (by omega)
                · exact HBB.out.alloc HWS.out _
              | app bb =>
                simp only [Un.cell] at x0 x1 x2
                unfold byteV at x1
                have hal := ((Below.refl wr.heap.size wr).alloc (Nat.le_refl _) (.cells #[.bool false, .int .u8 (bb.toNat : Nat), .int .i64 0] 89))
                have h0 := HOB.out.below hal
                obtain ⟨A', cap', w4, r1, r2, r3⟩ := append_byte (wr.alloc (.cells #[.bool false, .int .u8 (bb.toNat : Nat), .int .i64 0] 89)) wo.heap.size 26 (.slice Ab lb capb) bs bb (by rw [HLB.out]; exact h0) (by rw [HLB.out]; omega) (by rw [World.size_alloc]; have := HWS.out; omega)
                rw [HLB.out] at r1
                have HR1 := Lib.hid r1
                have HR2 := Lib.hid r2
                have HR3 := Lib.hid r3
                obtain ⟨k0, hkk, kz0, kz1, kz2⟩ := info_parts info_u8
                clear hal h0 r1 r2 r3
                go_wp2_with (first
                  | (refine wpList_buildSlice rfl 26 5 1 #[(0, .tmp 86)] rfl #[.int .u8 (bb.toNat : Nat)] k0 (.int .u8 0) Try.underlying26 hkk kz0 (by rw [kz1]; decide) (by rw [kz1]; decide) (by rw [kz1]; refine Eq.trans (congrArg (Instr.fill _ _) ?_) (byte_fill (bb.toNat : Nat)); simp only [List.map_toArray, List.map_cons, List.map_nil, Act.eval]; rfl) ?_)
                  | (refine wpList_append_by (vs := .slice Ab lb capb) (vx := .slice (some ⟨(wr.alloc (.cells #[.bool false, .int .u8 (bb.toNat : Nat), .int .i64 0] 89)).heap.size, 0, none⟩) 1 1) rfl (.tmp 84) (.tmp 87) 26 rfl rfl rfl HR1.out ?_))
                refine ⟨⟨u + 1, congrArg _ HWU.out, ?_, ?_, ?_⟩, by rw [HWU.out]; exact measure_less HLTU.out⟩
                · rw [List.length_take]; have := HLTU.out; have := HNU.out; have := HK2L.out; omega
                · rw [HMO.out]
                  have := HR2.out
                  have e : Un.on bs (.app bb) = bs ++ [bb] := rfl
                  rw [e, List.length_append, HLB.out]
                  rw [List.length_append, HLB.out] at this
                  exact this
                · exact (HBB.out.alloc HWS.out _).trans HR3.out
            · obtain rfl : u = k2 := by omega
              have htt : (us.take u).take u = us.take u := by rw [List.take_take, Nat.min_self]
              rw [htt] at HOB
              have hbl : replay kept (us.take u) = (d.file f).left u := by unfold FM.left; rw [HKE.out, HUS.out]
              rw [hbl] at HOB
              have hall : Aside w.heap.size wo.heap.size wo wr := ((Aside.of HT8.out.2 (Nat.le_refl _)).trans (H9.out.1.mono HT8.out.2.size)).trans (Aside.of HBB.out (Nat.le_refl _))
              have hWo : w.heap.size < wo.heap.size := Nat.lt_of_lt_of_le (by have := HW6.out; omega) HAS.out.size
              have himg := ImgAt.aside hall HIMG.out (Nat.le_refl _) (by have := HW6.out; omega)
              have has' := HAS.out.trans (hall.mono HAS.out.size)
              have hpk4 := H9.out.2.2.below HBB.out (by omega) hWo
              rw [tail_drop] at hpk4
              have hcm := crashL_more d.file ps.tail HJM.out
              rw [HUS.out, HNU.out, HK2.out] at hcm
              obtain ⟨A', cap', w4, r1, r2, r3, _⟩ := ImgAt.more wr w7.heap.size 22 (.slice A9 j cap9) _ himg m ((d.file f).left u) Ab _ capb (HOB.out.weak HAS.out.size) (by rw [crashL_len, List.length_take]; have := HGD.out.len; omega) has'.size
              have hjl : (crashL d.file (l.take j) ps.tail).length = j := by rw [crashL_len, List.length_take]; have := HLT.out; have := HLL.out; omega
              rw [hjl] at r1 r2
              rw [← hcm] at r2
              obtain ⟨lb, hlb⟩ : ∃ lb, ((d.file f).left u).length = lb := ⟨_, rfl⟩
              rw [htt, hbl, hlb]
              rw [hlb] at r1
              have HR1 := Lib.hid r1
              have HR2 := Lib.hid r2
              have HFIN := Lib.hid (And.intro (has'.trans (Aside.of r3 (Nat.le_refl _))) (hpk4.below r3 (by have := HW6.out; omega) (by have := HW6.out; omega)))
              obtain ⟨k0, hkk, kz0, kz1, kz2⟩ := info_parts info_fb
              clear htt hbl hall hWo himg has' hpk4 hcm r1 r2 r3 hjl hlb hob hbb hb2 hu hltk hltu
              go_wp2_with (first
                | (refine wpList_buildSlice rfl 22 28 1 #[(0, .tmp 93)] rfl #[.string (str m), .slice Ab lb capb] k0 (.agg #[.string ⟨#[]⟩, .slice none 0 0]) Try.underlying22 hkk kz0 (by rw [kz1]; decide) (by rw [kz1]; decide) (by rw [kz1]; refine Eq.trans (congrArg (Instr.fill _ _) ?_) (fb_fill (str m) Ab lb capb); simp only [List.map_toArray, List.map_cons, List.map_nil, Act.eval]; rfl) ?_)
                | (refine wpList_append_by (vs := .slice A9 j cap9) (vx := .slice (some ⟨wr.heap.size, 0, none⟩) 1 1) rfl (.tmp 90) (.tmp 94) 22 rfl rfl rfl HR1.out ?_))
              exact ⟨⟨j + 1, congrArg _ HWJ.out, by have := HLT.out; have := HLL.out; omega, HR2.out, HFIN.out.2, HFIN.out.1⟩, by rw [HWJ.out]; exact measure_less HLT.out⟩
        · obtain rfl : j = L := by omega
          have HIMG := Lib.hid himg
          have HAS := Lib.hid has
          clear himg hpk has hc9 hj hlt
          go_wp2
          go_ret
          have himg := HIMG.out
          have e : l.take j = l := by rw [List.take_of_length_le (Nat.le_of_eq HLL.out)]
          rw [e, ← HDC.out] at himg
          have hl : (d.crash ps).length = j := by rw [HDC.out, crashL_len]; exact HLL.out
          have hW := HW6.out
          exact ⟨A9, cap9, by rw [hl]; rfl, by rw [hl]; exact himg.weak (by omega), HA7.out.2.2.1.trans (HAS.out.below (by omega) (Nat.le_refl _))⟩
    · intro m f w' cnt' hmem hlm hsz hrg1 hlt hgr hs1 hen
      have hm' := HMP.out.same (hgr.block _ HMP.out.lt (by intro e; injection e with e; omega))
      have hbx' := (hgr.block _ (lt_of_obj HBX.out) (by intro e; injection e with e; omega)).trans HBX.out
      have hlen : (metL left d.sure).length ≤ 100000 := Nat.le_trans (List.length_filter_le _ _) HL.out
      obtain ⟨w5, o5, hrun, hm5, hO⟩ := hm'.update hsz f (by unfold maxLen; omega)
      rw [list_str, put_met left HOK.out hmem] at hm5
      have hrg5 := hrg1.kept (only_grown hO) (by have := HBS.out; intro e; injection e with e; omega) (by intro e; injection e with e; omega)
      have hb5 := (HB.out.grown hgr HB.out.size (fun q hq => by injection hq with hq; omega)).trans (hO.below (Nat.le_succ _))
      have hbx5 := ((only_grown hO).block _ (lt_of_obj hbx') (by intro e; injection e with e; omega)).trans hbx'
      have HR := Lib.hid (And.intro hrg5 (And.intro hm5 (And.intro hbx5 hb5)))
      have HLT := Lib.hid hlt
      clear hm' hbx' hlen hm5 hO hrg5 hb5 hbx5 hrg hrg1 hlt hgr hs1 hsz hlm hmem
      go_wp2
      obtain ⟨hrg5, hm5, hbx5, hb5⟩ := HR.out
      exact ⟨⟨strikeL left m, cnt', hrg5, hm5, hbx5, hb5⟩, by rw [hrg5.left_eq, HE.out]; exact HLT.out⟩
end Go.Proofs.Ytgkpobajafjdeaa
