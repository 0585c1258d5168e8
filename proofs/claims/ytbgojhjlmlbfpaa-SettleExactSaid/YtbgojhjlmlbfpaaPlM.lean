/- The document's Copies (tallyref3): again and again the nearest of those that are left. -/
import Derived.Test.YtbgojhjlmlbfpaaPlJ
import Derived.Test.YtbgojhjlmlbfpaaPlL
import Derived.Deep.AppendLies
namespace Go.Proofs.Ytbgojhjlmlbfpaa
open Go.RowKit Fl

/-- The best of the first k, where those of 'u' are out of the race. -/
def bestTo (s : Nat) (u : Nat → Bool) : Nat → Int
  | 0 => -1
  | k + 1 => if !u k && (decide (bestTo s u k < 0) || decide (dist s k < dist s (bestTo s u k))) then (k : Int) else bestTo s u k
theorem bestTo_succ (s : Nat) (u : Nat → Bool) (k : Nat) : bestTo s u (k + 1) = if !u k && (decide (bestTo s u k < 0) || decide (dist s k < dist s (bestTo s u k))) then (k : Int) else bestTo s u k := rfl
theorem bestTo_range (s : Nat) (u : Nat → Bool) : ∀ k, -1 ≤ bestTo s u k ∧ bestTo s u k < k
  | 0 => by simp [bestTo]
  | k + 1 => by
    have := bestTo_range s u k
    unfold bestTo
    split <;> omega
theorem bestAll : (List.range 8).all (fun s => (List.range 9).all fun n => [1, 3, 5, 7].all fun c => decide (n + 1 < c) || (List.range c).all fun i => decide (bestTo s (inL (copiesL s (n + 1) c) i) (n + 1) = (copiesL s (n + 1) c).getD i 0)) = true := by decide +kernel
theorem best_at (s n c i : Nat) (hn1 : 1 ≤ n) (hn2 : n ≤ 9) (hc1 : 1 ≤ c) (hc2 : c ≤ n) (hc3 : c ≤ 7) (hodd : c % 2 = 1) (hs : s < 8) (hi : i < c) : bestTo s (inL (copiesL s n c) i) n = (copiesL s n c).getD i 0 := by
  have h := bestAll
  simp only [List.all_eq_true, List.mem_range] at h
  have h1 := h s hs (n - 1) (by omega) c (by simp; omega)
  rw [show n - 1 + 1 = n by omega, decide_eq_false (by omega), Bool.false_or] at h1
  simp only [List.all_eq_true, List.mem_range, decide_eq_true_eq] at h1
  exact h1 i hi

theorem ownsRow_below {w w1 : World} {b size n : Nat} {e : TypeId} {v : Value} {xs : List Value} (h : w.ownsRow b e size v n xs) (hb : Below w.heap.size w w1) : w1.ownsRow b e size v n xs := by
  refine ⟨h.1, ?_⟩
  rcases h.2 with k | ⟨g, cap, cur, k1, k2, k3, k4⟩
  · exact .inl k
  · exact .inr ⟨g, cap, cur, k1, k2, (hb.block g (lt_of_obj k3)).trans k3, k4⟩
theorem ownsRow_far {w w1 : World} {b size n g0 : Nat} {e : TypeId} {v : Value} {xs : List Value} {o : Obj} (h : w.ownsRow b e size v n xs) (hb : OnlyB w w1 g0 o) (hg : g0 < b) : w1.ownsRow b e size v n xs := by
  refine ⟨h.1, ?_⟩
  rcases h.2 with k | ⟨g, cap, cur, k1, k2, k3, k4⟩
  · exact .inl k
  · exact .inr ⟨g, cap, cur, k1, k2, (hb.far (by omega)).trans k3, k4⟩

/-- The world in the loops of Copies. -/
structure RC (w wr : World) (ga gb n s : Nat) (L : List Int) (i : Nat) (lv : Value) : Prop where
  bel : Below w.heap.size w wr
  at0 : wr.cell? ⟨ga, 0, none⟩ = some (.int .i64 (turnX (ptX (s + 1)) (ptY (s + 1)) 1))
  at1 : wr.cell? ⟨ga, 1, none⟩ = some (.int .i64 (turnY (ptX (s + 1)) (ptY (s + 1)) 1))
  blk : wr.heap[gb]? = some (boolObj 4 n (inL L i))
  own : wr.ownsRow (gb + 1) 3 1 lv i ((L.take i).map (Value.int .i64))
  lo : w.heap.size ≤ ga
  lt : ga < gb
theorem RC.step {w wr w1 : World} {ga gb n s i : Nat} {L : List Int} {lv : Value} (h : RC w wr ga gb n s L i lv) (hb : Below wr.heap.size wr w1) : RC w w1 ga gb n s L i lv :=
  ⟨h.bel.trans (hb.mono h.bel.size), cellKeep hb h.at0, cellKeep hb h.at1, (hb.block gb (lt_of_obj h.blk)).trans h.blk, ownsRow_below h.own hb, h.lo, h.lt⟩
theorem RC.drew {w wr : World} {ga gb n s i : Nat} {L : List Int} {lv : Value} (h : RC w wr ga gb n s L i lv) : RC w wr.drew ga gb n s L i lv := h.step ((Below.refl _ _).drew)
theorem RC.drewN {w wr : World} {ga gb n s i : Nat} {L : List Int} {lv : Value} (h : RC w wr ga gb n s L i lv) (k : Nat) : RC w (wr.drewN k) ga gb n s L i lv := h.step (below_drewN (Below.refl _ _) k)

theorem refSpiral_at (z : Int) (k : Nat) (w : World) (e : z = k) (hk : k ≤ 8) :
    Calls Try.prog 47 #[.int .i64 z] w fun e w' => e = .returned (.agg #[.int .i64 (ptX k), .int .i64 (ptY k)]) ∧ Below w.heap.size w w' := by
  subst e
  exact refSpiral_on k _ _ w (pt_on k hk) (by omega) (by omega)
theorem refApart_at (s p : Nat) (w : World) : Calls Try.prog 49 #[.agg #[.int .i64 (ptX p), .int .i64 (ptY p)], .agg #[.int .i64 (turnX (ptX (s + 1)) (ptY (s + 1)) 1), .int .i64 (turnY (ptX (s + 1)) (ptY (s + 1)) 1)]] w fun e w' => e = .returned (.int .i64 (dist s (p : Int))) ∧ Below w.heap.size w w' := by
  have r3 := at_range s
  unfold atX atY at r3
  have hpt := pt_range p
  exact refApart_any _ _ _ _ _ (by omega) (by omega) (by omega) (by omega) (by omega) (by omega) (by omega) (by omega)
def RCRel (w : World) (ga gb n s c : Nat) (L : List Int) (lv : Value) (wr : World) : Prop := ∃ i, i ≤ c ∧ RC w wr ga gb n s L i lv
def RCRel2 (w : World) (ga gb n s : Nat) (L : List Int) (i : Nat) (lv bv kv : Value) (wr : World) : Prop := ∃ k : Nat, bv = .int .i64 (bestTo s (inL L i) k) ∧ kv = .int .i64 k ∧ k ≤ n ∧ RC w wr ga gb n s L i lv
def lenOf : Value → Int
  | .slice _ n _ => n
  | _ => 0
theorem own_len {w : World} {b size n : Nat} {e : TypeId} {v : Value} {xs : List Value} (h : w.ownsRow b e size v n xs) : ∃ A cap, v = .slice A n cap := by
  rcases h.2 with ⟨k, rfl⟩ | ⟨g, cap, cur, k1, _⟩
  · exact ⟨_, _, k⟩
  · exact ⟨_, _, k1⟩

theorem RC.start {w w2 : World} (hb : Below w.heap.size w w2) (n s : Nat) (L : List Int) :
    RC w ((w2.alloc (Obj.cells #[.int .i64 (turnX (ptX (s + 1)) (ptY (s + 1)) 1), .int .i64 (turnY (ptX (s + 1)) (ptY (s + 1)) 1)] 55)).alloc (boolObj 4 n (inL L 0)))
      w2.heap.size (w2.heap.size + 1) n s L 0 (.slice none 0 0) := by
  have e1 := heap_alloc_new w2 (Obj.cells #[.int .i64 (turnX (ptX (s + 1)) (ptY (s + 1)) 1), .int .i64 (turnY (ptX (s + 1)) (ptY (s + 1)) 1)] 55)
  have e2 := heap_alloc_new (w2.alloc (Obj.cells #[.int .i64 (turnX (ptX (s + 1)) (ptY (s + 1)) 1), .int .i64 (turnY (ptX (s + 1)) (ptY (s + 1)) 1)] 55)) (boolObj 4 n (inL L 0))
  rw [World.size_alloc] at e2
  refine ⟨(hb.alloc hb.size _).alloc (by have := hb.size; simp; omega) _, ?_, ?_, e2, ⟨by simp, .inl ⟨rfl, rfl⟩⟩, hb.size, by omega⟩
  · rw [World.cell?_alloc_lt _ _ _ (by simp)]
    exact cell_of_obj e1 0
  · rw [World.cell?_alloc_lt _ _ _ (by simp)]
    exact cell_of_obj e1 1
theorem RC.done {w wr : World} {ga gb n s c : Nat} {L : List Int} {v : Value} (h : RC w wr ga gb n s L c v) (hL : L.length = c) (hc : 1 ≤ c) : OwnInts w wr v L := by
  have ho := h.own
  rw [List.take_of_length_le (by omega)] at ho
  rcases ho.2 with ⟨_, k⟩ | ⟨g, cap, cur, k1, k2, k3⟩
  · omega
  · have h1 := h.lo
    have h2 := h.lt
    rw [hL.symm] at k1
    refine ⟨g, cap, k1, by omega, h.bel, ?_, .inr ⟨g, cap, cur, ?_, by omega, ?_⟩⟩
    · simp
    · exact k1
    · rw [hL]; exact k3
theorem RC.set {w wo : World} {ga gb n s i p : Nat} {L : List Int} {lv : Value} (h : RC w wo ga gb n s L i lv) (hi : i < L.length) (hp : L.getD i 0 = (p : Int)) :
    OnlyB wo (wo.setCell ⟨gb, p, none⟩ (.bool true)) gb (boolObj 4 n (inL L (i + 1))) := by
  have o := OnlyB.set (OnlyB.refl h.blk) (lt_of_obj h.blk) p (.bool true)
  rw [bool_set 4 n _ (inL L (i + 1)) p (fun k => by rw [inL_succ hi hp])] at o
  exact o
theorem RC.put {w wo w1 : World} {ga gb n s i p : Nat} {L : List Int} {lv v : Value} {O : Obj} (h : RC w wo ga gb n s L i lv) (hi : i < L.length) (hp : L.getD i 0 = (p : Int))
    (hown : w1.ownsRow (gb + 1) 3 1 v (i + 1) ((L.take i).map (Value.int .i64) ++ [.int .i64 p])) (hgrow : ((wo.setCell ⟨gb, p, none⟩ (.bool true)).alloc O).grownBy w1 lv.ownBlock) : RC w w1 ga gb n s L (i + 1) v := by
  have o := h.set hi hp
  have hz := o.size
  have hgb := lt_of_obj h.blk
  have h1 := h.lo
  have h2 := h.lt
  have hnot : ∀ k, k ≤ gb → some k ≠ lv.ownBlock := by
    intro k hk e
    rcases h.own.2 with ⟨rfl, _⟩ | ⟨g, cap, cur, rfl, k2, _⟩
    · simp [Value.ownBlock] at e
    · simp [Value.ownBlock] at e
      omega
  have hfar : ∀ a : Addr, a.block < gb → w1.cell? a = wo.cell? a := by
    intro a ha
    rw [hgrow.cell_far a (by rw [World.size_alloc]; omega) (hnot _ (by omega)), World.cell?_alloc_lt _ _ _ (by omega), o.cell (by omega)]
  refine ⟨?_, (hfar ⟨ga, 0, none⟩ h2).trans h.at0, (hfar ⟨ga, 1, none⟩ h2).trans h.at1, ?_, ?_, h1, h2⟩
  · have b1 : Below w.heap.size w ((wo.setCell ⟨gb, p, none⟩ (.bool true)).alloc O) := (h.bel.trans (o.below (by omega))).alloc (by have := h.bel.size; omega) _
    exact b1.trans ⟨hgrow.os, hgrow.tape, hgrow.output, hgrow.size, fun k hk => hgrow.block k (by have := b1.size; omega) (hnot k (by omega))⟩
  · rw [hgrow.block gb (by rw [World.size_alloc]; omega) (hnot _ (Nat.le_refl _)), ((Below.refl (wo.setCell ⟨gb, p, none⟩ (.bool true)).heap.size (wo.setCell ⟨gb, p, none⟩ (.bool true))).alloc (Nat.le_refl _) O).block gb (by omega)]
    exact o.at_ hgb
  · have e : (L.take (i + 1)).map (Value.int .i64) = (L.take i).map (Value.int .i64) ++ [.int .i64 p] := by
      rw [List.take_succ_eq_append_getElem hi]
      have e : L[i] = (p : Int) := by rw [← hp, List.getD_eq_getElem?_getD, List.getElem?_eq_getElem hi]; rfl
      simp [e]
    rw [e]
    exact hown
set_option maxRecDepth 100000 in
set_option maxHeartbeats 2000000 in
theorem refCopies_ok (s n c : Nat) (w : World) (hn1 : 1 ≤ n) (hn2 : n ≤ 9) (hc1 : 1 ≤ c) (hc2 : c ≤ n) (hc3 : c ≤ 7) (hodd : c % 2 = 1) (hs : s < 8) :
    Calls Try.prog 50 #[.int .i64 s, .int .i64 n, .int .i64 c] w fun e w' => CopiesOk w w' e (copiesL s n c) := by
  have hbest := fun i hi => best_at s n c i hn1 hn2 hc1 hc2 hc3 hodd hs hi
  have hG := good s n c hn1 hn2 hc1 hc2 hc3 hodd hs
  have hlen := copiesL_length (s := s) hc2
  obtain ⟨L, hL⟩ : ∃ L, copiesL s n c = L := ⟨_, rfl⟩
  have hmkb := makes_bools n L (by omega)
  have r1 := pt_range (s + 1)
  have hodd' : ((c : Int) % 2 == 0) = false := beq_eq_false_iff_ne.2 (by omega)
  have g1 := fun i hi => (good_1 (i := i) hG hi)
  rw [hL] at hbest hlen g1 ⊢
  clear hG hL
  go_enter Try.func50, Try.ntmps50
  go_wp2_with fail
  refine (refSpiral_at _ (s + 1) _ (by omega) (by omega)).mono ?_
  rintro e w1 ⟨rfl, hb1⟩
  go_wp2_with fail
  refine (refTurn_any _ _ _ _ (by omega) (by omega) (by omega) (by omega)).mono ?_
  rintro e w2 ⟨rfl, hb2⟩
  go_wp2_with fail
  go_loopw [10] (fun lv wr => RCRel w w2.heap.size (w2.heap.size + 1) n s c L lv wr) (fun lv _ => (c - lenOf lv).toNat)
  case atStart =>
    exact ⟨0, by omega, RC.start ((Below.trans hb1 (hb2.mono (Below.size hb1)))) n s L⟩
  case round =>
    clear hb1 hb2 hmkb
    obtain ⟨i, hi, hR⟩ := hrel
    obtain ⟨A, cap, rfl⟩ := own_len hR.own
    obtain ⟨wo, rfl⟩ : ∃ wo : World, wo = wr := ⟨_, rfl⟩
    by_cases hic : i < c
    · go_wp2_with fail
      go_loopw [11, 12] (fun bv kv wr => RCRel2 w w2.heap.size (w2.heap.size + 1) n s L i (.slice A i cap) bv kv wr) (fun _ kv _ => (n - intOf kv).toNat)
      case atStart => exact ⟨0, rfl, rfl, by omega, hR⟩
      case round =>
        clear hR
        obtain ⟨k, rfl, rfl, hk, hR⟩ := hrel
        obtain ⟨b1, b2⟩ := bestTo_range s (inL L i) k
        by_cases hkn : k < n
        · have y1 := bool_cell hR.blk k hkn
          have a0 := hR.at0
          have a1 := hR.at1
          have q0 : (0 : Int) ≤ (k : Int) := by omega
          have q1 : (k : Int) < (n : Int) := by omega
          have hstep := bestTo_succ s (inL L i) k
          cases hu : inL L i k
          · rw [hu] at y1 hstep
            rw [Bool.not_false, Bool.true_and] at hstep
            by_cases hneg : bestTo s (inL L i) k < 0
            · rw [decide_eq_true hneg, Bool.true_or, if_pos rfl] at hstep
              have HS := Lib.hid hstep
              obtain ⟨z, hz⟩ : ∃ z, bestTo s (inL L i) k = z := ⟨_, rfl⟩
              rw [hz] at hneg b1 b2 ⊢
              have hneg' : decide (z < 0) = true := decide_eq_true hneg
              clear hz hstep
              go_wp2_with fail
              go_quiet (fail)
              go_wp2
              exact ⟨⟨k + 1, by rw [HS.out], by go_num, by omega, hR.drewN _⟩, by simp [intOf]; omega⟩
            · obtain ⟨p, hp⟩ := Int.eq_ofNat_of_zero_le (show 0 ≤ bestTo s (inL L i) k by omega)
              rw [decide_eq_false hneg, Bool.false_or, hp] at hstep
              rw [hp] at b1 b2 ⊢
              have hneg' : decide ((p : Int) < 0) = false := decide_eq_false (by omega)
              have HP := Lib.hid hp
              clear hp hneg
              by_cases hlt : dist s (k : Int) < dist s (p : Int)
              · have hd : decide (dist s (k : Int) < dist s (p : Int)) = true := decide_eq_true hlt
                rw [hd, if_pos rfl] at hstep
                have HS := Lib.hid hstep
                clear hstep
                go_wp2_with fail
                go_region_held3 (fun w' => w'.cell? ⟨w2.heap.size + 1, k, none⟩ = some (.bool false) ∧ w'.cell? ⟨w2.heap.size, 0, none⟩ = some (.int .i64 (turnX (ptX (s + 1)) (ptY (s + 1)) 1)) ∧ w'.cell? ⟨w2.heap.size, 1, none⟩ = some (.int .i64 (turnY (ptX (s + 1)) (ptY (s + 1)) 1)) ∧ RC w w' w2.heap.size (w2.heap.size + 1) n s L i (.slice A i cap))
                  (first | (go_split_ands; refine ⟨?_, ?_, ?_, ?_⟩ <;> first | assumption | (refine cellKeep hb5 ?_; assumption) | (refine RC.step ?_ hb5; assumption)) | (refine ⟨?_, ?_, ?_, ?_⟩ <;> first | exact RC.drew hR | go_keep))
                  (first | (go_at_call 47; (with_reducible refine (refSpiral_at _ _ _ rfl (by omega)).mono ?_); rintro e w5 ⟨rfl, hb5⟩) | (go_at_call 49; (with_reducible refine (refApart_at _ _ _).mono ?_); rintro e w5 ⟨rfl, hb5⟩))
                go_wp2
                go_split_ands
                exact ⟨⟨k + 1, by rw [HS.out], by go_num, by omega, ‹RC w _ _ _ _ _ _ _ _›⟩, by simp [intOf]; omega⟩
              · have hd : decide (dist s (k : Int) < dist s (p : Int)) = false := decide_eq_false hlt
                rw [hd, if_neg (by simp)] at hstep
                have HS := Lib.hid hstep
                clear hstep
                go_wp2_with fail
                go_region_held3 (fun w' => w'.cell? ⟨w2.heap.size + 1, k, none⟩ = some (.bool false) ∧ w'.cell? ⟨w2.heap.size, 0, none⟩ = some (.int .i64 (turnX (ptX (s + 1)) (ptY (s + 1)) 1)) ∧ w'.cell? ⟨w2.heap.size, 1, none⟩ = some (.int .i64 (turnY (ptX (s + 1)) (ptY (s + 1)) 1)) ∧ RC w w' w2.heap.size (w2.heap.size + 1) n s L i (.slice A i cap))
                  (first | (go_split_ands; refine ⟨?_, ?_, ?_, ?_⟩ <;> first | assumption | (refine cellKeep hb5 ?_; assumption) | (refine RC.step ?_ hb5; assumption)) | (refine ⟨?_, ?_, ?_, ?_⟩ <;> first | exact RC.drew hR | go_keep))
                  (first | (go_at_call 47; (with_reducible refine (refSpiral_at _ _ _ rfl (by omega)).mono ?_); rintro e w5 ⟨rfl, hb5⟩) | (go_at_call 49; (with_reducible refine (refApart_at _ _ _).mono ?_); rintro e w5 ⟨rfl, hb5⟩))
                go_wp2
                go_split_ands
                exact ⟨⟨k + 1, by rw [HS.out], by go_num, by omega, ‹RC w _ _ _ _ _ _ _ _›⟩, by simp [intOf]; omega⟩
          · rw [hu] at y1 hstep
            rw [Bool.not_true, Bool.false_and, if_neg (by simp)] at hstep
            have HS := Lib.hid hstep
            obtain ⟨z, hz⟩ : ∃ z, bestTo s (inL L i) k = z := ⟨_, rfl⟩
            have HZ := Lib.hid hz
            rw [hz] at b1 b2 ⊢
            clear hz hstep
            go_wp2_with fail
            go_quiet (fail)
            go_wp2
            exact ⟨⟨k + 1, by rw [HS.out, HZ.out], by go_num, by omega, hR.drewN _⟩, by simp [intOf]; omega⟩
        · obtain rfl : k = n := by omega
          have hb := hbest i hic
          obtain ⟨g2, g3, g4⟩ := g1 i hic
          obtain ⟨p, hp⟩ := Int.eq_ofNat_of_zero_le g2
          rw [hp] at hb g3 g4
          rw [Int.toNat_natCast] at g4
          rw [hb]
          have HP := Lib.hid hp
          have f1 := free_of_obj hR.blk p
          have y1 := bool_cell hR.blk p (by omega)
          have hset := hR.set (by omega) hp
          have hown := ownsRow_far hR.own hset (by omega)
          have hgbl := lt_of_obj hR.blk
          have hsz := hset.size
          have hnews : ∀ j u, [Value.int .i64 (p : Int)][j]? = some u → ((wr.setCell ⟨w2.heap.size + 1, p, none⟩ (.bool true)).alloc (.cells #[.int .i64 (p : Int)] 3)).cell? ((⟨wr.heap.size, 0, none⟩ : Addr).add j) = some u := by
            have := heap_alloc_new (wr.setCell ⟨w2.heap.size + 1, p, none⟩ (.bool true)) (.cells #[.int .i64 (p : Int)] 3)
            rw [hsz] at this
            exact World.news_of_block this
          have HN := Lib.hid hnews
          have HO := Lib.hid hown
          have HW := Lib.hid hsz
          obtain ⟨i0, hi, hz0, hz1, hz2⟩ := info_parts Try.info_int
          clear hbest g1 hb hp g2 hset hown hnews hsz
          go_wp2_with (at_builtin; refine wpList_append_lies _ rfl (.tmp 84) (.tmp 86) 31 rfl (w2.heap.size + 1 + 1) 3 i0 (.int .i64 0) 1 8 Try.underlying31 hi hz0 hz1 hz2 rfl (by decide) (.slice A i cap) i ((L.take i).map (Value.int .i64)) rfl (HO.out.alloc _) ⟨wr.heap.size, 0, none⟩ 1 1 [.int .i64 (p : Int)] rfl rfl HN.out (by simp [Value.oneCell']) (by omega) (by unfold maxLen; omega) (by omega) (by rw [World.size_alloc, HW.out]; omega) _ rfl ?_; intro g cap' w6 hown6 hgrow hat hlt)
          go_wp2
          refine ⟨⟨i + 1, by omega, hR.put (by omega) HP.out hown6 hgrow⟩, ?_⟩
          simp [lenOf]
          omega
    · obtain rfl : i = c := by omega
      go_wp2
      refine bodyPost_ret (v := .tuple #[.slice A i cap, .int .i64 0]) (by simp [results, Try.results50, go_sem]) rfl ⟨_, rfl, hR.done hlen hc1⟩
end Go.Proofs.Ytbgojhjlmlbfpaa
