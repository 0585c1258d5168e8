/- PlaneExact (tallylaw3): one ask. -/
import Derived.Test.YtbgojhjlmlbfpaaPlO
namespace Go.Proofs.Ytbgojhjlmlbfpaa
open Go.RowKit Fl

set_option maxRecDepth 100000 in
set_option maxHeartbeats 1000000 in
theorem ask_spiral (a b c px py qx qy : Int) (w : World) (bp : Value) :
    Calls Try.prog 15 #[.agg #[.int .i64 1, .int .i64 a, .int .i64 b, .int .i64 c, .int .i64 px, .int .i64 py, .int .i64 qx, .int .i64 qy], bp] w fun e w' => e = .returned (.bool true) ∧ Below w.heap.size w w' := by
  obtain ⟨x, y, b1, b2, b3, b4, hs, hr⟩ := spirals a
  have i1 : isZ x y x y = true := by simp [isZ]
  go_enter Try.func15, Try.ntmps15
  go_wp2_with fail
  refine (point_any _ _ _).mono ?_
  rintro e w1 ⟨rfl, hb1⟩
  obtain ⟨hc1, hf1⟩ := bcell hb1
  have hz1 : w.heap.size < w1.heap.size := by have := hb1.size; simp at this; omega
  go_wp2_with fail
  refine (point_any _ _ _).mono ?_
  rintro e w2 ⟨rfl, hb2⟩
  obtain ⟨hc2, hf2⟩ := bcell hb2
  have hz2 : w1.heap.size < w2.heap.size := by have := hb2.size; simp at this; omega
  have kk : ∀ (j : Nat) (v : Value), #[Value.int .i64 1, .int .i64 a, .int .i64 b, .int .i64 c, .int .i64 px, .int .i64 py, .int .i64 qx, .int .i64 qy][j]? = some v → w2.cell? ⟨w.heap.size, j, none⟩ = some v := fun j v hj =>
    cellKeep hb2 (by rw [World.cell?_alloc_lt _ _ _ hz1]; exact cellKeep hb1 ((cell_of_obj (heap_alloc_new w _) j).trans hj))
  have e0 := kk 0 _ rfl
  have e1 := kk 1 _ rfl
  clear kk hc2 hc1
  have hz3 : w.heap.size < w2.heap.size := by omega
  have hWB : Below w.heap.size w w2 := by
    have k1 : Below w.heap.size w w1 := ((Below.refl _ _).alloc (Nat.le_refl _) _).trans (hb1.mono (by simp))
    exact (k1.alloc k1.size _).trans (hb2.mono (by simp; omega))
  have hWC := hWB.alloc hWB.size (.cells #[.int .i64 (nearZ qx), .int .i64 (nearZ qy)] 55)
  go_wp2_with fail
  go_region_held3 (fun w' => w'.cell? ⟨w.heap.size, 1, none⟩ = some (.int .i64 a) ∧ BelW w w')
    (first | (go_split_ands; refine ⟨?_, ?_⟩ <;> first | assumption | (refine cellKeep hb5 ?_; assumption) | (refine belowKeep ?_ hb5; assumption)) | (refine ⟨?_, ?_⟩ <;> first | exact BelW.drew hWC | go_keep))
    (first | (go_at_call 19; (with_reducible refine (hs _).mono ?_); rintro e w9 ⟨rfl, rfl⟩) | (go_at_call 47; (with_reducible refine (hr _).mono ?_); rintro e w5 ⟨rfl, hb5⟩) | (go_at_call 20; (with_reducible refine (is_any x y x y _ (by omega) (by omega) (by omega) (by omega)).mono ?_); rw [i1]; rintro e w5 ⟨rfl, hb5⟩))
  go_wp2
  go_ret
  go_split_ands
  exact ⟨rfl, ‹BelW w _›⟩

set_option maxRecDepth 100000 in
set_option maxHeartbeats 1000000 in
theorem ask_turn (a b c px py qx qy : Int) (w : World) (bp : Value) :
    Calls Try.prog 15 #[.agg #[.int .i64 2, .int .i64 a, .int .i64 b, .int .i64 c, .int .i64 px, .int .i64 py, .int .i64 qx, .int .i64 qy], bp] w fun e w' => e = .returned (.bool true) ∧ Below w.heap.size w w' := by
  obtain ⟨n1, n2⟩ := near_range px
  obtain ⟨n3, n4⟩ := near_range py
  obtain ⟨n5, n6⟩ := near_range qx
  obtain ⟨n7, n8⟩ := near_range qy
  obtain ⟨t1, t2, t3, t4⟩ := turn_bound (nearZ px) (nearZ py) a (by omega) (by omega) (by omega) (by omega)
  have i1 : isZ (turnX (nearZ px) (nearZ py) a) (turnY (nearZ px) (nearZ py) a) (turnX (nearZ px) (nearZ py) a) (turnY (nearZ px) (nearZ py) a) = true := by simp [isZ]
  go_enter Try.func15, Try.ntmps15
  go_wp2_with fail
  refine (point_any _ _ _).mono ?_
  rintro e w1 ⟨rfl, hb1⟩
  obtain ⟨hc1, hf1⟩ := bcell hb1
  have hz1 : w.heap.size < w1.heap.size := by have := hb1.size; simp at this; omega
  go_wp2_with fail
  refine (point_any _ _ _).mono ?_
  rintro e w2 ⟨rfl, hb2⟩
  obtain ⟨hc2, hf2⟩ := bcell hb2
  have hz2 : w1.heap.size < w2.heap.size := by have := hb2.size; simp at this; omega
  have kk : ∀ (j : Nat) (v : Value), #[Value.int .i64 2, .int .i64 a, .int .i64 b, .int .i64 c, .int .i64 px, .int .i64 py, .int .i64 qx, .int .i64 qy][j]? = some v → w2.cell? ⟨w.heap.size, j, none⟩ = some v := fun j v hj =>
    cellKeep hb2 (by rw [World.cell?_alloc_lt _ _ _ hz1]; exact cellKeep hb1 ((cell_of_obj (heap_alloc_new w _) j).trans hj))
  have e0 := kk 0 _ rfl
  have e1 := kk 1 _ rfl
  clear kk hc2 hc1
  have hz3 : w.heap.size < w2.heap.size := by omega
  have p0 : w2.cell? ⟨w1.heap.size, 0, none⟩ = some (.int .i64 (nearZ px)) := cellKeep hb2 (cell_of_obj (heap_alloc_new w1 _) 0)
  have p1 : w2.cell? ⟨w1.heap.size, 1, none⟩ = some (.int .i64 (nearZ py)) := cellKeep hb2 (cell_of_obj (heap_alloc_new w1 _) 1)
  have hWB : Below w.heap.size w w2 := by
    have k1 : Below w.heap.size w w1 := ((Below.refl _ _).alloc (Nat.le_refl _) _).trans (hb1.mono (by simp))
    exact (k1.alloc k1.size _).trans (hb2.mono (by simp; omega))
  have hWC := hWB.alloc hWB.size (.cells #[.int .i64 (nearZ qx), .int .i64 (nearZ qy)] 55)
  go_wp2_with fail
  go_region_held3 (fun w' => w'.cell? ⟨w.heap.size, 1, none⟩ = some (.int .i64 a) ∧ w'.cell? ⟨w1.heap.size, 0, none⟩ = some (.int .i64 (nearZ px)) ∧ w'.cell? ⟨w1.heap.size, 1, none⟩ = some (.int .i64 (nearZ py)) ∧ BelW w w')
    (first | (go_split_ands; refine ⟨?_, ?_, ?_, ?_⟩ <;> first | assumption | (refine cellKeep hb5 ?_; assumption) | (refine belowKeep ?_ hb5; assumption)) | (refine ⟨?_, ?_, ?_, ?_⟩ <;> first | exact BelW.drew hWC | go_keep))
    (first | (go_at_call 23; (with_reducible refine (flipW (turn_any (nearZ px) (nearZ py) a _ (by omega) (by omega) (by omega) (by omega))).mono ?_); rintro e w9 ⟨rfl, rfl⟩) | (go_at_call 48; (with_reducible refine (refTurn_any (nearZ px) (nearZ py) a _ (by omega) (by omega) (by omega) (by omega)).mono ?_); rintro e w5 ⟨rfl, hb5⟩) | (go_at_call 20; (with_reducible refine (is_any (turnX (nearZ px) (nearZ py) a) (turnY (nearZ px) (nearZ py) a) (turnX (nearZ px) (nearZ py) a) (turnY (nearZ px) (nearZ py) a) _ (by omega) (by omega) (by omega) (by omega)).mono ?_); rw [i1]; rintro e w5 ⟨rfl, hb5⟩))
  go_wp2
  go_ret
  go_split_ands
  exact ⟨rfl, ‹BelW w _›⟩

set_option maxRecDepth 100000 in
set_option maxHeartbeats 1000000 in
theorem ask_apart (a b c px py qx qy : Int) (w : World) (bp : Value) :
    Calls Try.prog 15 #[.agg #[.int .i64 3, .int .i64 a, .int .i64 b, .int .i64 c, .int .i64 px, .int .i64 py, .int .i64 qx, .int .i64 qy], bp] w fun e w' => e = .returned (.bool true) ∧ Below w.heap.size w w' := by
  obtain ⟨n1, n2⟩ := near_range px
  obtain ⟨n3, n4⟩ := near_range py
  obtain ⟨n5, n6⟩ := near_range qx
  obtain ⟨n7, n8⟩ := near_range qy
  have i1 : (apartZ (nearZ px) (nearZ py) (nearZ qx) (nearZ qy) == apartZ (nearZ px) (nearZ py) (nearZ qx) (nearZ qy)) = true := by simp
  go_enter Try.func15, Try.ntmps15
  go_wp2_with fail
  refine (point_any _ _ _).mono ?_
  rintro e w1 ⟨rfl, hb1⟩
  obtain ⟨hc1, hf1⟩ := bcell hb1
  have hz1 : w.heap.size < w1.heap.size := by have := hb1.size; simp at this; omega
  go_wp2_with fail
  refine (point_any _ _ _).mono ?_
  rintro e w2 ⟨rfl, hb2⟩
  obtain ⟨hc2, hf2⟩ := bcell hb2
  have hz2 : w1.heap.size < w2.heap.size := by have := hb2.size; simp at this; omega
  have kk : ∀ (j : Nat) (v : Value), #[Value.int .i64 3, .int .i64 a, .int .i64 b, .int .i64 c, .int .i64 px, .int .i64 py, .int .i64 qx, .int .i64 qy][j]? = some v → w2.cell? ⟨w.heap.size, j, none⟩ = some v := fun j v hj =>
    cellKeep hb2 (by rw [World.cell?_alloc_lt _ _ _ hz1]; exact cellKeep hb1 ((cell_of_obj (heap_alloc_new w _) j).trans hj))
  have e0 := kk 0 _ rfl
  have e1 := kk 1 _ rfl
  clear kk hc2 hc1
  have hz3 : w.heap.size < w2.heap.size := by omega
  have p0 : w2.cell? ⟨w1.heap.size, 0, none⟩ = some (.int .i64 (nearZ px)) := cellKeep hb2 (cell_of_obj (heap_alloc_new w1 _) 0)
  have p1 : w2.cell? ⟨w1.heap.size, 1, none⟩ = some (.int .i64 (nearZ py)) := cellKeep hb2 (cell_of_obj (heap_alloc_new w1 _) 1)
  have hWB : Below w.heap.size w w2 := by
    have k1 : Below w.heap.size w w1 := ((Below.refl _ _).alloc (Nat.le_refl _) _).trans (hb1.mono (by simp))
    exact (k1.alloc k1.size _).trans (hb2.mono (by simp; omega))
  have hWC := hWB.alloc hWB.size (.cells #[.int .i64 (nearZ qx), .int .i64 (nearZ qy)] 55)
  go_wp2_with fail
  go_region_held3 (fun w' => w'.cell? ⟨w1.heap.size, 0, none⟩ = some (.int .i64 (nearZ px)) ∧ w'.cell? ⟨w1.heap.size, 1, none⟩ = some (.int .i64 (nearZ py)) ∧ w'.cell? ⟨w2.heap.size, 0, none⟩ = some (.int .i64 (nearZ qx)) ∧ w'.cell? ⟨w2.heap.size, 1, none⟩ = some (.int .i64 (nearZ qy)) ∧ BelW w w')
    (first | (go_split_ands; refine ⟨?_, ?_, ?_, ?_, ?_⟩ <;> first | assumption | (refine cellKeep hb5 ?_; assumption) | (refine belowKeep ?_ hb5; assumption)) | (refine ⟨?_, ?_, ?_, ?_, ?_⟩ <;> first | exact BelW.drew hWC | go_keep))
    (first | (go_at_call 21; (with_reducible refine (flipW (apart_any (nearZ px) (nearZ py) (nearZ qx) (nearZ qy) _ (by omega) (by omega) (by omega) (by omega) (by omega) (by omega) (by omega) (by omega))).mono ?_); rintro e w9 ⟨rfl, rfl⟩) | (go_at_call 49; (with_reducible refine (refApart_any (nearZ px) (nearZ py) (nearZ qx) (nearZ qy) _ (by omega) (by omega) (by omega) (by omega) (by omega) (by omega) (by omega) (by omega)).mono ?_); rintro e w5 ⟨rfl, hb5⟩))
  go_wp2
  go_ret
  go_split_ands
  exact ⟨rfl, ‹BelW w _›⟩

set_option maxRecDepth 100000 in
set_option maxHeartbeats 1000000 in
theorem ask_other (d a b c px py qx qy : Int) (w : World) (B base turn H : Nat) (h : BookAt w B base turn H) (hb : base ≤ w.heap.size) (ht : turn ≤ 20000) (h1 : d ≠ 1) (h2 : d ≠ 2) (h3 : d ≠ 3) (h4 : d ≠ 4) :
    Calls Try.prog 15 #[.agg #[.int .i64 d, .int .i64 a, .int .i64 b, .int .i64 c, .int .i64 px, .int .i64 py, .int .i64 qx, .int .i64 qy], .pointer (some ⟨B, 0, none⟩)] w fun e w' => e = .returned (.bool true) ∧ BookAt w' B base turn w'.heap.size ∧ Below base w w' := by
  have d1 : (d == 1) = false := beq_eq_false_iff_ne.2 h1
  have d2 : (d == 2) = false := beq_eq_false_iff_ne.2 h2
  have d3 : (d == 3) = false := beq_eq_false_iff_ne.2 h3
  have d4 : (d == 4) = false := beq_eq_false_iff_ne.2 h4
  go_enter Try.func15, Try.ntmps15
  go_wp2_with fail
  refine (point_any _ _ _).mono ?_
  rintro e w1 ⟨rfl, hb1⟩
  obtain ⟨hc1, hf1⟩ := bcell hb1
  have hz1 : w.heap.size < w1.heap.size := by have := hb1.size; simp at this; omega
  go_wp2_with fail
  refine (point_any _ _ _).mono ?_
  rintro e w2 ⟨rfl, hb2⟩
  obtain ⟨hc2, hf2⟩ := bcell hb2
  have hz2 : w1.heap.size < w2.heap.size := by have := hb2.size; simp at this; omega
  have kk : ∀ (j : Nat) (v : Value), #[Value.int .i64 d, .int .i64 a, .int .i64 b, .int .i64 c, .int .i64 px, .int .i64 py, .int .i64 qx, .int .i64 qy][j]? = some v → w2.cell? ⟨w.heap.size, j, none⟩ = some v := fun j v hj =>
    cellKeep hb2 (by rw [World.cell?_alloc_lt _ _ _ hz1]; exact cellKeep hb1 ((cell_of_obj (heap_alloc_new w _) j).trans hj))
  have e0 := kk 0 _ rfl
  clear kk hc2 hc1
  have hz3 : w.heap.size < w2.heap.size := by omega
  have hWB : Below w.heap.size w w2 := by
    have k1 : Below w.heap.size w w1 := ((Below.refl _ _).alloc (Nat.le_refl _) _).trans (hb1.mono (by simp))
    exact (k1.alloc k1.size _).trans (hb2.mono (by simp; omega))
  have hWC := hWB.alloc hWB.size (.cells #[.int .i64 (nearZ qx), .int .i64 (nearZ qy)] 55)
  go_wp2_with (go_at_call 17; (with_reducible refine (look_any _ B base turn _ (h.top hWC) ht).mono ?_); rintro e w5 ⟨rfl, hk5, hb5⟩)
  go_ret
  exact ⟨rfl, hk5, (hWC.mono hb).trans hb5⟩

theorem OwnInts.row {w w' : World} {v : Value} {L : List Int} {base : Nat} (h : OwnInts w w' v L) (hb : base ≤ w.heap.size) : w'.ownsRow base 3 1 v L.length (L.map (Value.int .i64)) := by
  obtain ⟨gg, cap, rfl, h1, h2, h3⟩ := h
  refine ⟨h3.1, ?_⟩
  rcases h3.2 with h | ⟨g, c, cur, k1, k2, k3⟩
  · exact .inl h
  · exact .inr ⟨g, c, cur, k1, by omega, k3⟩
theorem nil_has (w : World) : HasInts w (.slice none 0 0) [] := ⟨none, 0, rfl, fun k hk => by simp at hk⟩
set_option maxRecDepth 100000 in
set_option maxHeartbeats 1000000 in
theorem ask_bad (a b c px py qx qy : Int) (w : World) (B base turn H : Nat) (h : BookAt w B base turn H) (hb : base ≤ w.heap.size) (ht : turn ≤ 19000) (hbad : b < 1 ∨ 9 < b ∨ c < 1 ∨ min b 7 < c ∨ c % 2 = 0 ∨ a < 0 ∨ 8 ≤ a) :
    Calls Try.prog 15 #[.agg #[.int .i64 4, .int .i64 a, .int .i64 b, .int .i64 c, .int .i64 px, .int .i64 py, .int .i64 qx, .int .i64 qy], .pointer (some ⟨B, 0, none⟩)] w fun e w' => e = .returned (.bool true) ∧ BookAt w' B base (turn + 1) w'.heap.size ∧ Below base w w' := by
  have HB := Lib.hid hbad
  clear hbad
  go_enter Try.func15, Try.ntmps15
  go_wp2_with fail
  refine (point_any _ _ _).mono ?_
  rintro e w1 ⟨rfl, hb1⟩
  obtain ⟨hc1, hf1⟩ := bcell hb1
  have hz1 : w.heap.size < w1.heap.size := by have := hb1.size; simp at this; omega
  go_wp2_with fail
  refine (point_any _ _ _).mono ?_
  rintro e w2 ⟨rfl, hb2⟩
  obtain ⟨hc2, hf2⟩ := bcell hb2
  have hz2 : w1.heap.size < w2.heap.size := by have := hb2.size; simp at this; omega
  have kk : ∀ (j : Nat) (v : Value), #[Value.int .i64 4, .int .i64 a, .int .i64 b, .int .i64 c, .int .i64 px, .int .i64 py, .int .i64 qx, .int .i64 qy][j]? = some v → w2.cell? ⟨w.heap.size, j, none⟩ = some v := fun j v hj =>
    cellKeep hb2 (by rw [World.cell?_alloc_lt _ _ _ hz1]; exact cellKeep hb1 ((cell_of_obj (heap_alloc_new w _) j).trans hj))
  have e0 := kk 0 _ rfl
  have e1 := kk 1 _ rfl
  have e2 := kk 2 _ rfl
  have e3 := kk 3 _ rfl
  clear kk hc2 hc1
  have hz3 : w.heap.size < w2.heap.size := by omega
  have hWB : Below w.heap.size w w2 := by
    have k1 : Below w.heap.size w w1 := ((Below.refl _ _).alloc (Nat.le_refl _) _).trans (hb1.mono (by simp))
    exact (k1.alloc k1.size _).trans (hb2.mono (by simp; omega))
  have hWC := hWB.alloc hWB.size (.cells #[.int .i64 (nearZ qx), .int .i64 (nearZ qy)] 55)
  go_wp2_with (first | (go_at_call 11; (with_reducible refine (copies_bad a b c _ HB.out).mono ?_); rintro e w9 ⟨rfl, rfl⟩) | (go_at_call 50; (with_reducible refine (refCopies_bad a b c _ HB.out).mono ?_); rintro e w9 ⟨rfl, rfl⟩) | (go_at_call 24; (with_reducible refine (num_any _ _).mono ?_); rintro e w9 ⟨rfl, rfl⟩) | (go_at_call 25; (with_reducible refine (eqInts_same _ _ [] _ (nil_has _) (nil_has _) (by simp)).mono ?_); rintro e w5 ⟨rfl, q, rfl⟩) | (go_at_call 51; (with_reducible refine (ints_any _ B base turn w.heap.size 0 _ [] (h.top (below_drewN hWC _)) (World.ownsRow_nil _ _ _ _) (fun g hg => by simp [Value.ownBlock] at hg) (by omega) ht).mono ?_); rintro e w6 ⟨rfl, hk6, hb6⟩) | (go_at_call 17; (with_reducible refine (look_any _ B base (turn + 1) _ hk6 (by omega)).mono ?_); rintro e w7 ⟨rfl, hk7, hb7⟩))
  go_ret
  exact ⟨rfl, hk7, ((below_drewN hWC _).mono hb).trans (hb6.trans hb7)⟩
end Go.Proofs.Ytbgojhjlmlbfpaa
