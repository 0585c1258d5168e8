/- PlaneExact (tallylaw3): one ask for copies, where they are given. -/
import Derived.Test.YtbgojhjlmlbfpaaPlP
namespace Go.Proofs.Ytbgojhjlmlbfpaa
open Go.RowKit Fl

theorem OwnInts.fresh {w w' : World} {v : Value} {L : List Int} {g : Nat} (h : OwnInts w w' v L) (hg : v.ownBlock = some g) : w.heap.size ≤ g := by
  obtain ⟨gg, cap, rfl, h1, _⟩ := h
  simp [Value.ownBlock] at hg
  omega
set_option maxRecDepth 100000 in
set_option maxHeartbeats 1000000 in
theorem ask_good (s n c : Nat) (px py qx qy : Int) (w : World) (B base turn H : Nat) (h : BookAt w B base turn H) (hb : base ≤ w.heap.size) (ht : turn ≤ 19000) (hn1 : 1 ≤ n) (hn2 : n ≤ 9) (hc1 : 1 ≤ c) (hc2 : c ≤ n) (hc3 : c ≤ 7) (hodd : c % 2 = 1) (hs : s < 8) :
    Calls Try.prog 15 #[.agg #[.int .i64 4, .int .i64 (s : Nat), .int .i64 (n : Nat), .int .i64 (c : Nat), .int .i64 px, .int .i64 py, .int .i64 qx, .int .i64 qy], .pointer (some ⟨B, 0, none⟩)] w fun e w' => e = .returned (.bool true) ∧ BookAt w' B base (turn + 1) w'.heap.size ∧ Below base w w' := by
  have hlen := copiesL_length (s := s) hc2
  obtain ⟨L, hL⟩ : ∃ L, copiesL s n c = L := ⟨_, rfl⟩
  have HC := Lib.hid (fun w => copies_ok s n c w hn1 hn2 hc1 hc2 hc3 hodd hs)
  have HR := Lib.hid (fun w => refCopies_ok s n c w hn1 hn2 hc1 hc2 hc3 hodd hs)
  rw [hL] at HC HR hlen
  have hl7 : L.length ≤ 7 := by omega
  have HLL := Lib.hid hlen
  clear hL hlen
  go_enter Try.func15, Try.ntmps15
  go_wp2_with fail
  refine (point_any _ _ _).mono ?_
  rintro e w1 ⟨rfl, hb1⟩
  obtain ⟨hc1, hf1⟩ := bcell hb1
  have hz1 : w.heap.size < w1.heap.size := by have := hb1.size; simp at this; omega
  go_wp2_with fail
  refine (point_any _ _ _).mono ?_
  rintro e w2 ⟨rfl, hb2⟩
  obtain ⟨hc2, hf2⟩ := bcell hb2
  have hz2 : w1.heap.size < w2.heap.size := by have := hb2.size; simp at this; omega
  have kk : ∀ (j : Nat) (v : Value), #[Value.int .i64 4, .int .i64 (s : Nat), .int .i64 (n : Nat), .int .i64 (c : Nat), .int .i64 px, .int .i64 py, .int .i64 qx, .int .i64 qy][j]? = some v → w2.cell? ⟨w.heap.size, j, none⟩ = some v := fun j v hj =>
    cellKeep hb2 (by rw [World.cell?_alloc_lt _ _ _ hz1]; exact cellKeep hb1 ((cell_of_obj (heap_alloc_new w _) j).trans hj))
  have e0 := kk 0 _ rfl
  have e1 := kk 1 _ rfl
  have e2 := kk 2 _ rfl
  have e3 := kk 3 _ rfl
  clear kk hc2 hc1
  have hz3 : w.heap.size < w2.heap.size := by omega
  have hWB : Below w.heap.size w w2 := by
    have k1 : Below w.heap.size w w1 := ((Below.refl _ _).alloc (Nat.le_refl _) _).trans (hb1.mono (by simp))
    exact (k1.alloc k1.size _).trans (hb2.mono (by simp; omega))
  have hWC := hWB.alloc hWB.size (.cells #[.int .i64 (nearZ qx), .int .i64 (nearZ qy)] 55)
  go_wp2_with (first | (go_at_call 11; (with_reducible refine (HC.out _).mono ?_); rintro e w4 ⟨v, rfl, hv⟩; have q4 := hWC.trans (hv.below.mono hWC.size); have m1 := cellKeep hv.below ((World.cell?_alloc_lt w2 _ _ hz3).trans e1); have m2 := cellKeep hv.below ((World.cell?_alloc_lt w2 _ _ hz3).trans e2); have m3 := cellKeep hv.below ((World.cell?_alloc_lt w2 _ _ hz3).trans e3)) | (go_at_call 50; (with_reducible refine (HR.out _).mono ?_); rintro e w5 ⟨v2, rfl, hv2⟩; have q5 := q4.trans (hv2.below.mono q4.size); have r5 := ownsRow_below (hv.row (Nat.le_trans hb hWC.size)) hv2.below) | (go_at_call 24; (with_reducible refine (num_any _ _).mono ?_); rintro e w9 ⟨rfl, rfl⟩) | (go_at_call 25; (with_reducible refine (eqInts_same _ _ L _ (hv.has.below hv2.below) hv2.has (by omega)).mono ?_); rintro e w6 ⟨rfl, q, rfl⟩) | (go_at_call 51; (with_reducible refine (ints_any _ B base turn w.heap.size L.length _ _ (h.top (below_drewN q5 _)) (ownsRow_below r5 (below_drewN (Below.refl _ _) _)) (fun g hg => Nat.le_trans hWC.size (hv.fresh hg)) (by omega) ht).mono ?_); rintro e w6 ⟨rfl, hk6, hb6⟩) | (go_at_call 17; (with_reducible refine (look_any _ B base (turn + 1) _ hk6 (by omega)).mono ?_); rintro e w7 ⟨rfl, hk7, hb7⟩))
  go_ret
  exact ⟨rfl, hk7, ((below_drewN q5 _).mono hb).trans (hb6.trans hb7)⟩
end Go.Proofs.Ytbgojhjlmlbfpaa
