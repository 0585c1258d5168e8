/- The walks of PaceBounded and PaceAnew (tallylaw7): whatever the caps, the resets and the ticks, the answer is true; nothing that was there is turned. -/
import Derived.Test.YtlaecfalegffkaaPaceD
namespace Go.Proofs.Ytlaecfalegffkaa
open Go.RowKit

/-- A slice of ints as it came in: its first n cells. -/
def IntsAt (w : World) (A : Option Addr) (n : Nat) (xs : List Int) : Prop := ∀ k, k < n → ∃ ad, A = some ad ∧ ad.block < w.heap.size ∧ w.cell? (ad.add k) = some (.int .i64 (xs.getD k 0))
theorem block_add (a : Addr) (n : Nat) : (a.add n).block = a.block := by unfold Addr.add; split <;> rfl
theorem IntsAt.below {w w' : World} {A : Option Addr} {n : Nat} {xs : List Int} (h : IntsAt w A n xs) (hb : Below w.heap.size w w') {k : Nat} (hk : k < n) : ∃ ad, A = some ad ∧ w'.cell? (ad.add k) = some (.int .i64 (xs.getD k 0)) := by
  obtain ⟨ad, e, hl, hc⟩ := h k hk
  exact ⟨ad, e, (hb.cell (by rw [block_add]; exact hl)).trans hc⟩

/-- The law's argument, boxed. -/
def runObj (cp : Int) (A : Option Addr) (n c : Nat) (tk : Int) : Obj := .cells #[.int .i64 cp, .slice A n c, .int .i64 tk] 40 (0, 0)

/-- In the law's loops: the argument's box and what was there stand, and the pace p lies behind the box. -/
structure Stand (w wr : World) (o : Obj) (c l g : Int) : Prop where
  bel : Below w.heap.size w wr
  box : wr.heap[w.heap.size]? = some o
  pace : PaceAt wr (w.heap.size + 1) c l g
theorem Stand.first {w w2 : World} {c0 : Array Value} {t : TypeId} {c : Int} (h : NewPace (w.alloc (.cells c0 t (0, 0))) w2 c) : Stand w w2 (.cells c0 t (0, 0)) c 0 1 := by
  obtain ⟨h1, h2, h3⟩ := h
  simp only [World.size_alloc] at h1 h2 h3
  refine ⟨((Below.refl _ w).alloc (Nat.le_refl _) _).trans (h2.mono (by omega)), ?_, h1⟩
  rw [h2.block _ (by omega)]
  exact heap_alloc_new w _
theorem Stand.turn {w wr w1 : World} {o : Obj} {c l g l' g' : Int} (h : Stand w wr o c l g) (k : Turned wr w1 (w.heap.size + 1) c l' g') : Stand w w1 o c l' g' :=
  ⟨h.bel.trans (k.below (by omega)), (k.far (by omega)).trans h.box, k.at_ h.pace.lt⟩
def BodyRel (w : World) (o : Obj) (c : Int) (n : Nat) (iv : Value) (wr : World) : Prop := ∃ k : Nat, iv = .int .i64 k ∧ k ≤ n ∧ Stand w wr o c 0 1
theorem SomeTurned.stand {w wr w1 : World} {o : Obj} {c l g : Int} (h : Stand w wr o c l g) (k : SomeTurned wr w1 (w.heap.size + 1) c) : ∃ l' g', Stand w w1 o c l' g' := by
  obtain ⟨l', g', k⟩ := k
  exact ⟨l', g', h.turn k⟩

set_option maxRecDepth 100000 in
set_option maxHeartbeats 1000000 in
theorem paceBounded_walk (cp : Int) (A : Option Addr) (n cap : Nat) (tk : Int) (xs : List Int) (w : World) (hx : IntsAt w A n xs) (hn : n ≤ 9223372036854775807) :
    Calls Try.prog 4 #[.agg #[.int .i64 cp, .slice A n cap, .int .i64 tk]] w fun e w' => e = .returned (.bool true) ∧ Below w.heap.size w w' := by
  obtain ⟨m, hm⟩ : ∃ m, cp % 64 = m := ⟨_, rfl⟩
  have hm1 : 0 ≤ m := by omega
  have hm2 : m ≤ 63 := by omega
  obtain ⟨t, ht⟩ : ∃ t, tk % 2000 = t := ⟨_, rfl⟩
  have ht1 : 0 ≤ t := by omega
  have ht2 : t ≤ 1999 := by omega
  go_enter Try.func4, Try.ntmps4
  go_wp2_with (first | (go_at_call 7; refine (into_any _ _ _ (by omega) (by omega)).mono ?_; rintro e w1 ⟨rfl, rfl⟩) | (go_at_call 14; refine (pace_new _ _ (by omega) (by omega)).mono ?_; rintro e w2 ⟨rfl, hnew⟩))
  have hs := Stand.first hnew
  clear hnew
  go_loopw [6] (fun iv wr => BodyRel w (runObj cp A n cap tk) (1 + m) n iv wr) (fun iv _ => n - (intOf iv).toNat)
  case atStart => exact ⟨0, rfl, by omega, hs⟩
  case round =>
    obtain ⟨k, rfl, hk, hS⟩ := hrel
    have b0 := cell_of_obj hS.box 0
    have b1 := cell_of_obj hS.box 1
    have b2 := cell_of_obj hS.box 2
    simp at b0 b1 b2
    have hp := hS.pace
    clear hs hm
    by_cases hlt : k < n
    · obtain ⟨ad, rfl, hc⟩ := hx.below hS.bel hlt
      by_cases h30 : k < 30
      · obtain ⟨r, hr⟩ : ∃ r, xs[k]?.getD 0 % 500 = r := ⟨_, rfl⟩
        have hr1 : 0 ≤ r := by omega
        have hr2 : r ≤ 499 := by omega
        go_wp2_with (first | (go_at_call 7; refine (into_any _ _ _ (by omega) (by omega)).mono ?_; rintro e w1 ⟨rfl, rfl⟩) | (go_at_call 15; refine (bounded_ok _ _ _ _ hp (by omega) (by omega) (by omega) (by omega)).mono ?_; rintro e w3 ⟨rfl, hst⟩; obtain ⟨l1, g1, hS1⟩ := hst.stand hS; have hp1 := hS1.pace) | (go_at_call 10; refine (reset_at _ _ _ _ _ hp1).mono ?_; rintro e w4 ⟨rfl, ho⟩))
        exact ⟨⟨k + 1, by go_num, by omega, hS1.turn ho⟩, by simp [intOf]; omega⟩
      · go_wp2_with (first | (go_at_call 7; refine (into_any _ _ _ (by omega) (by omega)).mono ?_; rintro e w1 ⟨rfl, rfl⟩) | (go_at_call 15; refine (bounded_ok _ _ _ _ hp (by omega) (by omega) (by omega) (by omega)).mono ?_; rintro e w3 ⟨rfl, hst⟩; obtain ⟨l1, g1, hS1⟩ := hst.stand hS))
        go_ret
        exact ⟨rfl, hS1.bel⟩
    · go_wp2_with (first | (go_at_call 7; refine (into_any _ _ _ (by omega) (by omega)).mono ?_; rintro e w1 ⟨rfl, rfl⟩) | (go_at_call 15; refine (bounded_ok _ _ _ _ hp (by omega) (by omega) (by omega) (by omega)).mono ?_; rintro e w3 ⟨rfl, hst⟩; obtain ⟨l1, g1, hS1⟩ := hst.stand hS))
      go_ret
      exact ⟨rfl, hS1.bel⟩

/-- What a pace's numbers keep. -/
def PInv (c l g : Int) : Prop := 0 ≤ l ∧ l ≤ c ∧ 1 ≤ g ∧ g ≤ c
theorem PInv.tick {c l g : Int} (h : PInv c l g) : PInv c (tickL l g) (tickG c l g) := by
  unfold PInv tickL tickG at *
  split <;> omega
theorem PInv.start {c : Int} (h : 1 ≤ c) : PInv c 0 1 := ⟨by omega, by omega, by omega, h⟩

def ARel (w : World) (o : Obj) (c : Int) (n : Nat) (iv : Value) (wr : World) : Prop := ∃ (k : Nat) (l g : Int), iv = .int .i64 k ∧ k ≤ n ∧ PInv c l g ∧ Stand w wr o c l g
def TRel (w : World) (o : Obj) (c : Int) (iv : Value) (wr : World) : Prop := ∃ (k : Int) (l g : Int), iv = .int .i64 k ∧ k ≤ 300 ∧ PInv c l g ∧ Stand w wr o c l g
def QRel (w : World) (o : Obj) (q : Nat) (c : Int) (iv : Value) (wr : World) : Prop := ∃ (k : Int) (l g : Int), iv = .int .i64 k ∧ -1 ≤ k ∧ k ≤ 300 ∧ PInv c l g ∧ Stand w wr o c l g ∧ PaceAt wr q c l g
/-- A new pace beside the old one. -/
theorem Stand.beside {w wr w1 : World} {o : Obj} {c l g : Int} (h : Stand w wr o c l g) (k : NewPace wr w1 c) : Stand w w1 o c l g ∧ PaceAt w1 wr.heap.size c 0 1 ∧ w.heap.size + 1 < wr.heap.size := by
  have := h.pace.lt
  exact ⟨⟨h.bel.trans (k.2.1.mono (by omega)), (k.2.1.block _ (by omega)).trans h.box, h.pace.below k.2.1 this⟩, k.1, this⟩

set_option maxRecDepth 100000 in
set_option maxHeartbeats 1000000 in
theorem paceAnew_walk (cp : Int) (A : Option Addr) (n cap : Nat) (tk : Int) (xs : List Int) (w : World) (hx : IntsAt w A n xs) (hn : n ≤ 9223372036854775807) :
    Calls Try.prog 5 #[.agg #[.int .i64 cp, .slice A n cap, .int .i64 tk]] w fun e w' => e = .returned (.bool true) ∧ Below w.heap.size w w' := by
  obtain ⟨m, hm⟩ : ∃ m, cp % 64 = m := ⟨_, rfl⟩
  have hm1 : 0 ≤ m := by omega
  have hm2 : m ≤ 63 := by omega
  obtain ⟨t, ht⟩ : ∃ t, tk % 300 = t := ⟨_, rfl⟩
  have ht1 : 0 ≤ t := by omega
  have ht2 : t ≤ 299 := by omega
  go_enter Try.func5, Try.ntmps5
  go_wp2_with (first | (go_at_call 7; refine (into_any _ _ _ (by omega) (by omega)).mono ?_; rintro e w1 ⟨rfl, rfl⟩) | (go_at_call 14; refine (pace_new _ _ (by omega) (by omega)).mono ?_; rintro e w2 ⟨rfl, hnew⟩))
  have hs := Stand.first hnew
  clear hnew
  go_loopw [6] (fun iv wr => ARel w (runObj cp A n cap tk) (1 + m) n iv wr) (fun iv _ => n - (intOf iv).toNat)
  case atStart => exact ⟨0, 0, 1, rfl, by omega, PInv.start (by omega), hs⟩
  case round =>
    obtain ⟨k, l, g, rfl, hk, hP, hS⟩ := hrel
    obtain ⟨wo, rfl⟩ : ∃ wo : World, wo = wr := ⟨_, rfl⟩
    have b0 := cell_of_obj hS.box 0
    have b1 := cell_of_obj hS.box 1
    have b2 := cell_of_obj hS.box 2
    simp at b0 b1 b2
    have hp := hS.pace
    clear hs hm
    have hexit : ¬ (k < n ∧ k < 30) → l ≤ 1 + m := fun _ => hP.2.1
    by_cases hlt : k < n
    · obtain ⟨ad, rfl, hc⟩ := hx.below hS.bel hlt
      by_cases h30 : k < 30
      · obtain ⟨r, hr⟩ : ∃ r, xs[k]?.getD 0 % 300 = r := ⟨_, rfl⟩
        have hr1 : 0 ≤ r := by omega
        have hr2 : r ≤ 299 := by omega
        go_wp2_with (first | (go_at_call 7; refine (into_any _ _ _ (by omega) (by omega)).mono ?_; rintro e w1 ⟨rfl, rfl⟩))
        clear hr hexit hc b0 b1 b2 hp
        go_loopw [7] (fun iv wr => TRel w (runObj cp (some ad) n cap tk) (1 + m) iv wr) (fun iv _ => (intOf iv).toNat)
        case atStart => exact ⟨r, l, g, rfl, by omega, hP, hS⟩
        case round =>
          obtain ⟨j, l1, g1, rfl, hj, hP1, hS1⟩ := hrel
          obtain ⟨wi, rfl⟩ : ∃ wi : World, wi = wr := ⟨_, rfl⟩
          have hp := hS1.pace
          by_cases hj0 : 0 < j
          · obtain ⟨p1, p2, p3, p4⟩ := hP1
            go_wp2_with (first | (go_at_call 8; refine (tick_any _ _ _ _ _ hp (by omega) (by omega) (by omega) (by omega) (by omega)).mono ?_; rintro e w3 ⟨rfl, ho⟩))
            exact ⟨⟨j - 1, tickL l1 g1, tickG (1 + m) l1 g1, rfl, by omega, PInv.tick ⟨p1, p2, p3, p4⟩, hS1.turn ho⟩, by simp [intOf]; omega⟩
          · go_wp2_with (first | (go_at_call 10; refine (reset_at _ _ _ _ _ hp).mono ?_; rintro e w3 ⟨rfl, ho⟩; have hS3 := hS1.turn ho) | (go_at_call 14; refine (pace_new _ _ (by omega) (by omega)).mono ?_; rintro e w4 ⟨rfl, hnew⟩; obtain ⟨hS4, hq, hlt4⟩ := hS3.beside hnew; have b0 := cell_of_obj hS4.box 0; have b1 := cell_of_obj hS4.box 1; have b2 := cell_of_obj hS4.box 2; simp at b0 b1 b2) | (go_at_call 7; refine (into_any _ _ _ (by omega) (by omega)).mono ?_; rintro e w1 ⟨rfl, rfl⟩))
            clear b0 b1 b2 hp hS hS1 hS3 hP hP1 ho hnew
            go_loopw [10] (fun iv wr => QRel w (runObj cp (some ad) n cap tk) w3.heap.size (1 + m) iv wr) (fun iv _ => (intOf iv + 1).toNat)
            case atStart => exact ⟨t, 0, 1, rfl, by omega, by omega, PInv.start (by omega), hS4, hq⟩
            case round =>
              obtain ⟨i, l2, g2, rfl, hi1, hi2, hP2, hS2, hq2⟩ := hrel
              obtain ⟨wx, rfl⟩ : ∃ wx : World, wx = wr := ⟨_, rfl⟩
              have hp := hS2.pace
              by_cases hi0 : 0 ≤ i
              · obtain ⟨p1, p2, p3, p4⟩ := hP2
                go_wp2_with (first | (go_at_call 12; refine (wait_at _ _ _ _ _ hp).mono ?_; rintro e w1 ⟨rfl, rfl⟩) | (go_at_call 12; refine (wait_at _ _ _ _ _ hq2).mono ?_; rintro e w1 ⟨rfl, rfl⟩) | (go_at_call 8; refine (tick_any _ _ _ _ _ hp (by omega) (by omega) (by omega) (by omega) (by omega)).mono ?_; rintro e w5 ⟨rfl, ho1⟩; have hq5 := ho1.pace (by omega) hq2; have hS5 := hS2.turn ho1) | (go_at_call 8; refine (tick_any _ _ _ _ _ hq5 (by omega) (by omega) (by omega) (by omega) (by omega)).mono ?_; rintro e w6 ⟨rfl, ho2⟩))
                exact ⟨⟨i - 1, tickL l2 g2, tickG (1 + m) l2 g2, rfl, by omega, by omega, PInv.tick ⟨p1, p2, p3, p4⟩, ⟨hS5.bel.trans (ho2.below (by omega)), (ho2.far (by omega)).trans hS5.box, ho2.pace (by omega) hS5.pace⟩, ho2.at_ hq5.lt⟩, by simp [intOf]; omega⟩
              · go_wp2
                exact ⟨⟨k + 1, l2, g2, by go_num, by omega, hP2, hS2⟩, by simp [intOf]; omega⟩
      · have hle := hexit (by omega)
        clear hexit
        go_wp2_with (first | (go_at_call 12; refine (wait_at _ _ _ _ _ hp).mono ?_; rintro e w1 ⟨rfl, rfl⟩))
        go_ret
        exact ⟨rfl, hS.bel⟩
    · have hle := hexit (by omega)
      clear hexit
      go_wp2_with (first | (go_at_call 12; refine (wait_at _ _ _ _ _ hp).mono ?_; rintro e w1 ⟨rfl, rfl⟩))
      go_ret
      exact ⟨rfl, hS.bel⟩
end Go.Proofs.Ytlaecfalegffkaa
