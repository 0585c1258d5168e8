/- PaceExact (tallylaw7): the walk: twelve paces and the document's twelve, played in turns. -/
import Derived.Test.YtlaecfalegffkaaPaceH
import Derived.Deep.RegionWith
namespace Go.Proofs.Ytlaecfalegffkaa
open Go.RowKit

/-- The steps as they came in: each a kind, a which, a cap. -/
def OpsAt (w : World) (A : Option Addr) (n : Nat) : Prop := ∀ k, k < n → ∃ (b off : Nat) (kd wh cp : Int), A = some ⟨b, off, none⟩ ∧ b < w.heap.size ∧
  w.cell? ⟨b, off + k * 3, none⟩ = some (.int .i64 kd) ∧ w.cell? ⟨b, off + k * 3 + 1, none⟩ = some (.int .i64 wh) ∧ w.cell? ⟨b, off + k * 3 + 2, none⟩ = some (.int .i64 cp)

def scriptObj (c0 c1 : Int) (A : Option Addr) (n c : Nat) : Obj := .cells #[.int .i64 c0, .int .i64 c1, .slice A n c] 25 (0, 0)
def ExactRel (w : World) (o : Obj) (m k : Nat) (wr : World) : Prop := ∃ f P Q, Twelve w wr o m k f P Q
def Fill (w : World) (o : Obj) (iv : Value) (wr : World) : Prop := ∃ k : Nat, iv = .int .i64 k ∧ k ≤ 12 ∧ ExactRel w o k 0 wr

def nils : Array Value := #[.pointer none, .pointer none, .pointer none, .pointer none, .pointer none, .pointer none, .pointer none, .pointer none, .pointer none, .pointer none, .pointer none, .pointer none]
theorem exact_start (w : World) (cs : Array Value) (t : TypeId) (wr : World) (h : wr = ((w.alloc (.cells cs t (0, 0))).alloc (.cells nils 27 (0, 0))).alloc (.cells nils 29 (0, 0))) : ExactRel w (.cells cs t (0, 0)) 0 0 wr := by
  subst h
  refine ⟨fun _ => ⟨0, 0, 0, 0, 0, 0⟩, nils, nils, ?_, ?_, ?_, ?_, rfl, rfl, fun i hi => by omega, fun i hi => by omega, fun i hi => by omega, fun i hi => by omega, fun i j hi => by omega⟩
  · exact (((Below.refl _ w).alloc (Nat.le_refl _) _).alloc (by simp) _).alloc (by simp; omega) _
  · rw [Below.heap_alloc _ _ _ (by simp; omega), Below.heap_alloc _ _ _ (by simp)]; exact heap_alloc_new w _
  · have e := heap_alloc_new (w.alloc (.cells cs t (0, 0))) (.cells nils 27 (0, 0))
    rw [World.size_alloc] at e
    rw [Below.heap_alloc _ _ _ (by simp)]; exact e
  · have e := heap_alloc_new ((w.alloc (.cells cs t (0, 0))).alloc (.cells nils 27 (0, 0))) (.cells nils 29 (0, 0))
    rw [World.size_alloc, World.size_alloc] at e
    exact e

/-- The cap that the i-th is asked for. -/
theorem cap_cell {wr : World} {b : Nat} {c0 c1 : Int} {A : Option Addr} {n c : Nat} (h : wr.heap[b]? = some (scriptObj c0 c1 A n c)) (k : Nat) : ∃ cv : Int, wr.cell? ⟨b, k % 2, none⟩ = some (.int .i64 cv) := by
  rcases Nat.mod_two_eq_zero_or_one k with e | e
  · rw [e]; exact ⟨c0, cell_of_obj h 0⟩
  · rw [e]; exact ⟨c1, cell_of_obj h 1⟩
theorem slot_cell {wr : World} {b t k : Nat} {P : Array Value} (h : wr.heap[b]? = some (.cells P t (0, 0))) (hs : P.size = 12) (hk : k < 12) : ∃ v, wr.cell? ⟨b, k, none⟩ = some v := by
  rw [cell_of_obj h k]; exact ⟨P[k]'(by omega), Array.getElem?_eq_getElem (by omega)⟩

def PlayRel (w : World) (o : Obj) (n : Nat) (iv : Value) (wr : World) : Prop := ∃ k : Nat, iv = .int .i64 k ∧ k ≤ n ∧ k ≤ 2000 ∧ ExactRel w o 12 k wr
def LookRel (w : World) (o : Obj) (iv : Value) (wr : World) : Prop := ∃ i : Nat, iv = .int .i64 i ∧ i ≤ 12 ∧ ∃ t, t ≤ 2000 ∧ ExactRel w o 12 t wr
theorem Turned.cell {w w' : World} {b : Nat} {c l g : Int} (h : Turned w w' b c l g) {a : Addr} (ha : a.block ≠ b) : w'.cell? a = w.cell? a := World.cell?_of_block (w := w) (h.far ha)
theorem RefTurned.cell {w w' : World} {b : Nat} {c : Int} {n : Nat} (h : RefTurned w w' b c n) {a : Addr} (ha : a.block ≠ b) : w'.cell? a = w.cell? a := World.cell?_of_block (w := w) (OnlyB.far h ha)

theorem PaceAt.drew {w : World} {b : Nat} {c l g : Int} (h : PaceAt w b c l g) : PaceAt w.drew b c l g := h
theorem PaceAt.drewN {w : World} {b : Nat} {c l g : Int} (h : PaceAt w b c l g) (n : Nat) : PaceAt (w.drewN n) b c l g := h
theorem RefAt.drewN {w : World} {b : Nat} {c : Int} {n : Nat} (h : RefAt w b c n) (k : Nat) : RefAt (w.drewN k) b c n := h
theorem wait_same (b : Nat) (c l g : Int) (w : World) (h : PaceAt w b c l g) :
    Calls Try.prog 12 #[.pointer (some ⟨b, 0, none⟩)] w fun e w' => e = .returned (.int .i64 l) ∧ w' = w := (wait_at b c l g w h).mono fun _ _ ⟨a, b⟩ => ⟨a, b.symm⟩
/-- What the document's pace tells as its wait. -/
def refW (c : Int) (n : Nat) : Int := if n = 0 then 0 else sA c n - n
theorem ref_wait_any (b : Nat) (c : Int) (n : Nat) (w : World) (h : RefAt w b c n) (hc : 1 ≤ c) (hc2 : c ≤ 64) (hN : n ≤ 5000) :
    Calls Try.prog 13 #[.pointer (some ⟨b, 0, none⟩)] w fun e w' => e = .returned (.int .i64 (refW c n)) ∧ ∃ k, w' = w.drewN k := by
  unfold refW
  by_cases hn : n = 0
  · subst hn; rw [if_pos rfl]; exact ref_wait0 b c w h
  · rw [if_neg hn]; exact ref_wait b c n w h hc hc2 (by omega) hN
theorem Goes.waits {c l g : Int} {n : Nat} (h : Goes c l g n) : l = refW c n := by
  obtain ⟨_, _, _, _, _, _, h7⟩ := h
  unfold refW
  rcases h7 with ⟨rfl, rfl, _⟩ | ⟨h7, h8, _⟩
  · rw [if_pos rfl]
  · rw [if_neg (by omega)]; exact h8
theorem Turned.of_drew {w w' : World} {b : Nat} {c l g : Int} (h : Turned w.drew w' b c l g) : Turned w w' b c l g := ⟨h.os, h.tape, h.output, h.heap⟩

set_option maxRecDepth 100000 in
set_option maxHeartbeats 1000000 in
theorem paceExact_walk (c0 c1 : Int) (A : Option Addr) (n cap : Nat) (w : World) (hx : OpsAt w A n) (hn : n ≤ 9223372036854775807) :
    Calls Try.prog 3 #[.agg #[.int .i64 c0, .int .i64 c1, .slice A n cap]] w fun e w' => e = .returned (.bool true) ∧ Below w.heap.size w w' := by
  go_enter Try.func3, Try.ntmps3
  go_wp2
  go_loopw [5] (fun iv wr => Fill w (scriptObj c0 c1 A n cap) iv wr) (fun iv _ => (12 - intOf iv).toNat)
  case atStart => exact ⟨0, rfl, by omega, exact_start w _ _ _ rfl⟩
  case round =>
    obtain ⟨k, rfl, hk, f, P, Q, hT⟩ := hrel
    by_cases hlt : k < 12
    · obtain ⟨cv, hcv⟩ := cap_cell hT.box k
      by_cases hok : 1 ≤ cv ∧ cv ≤ 64
      · obtain ⟨hk1, hk2⟩ := hok
        go_wp2_with (go_at_call 6; (with_reducible refine (made_ok cv _ hk1 hk2).mono ?_); rintro e w1 ⟨rfl, hm⟩; have h1 := hT.below hm.2.2.1; obtain ⟨v1, g1⟩ := slot_cell h1.parr h1.ps hlt; obtain ⟨v2, g2⟩ := slot_cell h1.qarr h1.qs hlt; have f1 := free_of_obj h1.parr k; have f2 := free_of_obj h1.qarr k)
        exact ⟨⟨k + 1, by go_num, by omega, _, _, _, hT.put hm hk1 hk2 hlt (.inr ⟨rfl, rfl⟩)⟩, by simp [intOf]; omega⟩
      · have hbad : cv < 1 ∨ 64 < cv := by omega
        obtain ⟨m, hm⟩ : ∃ m, cv % 64 = m := ⟨_, rfl⟩
        have hk1 : 1 ≤ 1 + m := by omega
        have hk2 : 1 + m ≤ 64 := by omega
        clear hok
        go_wp2_with (first | (go_at_call 6; (with_reducible refine (made_bad cv _ hbad).mono ?_); rintro e w1 ⟨rfl, rfl⟩) | (go_at_call 7; (with_reducible refine (into_any _ _ _ (by omega) (by omega)).mono ?_); rintro e w1 ⟨rfl, rfl⟩) | (go_at_call 6; (with_reducible refine (made_ok (1 + m) _ hk1 hk2).mono ?_); rintro e w1 ⟨rfl, hm⟩; have h1 := hT.below hm.2.2.1; obtain ⟨v1, g1⟩ := slot_cell h1.parr h1.ps hlt; obtain ⟨v2, g2⟩ := slot_cell h1.qarr h1.qs hlt; have f1 := free_of_obj h1.parr k; have f2 := free_of_obj h1.qarr k))
        exact ⟨⟨k + 1, by go_num, by omega, _, _, _, hT.put hm hk1 hk2 hlt (.inr ⟨rfl, rfl⟩)⟩, by simp [intOf]; omega⟩
    · have e12 : (k : Int) = 12 := by omega
      rw [e12]
      obtain rfl : k = 12 := by omega
      clear e12 hk hlt
      go_wp2
      go_loopw [9] (fun iv wr => PlayRel w (scriptObj c0 c1 A n cap) n iv wr) (fun iv _ => n - (intOf iv).toNat)
      case atStart => exact ⟨0, rfl, by omega, by omega, f, P, Q, hT⟩
      case round =>
        clear hT f P Q
        obtain ⟨k, rfl, hk, hk2, f, P, Q, hT⟩ := hrel
        obtain ⟨wo, rfl⟩ : ∃ wo : World, wo = wr := ⟨_, rfl⟩
        have b2 := cell_of_obj hT.box 2
        simp at b2
        by_cases hlt : k < n ∧ k < 2000
        · obtain ⟨hk3, hk4⟩ := hlt
          obtain ⟨ob, off, kd, wh, cp, rfl, hob, x0, x1, x2⟩ := hx k hk3
          have y0 := (hT.bel.cell (p := ⟨ob, off + k * 3, none⟩) hob).trans x0
          have y1 := (hT.bel.cell (p := ⟨ob, off + k * 3 + 1, none⟩) hob).trans x1
          have y2 := (hT.bel.cell (p := ⟨ob, off + k * 3 + 2, none⟩) hob).trans x2
          clear x0 x1 x2
          obtain ⟨i, hi⟩ : ∃ i : Nat, wh % 12 = (i : Int) := ⟨(wh % 12).toNat, by omega⟩
          have hi12 : i < 12 := by omega
          have hT1 : Twelve w (wo.alloc (Obj.cells #[.int .i64 kd, .int .i64 wh, .int .i64 cp] 34 (0, 0))) (scriptObj c0 c1 (some ⟨ob, off, none⟩) n cap) 12 k f P Q := hT.below ((Below.refl _ _).alloc (Nat.le_refl _) _)
          have hp := (hT1.two i hi12).1
          have hr := (hT1.two i hi12).2
          have hpd := hp.drew
          have hi0 : (0 : Int) ≤ (i : Int) := by omega
          have hi1 : (i : Int) < 12 := by omega
          obtain ⟨⟨v1, v2, v3, v4, v5, v6, v7⟩, hnk⟩ := hT1.goes i hi12
          have hgo := hT1.goes i hi12
          have hlow := hT1.low i hi12
          have a1 := (cell_of_obj hT1.parr i).trans (hT1.ptr i hi12).1
          have a2 : World.cell? _ ⟨w.heap.size + 1 + 1, i, none⟩ = _ := (cell_of_obj hT1.qarr i).trans (hT1.ptr i hi12).2
          by_cases h1 : kd = 1
          · subst h1
            go_wp2_with (first | (go_at_call 7; (with_reducible refine (into_any _ _ _ (by omega) (by omega)).mono ?_); rintro e w1 ⟨rfl, rfl⟩))
            clear y0 y1 y2 b2
            have htk := hgo.1.tick.2
            go_region_held3 (fun w' => w'.cell? ⟨w.heap.size + 1, i, none⟩ = some (.pointer (some ⟨(f i).pb, 0, none⟩)) ∧ w'.cell? ⟨w.heap.size + 1 + 1, i, none⟩ = some (.pointer (some ⟨(f i).qb, 0, none⟩)))
              (first
                | exact ⟨a1, a2⟩
                | exact ⟨(ht1.cell (by simp only; omega)).trans a1, (ht1.cell (by simp only; omega)).trans a2⟩
                | exact ⟨(hr1.cell (by simp only; omega)).trans ((ht1.cell (by simp only; omega)).trans a1), (hr1.cell (by simp only; omega)).trans ((ht1.cell (by simp only; omega)).trans a2)⟩)
              (first | (go_at_call 8; (with_reducible refine (tick_any _ (f i).c (f i).l (f i).g _ hpd (by omega) (by omega) (by omega) (by omega) (by omega)).mono ?_); rintro e w5 ⟨rfl, ht0⟩; have ht1 : Turned _ w5 (f i).pb (f i).c _ _ := ht0.of_drew; have hr5 := (hT1.turnP hi12 ht1).2.2.2.2.2.2 i hi12) | (go_at_call 9; (with_reducible refine (ref_tick _ (f i).c (f i).n _ hr5 (by omega) (by omega) (by omega)).mono ?_); rintro e w6 ⟨rfl, hr1⟩))
            go_wp2
            exact ⟨⟨k + 1, by go_num, by omega, by omega, _, _, _, hT1.turn hi12 ht1 hr1 hgo.1.tick.1 (by omega)⟩, by simp [intOf]; omega⟩
          · have e1 : (kd == 1) = false := beq_eq_false_iff_ne.2 h1
            by_cases h2 : kd = 2
            · subst h2
              clear h1
              go_wp2_with (first | (go_at_call 7; (with_reducible refine (into_any _ _ _ (by omega) (by omega)).mono ?_); rintro e w1 ⟨rfl, rfl⟩) | (go_at_call 10; (with_reducible refine (reset_at _ _ _ _ _ hp).mono ?_); rintro e w5 ⟨rfl, ht1⟩; have hr5 := (hT1.turnP hi12 ht1).2.2.2.2.2.2 i hi12; have a3 := (ht1.cell (a := ⟨w.heap.size + 1 + 1, i, none⟩) (by simp only; omega)).trans a2) | (go_at_call 11; (with_reducible refine (ref_reset _ _ _ _ hr5).mono ?_); rintro e w6 ⟨rfl, hr1⟩))
              exact ⟨⟨k + 1, by go_num, by omega, by omega, _, _, _, hT1.turn hi12 ht1 hr1 (Goes.start v1 v2) (by omega)⟩, by simp [intOf]; omega⟩
            · have e2 : (kd == 2) = false := beq_eq_false_iff_ne.2 h2
              by_cases h3 : kd = 3
              · subst h3
                clear h1 h2
                have hw := hgo.1.waits
                go_wp2_with (first | (go_at_call 7; (with_reducible refine (into_any _ _ _ (by omega) (by omega)).mono ?_); rintro e w1 ⟨rfl, rfl⟩))
                clear y0 y1 y2 b2
                go_quiet ((first | (go_at_call 12; exact Calls.quiet_of_same (wait_same _ _ _ _ _ (PaceAt.drewN hp _))) | (go_at_call 13; exact Calls.quiet_of (ref_wait_any _ _ _ _ (RefAt.drewN hr _) v1 v2 (by omega)))))
                go_wp2
                exact ⟨⟨k + 1, by go_num, by omega, by omega, _, _, _, (hT1.drewN _).later (by omega)⟩, by simp [intOf]; omega⟩
              · have e3 : (kd == 3) = false := beq_eq_false_iff_ne.2 h3
                by_cases h4 : kd = 4
                · subst h4
                  clear h1 h2 h3
                  by_cases hok : 1 ≤ cp ∧ cp ≤ 64
                  · obtain ⟨hk1, hk2⟩ := hok
                    go_wp2_with (first | (go_at_call 7; (with_reducible refine (into_any _ _ _ (by omega) (by omega)).mono ?_); rintro e w1 ⟨rfl, rfl⟩) | (go_at_call 6; (with_reducible refine (made_ok cp _ hk1 hk2).mono ?_); rintro e w5 ⟨rfl, hm⟩; have h5 := hT1.below hm.2.2.1; obtain ⟨u1, g1⟩ := slot_cell h5.parr h5.ps hi12; obtain ⟨u2, g2⟩ := slot_cell h5.qarr h5.qs hi12; have f1 := free_of_obj h5.parr i; have f2 := free_of_obj h5.qarr i))
                    have hput := (hT1.put hm hk1 hk2 hi12 (.inl ⟨hi12, rfl⟩)).later (k' := k + 1) (by omega)
                    simp only [World.size_alloc] at hput
                    exact ⟨⟨k + 1, by go_num, by omega, by omega, _, _, _, hput⟩, by simp [intOf]; omega⟩
                  · have hbad : cp < 1 ∨ 64 < cp := by omega
                    clear hok
                    go_wp2_with (first | (go_at_call 7; (with_reducible refine (into_any _ _ _ (by omega) (by omega)).mono ?_); rintro e w1 ⟨rfl, rfl⟩) | (go_at_call 6; (with_reducible refine (made_bad cp _ hbad).mono ?_); rintro e w5 ⟨rfl, rfl⟩))
                    exact ⟨⟨k + 1, by go_num, by omega, by omega, _, _, _, hT1.later (by omega)⟩, by simp [intOf]; omega⟩
                · have e4 : (kd == 4) = false := beq_eq_false_iff_ne.2 h4
                  clear h1 h2 h3 h4
                  go_wp2_with (first | (go_at_call 7; (with_reducible refine (into_any _ _ _ (by omega) (by omega)).mono ?_); rintro e w1 ⟨rfl, rfl⟩))
                  exact ⟨⟨k + 1, by go_num, by omega, by omega, _, _, _, hT1.later (by omega)⟩, by simp [intOf]; omega⟩
        · have hor : ¬ k < n ∨ (k < n ∧ ¬ k < 2000) := by omega
          rcases hor with hlt1 | ⟨hlt1, hlt2⟩
          all_goals
            clear hlt
            go_wp2
            go_loopw [15] (fun iv wr => LookRel w (scriptObj c0 c1 A n cap) iv wr) (fun iv _ => (12 - intOf iv).toNat)
            case atStart => exact ⟨0, rfl, by omega, k, hk2, f, P, Q, hT⟩
            case round =>
              clear hT hk hk2 b2
              obtain ⟨i, rfl, hi, t, ht, f, P, Q, hT⟩ := hrel
              obtain ⟨wx, rfl⟩ : ∃ wx : World, wx = wr := ⟨_, rfl⟩
              by_cases hi12 : i < 12
              · have hp := (hT.two i hi12).1
                have hr := (hT.two i hi12).2
                have hi0 : (0 : Int) ≤ (i : Int) := by omega
                have hi1 : (i : Int) < 12 := by omega
                obtain ⟨⟨v1, v2, v3, v4, v5, v6, v7⟩, hnk⟩ := hT.goes i hi12
                have hw := (hT.goes i hi12).1.waits
                have a1 := (cell_of_obj hT.parr i).trans (hT.ptr i hi12).1
                have a2 : World.cell? _ ⟨w.heap.size + 1 + 1, i, none⟩ = _ := (cell_of_obj hT.qarr i).trans (hT.ptr i hi12).2
                go_wp2_with fail
                go_quiet ((first | (go_at_call 12; exact Calls.quiet_of_same (wait_same _ _ _ _ _ (PaceAt.drewN hp _))) | (go_at_call 13; exact Calls.quiet_of (ref_wait_any _ _ _ _ (RefAt.drewN hr _) v1 v2 (by omega)))))
                go_wp2
                exact ⟨⟨i + 1, by go_num, by omega, t, ht, _, _, _, hT.drewN _⟩, by simp [intOf]; omega⟩
              · go_wp2
                go_ret
                exact ⟨rfl, hT.bel⟩
end Go.Proofs.Ytlaecfalegffkaa
