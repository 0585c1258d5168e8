/- TextQuotes: the walk. -/
import Derived.Test.YthkifgjmhpppkaaDoorTxX
import Derived.Test.YthkifgjmhpppkaaDoorTxT
import Derived.IntWalk
namespace Go.Proofs.YthkifgjmhpppkaaDoor
open Go.RowKit Go.Proofs.YthkifgjmhpppkaaDoorW.PrintWords Go.Proofs.YthkifgjmhpppkaaDoor.PTextAmounts

theorem strOf_numsB (l : List UInt8) : strOfNums (numsB l) = ⟨l.toArray⟩ := by
  apply ByteArray.ext
  apply Array.toList_inj.1
  rw [str_numsB]
theorem ba_app (a b : List UInt8) : (⟨a.toArray⟩ : ByteArray) ++ ⟨b.toArray⟩ = ⟨(a ++ b).toArray⟩ := by
  apply ByteArray.ext
  simp [ByteArray.data_append]
theorem may_any (s : ByteArray) (hs : s.size ≤ 140737488355328) : ∃ r : List UInt8, GoodW r ∧ ∀ W, Calls Tryd.prog 20 #[.string s] W fun e w' => e = .returned (.string ⟨r.toArray⟩) ∧ Below W.heap.size W w' := by
  obtain ⟨r, h1, h2⟩ := may_f s hs
  refine ⟨r, h2, fun W => ?_⟩
  have := tallylaw2_may.calls _ s _ W h1
  rw [strOf_numsB] at this
  exact this
theorem quote_any (r : List UInt8) (hr : GoodW r) : ∃ qb : ByteArray, qb.data.toList = quoteL r ∧ qb.size ≤ 82 ∧ ∀ W, Calls Tryd.prog 22 #[.string ⟨r.toArray⟩] W fun e w' => e = .returned (.string qb) ∧ Below W.heap.size W w' := by
  have h1 := escL_len r
  have h2 := hr.1
  refine ⟨⟨(quoteL r).toArray⟩, by simp, by rw [ba_size]; simp [quoteL]; omega, fun W => ?_⟩
  have := tallylaw2_quote.calls _ ⟨r.toArray⟩ _ W (quote_f ⟨r.toArray⟩ (by rw [ba_size]; omega))
  rw [strOf_numsB] at this
  exact this
theorem within_any (z : Int) : ∃ g : Nat, g ≤ 2 ∧ ∀ W, Calls Tryd.prog 21 #[.int .i64 z, .int .i64 3] W fun e w' => e = .returned (.int .i64 (g : Nat)) ∧ ∃ n, w' = W.drewN n := by
  have hf : tallylaw2_within.f z 3 = some (Int.tmod (wrap64 ((Int.tmod z 3) + 3)) 3) := by
    unfold tallylaw2_within.f
    rw [if_neg (by decide)]
  have hb : -3 < Int.tmod z 3 ∧ Int.tmod z 3 < 3 := by
    constructor
    · have := Int.lt_tmod_of_pos z (show (0 : Int) < 3 by decide)
      exact this
    · exact Int.tmod_lt_of_pos z (by decide)
  have hw : wrap64 ((Int.tmod z 3) + 3) = Int.tmod z 3 + 3 := by unfold wrap64; omega
  have hm : Int.tmod (Int.tmod z 3 + 3) 3 = (Int.tmod z 3 + 3) % 3 := Int.tmod_eq_emod_of_nonneg (by omega)
  refine ⟨((Int.tmod z 3 + 3) % 3).toNat, by omega, fun W => ?_⟩
  rw [Int.toNat_of_nonneg (by omega)]
  rw [hw, hm] at hf
  exact (tallylaw2_within.calls z 3 _ W hf).mono fun _ _ ⟨h1, h2⟩ => ⟨h1, h2.out⟩
def QRel (w1 : World) (nL : Nat) (v3 v4 v5 : Value) (wr : World) : Prop :=
  ∃ (items : List Item) (A : Option Addr) (cap : Nat) (sb : ByteArray), v3 = .string sb ∧ sb.data.toList = lineL items ∧ v4 = .slice A items.length cap ∧ v5 = .int .i64 items.length ∧ wr.ownsRow w1.heap.size 9 1 (.slice A items.length cap) items.length (items.map fun x => strV x.word) ∧ BelW w1 wr ∧ (∀ x ∈ items, x.Ok) ∧ items.length ≤ nL ∧ items.length ≤ 17
def GRel (l : List UInt8) (v3 v8 : Value) : Prop := ∃ (sb : ByteArray) (g : List UInt8), v3 = .string sb ∧ sb.data.toList = l ++ g ∧ v8 = .int .i64 g.length ∧ g.length ≤ 3 ∧ ∀ b ∈ g, b = 32 ∨ b = 9
theorem lineL_snoc (l : List Item) (x : Item) : lineL (l ++ [x]) = lineL l ++ (x.gap ++ quoteL x.word) := by
  unfold lineL
  rw [List.flatMap_append]
  simp
theorem lineL_len : ∀ l : List Item, (∀ x ∈ l, x.Ok) → (lineL l).length ≤ 85 * l.length
  | [], _ => Nat.le_refl _
  | x :: r, h => by
    have ih := lineL_len r (fun y hy => h y (List.mem_cons_of_mem _ hy))
    have h1 := item_len x (h x List.mem_cons_self)
    have e1 : lineL (x :: r) = (x.gap ++ quoteL x.word) ++ lineL r := by
      unfold lineL
      rw [List.flatMap_cons]
    rw [e1, List.length_append]
    simp only [List.length_cons]
    omega
set_option maxRecDepth 100000 in
set_option maxHeartbeats 8000000 in
theorem textQuotes_walk (A0 A1 : Option Addr) (c0 c1 : Nat) (L : List ByteArray) (G : List Int) (w : World) (hT : Tabs w) (hL : RS w A0 L) (hG : RI .i64 w A1 G) (hLs : ∀ s ∈ L, s.size ≤ 1048576) (hl1 : G.length ≤ 1048576) :
    Calls Tryd.prog 6 #[.agg #[.slice A0 L.length c0, .slice A1 G.length c1]] w (Begun w) := by
  have HLS := Lib.hid hLs
  obtain ⟨i0, hi, hz0, hz1, hz2⟩ := info_parts string_info
  have HI := Lib.hid (And.intro hi (And.intro hz0 (And.intro hz1 hz2)))
  clear hLs hi hz0 hz1 hz2
  go_enter Tryd.func6, Tryd.ntmps6
  have hb0 : BelW w (w.alloc (.cells #[.slice A0 L.length c0, .slice A1 G.length c1] 47)) := (Below.refl _ _).alloc (Nat.le_refl _) _
  have hT0 : Tabs (w.alloc (.cells #[.slice A0 L.length c0, .slice A1 G.length c1] 47)) := hT.below hb0
  have hx0 : (w.alloc (.cells #[.slice A0 L.length c0, .slice A1 G.length c1] 47)).cell? ⟨w.heap.size, 0, none⟩ = some (.slice A0 L.length c0) := by
    rw [World.cell?_alloc_at _ _ _ _ rfl]
    rfl
  have hx1 : (w.alloc (.cells #[.slice A0 L.length c0, .slice A1 G.length c1] 47)).cell? ⟨w.heap.size, 1, none⟩ = some (.slice A1 G.length c1) := by
    rw [World.cell?_alloc_at _ _ _ _ rfl]
    rfl
  have HX := Lib.hid (And.intro hx0 hx1)
  have HB0 := Lib.hid hb0
  clear hb0 hx0 hx1
  go_wp2_with (go_at_call 9; (with_reducible refine (begun_any _ hT0).mono ?_); rintro e w1 ⟨rfl, hb1⟩)
  have hbw : BelW w w1 := belowKeep HB0.out hb1
  have hx0 := cellKeep hb1 HX.out.1
  have hx1 := cellKeep hb1 HX.out.2
  clear hb1 hT0 HX HB0
  have hBB := Below.size hbw
  go_loopw [3, 4, 5] (fun v3 v4 v5 wr => QRel w1 L.length v3 v4 v5 wr) (fun _ _ v5 _ => (17 - intOf v5).toNat)
  case atStart => exact ⟨[], none, 0, ⟨#[]⟩, rfl, rfl, rfl, rfl, ⟨by simp, .inl ⟨rfl, rfl⟩⟩, Below.refl _ _, by simp, by simp, by simp⟩
  case round =>
    obtain ⟨items, A, cap, sb, rfl, hsb, rfl, rfl, hown, hbr, hok, hil, hi17⟩ := hrel
    have hbl : sb.size ≤ 1445 := by
      have h1 := lineL_len items hok
      have h2 : sb.data.toList.length = sb.size := rfl
      rw [hsb] at h2
      omega
    have HSB := Lib.hid hsb
    clear hsb
    obtain ⟨i, hil2⟩ : ∃ i, items.length = i := ⟨_, rfl⟩
    rw [hil2] at hown hil hi17 ⊢
    have HIL := Lib.hid hil2
    have HOK := Lib.hid hok
    clear hil2 hok
    have hy0 := cellKeep hbr hx0
    have hy1 := cellKeep hbr hx1
    have b1 : (0 : Int) ≤ (i : Int) := by omega
    have b2 : (i : Int) ≤ 17 := by omega
    by_cases hlt : i < L.length ∧ i < 17
    · obtain ⟨hlt, h17⟩ := hlt
      obtain ⟨ad, hA1, hc⟩ := hL.cell_at hlt
      have hc1 := cellKeep hbr (cellKeep hbw hc)
      obtain ⟨s, hs⟩ : ∃ s, L[i] = s := ⟨_, rfl⟩
      have hsz : s.size ≤ 1048576 := hs ▸ HLS.out _ (List.getElem_mem hlt)
      rw [hs] at hc1
      obtain ⟨r, hgw, hM⟩ := may_any s (by omega)
      have HGW := Lib.hid hgw
      have HM := Lib.hid hM
      obtain ⟨qb, hqb, hqs, hQ⟩ := quote_any r hgw
      have HQ := Lib.hid hQ
      have HQD := Lib.hid hqb
      have q1 : (i : Int) < (L.length : Int) := by omega
      have q2 : (i : Int) < 17 := by omega
      have HIX0 : Hid (∀ w, (Instr.index 50 (.agg #[.string ⟨#[32]⟩, .string ⟨#[9]⟩]) (.int .i64 0)).run Tryd.prog w = .ok (.string ⟨#[32]⟩) w) := Lib.hid (fun _ => by kernel_rfl)
      have HIX1 : Hid (∀ w, (Instr.index 50 (.agg #[.string ⟨#[32]⟩, .string ⟨#[9]⟩]) (.int .i64 1)).run Tryd.prog w = .ok (.string ⟨#[9]⟩) w) := Lib.hid (fun _ => by kernel_rfl)
      clear hs hgw hM hc hlt h17 hQ hqb
      obtain rfl := hA1
      by_cases hg0 : 0 < G.length
      · obtain ⟨adG, hA2, hcG⟩ := hG.cell_at (Nat.mod_lt i hg0)
        have hcG1 := cellKeep hbr (cellKeep hbw hcG)
        obtain ⟨z, hz⟩ : ∃ z, G[i % G.length]'(Nat.mod_lt i hg0) = z := ⟨_, rfl⟩
        rw [hz] at hcG1
        obtain ⟨g, hg2, hWi⟩ := within_any z
        have g0 : (0 : Int) < (G.length : Int) := by omega
        have g1 : decide (0 < G.length) = true := decide_eq_true hg0
        have g3 : (g : Int) ≤ 2 := by omega
        have g4 : (0 : Int) ≤ (g : Int) := by omega
        have e1 : ((i : Int) % (G.length : Int)).toNat = i % G.length := by
          rw [← Int.natCast_emod]
          exact Int.toNat_natCast _
        have e2 : (0 : Int) ≤ (i : Int) % (G.length : Int) := Int.emod_nonneg _ (by omega)
        have e3 : (i : Int) % (G.length : Int) < (G.length : Int) := Int.emod_lt_of_pos _ g0
        have g5 : ((G.length : Int) == 0) = false := by rw [beq_eq_false_iff_ne]; omega
        have g6 : ¬ (G.length : Int) = 0 := by omega
        have HW := Lib.hid hWi
        clear hz hcG hWi hg0
        obtain rfl := hA2
        go_wp2_with (first | (go_at_call 20; (with_reducible refine (HM.out _).mono ?_); rintro e w2 ⟨rfl, hb2⟩; have hbr2 := belowKeep hbr hb2; have ho2 := own_below hown hb2; have hz0 := cellKeep hb2 hy0; have hz1 := cellKeep hb2 hy1; have hcG2 := cellKeep hb2 hcG1; clear hb2))
        go_quiet ((go_at_call 21; exact Calls.quiet_of (HW.out _)))
        clear e1 e2 e3 g5 g6
        go_wp2_with fail
        have hD : ∀ n, BelW w1 (w2.drewN n) := fun n => Below.trans hbr2 ((belowD _ n).mono (Below.size hbr2))
        have hO : ∀ n, (w2.drewN n).ownsRow w1.heap.size 9 1 (.slice A i cap) i (items.map fun x => strV x.word) := fun n => ho2
        go_loop [3, 8] (fun v3 v8 => GRel (lineL items) v3 v8) (fun _ v8 => (3 - intOf v8).toNat)
        case atStart => exact ⟨sb, [], rfl, by rw [List.append_nil]; exact HSB.out, rfl, by simp, by simp⟩
        case round =>
          obtain ⟨sc, g', rfl, hsc, rfl, hg3, hgb⟩ := hrel
          have hcl : sc.size ≤ 1448 := by
            have h2 : sc.data.toList.length = sc.size := rfl
            have h3 : sb.data.toList.length = sb.size := rfl
            rw [hsc, List.length_append, ← HSB.out] at h2
            omega
          have HSC := Lib.hid hsc
          clear hsc
          obtain ⟨k, hk⟩ : ∃ k, g'.length = k := ⟨_, rfl⟩
          rw [hk] at hg3 ⊢
          have HK := Lib.hid hk
          have HGB := Lib.hid hgb
          clear hk hgb
          have d1 : (0 : Int) ≤ (k : Int) := by omega
          have d2 : (k : Int) ≤ 3 := by omega
          by_cases hkg : (k : Int) < 1 + (g : Int)
          · have d3 : (k : Int) < 3 := by omega
            have hpar : ((i : Int) + (k : Int)) % 2 = 0 ∨ ((i : Int) + (k : Int)) % 2 = 1 := by omega
            rcases hpar with hpar | hpar
            · have ix := HIX0.out
              go_wp2
              go_round
              case rel => exact ⟨_, g' ++ [32], rfl, by rw [app_data, HSC.out, List.append_assoc], by rw [List.length_append, HK.out]; go_num, by rw [List.length_append, HK.out]; show k + 1 ≤ 3; omega, fun b hb => by
                rcases List.mem_append.1 hb with hb | hb
                · exact HGB.out b hb
                · exact .inl (List.mem_singleton.1 hb)⟩
              case measure => simp [intOf]; omega
            · have ix := HIX1.out
              go_wp2
              go_round
              case rel => exact ⟨_, g' ++ [9], rfl, by rw [app_data, HSC.out, List.append_assoc], by rw [List.length_append, HK.out]; go_num, by rw [List.length_append, HK.out]; show k + 1 ≤ 3; omega, fun b hb => by
                rcases List.mem_append.1 hb with hb | hb
                · exact HGB.out b hb
                · exact .inr (List.mem_singleton.1 hb)⟩
              case measure => simp [intOf]; omega
          · have hk1 : 1 ≤ k := by omega
            have HIT : Hid (Item.Ok ⟨g', r⟩) := Lib.hid ⟨fun e => by have := HK.out; dsimp only at e; rw [e] at this; simp at this; omega, HGB.out, by have := HK.out; show g'.length ≤ 3; omega, HGW.out⟩
            go_wp2_with (first | (go_at_call 22; (with_reducible refine (HQ.out _).mono ?_); rintro e w3 ⟨rfl, hb3⟩; have hbr3 := belowKeep (hD _) hb3; have ho3 := own_below (hO _) hb3) | (at_builtin; refine wpList_append_own _ rfl (.tmp 62) (.tmp 64) 22 rfl w1.heap.size 9 i0 (.string ⟨#[]⟩) 1 16 Tryd.underlying22 HI.out.1 HI.out.2.1 HI.out.2.2.1 HI.out.2.2.2 rfl (by decide) (.slice A i cap) i (items.map fun x => strV x.word) rfl (ho3.alloc _) ⟨_, 0, none⟩ 1 1 [strV r] rfl rfl (new_cell _ _ _) (one_str r) (by unfold maxLen; omega) (by omega) (by have := Below.size hbr3; simp; omega) ?_; intro v' w5 hown5 hgrow _; obtain ⟨A5, cap5, rfl⟩ := row_form hown5; have hb5 : BelW w1 w5 := (Below.alloc hbr3 (Below.size hbr3) _).grown hgrow (by have := Below.size hbr3; simp; omega) (fun k hk => (ho3.lt k hk).1)))
            go_roundw
            case rel => exact ⟨items ++ [⟨g', r⟩], A5, cap5, _, rfl, by rw [app_data, HSC.out, HQD.out, lineL_snoc, List.append_assoc], by rw [List.length_append, HIL.out]; rfl, by rw [List.length_append, HIL.out]; go_num, by rw [List.length_append, HIL.out, List.map_append]; exact hown5, hb5, fun x hx => by
                rcases List.mem_append.1 hx with hx | hx
                · exact HOK.out x hx
                · rw [List.mem_singleton.1 hx]
                  exact HIT.out, by rw [List.length_append, HIL.out]; show i + 1 ≤ _; omega, by rw [List.length_append, HIL.out]; show i + 1 ≤ _; omega⟩
            case measure => simp [intOf]; omega
      · have g0 : ¬ (0 : Int) < (G.length : Int) := by omega
        have g1 : decide (0 < G.length) = false := decide_eq_false hg0
        clear hg0
        go_wp2_with (first | (go_at_call 20; (with_reducible refine (HM.out _).mono ?_); rintro e w2 ⟨rfl, hb2⟩; have hbr2 := belowKeep hbr hb2; have ho2 := own_below hown hb2; have hz0 := cellKeep hb2 hy0; have hz1 := cellKeep hb2 hy1; clear hb2))
        go_loop [3, 8] (fun v3 v8 => GRel (lineL items) v3 v8) (fun _ v8 => (3 - intOf v8).toNat)
        case atStart => exact ⟨sb, [], rfl, by rw [List.append_nil]; exact HSB.out, rfl, by simp, by simp⟩
        case round =>
          obtain ⟨sc, g', rfl, hsc, rfl, hg3, hgb⟩ := hrel
          have hcl : sc.size ≤ 1448 := by
            have h2 : sc.data.toList.length = sc.size := rfl
            have h3 : sb.data.toList.length = sb.size := rfl
            rw [hsc, List.length_append, ← HSB.out] at h2
            omega
          have HSC := Lib.hid hsc
          clear hsc
          obtain ⟨k, hk⟩ : ∃ k, g'.length = k := ⟨_, rfl⟩
          rw [hk] at hg3 ⊢
          have HK := Lib.hid hk
          have HGB := Lib.hid hgb
          clear hk hgb
          have d1 : (0 : Int) ≤ (k : Int) := by omega
          have d2 : (k : Int) ≤ 3 := by omega
          by_cases hkg : (k : Int) < 1
          · have d3 : (k : Int) < 3 := by omega
            have hpar : ((i : Int) + (k : Int)) % 2 = 0 ∨ ((i : Int) + (k : Int)) % 2 = 1 := by omega
            rcases hpar with hpar | hpar
            · have ix := HIX0.out
              go_wp2
              go_round
              case rel => exact ⟨_, g' ++ [32], rfl, by rw [app_data, HSC.out, List.append_assoc], by rw [List.length_append, HK.out]; go_num, by rw [List.length_append, HK.out]; show k + 1 ≤ 3; omega, fun b hb => by
                rcases List.mem_append.1 hb with hb | hb
                · exact HGB.out b hb
                · exact .inl (List.mem_singleton.1 hb)⟩
              case measure => simp [intOf]; omega
            · have ix := HIX1.out
              go_wp2
              go_round
              case rel => exact ⟨_, g' ++ [9], rfl, by rw [app_data, HSC.out, List.append_assoc], by rw [List.length_append, HK.out]; go_num, by rw [List.length_append, HK.out]; show k + 1 ≤ 3; omega, fun b hb => by
                rcases List.mem_append.1 hb with hb | hb
                · exact HGB.out b hb
                · exact .inr (List.mem_singleton.1 hb)⟩
              case measure => simp [intOf]; omega
          · have hk1 : 1 ≤ k := by omega
            have HIT : Hid (Item.Ok ⟨g', r⟩) := Lib.hid ⟨fun e => by have := HK.out; dsimp only at e; rw [e] at this; simp at this; omega, HGB.out, by have := HK.out; show g'.length ≤ 3; omega, HGW.out⟩
            go_wp2_with (first | (go_at_call 22; (with_reducible refine (HQ.out _).mono ?_); rintro e w3 ⟨rfl, hb3⟩; have hbr3 := belowKeep hbr2 hb3; have ho3 := own_below ho2 hb3) | (at_builtin; refine wpList_append_own _ rfl (.tmp 62) (.tmp 64) 22 rfl w1.heap.size 9 i0 (.string ⟨#[]⟩) 1 16 Tryd.underlying22 HI.out.1 HI.out.2.1 HI.out.2.2.1 HI.out.2.2.2 rfl (by decide) (.slice A i cap) i (items.map fun x => strV x.word) rfl (ho3.alloc _) ⟨_, 0, none⟩ 1 1 [strV r] rfl rfl (new_cell _ _ _) (one_str r) (by unfold maxLen; omega) (by omega) (by have := Below.size hbr3; simp; omega) ?_; intro v' w5 hown5 hgrow _; obtain ⟨A5, cap5, rfl⟩ := row_form hown5; have hb5 : BelW w1 w5 := (Below.alloc hbr3 (Below.size hbr3) _).grown hgrow (by have := Below.size hbr3; simp; omega) (fun k hk => (ho3.lt k hk).1)))
            go_roundw
            case rel => exact ⟨items ++ [⟨g', r⟩], A5, cap5, _, rfl, by rw [app_data, HSC.out, HQD.out, lineL_snoc, List.append_assoc], by rw [List.length_append, HIL.out]; rfl, by rw [List.length_append, HIL.out]; go_num, by rw [List.length_append, HIL.out, List.map_append]; exact hown5, hb5, fun x hx => by
                rcases List.mem_append.1 hx with hx | hx
                · exact HOK.out x hx
                · rw [List.mem_singleton.1 hx]
                  exact HIT.out, by rw [List.length_append, HIL.out]; show i + 1 ≤ _; omega, by rw [List.length_append, HIL.out]; show i + 1 ≤ _; omega⟩
            case measure => simp [intOf]; omega
    · have hst : ¬ (i : Int) < (L.length : Int) ∨ ((i : Int) < (L.length : Int) ∧ ¬ (i : Int) < 17) := by
        by_cases h : i < L.length
        · exact .inr ⟨by omega, by omega⟩
        · exact .inl (by omega)
      have hW := words_any sb wr (hT.below (Below.trans hbw (Below.mono hbr (Below.size hbw)))) (by omega)
      unfold WordsEnd at hW
      rw [HSB.out, line_words items HOK.out] at hW
      have hlen : (lineL items).length = sb.size := by rw [← HSB.out]; rfl
      clear hlt
      by_cases hbad : 1024 < sb.size ∨ 16 < i
      · rw [if_pos (by rw [hlen, HIL.out]; exact hbad)] at hW
        have HW := Lib.hid hW
        have hb2 : (1024 : Int) < (sb.size : Int) ∨ (¬ (1024 : Int) < (sb.size : Int) ∧ (16 : Int) < (i : Int)) := by
          by_cases h : 1024 < sb.size
          · exact .inl (by omega)
          · exact .inr ⟨by omega, by omega⟩
        clear hW hlen hbad
        rcases hst with k1 | ⟨k1, k2⟩
        all_goals
          rcases hb2 with k3 | ⟨k3, k4⟩
          all_goals
            go_wp2_with (first | (go_at_call 15; (with_reducible refine HW.out.mono ?_); rintro e w2 ⟨hb2, he⟩; subst he; have hbr2 := belowKeep hbr hb2) | (go_at_call 12; (with_reducible refine (num_any _ _).mono ?_); rintro e w3 ⟨rfl, hb3⟩; have hbr3 := belowKeep hbr2 hb3))
            go_ret
            exact ⟨rfl, Below.trans hbw (Below.mono hbr3 (Below.size hbw))⟩
      · rw [if_neg (by rw [hlen, HIL.out]; exact hbad)] at hW
        obtain ⟨ws, hws⟩ : ∃ ws : List ByteArray, items.map (fun x => (⟨x.word.toArray⟩ : ByteArray)) = ws := ⟨_, rfl⟩
        have hwl : ws.length = i := by rw [← hws, List.length_map]; exact HIL.out
        have hm1 : (items.map (·.word)).map strV = ws.map Value.string := by
          rw [← hws, List.map_map, List.map_map]
          rfl
        have hm2 : (items.map fun x => strV x.word) = ws.map Value.string := by
          rw [← hws, List.map_map]
          rfl
        have hml : (items.map (·.word)).length = i := by rw [List.length_map]; exact HIL.out
        dsimp only at hW
        rw [hm1, hml] at hW
        rw [hm2] at hown
        have hrs := (RS.own hown (by omega)).2
        have hcap := row_cap hown
        have hW2 : Calls Tryd.prog 15 #[.string sb] wr fun e w' => ∃ A' cap', e = .returned (.tuple #[.slice A' i cap', .int .i64 0]) ∧ i ≤ cap' ∧ RS w' A' ws ∧ Below wr.heap.size wr w' :=
          hW.mono fun e w' ⟨hb, A', cap', he, ho⟩ => ⟨A', cap', he, row_cap ho, (RS.own ho (by omega)).2, hb⟩
        have hE : ∀ (W : World) (A' : Option Addr) (cap' : Nat), RS W A' ws → RS W A ws → i ≤ cap' → Calls Tryd.prog 17 #[.slice A' i cap', .slice A i cap] W fun e w' => e = .returned (.bool true) ∧ Below W.heap.size W w' := fun W A' cap' h1 h2 h3 => by
          have := eqStrings_any A' A cap' cap ws ws W h1 h2 (by omega) (by omega)
          rw [decide_eq_true rfl, hwl] at this
          exact this
        have HW := Lib.hid hW2
        have HE := Lib.hid hE
        have k3 : ¬ (1024 : Int) < (sb.size : Int) := by omega
        have k4 : ¬ (16 : Int) < (i : Int) := by omega
        have hTT : ∀ W, BelW w1 W → Tabs W := fun W h => hT.below (Below.trans hbw (Below.mono h (Below.size hbw)))
        have HTT := Lib.hid hTT
        clear hW hlen hbad hws hm1 hm2 hml hwl hW2 hE hTT
        rcases hst with k1 | ⟨k1, k2⟩
        · go_wp2_with (first | (go_at_call 15; (with_reducible refine HW.out.mono ?_); rintro e w2 ⟨A', cap', rfl, hcap', hrs', hb2⟩; have hbr2 := belowKeep hbr hb2; have hrs2 := hrs.below hb2) | (go_at_call 12; (with_reducible refine (num_any _ _).mono ?_); rintro e w3 ⟨rfl, hb3⟩; have hbr3 := belowKeep hbr2 hb3; have hrs3 := hrs2.below hb3; have hrs3' := hrs'.below hb3) | (go_at_call 17; (with_reducible refine (HE.out _ _ _ hrs3' hrs3 hcap').mono ?_); rintro e w4 ⟨rfl, hb4⟩; have hbr4 := belowKeep hbr3 hb4) | (go_at_call 9; (with_reducible refine (begun_any _ (HTT.out _ hbr4)).mono ?_); rintro e w5 ⟨rfl, hb5⟩; have hbr5 := belowKeep hbr4 hb5))
          go_ret
          exact ⟨rfl, Below.trans hbw (Below.mono hbr5 (Below.size hbw))⟩
        · exfalso
          omega
set_option maxRecDepth 100000 in
open Go.ChangeShapes Go.WideShapes Go.ChangeAt Go.Joins in
theorem law_TextQuotes {H : Type} (enc : TypeId × Value → H) (W : World) {base : Nat} (v : Value) (d : DataW H) (ps : List MemPlace)
    (hok : Value.okWide Tryd.prog W .any base 47 v) (h : DataW.Trod enc Tryd.prog W 0 (fun _ => true) true 47 v d ps)
    (hT : Tabs W) (hbulk : Rows.uptoBulkAll [d] ≤ 1048576) : Calls Tryd.prog 6 #[v] W (Begun W) := by
  obtain ⟨c0, c1, y0, y1, n, rfl, rfl, rfl, hy0, hy1⟩ := open_agg2 Tryd.underlying47 (by kernel_rfl) (by kernel_rfl) hok h
  obtain ⟨A0, L, k0, rfl, _, hL, hl0, hLs⟩ := strs_of hy0
  obtain ⟨A1, N, k1, rfl, _, hN, hwf, hl1⟩ := ints_of Tryd.underlying45 Tryd.underlying3 (by kernel_rfl) hy1
  have hB : Rows.uptoBulkAll [DataW.agg [y0.1, y1.1]] = Rows.uptoBulk y0.1 + Rows.uptoBulk y1.1 + 1 := by simp [Rows.uptoBulkAll, Rows.uptoBulk]
  rw [hB] at hbulk
  clear hB h hok hy0 hy1
  generalize Rows.uptoBulk y0.1 = b0 at hbulk hl0 hLs
  generalize Rows.uptoBulk y1.1 = b1 at hbulk hl1
  exact textQuotes_walk A0 A1 k0 k1 L N W hT hL hN (fun s hs => by have := hLs s hs; omega) (by omega)
end Go.Proofs.YthkifgjmhpppkaaDoor
