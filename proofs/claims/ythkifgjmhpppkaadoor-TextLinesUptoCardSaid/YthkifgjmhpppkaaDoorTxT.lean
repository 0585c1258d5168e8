/- TextAmounts: the walk. -/
import Derived.Test.YthkifgjmhpppkaaDoorTxS
import Derived.Test.YthkifgjmhpppkaaDoorMem
import Derived.Test.YthkifgjmhpppkaaDoorTxH
import Derived.Deep.RegionHeld3
import Derived.Deep.QuietTactic
import Derived.BigQuiet
namespace Go.Proofs.YthkifgjmhpppkaaDoor
open Go.RowKit Go.Proofs.YthkifgjmhpppkaaDoor.PTextAmounts

def BelW (w w' : World) : Prop := Below w.heap.size w w'
theorem belowKeep {w W w1 : World} (h : BelW w W) (hb : Below W.heap.size W w1) : BelW w w1 := Below.trans h (hb.mono (Below.size h))
theorem BelW.drew {w w1 : World} (h : Below w.heap.size w w1) : BelW w w1.drew := Below.drew h
theorem amountR_any (s : ByteArray) (w : World) (hs : s.size ≤ 1048576) : Calls Tryd.prog 11 #[.string s] w fun e w' => e = .returned (.tuple #[.int .u64 (amtP s).1, .int .i64 (amtP s).2]) ∧ Below w.heap.size w w' :=
  (tallyref2_Amount.calls _ s _ _ w (amount_ref s hs)).mono fun _ _ ⟨h1, h2⟩ => ⟨h1, h2.below⟩
/-- A counter's loop over a list, no more than what came in turned. -/
def CntRel (w : World) (n : Nat) (iv : Value) (wr : World) : Prop := ∃ i : Nat, iv = .int .i64 i ∧ i ≤ n ∧ BelW w wr
theorem RS.cell_at {w : World} {A : Option Addr} {l : List ByteArray} (h : RS w A l) {i : Nat} (hi : i < l.length) : ∃ ad, A = some ad ∧ w.cell? (ad.add i) = some (.string l[i]) := by
  obtain ⟨ad, e, hc⟩ := h.2 (by omega)
  exact ⟨ad, e, hc i _ (List.getElem?_eq_getElem hi)⟩
theorem RI.cell_at {k : IntKind} {w : World} {A : Option Addr} {l : List Int} (h : RI k w A l) {i : Nat} (hi : i < l.length) : ∃ ad, A = some ad ∧ w.cell? (ad.add i) = some (.int k l[i]) := by
  obtain ⟨ad, e, hc⟩ := h.2 (by omega)
  exact ⟨ad, e, hc i _ (List.getElem?_eq_getElem hi)⟩
theorem money_int (z : Int) (h0 : 0 ≤ z) (h1 : z < 18446744073709551616) (w : World) : Calls Tryd.prog 13 #[.int .u64 z] w fun e w' => e = .returned (.string (moneyS z.toNat)) ∧ Below w.heap.size w w' := by
  have := money_any z.toNat w (by omega)
  rw [Int.toNat_of_nonneg h0] at this
  exact this
theorem moneyR_int (z : Int) (h0 : 0 ≤ z) (h1 : z < 18446744073709551616) (w : World) : Calls Tryd.prog 14 #[.int .u64 z] w fun e w' => e = .returned (.string (moneyS z.toNat)) ∧ Below w.heap.size w w' := by
  have := moneyR_any z.toNat w (by omega)
  rw [Int.toNat_of_nonneg h0] at this
  exact this
theorem u64_wf {n : Int} (h : (Lit.int .u64 n).wf = true) : 0 ≤ n ∧ n < 18446744073709551616 := by
  simp only [Lit.wf, Bool.and_eq_true, decide_eq_true_iff] at h
  have e1 : IntKind.u64.min = 0 := by decide
  have e2 : IntKind.u64.max = 18446744073709551615 := by decide
  omega
set_option maxRecDepth 100000 in
set_option maxHeartbeats 4000000 in
theorem textAmounts_walk (A0 A1 : Option Addr) (c0 c1 : Nat) (L : List ByteArray) (N : List Int) (w : World) (hT : Tabs w) (hL : RS w A0 L) (hN : RI .u64 w A1 N) (hLs : ∀ s ∈ L, s.size ≤ 1048576) (hNs : ∀ n ∈ N, 0 ≤ n ∧ n < 18446744073709551616) (hl0 : L.length ≤ 1048576) (hl1 : N.length ≤ 1048576) :
    Calls Tryd.prog 3 #[.agg #[.slice A0 L.length c0, .slice A1 N.length c1]] w (Begun w) := by
  have HLS := Lib.hid hLs
  have HNS := Lib.hid hNs
  clear hLs hNs
  go_enter Tryd.func3, Tryd.ntmps3
  go_wp2
  have hb0 : BelW w (w.alloc (.cells #[.slice A0 L.length c0, .slice A1 N.length c1] 25)) := (Below.refl _ _).alloc (Nat.le_refl _) _
  have hT0 : ∀ n, Tabs ((w.alloc (.cells #[.slice A0 L.length c0, .slice A1 N.length c1] 25)).drewN n) := fun n => hT.below (Below.trans hb0 ((belowD _ n).mono (Below.size hb0)))
  have HB0 := Lib.hid hb0
  clear hb0
  go_quiet (fail)
  go_wp2_with (go_at_call 9; (with_reducible refine (begun_any _ (hT0 _)).mono ?_); rintro e w1 ⟨rfl, hb1⟩)
  have hbw : BelW w w1 := Below.trans HB0.out (((belowD _ _).trans hb1).mono (Below.size HB0.out))
  clear hb1 hT0
  go_loopw [5] (fun iv wr => CntRel w L.length iv wr) (fun iv _ => (L.length - intOf iv).toNat)
  case atStart => exact ⟨0, rfl, Nat.zero_le _, hbw⟩
  case round =>
    obtain ⟨i, rfl, hi, hbr⟩ := hrel
    by_cases hlt : i < L.length
    · obtain ⟨ad, rfl, hc⟩ := hL.cell_at hlt
      have hc1 := cellKeep hbr hc
      obtain ⟨s, hs⟩ : ∃ s, L[i] = s := ⟨_, rfl⟩
      have hsz : s.size ≤ 1048576 := hs ▸ HLS.out _ (List.getElem_mem hlt)
      rw [hs] at hc hc1
      obtain ⟨n1, hn1⟩ : ∃ n1, (amtP s).1 = n1 := ⟨_, rfl⟩
      obtain ⟨n2, hn2⟩ : ∃ n2, (amtP s).2 = n2 := ⟨_, rfl⟩
      have hA : ∀ W, BelW w W → Calls Tryd.prog 10 #[.string s] W fun e w' => e = .returned (.tuple #[.int .u64 n1, .int .i64 n2]) ∧ Below W.heap.size W w' := fun W hW => by
        have := amount_any s W (hT.below hW) hsz
        rw [hn1, hn2] at this
        exact this
      have hR : ∀ W, Calls Tryd.prog 11 #[.string s] W fun e w' => e = .returned (.tuple #[.int .u64 n1, .int .i64 n2]) ∧ Below W.heap.size W w' := fun W => by
        have := amountR_any s W hsz
        rw [hn1, hn2] at this
        exact this
      have HA := Lib.hid hA
      have HR := Lib.hid hR
      have q1 : (i : Int) < (L.length : Int) := by omega
      clear hs hn1 hn2 hA hR hc
      go_wp2_with (first | (go_at_call 10; (with_reducible refine (HA.out _ hbr).mono ?_); rintro e w2 ⟨rfl, hb2⟩; have hbr2 := belowKeep hbr hb2; have hc2 := cellKeep hb2 hc1; clear hb2) | (go_at_call 11; (with_reducible refine (HR.out _).mono ?_); rintro e w3 ⟨rfl, hb3⟩; have hbr3 := belowKeep hbr2 hb3; clear hb3) | (go_at_call 12; (with_reducible refine (num_any _ _).mono ?_); rintro e w4 ⟨rfl, hb4⟩; have hbr4 := belowKeep hbr3 hb4; clear hb4))
      go_roundw
      case rel => exact ⟨i + 1, by go_num, by omega, hbr4⟩
      case measure => simp [intOf]; omega
    · have q1 : ¬ (i : Int) < (L.length : Int) := by omega
      have hi2 : i = L.length := by omega
      clear hi2
      go_wp2_with fail
      go_loopw [10] (fun iv wr => CntRel w N.length iv wr) (fun iv _ => (N.length - intOf iv).toNat)
      case atStart => exact ⟨0, rfl, Nat.zero_le _, hbr⟩
      case round =>
        obtain ⟨j, rfl, hj, hbj⟩ := hrel
        by_cases hlt : j < N.length
        · obtain ⟨ad, rfl, hc⟩ := hN.cell_at hlt
          have hc1 := cellKeep hbj hc
          obtain ⟨z, hz⟩ : ∃ z, N[j] = z := ⟨_, rfl⟩
          have hzz : 0 ≤ z ∧ z < 18446744073709551616 := hz ▸ HNS.out _ (List.getElem_mem hlt)
          rw [hz] at hc hc1
          obtain ⟨r, hr⟩ : ∃ r, moneyS z.toNat = r := ⟨_, rfl⟩
          have hA : ∀ W, Calls Tryd.prog 13 #[.int .u64 z] W fun e w' => e = .returned (.string r) ∧ Below W.heap.size W w' := fun W => by
            have := money_int z hzz.1 hzz.2 W
            rw [hr] at this
            exact this
          have hR : ∀ W, Calls Tryd.prog 14 #[.int .u64 z] W fun e w' => e = .returned (.string r) ∧ Below W.heap.size W w' := fun W => by
            have := moneyR_int z hzz.1 hzz.2 W
            rw [hr] at this
            exact this
          have HA := Lib.hid hA
          have HR := Lib.hid hR
          have q1 : (j : Int) < (N.length : Int) := by omega
          have q2 : (0 : Int) ≤ (j : Int) := by omega
          clear hz hr hA hR hc hzz
          go_wp2_with fail
          go_region_held3 (fun w' => w'.cell? (ad.add j) = some (.int .u64 z) ∧ BelW w w')
            (first | (go_split_ands; refine ⟨?_, ?_⟩ <;> first | assumption | (refine cellKeep hb5 ?_; assumption) | (refine belowKeep ?_ hb5; assumption)) | (refine ⟨?_, ?_⟩ <;> first | exact BelW.drew hbj | assumption | go_keep))
            (first | (go_at_call 13; (with_reducible refine (HA.out _).mono ?_); rintro e w5 ⟨rfl, hb5⟩) | (go_at_call 14; (with_reducible refine (HR.out _).mono ?_); rintro e w5 ⟨rfl, hb5⟩))
          go_wp2_with fail
          go_roundw
          case rel => go_split_ands; exact ⟨j + 1, by go_num, by omega, ‹BelW w _›⟩
          case measure => simp [intOf]; omega
        · have q1 : ¬ (j : Int) < (N.length : Int) := by omega
          have hTj : Tabs wr := hT.below hbj
          go_wp2_with (go_at_call 9; (with_reducible refine (begun_any _ hTj).mono ?_); rintro e w9 ⟨rfl, hb9⟩)
          go_ret
          exact ⟨rfl, belowKeep hbj hb9⟩
set_option maxRecDepth 100000 in
open Go.ChangeShapes Go.WideShapes Go.ChangeAt Go.Joins in
theorem law_TextAmounts {H : Type} (enc : TypeId × Value → H) (W : World) {base : Nat} (v : Value) (d : DataW H) (ps : List MemPlace)
    (hok : Value.okWide Tryd.prog W .any base 25 v) (h : DataW.Trod enc Tryd.prog W 0 (fun _ => true) true 25 v d ps)
    (hT : Tabs W) (hbulk : Rows.uptoBulkAll [d] ≤ 1048576) : Calls Tryd.prog 3 #[v] W (Begun W) := by
  obtain ⟨c0, c1, y0, y1, n, rfl, rfl, rfl, hy0, hy1⟩ := open_agg2 Tryd.underlying25 (by kernel_rfl) (by kernel_rfl) hok h
  obtain ⟨A0, L, k0, rfl, _, hL, hl0, hLs⟩ := strs_of hy0
  obtain ⟨A1, N, k1, rfl, _, hN, hwf, hl1⟩ := ints_of Tryd.underlying23 Tryd.underlying27 (by kernel_rfl) hy1
  have hB : Rows.uptoBulkAll [DataW.agg [y0.1, y1.1]] = Rows.uptoBulk y0.1 + Rows.uptoBulk y1.1 + 1 := by simp [Rows.uptoBulkAll, Rows.uptoBulk]
  rw [hB] at hbulk
  clear hB h hok hy0 hy1
  generalize Rows.uptoBulk y0.1 = b0 at hbulk hl0 hLs
  generalize Rows.uptoBulk y1.1 = b1 at hbulk hl1
  exact textAmounts_walk A0 A1 k0 k1 L N W hT hL hN (fun s hs => by have := hLs s hs; omega) (fun n hn => u64_wf (hwf n hn)) (by omega) (by omega)
end Go.Proofs.YthkifgjmhpppkaaDoor
