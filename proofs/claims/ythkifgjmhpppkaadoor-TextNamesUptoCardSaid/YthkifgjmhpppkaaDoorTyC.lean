/- TextFolds: the walk. -/
import Derived.Test.YthkifgjmhpppkaaDoorTyB
namespace Go.Proofs.YthkifgjmhpppkaaDoor
open Go.RowKit

/-- Bytes in a block of a conversion's own, that may be written over. -/
def BytesAt (w : World) (g : Nat) (l : List UInt8) : Prop := ∃ (cs : Array Value) (m : Nat), w.heap[g]? = some (.cells cs 5 (m, m + 1)) ∧ l.length ≤ m ∧ cs.size = m ∧ ∀ (j : Nat) (b : UInt8), l[j]? = some b → cs[j]? = some (.int .u8 (b.toNat : Nat))
theorem BytesAt.cell {w : World} {g : Nat} {l : List UInt8} (h : BytesAt w g l) {j : Nat} {b : UInt8} (hj : l[j]? = some b) : w.cell? ⟨g, j, none⟩ = some (.int .u8 (b.toNat : Nat)) := by
  obtain ⟨cs, m, h1, _, _, h2⟩ := h
  rw [cell_of_row w g j cs _ _ h1]
  exact h2 j b hj
theorem BytesAt.free {w : World} {g : Nat} {l : List UInt8} (h : BytesAt w g l) {j : Nat} (hj : j < l.length) : w.frozen? ⟨g, j, none⟩ = false := by
  obtain ⟨cs, m, h1, h2, _, _⟩ := h
  unfold World.frozen?
  rw [h1]
  simp
  omega
theorem BytesAt.lt {w : World} {g : Nat} {l : List UInt8} (h : BytesAt w g l) : g < w.heap.size := by
  obtain ⟨cs, m, h1, _⟩ := h
  exact (Array.getElem?_eq_some_iff.1 h1).1
theorem BytesAt.set_ {w : World} {g : Nat} {l : List UInt8} (h : BytesAt w g l) {i : Nat} (hi : i < l.length) (b : UInt8) : BytesAt (w.setCell ⟨g, i, none⟩ (.int .u8 (b.toNat : Nat))) g (l.set i b) := by
  obtain ⟨cs, m, h1, h2, h3, h4⟩ := h
  refine ⟨cs.setIfInBounds i (.int .u8 (b.toNat : Nat)), m, by simp [World.setCell, Array.getElem?_modify, h1], by rw [List.length_set]; exact h2, by simpa using h3, fun j x hj => ?_⟩
  rw [Array.getElem?_setIfInBounds]
  rw [List.getElem?_set] at hj
  by_cases he : i = j
  · subst he
    rw [if_pos rfl, if_pos hi] at hj
    rw [if_pos rfl, if_pos (by omega)]
    injection hj with hj
    rw [hj]
  · rw [if_neg he] at hj
    rw [if_neg he]
    exact h4 j x hj
theorem conv_bytes (w : World) (s : ByteArray) : BytesAt (convW w s) w.heap.size s.data.toList := by
  refine ⟨Lib.bytesCells w 5 s, (Lib.bytesCells w 5 s).size, Lib.bytesWorld_at_new w 5 s, ?_, rfl, fun j b hj => ?_⟩
  · unfold Lib.bytesCells
    simp
  · have hjl : j < s.size := (List.getElem?_eq_some_iff.1 hj).1
    have h1 := Lib.bytesWorld_cell w 5 s j hjl
    rw [cell_of_row _ _ _ _ _ _ (Lib.bytesWorld_at_new w 5 s)] at h1
    rw [h1, List.getD_eq_getElem?_getD, hj]
    rfl
theorem BytesAt.back {w : World} {g : Nat} {l : List UInt8} (h : BytesAt w g l) (cap : Nat) : (convert 58 9 (.slice (some ⟨g, 0, none⟩) l.length cap)).run Tryd.prog w = .ok (.string ⟨l.toArray⟩) w :=
  run_convert_bytes_back w 58 9 5 ⟨g, 0, none⟩ cap l Tryd.underlying58 Tryd.underlying5 Tryd.underlying9 (fun j hj => by
    have e : (⟨g, 0, none⟩ : Addr).add j = ⟨g, j, none⟩ := by unfold Addr.add; split <;> simp_all
    rw [e]
    exact h.cell (List.getElem?_eq_getElem hj))
/-- The first k letters put up. -/
def upK (l : List UInt8) (k : Nat) : List UInt8 := upL (l.take k) ++ l.drop k
theorem upK_zero (l : List UInt8) : upK l 0 = l := rfl
theorem upK_all (l : List UInt8) (k : Nat) (h : l.length ≤ k) : upK l k = upL l := by
  unfold upK
  rw [List.take_of_length_le h, List.drop_of_length_le h, List.append_nil]
theorem upK_len (l : List UInt8) (k : Nat) : (upK l k).length = l.length := by
  unfold upK upL
  rw [List.length_append, List.length_map, List.length_take, List.length_drop]
  omega
theorem upK_at (l : List UInt8) (k : Nat) (h : k < l.length) : (upK l k)[k]? = some l[k] := by
  unfold upK upL
  rw [List.getElem?_append_right (by rw [List.length_map, List.length_take]; omega), List.length_map, List.length_take, List.getElem?_drop]
  have : k + (k - min k l.length) = k := by omega
  rw [this]
  exact List.getElem?_eq_getElem h
theorem upK_next (l : List UInt8) (k : Nat) (h : k < l.length) : upK l (k + 1) = (upK l k).set k (upB l[k]) := by
  apply List.ext_getElem?
  intro j
  rw [List.getElem?_set, upK_len]
  have hl : ∀ k, (upL (l.take k)).length = min k l.length := fun k => by unfold upL; rw [List.length_map, List.length_take]
  have hget : ∀ k j, (upK l k)[j]? = if j < min k l.length then (l[j]?).map upB else l[j]? := fun k j => by
    unfold upK
    rw [List.getElem?_append, hl]
    split
    · unfold upL
      rw [List.getElem?_map, List.getElem?_take]
      rw [if_pos (by omega)]
    · rw [List.getElem?_drop]
      by_cases hk : k ≤ l.length
      · congr 1
        omega
      · rw [List.getElem?_eq_none (by omega), List.getElem?_eq_none (by omega)]
  rw [hget, hget]
  by_cases he : k = j
  · subst he
    rw [if_pos (by omega), if_pos rfl, if_pos h, List.getElem?_eq_getElem h]
    rfl
  · rw [if_neg he]
    by_cases hj : j < min k l.length
    · rw [if_pos hj, if_pos (by omega)]
    · rw [if_neg hj]
      by_cases hj2 : j < min (k + 1) l.length
      · omega
      · rw [if_neg hj2]
theorem upK_same (l : List UInt8) (k : Nat) (h : k < l.length) (hb : upB l[k] = l[k]) : upK l (k + 1) = upK l k := by
  rw [upK_next l k h, hb]
  apply List.ext_getElem?
  intro j
  rw [List.getElem?_set]
  by_cases he : k = j
  · subst he
    rw [if_pos rfl, if_pos (by rw [upK_len]; exact h), upK_at l k h]
  · rw [if_neg he]
def UpRel (l : List UInt8) (g : Nat) (wc : World) (v10 : Value) (wr : World) : Prop := ∃ k : Nat, v10 = .int .i64 k ∧ k ≤ l.length ∧ Below g wc wr ∧ BytesAt wr g (upK l k)
theorem home_fold (l : List UInt8) (n : Int) : homeN (foldP l) n = homeN l n := by
  unfold homeN
  rw [fold_fold _ l (Nat.le_refl _)]
theorem home_ok (l : List UInt8) (n : Int) : 0 ≤ homeN l n ∧ (homeN l n < n ∨ homeN l n = 0) := by
  unfold homeN
  by_cases h : n < 1
  · rw [if_pos h]
    exact ⟨by omega, .inr rfl⟩
  · rw [if_neg h]
    exact ⟨Int.emod_nonneg _ (by omega), .inl (Int.emod_lt_of_pos _ (by omega))⟩
set_option maxRecDepth 100000 in
set_option maxHeartbeats 8000000 in
theorem textFolds_walk (A0 : Option Addr) (c0 : Nat) (L : List ByteArray) (n : Int) (w : World) (hT : Tabs w) (hL : RS w A0 L) (hLs : ∀ s ∈ L, s.size ≤ 1048576) (hn0 : -9223372036854775808 ≤ n) (hn1 : n ≤ 9223372036854775807) (hl0 : L.length ≤ 1048576) :
    Calls Tryd.prog 8 #[.agg #[.slice A0 L.length c0, .int .i64 n]] w (Begun w) := by
  have HLS := Lib.hid hLs
  have HN := Lib.hid (And.intro hn0 hn1)
  clear hLs hn0 hn1
  go_enter Tryd.func8, Tryd.ntmps8
  go_wp2
  have hb0 : BelW w (w.alloc (.cells #[.slice A0 L.length c0, .int .i64 n] 53)) := (Below.refl _ _).alloc (Nat.le_refl _) _
  have hT0 : ∀ q, Tabs ((w.alloc (.cells #[.slice A0 L.length c0, .int .i64 n] 53)).drewN q) := fun q => hT.below (Below.trans hb0 ((belowD _ q).mono (Below.size hb0)))
  have HB0 := Lib.hid hb0
  clear hb0
  go_quiet (fail)
  go_wp2_with (go_at_call 9; (with_reducible refine (begun_any _ (hT0 _)).mono ?_); rintro e w1 ⟨rfl, hb1⟩)
  have hbw : BelW w w1 := Below.trans HB0.out (((belowD _ _).trans hb1).mono (Below.size HB0.out))
  clear hb1 hT0
  go_loopw [5] (fun iv wr => CntRel w L.length iv wr) (fun iv _ => (L.length - intOf iv).toNat)
  case atStart => exact ⟨0, rfl, Nat.zero_le _, hbw⟩
  case round =>
    obtain ⟨i, rfl, hi, hbr⟩ := hrel
    by_cases hlt : i < L.length
    · obtain ⟨ad, rfl, hc⟩ := hL.cell_at hlt
      have hc1 := cellKeep hbr hc
      obtain ⟨s, hs⟩ : ∃ s, L[i] = s := ⟨_, rfl⟩
      have hsz : s.size ≤ 1048576 := hs ▸ HLS.out _ (List.getElem_mem hlt)
      rw [hs] at hc hc1
      have hlen : s.data.toList.length = s.size := rfl
      have hfl := fold_len _ s.data.toList (Nat.le_refl _)
      have hFo : ∀ (x : ByteArray), x.size ≤ 1048576 → ∀ W, BelW w W → Calls Tryd.prog 25 #[.string x] W fun e w' => e = .returned (.string ⟨(foldP x.data.toList).toArray⟩) ∧ Below W.heap.size W w' := fun x hx W hW => fold_any x W (hT.below hW) hx
      obtain ⟨fb, hfb⟩ : ∃ fb : ByteArray, (⟨(foldP s.data.toList).toArray⟩ : ByteArray) = fb := ⟨_, rfl⟩
      have hfd : fb.data.toList = foldP s.data.toList := by rw [← hfb]
      have hfs : fb.size = s.size := by
        have e1 : fb.data.toList.length = fb.size := rfl
        rw [hfd, hfl, hlen] at e1
        exact e1.symm
      have hF1 := hFo s hsz
      have hF2 := hFo fb (by omega)
      have hF3 := hFo ⟨(upL s.data.toList).toArray⟩ (by rw [ba_size]; unfold upL; rw [List.length_map]; omega)
      rw [hfb] at hF1
      rw [hfd, fold_fold _ _ (Nat.le_refl _), hfb] at hF2
      have e3 : (⟨(upL s.data.toList).toArray⟩ : ByteArray).data.toList = upL s.data.toList := by simp
      rw [e3, fold_up _ _ (Nat.le_refl _), hfb] at hF3
      have hC : ∀ (x : ByteArray), x.size ≤ 1048576 → ∀ W, BelW w W → Calls Tryd.prog 23 #[.string x] W fun e w' => e = .returned (.int .i64 ((checkN x.data.toList : Nat) : Int)) ∧ Below W.heap.size W w' := fun x hx W hW => check_any x W (hT.below hW) (by omega)
      have hC1 := hC s hsz
      have hC2 := hC fb (by omega)
      rw [hfd, checkN_fold] at hC2
      have hH : ∀ (x : ByteArray), x.size ≤ 1048576 → ∀ W, BelW w W → Calls Tryd.prog 27 #[.string x, .int .i64 n] W fun e w' => e = .returned (.int .i64 (homeN x.data.toList n)) ∧ Below W.heap.size W w' := fun x hx W hW => home_any x n W (hT.below hW) hx HN.out.1 HN.out.2
      have hH1 := hH s hsz
      have hH2 := hH fb (by omega)
      rw [hfd, home_fold] at hH2
      have hho := home_ok s.data.toList n
      obtain ⟨ck, hck⟩ : ∃ ck : Nat, checkN s.data.toList = ck := ⟨_, rfl⟩
      obtain ⟨hm, hhm⟩ : ∃ hm, homeN s.data.toList n = hm := ⟨_, rfl⟩
      rw [hck] at hC1 hC2
      rw [hhm] at hH1 hH2 hho
      have HF1 := Lib.hid hF1
      have HF2 := Lib.hid hF2
      have HF3 := Lib.hid hF3
      have HC1 := Lib.hid hC1
      have HC2 := Lib.hid hC2
      have HH1 := Lib.hid hH1
      have HH2 := Lib.hid hH2
      have q1 : (i : Int) < (L.length : Int) := by omega
      have q2 : ((fb.size : Int) != (s.size : Int)) = false := by rw [hfs]; simp
      have q3 : (0 : Int) ≤ hm := hho.1
      have q4 : ¬ hm < 0 := by omega
      have hq5 : (¬ n ≤ hm) ∨ (n ≤ hm ∧ (hm != 0) = false) := by
        rcases hho.2 with h | h
        · exact .inl (by omega)
        · by_cases h2 : n ≤ hm
          · exact .inr ⟨h2, by rw [h]; rfl⟩
          · exact .inl h2
      have kc := conv_run s
      clear hs hlen hfl hFo hfb hfd hF1 hF2 hF3 e3 hC hC1 hC2 hH hH1 hH2 hho hck hhm hc hfs
      rcases hq5 with q5 | ⟨q5, q6⟩
      all_goals
        go_wp2_with (first | (go_at_call 25; (with_reducible refine (HF1.out _ hbr).mono ?_); rintro e w2 ⟨rfl, hb2⟩; have hbr2 := belowKeep hbr hb2; clear hb2) | (go_at_call 27; (with_reducible refine (HH1.out _ hbr2).mono ?_); rintro e w3 ⟨rfl, hb3⟩; have hbr2 := belowKeep hbr2 hb3; clear hb3) | (go_at_call 25; (with_reducible refine (HF2.out _ hbr2).mono ?_); rintro e w4 ⟨rfl, hb4⟩; have hbr2 := belowKeep hbr2 hb4; clear hb4) | (go_at_call 23; (with_reducible refine (HC2.out _ hbr2).mono ?_); rintro e w5 ⟨rfl, hb5⟩; have hbr2 := belowKeep hbr2 hb5; clear hb5) | (go_at_call 23; (with_reducible refine (HC1.out _ hbr2).mono ?_); rintro e w6 ⟨rfl, hb6⟩; have hbr2 := belowKeep hbr2 hb6; clear hb6) | (go_at_call 27; (with_reducible refine (HH2.out _ hbr2).mono ?_); rintro e w7 ⟨rfl, hb7⟩; have hbr2 := belowKeep hbr2 hb7; clear hb7))
        have hlen : s.data.toList.length = s.size := rfl
        go_loopw [10] (fun v10 wc => UpRel s.data.toList w7.heap.size w7 v10 wc) (fun v10 _ => (s.size - intOf v10).toNat)
        case atStart => exact ⟨0, rfl, Nat.zero_le _, conv_below w7 s, conv_bytes w7 s⟩
        case round =>
          obtain ⟨k, rfl, hk, hbc, hby⟩ := hrel
          rw [hlen] at hk
          by_cases hks : k < s.size
          · have hkl : k < s.data.toList.length := hks
            have hcell := hby.cell (upK_at s.data.toList k hkl)
            have hfree := hby.free (j := k) (by rw [upK_len]; exact hkl)
            have p1 : (k : Int) < (s.size : Int) := by omega
            have p2 : (0 : Int) ≤ (k : Int) := by omega
            have p3 : (k : Int) ≤ 1048576 := by omega
            have HBY := Lib.hid hby
            have HUP := Lib.hid (And.intro (upK_next s.data.toList k hkl) (fun h => upK_same s.data.toList k hkl h))
            have hun := upB_nat (s.data.toList[k]'hkl)
            have hul : k < (upK s.data.toList k).length := by rw [upK_len]; exact hkl
            clear hby
            have hbb := (s.data.toList[k]'hkl).toNat_lt
            by_cases hr : 97 ≤ (s.data.toList[k]'hkl).toNat ∧ (s.data.toList[k]'hkl).toNat ≤ 122
            · rw [if_pos hr] at hun
              have HSET := Lib.hid (HBY.out.set_ hul (upB (s.data.toList[k]'hkl)))
              have HU := Lib.hid hun
              generalize s.data.toList[k]'hkl = b at hcell HUP HU HSET hr hbb hun
              have p4 : (97 : Int) ≤ (b.toNat : Int) := by omega
              have p5 : (b.toNat : Int) ≤ 122 := by omega
              have p6 : (((upB b).toNat : Nat) : Int) = (b.toNat : Int) - 32 := by omega
              have HP := Lib.hid p6
              clear hr hbb hun p6
              go_wp2
              go_roundw
              case rel => exact ⟨k + 1, by go_num, by rw [hlen]; omega, hbc.setCell (p := ⟨w7.heap.size, k, none⟩) (Nat.le_refl _) _, by rw [HUP.out.1, ← HP.out]; exact HSET.out⟩
              case measure => simp [intOf]; omega
            · have HSAME := Lib.hid (HUP.out.2 (by unfold upB; rw [if_neg hr]))
              generalize s.data.toList[k]'hkl = b at hcell HUP hr hbb hun
              clear hun
              have hr2 : ¬ (97 : Int) ≤ (b.toNat : Int) ∨ ((97 : Int) ≤ (b.toNat : Int) ∧ ¬ (b.toNat : Int) ≤ 122) := by
                by_cases h : 97 ≤ b.toNat
                · exact .inr ⟨by omega, by omega⟩
                · exact .inl (by omega)
              clear hr
              rcases hr2 with p4 | ⟨p4, p5⟩
              all_goals
                go_wp2
                go_roundw
                case rel => exact ⟨k + 1, by go_num, by rw [hlen]; omega, hbc, by rw [HSAME.out]; exact HBY.out⟩
                case measure => simp [intOf]; omega
          · have p1 : ¬ (k : Int) < (s.size : Int) := by omega
            have hup := upK_all s.data.toList k (by rw [hlen]; omega)
            rw [hup] at hby
            have hcv := hby.back (convC w7 s)
            have hul : (upL s.data.toList).length = s.size := by unfold upL; rw [List.length_map]; rfl
            rw [hul] at hcv
            have hbr3 : BelW w wr := Below.trans hbr2 (Below.mono hbc (Below.size hbr2))
            clear hup hul
            go_wp2_with (first | (go_at_call 25; (with_reducible refine (HF3.out _ hbr3).mono ?_); rintro e w8 ⟨rfl, hb8⟩; have hbr4 := belowKeep hbr3 hb8; clear hb8))
            go_roundw
            case rel => exact ⟨i + 1, by go_num, by omega, hbr4⟩
            case measure => simp [intOf]; omega
    · have q1 : ¬ (i : Int) < (L.length : Int) := by omega
      have hTj : Tabs wr := hT.below hbr
      go_wp2_with (go_at_call 9; (with_reducible refine (begun_any _ hTj).mono ?_); rintro e w9 ⟨rfl, hb9⟩)
      go_ret
      exact ⟨rfl, belowKeep hbr hb9⟩
set_option maxRecDepth 100000 in
open Go.ChangeShapes Go.WideShapes Go.ChangeAt Go.Joins in
theorem names_open {H : Type} (enc : TypeId × Value → H) (W : World) {base : Nat} (v : Value) (d : DataW H) (ps : List MemPlace)
    (hok : Value.okWide Tryd.prog W .any base 53 v) (h : DataW.Trod enc Tryd.prog W 0 (fun _ => true) true 53 v d ps)
    (hbulk : Rows.uptoBulkAll [d] ≤ 1048576) : ∃ (A0 : Option Addr) (c0 : Nat) (L : List ByteArray) (n : Int), v = .agg #[.slice A0 L.length c0, .int .i64 n] ∧ RS W A0 L ∧ (∀ s ∈ L, s.size ≤ 1048576) ∧ L.length ≤ 1048576 ∧ -9223372036854775808 ≤ n ∧ n ≤ 9223372036854775807 := by
  obtain ⟨c0, c1, y0, y1, n, rfl, rfl, rfl, hy0, hy1⟩ := open_agg2 Tryd.underlying53 (by kernel_rfl) (by kernel_rfl) hok h
  obtain ⟨A0, L, k0, rfl, _, hL, hl0, hLs⟩ := strs_of hy0
  obtain ⟨z, e1, _, hwf⟩ := DataW.trod_int Tryd.underlying3 hy1
  injection e1 with e1
  subst e1
  have hB : Rows.uptoBulkAll [DataW.agg [y0.1, y1.1]] = Rows.uptoBulk y0.1 + Rows.uptoBulk y1.1 + 1 := by simp [Rows.uptoBulkAll, Rows.uptoBulk]
  rw [hB] at hbulk
  clear hB h hok hy0 hy1
  generalize Rows.uptoBulk y0.1 = b0 at hbulk hl0 hLs
  generalize Rows.uptoBulk y1.1 = b1 at hbulk
  simp only [Lit.wf, Bool.and_eq_true, decide_eq_true_iff] at hwf
  have e1 : IntKind.i64.min = -9223372036854775808 := by decide
  have e2 : IntKind.i64.max = 9223372036854775807 := by decide
  exact ⟨A0, k0, L, z, rfl, hL, fun s hs => by have := hLs s hs; omega, by omega, by omega, by omega⟩
set_option maxRecDepth 100000 in
open Go.ChangeShapes Go.WideShapes Go.ChangeAt Go.Joins in
theorem law_TextFolds {H : Type} (enc : TypeId × Value → H) (W : World) {base : Nat} (v : Value) (d : DataW H) (ps : List MemPlace)
    (hok : Value.okWide Tryd.prog W .any base 53 v) (h : DataW.Trod enc Tryd.prog W 0 (fun _ => true) true 53 v d ps)
    (hT : Tabs W) (hbulk : Rows.uptoBulkAll [d] ≤ 1048576) : Calls Tryd.prog 8 #[v] W (Begun W) := by
  obtain ⟨A0, c0, L, n, rfl, h1, h2, h3, h4, h5⟩ := names_open enc W v d ps hok h hbulk
  exact textFolds_walk A0 c0 L n W hT h1 h2 h4 h5 h3
end Go.Proofs.YthkifgjmhpppkaaDoor
