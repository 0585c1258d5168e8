/- text.Amount: the walk. -/
import Derived.Test.YthkifgjmhpppkaaDoorTxE
import Derived.WalkSpells
namespace Go.Proofs.YthkifgjmhpppkaaDoor
open Go.RowKit

theorem belowD (w : World) (n : Nat) : Below w.heap.size w (w.drewN n) := ⟨rfl, rfl, rfl, Nat.le_refl _, fun _ _ => rfl⟩
def AmtRel (w5 : World) (G : List ByteArray) (N : Nat) (kv : Value) (wr : World) : Prop :=
  ∃ k : Nat, kv = .int .i64 k ∧ k ≤ N ∧ Below w5.heap.size w5 wr ∧ ∀ i, i < k → grpOk N i (G.getD i ⟨#[]⟩) = true
theorem getD_of {G : List ByteArray} {k : Nat} {g : ByteArray} (h : G[k]? = some g) : G.getD k ⟨#[]⟩ = g := by
  rw [List.getD_eq_getElem?_getD, h]
  rfl
theorem grps_bad {G : List ByteArray} {N k : Nat} {g : ByteArray} (hN : G.length = N) (h : G[k]? = some g) (hb : grpOk N k g = false) : grpsOk G = false := by
  unfold grpsOk
  rw [List.all_eq_false]
  refine ⟨k, ?_, ?_⟩
  · rw [List.mem_range]
    exact (List.getElem?_eq_some_iff.1 h).1
  · rw [hN, getD_of h, hb]
    simp
theorem grps_good {G : List ByteArray} {N : Nat} (hN : G.length = N) (h : ∀ i, i < N → grpOk N i (G.getD i ⟨#[]⟩) = true) : grpsOk G = true := by
  unfold grpsOk
  rw [List.all_eq_true]
  intro i hi
  rw [List.mem_range] at hi
  rw [hN]
  exact h i (by omega)
theorem cut_len (l sep : List UInt8) : (Lib.cut l sep).1.length ≤ l.length ∧ (Lib.cut l sep).2.1.length ≤ l.length := by
  unfold Lib.cut
  split
  · simp only [List.length_take, List.length_drop]
    omega
  · simp
theorem app_data (a b : ByteArray) : (a ++ b).data.toList = a.data.toList ++ b.data.toList := by
  simp [ByteArray.data_append]
def AmtL (w6 : World) (D : ByteArray) (nv : Value) (wr : World) : Prop := ∃ pos, wr = w6.iter D pos ∧ pos ≤ D.size ∧ nv = .int .u64 (amtN (D.data.toList.take pos) : Nat)
theorem digit_at {D : ByteArray} (h : D.data.toList.all digB = true) {pos : Nat} (hp : pos < D.size) : 48 ≤ (D[pos]'hp).toNat ∧ (D[pos]'hp).toNat ≤ 57 := by
  have := List.all_eq_true.1 h D[pos] (by rw [← Array.mem_def]; exact Array.getElem_mem _)
  unfold digB at this
  simpa using this
theorem amtN_take (D : ByteArray) {pos : Nat} (hp : pos < D.size) : amtN (D.data.toList.take (pos + 1)) = min (10 * amtN (D.data.toList.take pos) + ((D[pos]'hp).toNat - 48)) amtC := by
  rw [List.take_succ_eq_append_getElem (by simpa using hp), amtN_next]
  rfl
theorem grps_digit {b1 : ByteArray} (h : grpsOk (grps b1) = true) : ∃ c t, b1.data.toList = c :: t ∧ digB c = true := by
  obtain ⟨g, r, t, h1, h2⟩ := split_first ⟨#[39]⟩ (Lib.countB b1 ⟨#[39]⟩) b1
  have h3 : grps b1 = g :: r := h1
  unfold grpsOk at h
  rw [List.all_eq_true] at h
  have h4 := h 0 (by rw [List.mem_range, h3]; simp)
  rw [h3] at h4
  have h5 : figsL g.data.toList = true := by
    unfold grpOk at h4
    rw [Bool.and_eq_true] at h4
    exact h4.1
  unfold figsL at h5
  rw [Bool.and_eq_true] at h5
  cases hg : g.data.toList with
  | nil => rw [hg] at h5; simp at h5
  | cons c u =>
    rw [hg] at h5 h2
    refine ⟨c, u ++ t, by rw [h2]; rfl, ?_⟩
    have := h5.2
    rw [List.all_cons, Bool.and_eq_true] at this
    exact this.1
set_option maxRecDepth 100000 in
set_option maxHeartbeats 8000000 in
theorem amount_any (s : ByteArray) (w : World) (hT : Tabs w) (hs : s.size ≤ 1048576) :
    Calls Tryd.prog 10 #[.string s] w fun e w' => e = .returned (.tuple #[.int .u64 (amtP s).1, .int .i64 (amtP s).2]) ∧ Below w.heap.size w w' := by
  obtain ⟨m, hm⟩ := hT.max
  have HC := Lib.hid (Tryd.strings_Cut s ⟨#[46]⟩ m w (by omega) hm)
  unfold amtP
  obtain ⟨b1, hb1⟩ : ∃ b1 : ByteArray, (⟨(Lib.cut s.data.toList [46]).1.toArray⟩ : ByteArray) = b1 := ⟨_, rfl⟩
  obtain ⟨b2, hb2⟩ : ∃ b2 : ByteArray, (⟨(Lib.cut s.data.toList [46]).2.1.toArray⟩ : ByteArray) = b2 := ⟨_, rfl⟩
  obtain ⟨dot, hdot⟩ : ∃ dot, (Lib.cut s.data.toList [46]).2.2 = dot := ⟨_, rfl⟩
  have HC2 : Hid (Calls Tryd.prog 29 #[.string s, .string ⟨#[46]⟩] w fun e w' => e = .returned (.tuple #[.string b1, .string b2, .bool dot]) ∧ ∃ n, w' = w.drewN n) := by
    refine Lib.hid ?_
    have h := HC.out
    rw [hb1, hb2, hdot] at h
    exact h
  rw [hb1, hb2, hdot]
  have hb1s : b1.size ≤ 1048576 := by
    rw [← hb1]
    exact Nat.le_trans (cut_len s.data.toList [46]).1 hs
  have hb2s : b2.size ≤ 1048576 := by
    rw [← hb2]
    exact Nat.le_trans (cut_len s.data.toList [46]).2 hs
  clear HC hb1 hb2 hdot hm
  by_cases hc : dot = true ∧ (b2.size ≠ 2 ∨ figsL b2.data.toList = false)
  · have HS := Lib.hid (show amtB b1 b2 dot = (0, 21) from if_pos hc)
    obtain ⟨rfl, hc⟩ := hc
    by_cases h2 : b2.size = 2
    · have hf : figsL b2.data.toList = false := hc.resolve_left (fun h => h h2)
      clear hc
      have q1 : (b2.size : Int) = 2 := by omega
      go_enter Tryd.func10, Tryd.ntmps10
      go_wp2_with (first | (go_at_call 29; (with_reducible refine HC2.out.mono ?_); rintro e w1 ⟨rfl, n, rfl⟩) | (go_at_call 30; (with_reducible refine (figures_any _ _).mono ?_); rintro e w2 ⟨rfl, hb⟩; rw [hf]))
      go_ret2
      exact ⟨by rw [HS.out]; rfl, (belowD w n).trans hb⟩
    · clear hc
      have q1 : ¬ (b2.size : Int) = 2 := by omega
      go_enter Tryd.func10, Tryd.ntmps10
      go_wp2_with (first | (go_at_call 29; (with_reducible refine HC2.out.mono ?_); rintro e w1 ⟨rfl, n, rfl⟩))
      go_ret2
      exact ⟨by rw [HS.out]; rfl, belowD w n⟩
  · obtain ⟨G, hG⟩ : ∃ G, grps b1 = G := ⟨_, rfl⟩
    obtain ⟨N, hN⟩ : ∃ N, Lib.countB b1 ⟨#[39]⟩ + 1 = N := ⟨_, rfl⟩
    have hGN : G.length = N := by
      rw [← hG, ← hN]
      exact Lib.splitB_all ⟨#[39]⟩ (by decide) 0 _ b1 rfl
    have hNs : N ≤ 1048577 := by
      have := Lib.countB_le ⟨#[39]⟩ (by decide) b1.size b1 (Nat.le_refl _)
      omega
    have hSP : ∀ w', Tabs w' → Calls Tryd.prog 31 #[.string b1, .string ⟨#[39]⟩] w' fun e w'' => e = .returned (.slice (some ⟨w'.heap.size, 0, none⟩) N N) ∧ w'' = w'.alloc (.cells (G.map Value.string).toArray 9) := fun w' hT' => by
      obtain ⟨m', hm'⟩ := hT'.max
      have := Tryd.strings_Split b1 ⟨#[39]⟩ m' w' (by omega) hm' (by decide)
      rw [hN] at this
      rw [← hG]
      exact this
    have HSP := Lib.hid hSP
    have HAM : Hid (amtB b1 b2 dot = if grpsOk G = false then (0, 21) else if b1.data.toList.head? = some 48 ∧ b1.data.toList ≠ [48] then (0, 21) else if 9007199254740992 < amtN (amtD b1 b2 dot) then (0, 22) else (amtN (amtD b1 b2 dot), 0)) := by
      refine Lib.hid ?_
      rw [← hG]
      exact if_neg hc
    have HTT := Lib.hid hT
    have HGN := Lib.hid hGN
    have HG := Lib.hid hG
    have HBD := Lib.hid (And.intro hs (And.intro hb1s (And.intro hb2s hNs)))
    clear hSP hT hN hGN hG hs hb1s hb2s hNs
    have hcs : dot = false ∨ (dot = true ∧ (b2.size : Int) = 2 ∧ figsL b2.data.toList = true) := by
      cases dot with
      | false => exact .inl rfl
      | true =>
        refine .inr ⟨rfl, ?_, ?_⟩
        · by_cases h : b2.size = 2
          · omega
          · exact absurd ⟨rfl, .inl h⟩ hc
        · cases h : figsL b2.data.toList with
          | true => rfl
          | false => exact absurd ⟨rfl, .inr h⟩ hc
    clear hc
    rcases hcs with rfl | ⟨rfl, q1, hf⟩
    all_goals
      go_enter Tryd.func10, Tryd.ntmps10
      go_wp2_with (first | (go_at_call 29; (with_reducible refine HC2.out.mono ?_); rintro e w1 ⟨rfl, n, rfl⟩; have hb1 := belowD w n; generalize w.drewN n = w4 at hb1 ⊢) | (go_at_call 30; (with_reducible refine (figures_any _ _).mono ?_); rintro e w2 ⟨rfl, hb⟩; rw [hf]; have hb2 := hb1.trans (hb.mono hb1.size); clear hb) | (go_at_call 31; (with_reducible refine (HSP.out w4 (HTT.out.below hb1)).mono ?_); rintro e w3 ⟨rfl, rfl⟩; have hb3 := hb1) | (go_at_call 31; (with_reducible refine (HSP.out w2 (HTT.out.below hb2)).mono ?_); rintro e w3 ⟨rfl, rfl⟩; have hb3 := hb2; clear hb1; clear w4; obtain ⟨w4, hw4⟩ : ∃ w4, w2 = w4 := ⟨_, rfl⟩; rw [hw4] at hb3 ⊢; clear hw4))
      have hb5 : Below w.heap.size w (w4.alloc (.cells (G.map Value.string).toArray 9)) := hb3.alloc hb3.size _
      have hcell : ∀ j x, G[j]? = some x → (w4.alloc (.cells (G.map Value.string).toArray 9)).cell? ⟨w4.heap.size, j, none⟩ = some (.string x) := fun j x hx => by
        rw [World.cell?_alloc_at _ _ _ _ rfl]
        simp [hx]
      have hblk : w4.heap.size < (w4.alloc (.cells (G.map Value.string).toArray 9)).heap.size := by simp
      have hsz5 : w.heap.size ≤ (w4.alloc (.cells (G.map Value.string).toArray 9)).heap.size := hb5.size
      generalize w4.alloc (.cells (G.map Value.string).toArray 9) = w5 at hb5 hcell hblk hsz5 ⊢
      generalize w4.heap.size = gb at hcell hblk ⊢
      have HC5 := Lib.hid hcell
      have HB5 := Lib.hid hb5
      clear hcell hb3 hb5
      go_loopw [34] (fun kv wr => AmtRel w5 G N kv wr) (fun kv _ => (N - intOf kv).toNat)
      case atStart => exact ⟨0, rfl, Nat.zero_le _, Below.refl _ _, fun i hi => by omega⟩
      case round =>
        obtain ⟨k, rfl, hk, hbr, hall⟩ := hrel
        have hNs := HBD.out.2.2.2
        have HALL := Lib.hid hall
        clear hall
        by_cases hkN : k < N
        · obtain ⟨g, hg⟩ : ∃ g, G[k]? = some g := ⟨G[k]'(by rw [HGN.out]; exact hkN), List.getElem?_eq_getElem _⟩
          have hc := (hbr.cell (p := ⟨gb, k, none⟩) hblk).trans (HC5.out k g hg)
          have hszr := hbr.size
          have q2 : (k : Int) < (N : Int) := by omega
          have q3 : (0 : Int) ≤ (k : Int) := by omega
          have q4 : (k : Int) < 1048578 := by omega
          clear hNs
          cases hfg : figsL g.data.toList with
          | false =>
            have HF := Lib.hid (grps_bad HGN.out hg (show grpOk N k g = false from by unfold grpOk; rw [hfg]; rfl))
            go_wp2_with (go_at_call 30; (with_reducible refine (figures_any _ _).mono ?_); rintro e w6 ⟨rfl, hb6⟩; rw [hfg])
            go_ret2
            exact ⟨by rw [HAM.out, if_pos HF.out]; rfl, HB5.out.trans ((hbr.trans (hb6.mono hszr)).mono hsz5)⟩
          | true =>
            by_cases hN1 : N ≤ 1
            · have HO := Lib.hid (show grpOk N k g = true from by unfold grpOk; rw [hfg, decide_eq_true hN1]; rfl)
              have r1 : decide ((1 : Int) < (N : Int)) = false := decide_eq_false (by omega)
              clear hN1
              go_wp2_with (go_at_call 30; (with_reducible refine (figures_any _ _).mono ?_); rintro e w6 ⟨rfl, hb6⟩; rw [hfg])
              exact ⟨⟨k + 1, by go_num, by omega, hbr.trans (hb6.mono hszr), fun i hi => by
                by_cases hik : i = k
                · subst hik
                  rw [getD_of hg]
                  exact HO.out
                · exact HALL.out i (by omega)⟩, by simp [intOf]; omega⟩
            · have r1 : decide ((1 : Int) < (N : Int)) = true := decide_eq_true (by omega)
              obtain ⟨gz, hgz⟩ : ∃ gz, g.size = gz := ⟨_, rfl⟩
              by_cases hg3 : gz ≤ 3
              · have r2 : decide ((3 : Int) < (gz : Int)) = false := decide_eq_false (by omega)
                by_cases hk0 : k = 0
                · have HO := Lib.hid (show grpOk N k g = true from by unfold grpOk; rw [hfg, hgz, decide_eq_true hg3, decide_eq_true hk0]; simp)
                  have r3 : decide (0 < k) = false := decide_eq_false (by omega)
                  clear hN1 hg3 hk0
                  go_wp2_with (go_at_call 30; (with_reducible refine (figures_any _ _).mono ?_); rintro e w6 ⟨rfl, hb6⟩; rw [hfg])
                  exact ⟨⟨k + 1, by go_num, by omega, hbr.trans (hb6.mono hszr), fun i hi => by
                    by_cases hik : i = k
                    · subst hik
                      rw [getD_of hg]
                      exact HO.out
                    · exact HALL.out i (by omega)⟩, by simp [intOf]; omega⟩
                · have r3 : decide (0 < k) = true := decide_eq_true (by omega)
                  by_cases hgs : gz = 3
                  · have HO := Lib.hid (show grpOk N k g = true from by unfold grpOk; rw [hfg, hgz, decide_eq_true hg3, decide_eq_true hgs]; simp)
                    have r4 : ((gz : Int) != 3) = false := by simp; omega
                    clear hN1 hg3 hk0 hgs
                    go_wp2_with (go_at_call 30; (with_reducible refine (figures_any _ _).mono ?_); rintro e w6 ⟨rfl, hb6⟩; rw [hfg])
                    exact ⟨⟨k + 1, by go_num, by omega, hbr.trans (hb6.mono hszr), fun i hi => by
                      by_cases hik : i = k
                      · subst hik
                        rw [getD_of hg]
                        exact HO.out
                      · exact HALL.out i (by omega)⟩, by simp [intOf]; omega⟩
                  · have HF := Lib.hid (grps_bad HGN.out hg (show grpOk N k g = false from by unfold grpOk; rw [hfg, hgz, decide_eq_false hN1, decide_eq_false hk0, decide_eq_false hgs]; simp))
                    have r4 : ((gz : Int) != 3) = true := by simp; omega
                    clear hN1 hg3 hk0 hgs
                    go_wp2_with (go_at_call 30; (with_reducible refine (figures_any _ _).mono ?_); rintro e w6 ⟨rfl, hb6⟩; rw [hfg])
                    go_ret2
                    exact ⟨by rw [HAM.out, if_pos HF.out]; rfl, HB5.out.trans ((hbr.trans (hb6.mono hszr)).mono hsz5)⟩
              · have r2 : decide ((3 : Int) < (gz : Int)) = true := decide_eq_true (by omega)
                have HF := Lib.hid (grps_bad HGN.out hg (show grpOk N k g = false from by unfold grpOk; rw [hfg, hgz, decide_eq_false hN1, decide_eq_false hg3]; simp))
                clear hN1 hg3
                go_wp2_with (go_at_call 30; (with_reducible refine (figures_any _ _).mono ?_); rintro e w6 ⟨rfl, hb6⟩; rw [hfg])
                go_ret2
                exact ⟨by rw [HAM.out, if_pos HF.out]; rfl, HB5.out.trans ((hbr.trans (hb6.mono hszr)).mono hsz5)⟩
        · have hkN2 : k = N := by omega
          have q2 : ¬ (k : Int) < (N : Int) := by omega
          have HGO := Lib.hid (grps_good HGN.out (fun i hi => HALL.out i (by omega)))
          clear hkN2
          have hdig := grps_digit (b1 := b1) (by rw [HG.out]; exact HGO.out)
          have hb10 : 0 < b1.size := by
            obtain ⟨c, t, h1, _⟩ := hdig
            have h2 : b1.data.toList.length = b1.size := rfl
            rw [h1] at h2
            simp at h2
            omega
          have hb1e : b1.data.toList.head? = some b1[0] := by
            rw [List.head?_eq_getElem?]
            exact List.getElem?_eq_getElem (by simpa using hb10)
          have htl : b1.toList = b1.data.toList := Lib.toList_data b1
          have HBE := Lib.hid (And.intro hb1e htl)
          clear hdig hb1e htl
          have hzc : (((b1[0].toNat : Int) = 48) ∧ (b1.toList == [48]) = false) ∨ ((b1[0].toNat : Int) = 48 ∧ (b1.toList == [48]) = true) ∨ ¬ ((b1[0].toNat : Int) = 48) := by
            by_cases h1 : (b1[0].toNat : Int) = 48
            · cases h2 : (b1.toList == [48])
              · exact .inl ⟨h1, rfl⟩
              · exact .inr (.inl ⟨h1, rfl⟩)
            · exact .inr (.inr h1)
          rcases hzc with ⟨z1, z2⟩ | hzc
          · have HZ := Lib.hid (show b1.data.toList.head? = some 48 ∧ b1.data.toList ≠ [48] from by
              refine ⟨by rw [HBE.out.1]; congr 1; exact UInt8.toNat_inj.1 (by show _ = 48; omega), fun h => ?_⟩
              rw [HBE.out.2, h] at z2
              simp at z2)
            go_wp2_with fail
            go_ret2
            exact ⟨by rw [HAM.out, if_neg (by rw [HGO.out]; simp), if_pos HZ.out]; rfl, HB5.out.trans (hbr.mono hsz5)⟩
          · have hnz : ¬ (b1.data.toList.head? = some 48 ∧ b1.data.toList ≠ [48]) := by
              rintro ⟨h1, h2⟩
              rw [HBE.out.1] at h1
              injection h1 with h1
              rcases hzc with ⟨_, z⟩ | z
              · rw [HBE.out.2] at z
                exact h2 (by simpa using z)
              · exact z (by rw [h1]; rfl)
            have h2 := HAM.out
            rw [HGO.out, if_neg (by simp), if_neg hnz] at h2
            have HAM2 := Lib.hid h2
            clear h2 hnz
            obtain ⟨sj, hsj⟩ : ∃ sj : ByteArray, (⟨((G.map (·.data.toList)).flatten).toArray⟩ : ByteArray) = sj := ⟨_, rfl⟩
            have hfl : ((G.map (·.data.toList)).flatten).length ≤ 1048576 := by
              have h1 := split_sum ⟨#[39]⟩ (Lib.countB b1 ⟨#[39]⟩) b1
              have h2 : Lib.splitB ⟨#[39]⟩ 0 (Lib.countB b1 ⟨#[39]⟩) b1 = G := HG.out
              rw [h2] at h1
              exact Nat.le_trans h1 HBD.out.2.1
            have hJ : ∀ w', Below w5.heap.size w5 w' → Calls Tryd.prog 32 #[.slice (some ⟨gb, 0, none⟩) N N, .string ⟨#[]⟩] w' fun e w'' => e = .returned (.string sj) ∧ Below w'.heap.size w' w'' := fun w' hb => by
              have e0 : (⟨#[]⟩ : ByteArray).data.toList = [] := rfl
              have := Tryd.strings_Join gb 0 N G ⟨#[]⟩ w' (fun j x hx => by rw [Nat.zero_add]; exact (hb.cell (p := ⟨gb, j, none⟩) hblk).trans (HC5.out j x hx)) (Nat.lt_of_lt_of_le hblk hb.size) (by rw [HGN.out]; omega) (by rw [HGN.out]; exact Nat.le_refl _) (by rw [e0, join_flat]; omega)
              rw [HGN.out, e0, join_flat, hsj] at this
              exact this
            have hsjz : sj.size ≤ 1048576 := by rw [← hsj]; exact hfl
            have hb2z := HBD.out.2.2.1
            have HJ := Lib.hid (hJ wr hbr)
            have hszr2 := hbr.size
            have HSJ := Lib.hid hsj
            clear hJ hsj
            rcases hzc with ⟨z1, z2⟩ | z1
            all_goals
              go_wp2_with (go_at_call 32; (with_reducible refine HJ.out.mono ?_); rintro e w6 ⟨rfl, hb6⟩)
              generalize hD : sj ++ _ = D
              have hDD := (congrArg (fun b : ByteArray => b.data.toList) hD).symm
              simp only [app_data] at hDD
              rw [← HSJ.out] at hDD
              simp only at hDD
              clear hD
              have hdg : D.data.toList.all digB = true := by
                rw [hDD, List.all_append, flat_digits HGO.out]
                first | decide | (rw [figs_all hf]; rfl)
              have HDD := Lib.hid hDD
              have HDG := Lib.hid hdg
              clear hDD hdg
              go_loopw [10] (fun nv wr => AmtL w6 D nv wr) (fun _ wr => D.size - wr.iterPos w6.heap.size)
              case atStart => exact ⟨0, rfl, Nat.zero_le _, rfl⟩
              case round =>
                obtain ⟨pos, rfl, hle, rfl⟩ := hrel
                by_cases hp : pos < D.size
                · have hd := digit_at HDG.out hp
                  have hnx : ∀ ty, (Instr.next (.pointer (some ⟨w6.heap.size, 0, none⟩)) true ty).run Tryd.prog (w6.iter D pos) = _ := fun ty => run_next_ascii w6 D pos ty hp (by omega)
                  have hn := amtN_le (D.data.toList.take pos)
                  have HNX := Lib.hid (amtN_take D hp)
                  generalize amtN (D.data.toList.take pos) = nn at hn HNX ⊢
                  obtain ⟨dd, hdd⟩ : ∃ dd, (D[pos]'hp).toNat = dd := ⟨_, rfl⟩
                  rw [hdd] at hd hnx HNX
                  clear hdd
                  unfold amtC at hn
                  have q1 : (48 : Int) ≤ (dd : Int) := by omega
                  have q2 : (dd : Int) ≤ 57 := by omega
                  have q3 : (nn : Int) ≤ 90071992547409920 := by omega
                  have q4 : (0 : Int) ≤ (nn : Int) := by omega
                  clear hd hn
                  go_wp2_with fail
                  refine ⟨⟨pos + 1, rfl, by omega, ?_⟩, by simp; omega⟩
                  rw [HNX.out]
                  congr 1
                  unfold amtC
                  omega
                · have hnx : ∀ ty, (Instr.next (.pointer (some ⟨w6.heap.size, 0, none⟩)) true ty).run Tryd.prog (w6.iter D pos) = _ := fun ty => run_next_end w6 D pos ty hp
                  have htk : D.data.toList.take pos = D.data.toList := List.take_of_length_le (by show D.size ≤ pos; omega)
                  rw [htk]
                  have HAM3 := HAM2.out
                  unfold amtD at HAM3
                  rw [HG.out] at HAM3
                  first | simp only [Bool.false_eq_true, reduceIte] at HAM3 | simp only [reduceIte] at HAM3
                  rw [← HDD.out] at HAM3
                  have hn := amtN_le D.data.toList
                  generalize amtN D.data.toList = nn at hn HAM3 ⊢
                  have HA := Lib.hid HAM3
                  unfold amtC at hn
                  have q3 : (nn : Int) ≤ 90071992547409920 := by omega
                  have hbe := HB5.out.trans ((hbr.trans ((hb6.trans ((below_iter w6 D pos).mono hb6.size)).mono hszr2)).mono hsz5)
                  clear HAM3 hn htk
                  by_cases hov : 9007199254740992 < nn
                  · have q4 : (9007199254740992 : Int) < (nn : Int) := by omega
                    go_wp2_with fail
                    go_ret2
                    exact ⟨by rw [HA.out, if_pos hov]; rfl, hbe⟩
                  · have q4 : ¬ (9007199254740992 : Int) < (nn : Int) := by omega
                    go_wp2_with fail
                    go_ret2
                    exact ⟨by rw [HA.out, if_neg hov]; rfl, hbe⟩
end Go.Proofs.YthkifgjmhpppkaaDoor
