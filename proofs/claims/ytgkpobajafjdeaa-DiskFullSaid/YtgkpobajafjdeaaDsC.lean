/- tallylaw4.allSafe. -/
import Derived.Test.YtgkpobajafjdeaaDsB
namespace Go.Proofs.Ytgkpobajafjdeaa
open Go.RowKit Go.Maps

def SafeRel (w1 : World) (base i D : Nat) (ρ : Nat → Nat) (d : DM) (k0 t0 n : Nat) (okv iv : Value) (wr : World) : Prop :=
  ∃ (k : Nat) (ρk : Nat → Nat) (dk : DM), iv = .int .i64 k ∧ k ≤ n ∧ okv = .bool true ∧ DiskAt wr base ρk i D dk ∧ Keeps (fun r => ∃ x, r = ro i x) w1 ρ wr ρk ∧ Free wr ρk ∧ Below base w1 wr ∧ Synced d dk (d.names.take k) ∧ dk.Sz (k0 + k) t0
def SafeEnd (base i D : Nat) (ρ : Nat → Nat) (d : DM) (k0 t0 : Nat) (w : World) (e : Ending) (w' : World) : Prop :=
  e = .returned (.bool true) ∧ ∃ d', DkEnd base ρ i D d' w w' ∧ d'.Ok ∧ d'.Calm ∧ d'.AllSafe ∧ d'.names = d.names ∧ d'.room = d.room ∧ d'.Sz (k0 + 65) t0
set_option maxRecDepth 100000 in
set_option maxHeartbeats 4000000 in
theorem allSafe_any (w : World) (base i D : Nat) (ρ : Nat → Nat) (d : DM) (h : DiskAt w base ρ i D d) (hi : i < 16) (hi0 : 0 < i) (hF : Free w ρ) (hok : d.Ok) (hc : d.Calm) {k0 t0 : Nat} (hsz : d.Sz k0 t0) (hk0 : k0 ≤ 100000) (ht0 : t0 ≤ 1000000000) :
    Calls Try.prog 30 #[.pointer (some ⟨D, 0, none⟩)] w (SafeEnd base i D ρ d k0 t0 w) := by
  obtain ⟨fb, bN, bS, chv, hd⟩ := h
  have hbase := hd.base_le
  have hlist := list_any w base i D bN bS ρ d fb chv hd hok.nameG.ok (by have := hok.nameG.len; omega)
  unfold ListEnd at hlist
  rw [hc.off] at hlist
  simp only [Bool.false_eq_true, if_false, toldN] at hlist
  obtain ⟨n, hn⟩ : ∃ n, d.names.length = n := ⟨_, rfl⟩
  rw [hn] at hlist
  have hr0 : ¬ ∃ x, (0 : Nat) = ro i x := fun ⟨x, h⟩ => by unfold ro at h; omega
  have HL := Lib.hid hlist
  have HD := Lib.hid hd
  have HN := Lib.hid hn
  have HX := Lib.hid (And.intro hok (And.intro hc (And.intro hsz (And.intro hF hbase))))
  have HK := Lib.hid (And.intro hk0 ht0)
  have HI := Lib.hid (And.intro hi hr0)
  clear hlist hd hn hok hc hsz hk0 ht0 hi hi0 hr0 hF hbase
  go_enter Try.func30, Try.ntmps30
  go_wp2_with (first
    | (go_at_call 16; (with_reducible refine HL.out.mono ?_); rintro e w1 ⟨A1, cap1, rfl, ho1, hb1⟩; have HO1 := Lib.hid ho1; have HB1 := Lib.hid hb1; clear ho1 hb1)
    | (go_at_call 13; (with_reducible refine (num_any _ _).mono ?_); rintro e w3 ⟨rfl, rfl⟩)
    | fail)
  go_loopw [5, 6] (fun okv iv wr => SafeRel w1 base i D ρ d k0 t0 n okv iv wr) (fun _ iv _ => (n - intOf iv).toNat)
  case atStart => exact ⟨0, ρ, d, rfl, Nat.zero_le _, rfl, ⟨fb, bN, bS, chv, HD.out.below HB1.out⟩, Keeps.refl _ _ _, HX.out.2.2.2.1.le HB1.out.size, Below.refl _ _, Synced.start HX.out.1 HX.out.2.1, HX.out.2.2.1⟩
  case round =>
    obtain ⟨k, ρk, dk, rfl, hk, rfl, hdk, hK, hFk, hBk, hS, hszk⟩ := hrel
    have hnames := HX.out.1.nameG.len
    have hnn := HN.out
    by_cases hlt : k < n
    · have q1 : (k : Int) < (n : Int) := by omega
      obtain ⟨p, hp⟩ : ∃ p, d.names[k]? = some p := ⟨d.names[k]'(by omega), List.getElem?_eq_getElem _⟩
      have hpm := List.mem_of_getElem? hp
      have hstep := sync_step hS hpm
      rw [← take_snoc hp] at hstep
      have hmsz := str_size p.1 (fair_len (HX.out.1.nameG.fair p hpm)).2
      obtain ⟨g, rfl, d1⟩ := HO1.out.getN (k := k) (by omega) (by omega)
      have e1 : cS (d.names.map Prod.fst) k = .string (str p.1) := by unfold cS; rw [List.getElem?_map, hp]; rfl
      rw [e1] at d1
      have hgb := HO1.out.block rfl
      have c1 : wr.cell? ⟨g, k, none⟩ = some (.string (str p.1)) := (World.cell?_of_block (w := w1) (a := ⟨g, k, none⟩) ((hK.2 g hgb.2).2 (by rw [HX.out.2.2.2.1 g hgb.1]; exact HI.out.2))).trans d1
      obtain ⟨fbk, bNk, bSk, chk, hdd⟩ := hdk
      have hsync := sync_any wr base i D bNk bSk ρk dk fbk chk hdd HI.out.1 hFk (hS.ok.fit hszk (by have := HK.out.1; omega)) (str p.1) hmsz (by rw [list_str]; have := hS.ok.bytes_le p.1; omega)
      rw [list_str] at hsync
      have hsz2 : (dk.sync p.1).1.Sz (k0 + (k + 1)) t0 := by
        have := hszk.op hS.ok ⟨3, p.1, [], 0, []⟩
        exact this
      obtain ⟨r, hr⟩ : ∃ r, dk.sync p.1 = r := ⟨_, rfl⟩
      rw [hr] at hsync hstep hsz2
      obtain ⟨d', z⟩ := r
      obtain ⟨hst, hz⟩ := hstep
      dsimp only at hst hz hsz2
      subst hz
      have HSY := Lib.hid hsync
      have HST := Lib.hid (And.intro hst (And.intro hK (And.intro hBk hsz2)))
      have HW := Lib.hid (w64s (k := k) (by omega))
      have HLT := Lib.hid hlt
      clear hp hpm hmsz d1 e1 hgb hdd hsync hsz2 hr hst hK hFk hBk hS hszk hlt hk hnn hnames
      go_wp2_with (first
        | (go_at_call 49; (with_reducible refine HSY.out.mono ?_); rintro e w2 ⟨rfl, ρ2, h2, K2, F2, B2⟩; have H2 := Lib.hid (And.intro h2 (And.intro K2 (And.intro F2 B2))); clear h2 K2 F2 B2)
        | (go_at_call 13; (with_reducible refine (num_any _ _).mono ?_); rintro e w3 ⟨rfl, rfl⟩)
        | fail)
      exact ⟨⟨k + 1, ρ2, d', by first | rfl | exact congrArg _ HW.out, HLT.out, rfl, H2.out.1, HST.out.2.1.trans H2.out.2.1, H2.out.2.2.1, HST.out.2.2.1.trans H2.out.2.2.2, HST.out.1, HST.out.2.2.2⟩, by first | exact measure_less HLT.out | (rw [HW.out]; exact measure_less HLT.out)⟩
    · have q1 : decide (k < n) = false := decide_eq_false hlt
      have hkn : k = n := by omega
      rw [hkn, List.take_of_length_le (by omega)] at hS
      obtain ⟨fbk, bNk, bSk, chk, hdd⟩ := hdk
      have hsn := syncNames_any wr base i D bNk bSk ρk dk fbk chk hdd HI.out.1 hFk (hS.ok.fit hszk (by have := HK.out.1; omega)) hS.ok.playOk
      obtain ⟨f1, f2, f3, f4, f5, f6⟩ := hS.all
      have hsz2 : dk.syncNames.1.Sz (k0 + 65) t0 := by
        have := hszk.op hS.ok ⟨4, [], [], 0, []⟩
        exact DM.Sz.mono this (by omega) (by simp)
      obtain ⟨r, hr⟩ : ∃ r, dk.syncNames = r := ⟨_, rfl⟩
      rw [hr] at hsn f1 f2 f3 f4 f5 f6 hsz2
      obtain ⟨d', z⟩ := r
      dsimp only at f1 f2 f3 f4 f5 f6 hsz2
      subst f6
      have HSN := Lib.hid hsn
      have HST := Lib.hid (And.intro hK hBk)
      have HF := Lib.hid (And.intro f1 (And.intro f2 (And.intro f3 (And.intro f4 (And.intro f5 hsz2)))))
      clear hsn f1 f2 f3 f4 f5 hsz2 hr hK hBk hFk hS hszk hdd hkn hnames hnn hk
      go_wp2_with (first
        | (go_at_call 50; (with_reducible refine HSN.out.mono ?_); rintro e w2 ⟨rfl, ρ2, h2, K2, F2, B2⟩; have H2 := Lib.hid (And.intro h2 (And.intro K2 (And.intro F2 B2))); clear h2 K2 F2 B2)
        | (go_at_call 13; (with_reducible refine (num_any _ _).mono ?_); rintro e w3 ⟨rfl, rfl⟩)
        | fail)
      go_ret
      exact ⟨rfl, d', ⟨ρ2, H2.out.1, ((Keeps.below _ ρ HB1.out).trans HST.out.1).trans H2.out.2.1, H2.out.2.2.1, ((HB1.out.mono HX.out.2.2.2.2).trans HST.out.2).trans H2.out.2.2.2⟩, HF.out⟩
end Go.Proofs.Ytgkpobajafjdeaa
