/- settle's Stop; Wants of no peer; tallyref13's Wants. -/
import Derived.Test.YtbgojhjlmlbfpaaSfG
import Derived.Test.YtbgojhjlmlbfpaaSeJ
namespace Go.Proofs.Ytbgojhjlmlbfpaa
open Go.RowKit

set_option maxRecDepth 100000 in
set_option maxHeartbeats 1000000 in
theorem each_stop (w : World) (S W N cap : Nat) (shard : Int) (I : Nat → World → Prop) (hN : N ≤ 8) (hcells : ∀ i wr, I i wr → EachC wr S W N cap shard)
    (hdo : ∀ (i : Nat) (wr : World), I i wr → i < N → (i : Int) ≠ shard → Calls Try.prog 131 #[.int .i64 (i : Nat), .pointer (some ⟨W, i * 8, none⟩)] wr fun e w' => e = .returned (.tuple #[]) ∧ I (i + 1) w')
    (hskip : ∀ (i : Nat) (wr : World), I i wr → (i : Int) = shard → I (i + 1) wr) (h0 : I 0 w) :
    Calls Try.prog 60 #[.pointer (some ⟨S, 0, none⟩), .func (.func 131) #[] #[]] w fun e w' => e = .returned (.tuple #[]) ∧ I N w' := by
  have k0 := (hcells 0 w h0).v
  go_enter Try.func60, Try.ntmps60
  go_wp2
  go_loopw [12] (fun iv wr => EaRel I N iv wr) (fun iv _ => (N - intOf iv).toNat)
  case atStart => exact ⟨0, rfl, by omega, h0⟩
  case round =>
    obtain ⟨i, rfl, hi, hI⟩ := hrel
    clear k0 h0
    by_cases hiN : i < N
    · obtain ⟨k1, k2, k3⟩ := hcells i wr hI
      obtain ⟨pb, A, m, cp, w0, w1, hm⟩ := k3 i hiN
      have hat := at_in wr S W N cap i k2 hiN
      have q1 : (i : Int) < (N : Int) := by omega
      have q2 : (0 : Int) < (m : Int) := by omega
      clear k3
      by_cases his : (i : Int) = shard
      · have hs := hskip i wr hI his
        have hne : ((i : Int) != shard) = false := by simp [his]
        clear hdo hskip hI hcells his
        go_wp2_with (go_at_call 68; (with_reducible refine hat.mono ?_); rintro e w9 ⟨rfl, rfl⟩)
        exact ⟨⟨i + 1, by go_num, by omega, hs⟩, by simp [intOf]; omega⟩
      · have hd := hdo i wr hI hiN his
        have hne : ((i : Int) != shard) = true := by simp [his]
        clear hdo hskip hI hcells his
        go_wp2_with (first | (go_at_call 68; (with_reducible refine hat.mono ?_); rintro e w9 ⟨rfl, rfl⟩) | (go_at_call 131; (with_reducible refine hd.mono ?_); rintro e w9 ⟨rfl, hI9⟩))
        exact ⟨⟨i + 1, by go_num, by omega, hI9⟩, by simp [intOf]; omega⟩
    · obtain rfl : i = N := by omega
      go_wp2
      go_end0
      exact ⟨rfl, hI⟩
def wsS (shard : Int) (ws : Nat → Way) (i : Nat) : Nat → Way := fun j => if j < i ∧ (j : Int) ≠ shard then { ws j with there := false } else ws j
theorem wsS_zero (shard : Int) (ws : Nat → Way) : wsS shard ws 0 = ws := by funext j; exact if_neg (by omega)
theorem wsS_at (shard : Int) (ws : Nat → Way) (i : Nat) : wsS shard ws i i = ws i := if_neg (by omega)
theorem wsS_next (shard : Int) (ws : Nat → Way) (i : Nat) (hi : (i : Int) ≠ shard) : updW (wsS shard ws i) i { wsS shard ws i i with there := false } = wsS shard ws (i + 1) := by
  funext k
  rw [wsS_at]
  unfold updW wsS
  by_cases hk : k = i
  · subst hk
    rw [if_pos rfl, if_pos ⟨by omega, hi⟩]
  · rw [if_neg hk]
    by_cases h2 : k < i ∧ (k : Int) ≠ shard
    · rw [if_pos h2, if_pos ⟨by omega, h2.2⟩]
    · rw [if_neg h2, if_neg (fun h => h2 ⟨by omega, h.2⟩)]
theorem wsS_skip (shard : Int) (ws : Nat → Way) (i : Nat) (hi : (i : Int) = shard) : wsS shard ws i = wsS shard ws (i + 1) := by
  funext k
  unfold wsS
  by_cases h2 : k < i ∧ (k : Int) ≠ shard
  · rw [if_pos h2, if_pos ⟨by omega, h2.2⟩]
  · rw [if_neg h2, if_neg (fun h => h2 ⟨by have h1 := h.1; have h3 := h.2; rcases Nat.lt_or_ge k i with h4 | h4; exact h4; exact absurd (by rw [show k = i by omega, hi]) h3, h.2⟩)]
theorem SetAt.stopQ {w : World} {base r0 S N : Nat} {ρ : Nat → Nat} {node shard : Int} {ws : Nat → Way} {wv qv : Value} {Q : List Ent} (h : SetAt w base ρ r0 S node shard N ws wv qv Q) :
    SetAt (w.setCell ⟨S, 3, none⟩ (.slice none 0 0)) base ρ r0 S node shard N ws wv (.slice none 0 0) [] ∧ Keeps (fun r => r = r0 + 1) w ρ (w.setCell ⟨S, 3, none⟩ (.slice none 0 0)) ρ ∧ Below base w (w.setCell ⟨S, 3, none⟩ (.slice none 0 0)) ∧ (w.setCell ⟨S, 3, none⟩ (.slice none 0 0)).heap.size = w.heap.size := by
  have hO : OnlyB w (w.setCell ⟨S, 3, none⟩ (.slice none 0 0)) S (setObj node shard wv (.slice none 0 0)) := OnlyB.set (OnlyB.refl h.obj.1) (lt_of_obj h.obj.1) 3 _
  have K : Keeps (fun r => r = r0 + 1) w ρ (w.setCell ⟨S, 3, none⟩ (.slice none 0 0)) ρ := Keeps.only ρ hO h.obj.2
  obtain ⟨a1, a2⟩ := OneN.keep h.row h.rowr K (by omega)
  exact ⟨⟨⟨hO.at_ (lt_of_obj h.obj.1), h.obj.2⟩, a1, a2, .inl ⟨rfl, rfl⟩, fun g hg => (by cases hg), fun i hi => (h.pace i hi).keep K (by omega), fun i hi => (h.cop i hi).keep K (by omega), h.lo, h.num⟩, K, hO.below h.lo.1, hO.size⟩
structure StopAt (w wr : World) (base : Nat) (ρ : Nat → Nat) (r0 S : Nat) (node shard : Int) (N : Nat) (ws : Nat → Way) (wv : Value) : Prop where
  set : SetAt wr base ρ r0 S node shard N ws wv (.slice none 0 0) []
  k : Keeps (fun r => r0 + 1 ≤ r ∧ r < r0 + 28) w ρ wr ρ
  b : Below base w wr
  z : wr.heap.size = w.heap.size
set_option maxRecDepth 100000 in
theorem settle_stop (w : World) (base r0 S N W cap : Nat) (ρ : Nat → Nat) (node shard : Int) (ws : Nat → Way) (qv : Value) (Q : List Ent) (h : SetAt w base ρ r0 S node shard N ws (.slice (some ⟨W, 0, none⟩) N cap) qv Q) :
    Calls Try.prog 109 #[.pointer (some ⟨S, 0, none⟩)] w fun e w' => e = .returned (.tuple #[]) ∧ StopAt w w' base ρ r0 S node shard N (wsS shard ws N) (.slice (some ⟨W, 0, none⟩) N cap) := by
  have hN := h.num.2.1
  have c3 := h.cells.2.2.2
  have f3 := free_of_obj h.obj.1 3
  obtain ⟨s1, K1, L1, z1⟩ := h.stopQ
  have hdo : ∀ (i : Nat) (wr : World), StopAt w wr base ρ r0 S node shard N (wsS shard ws i) (.slice (some ⟨W, 0, none⟩) N cap) → i < N → (i : Int) ≠ shard → Calls Try.prog 131 #[.int .i64 (i : Nat), .pointer (some ⟨W, i * 8, none⟩)] wr fun e w' => e = .returned (.tuple #[]) ∧ StopAt w w' base ρ r0 S node shard N (wsS shard ws (i + 1)) (.slice (some ⟨W, 0, none⟩) N cap) := by
    intro i wr hI hi his
    have c7 := hI.set.way i 7 hi (by omega)
    have f7 := OneN.free hI.set.row (i * 8 + 7)
    have hp := hI.set.put (i := i) (j := 7) (v := .bool false) (by omega) { wsS shard ws i i with there := false } (by
      intro k hk
      match k, hk with
      | 0, _ => rfl
      | 1, _ => rfl
      | 2, _ => rfl
      | 3, _ => rfl
      | 4, _ => rfl
      | 5, _ => rfl
      | 6, _ => rfl
      | 7, _ => rfl) ⟨rfl, rfl, rfl, rfl, rfl, rfl⟩ (fun _ => by
        have := hI.set.num.2.2 i hi
        exact ⟨this.c1, this.l1, this.g1, this.t1⟩)
    rw [wsS_next shard ws i his] at hp
    have HP := Lib.hid hp
    have HI := Lib.hid hI
    clear hp hI
    go_enter Try.func131, Try.ntmps131
    go_wp2
    go_end0
    obtain ⟨s2, K2, L2, z2⟩ := HP.out
    have hI := HI.out
    exact ⟨rfl, ⟨s2, hI.k.trans (K2.mono (fun r hr => by omega)), hI.b.trans L2, z2.trans hI.z⟩⟩
  have hE := fun (w1 : World) (h0 : StopAt w w1 base ρ r0 S node shard N (wsS shard ws 0) (.slice (some ⟨W, 0, none⟩) N cap)) => each_stop w1 S W N cap shard (fun i wr => StopAt w wr base ρ r0 S node shard N (wsS shard ws i) (.slice (some ⟨W, 0, none⟩) N cap)) hN (fun i wr hI => hI.set.each) hdo (fun i wr hI his => by rw [← wsS_skip shard ws i his]; exact hI) h0
  have HS := Lib.hid (show StopAt w (w.setCell ⟨S, 3, none⟩ (.slice none 0 0)) base ρ r0 S node shard N (wsS shard ws 0) (.slice (some ⟨W, 0, none⟩) N cap) from ⟨by rw [wsS_zero]; exact s1, K1.mono (fun r hr => by omega), L1, z1⟩)
  have HE := Lib.hid hE
  clear hdo hE h s1 K1 L1 z1
  go_enter Try.func109, Try.ntmps109
  go_wp2_with (go_at_call 60; (with_reducible refine (HE.out _ HS.out).mono ?_); rintro e w2 ⟨rfl, hI⟩)
  go_end0
  exact ⟨rfl, hI⟩
end Go.Proofs.Ytbgojhjlmlbfpaa
