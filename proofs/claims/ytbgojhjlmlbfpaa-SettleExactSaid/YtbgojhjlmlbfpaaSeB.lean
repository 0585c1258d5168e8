/- settle.Settle: at, each (for each closure that is handed to it). -/
import Derived.Test.YtbgojhjlmlbfpaaSeA
namespace Go.Proofs.Ytbgojhjlmlbfpaa
open Go.RowKit

set_option maxRecDepth 100000 in
theorem at_in (w : World) (S W N cap i : Nat) (h : w.cell? ⟨S, 2, none⟩ = some (.slice (some ⟨W, 0, none⟩) N cap)) (hi : i < N) :
    Calls Try.prog 68 #[.pointer (some ⟨S, 2, none⟩), .int .i64 (i : Nat)] w fun e w' => e = .returned (.pointer (some ⟨W, i * 8, none⟩)) ∧ w = w' := by
  have q0 : ¬ ((i : Int) < 0) := by omega
  have q1 : ¬ ((N : Int) ≤ (i : Int)) := by omega
  go_enter Try.func68, Try.ntmps68
  go_wp2
  go_ret
  exact ⟨rfl, rfl⟩
set_option maxRecDepth 100000 in
theorem at_out (w : World) (S N cap : Nat) (A : Option Addr) (i : Int) (h : w.cell? ⟨S, 2, none⟩ = some (.slice A N cap)) (hi : i < 0 ∨ (N : Int) ≤ i) :
    Calls Try.prog 68 #[.pointer (some ⟨S, 2, none⟩), .int .i64 i] w fun e w' => e = .returned (.pointer none) ∧ w = w' := by
  by_cases q0 : i < 0
  · go_enter Try.func68, Try.ntmps68
    go_wp2
    go_ret
    exact ⟨rfl, rfl⟩
  · have q1 : (N : Int) ≤ i := by omega
    clear hi
    go_enter Try.func68, Try.ntmps68
    go_wp2
    go_ret
    exact ⟨rfl, rfl⟩
/-- What each reads. -/
structure EachC (w : World) (S W N cap : Nat) (shard : Int) : Prop where
  s : w.cell? ⟨S, 1, none⟩ = some (.int .i64 shard)
  v : w.cell? ⟨S, 2, none⟩ = some (.slice (some ⟨W, 0, none⟩) N cap)
  way : ∀ j, j < N → ∃ pb A m cp, w.cell? ⟨W, j * 8, none⟩ = some (.pointer (some ⟨pb, 0, none⟩)) ∧ w.cell? ⟨W, j * 8 + 1, none⟩ = some (.slice A m cp) ∧ 0 < m
theorem SetAt.each {w : World} {base r0 S N W cap : Nat} {ρ : Nat → Nat} {node shard : Int} {ws : Nat → Way} {qv : Value} {Q : List Ent} (h : SetAt w base ρ r0 S node shard N ws (.slice (some ⟨W, 0, none⟩) N cap) qv Q) : EachC w S W N cap shard := by
  obtain ⟨c0, c1, c2, c3⟩ := h.cells
  refine ⟨c1, c2, fun j hj => ?_⟩
  obtain ⟨A, cp, e⟩ := (h.cop j hj).1.len
  have h0 := h.way j 0 hj (by omega)
  have h1 := h.way j 1 hj (by omega)
  refine ⟨(ws j).pb, A, _, cp, h0, ?_, Nat.lt_of_le_of_lt (Nat.zero_le _) (h.num.2.2 j hj).t1.1⟩
  rw [h1]
  exact congrArg some e
def EaRel (I : Nat → World → Prop) (N : Nat) (iv : Value) (wr : World) : Prop := ∃ i : Nat, iv = .int .i64 i ∧ i ≤ N ∧ I i wr
set_option maxRecDepth 100000 in
set_option maxHeartbeats 1000000 in
theorem each_tick (w : World) (S W N cap : Nat) (shard : Int) (p1 p2 : Value) (I : Nat → World → Prop) (hN : N ≤ 8) (hcells : ∀ i wr, I i wr → EachC wr S W N cap shard)
    (hdo : ∀ (i : Nat) (wr : World), I i wr → i < N → (i : Int) ≠ shard → Calls Try.prog 61 #[.int .i64 (i : Nat), .pointer (some ⟨W, i * 8, none⟩), p1, p2] wr fun e w' => e = .returned (.tuple #[]) ∧ I (i + 1) w')
    (hskip : ∀ (i : Nat) (wr : World), I i wr → (i : Int) = shard → I (i + 1) wr) (h0 : I 0 w) :
    Calls Try.prog 60 #[.pointer (some ⟨S, 0, none⟩), .func (.func 61) #[] #[p1, p2]] w fun e w' => e = .returned (.tuple #[]) ∧ I N w' := by
  have k0 := (hcells 0 w h0).v
  go_enter Try.func60, Try.ntmps60
  go_wp2
  go_loopw [12] (fun iv wr => EaRel I N iv wr) (fun iv _ => (N - intOf iv).toNat)
  case atStart => exact ⟨0, rfl, by omega, h0⟩
  case round =>
    obtain ⟨i, rfl, hi, hI⟩ := hrel
    clear k0 h0
    by_cases hiN : i < N
    · obtain ⟨k1, k2, k3⟩ := hcells i wr hI
      obtain ⟨pb, A, m, cp, w0, w1, hm⟩ := k3 i hiN
      have hat := at_in wr S W N cap i k2 hiN
      have q1 : (i : Int) < (N : Int) := by omega
      have q2 : (0 : Int) < (m : Int) := by omega
      clear k3
      by_cases his : (i : Int) = shard
      · have hs := hskip i wr hI his
        have hne : ((i : Int) != shard) = false := by simp [his]
        clear hdo hskip hI hcells his
        go_wp2_with (go_at_call 68; (with_reducible refine hat.mono ?_); rintro e w9 ⟨rfl, rfl⟩)
        exact ⟨⟨i + 1, by go_num, by omega, hs⟩, by simp [intOf]; omega⟩
      · have hd := hdo i wr hI hiN his
        have hne : ((i : Int) != shard) = true := by simp [his]
        clear hdo hskip hI hcells his
        go_wp2_with (first | (go_at_call 68; (with_reducible refine hat.mono ?_); rintro e w9 ⟨rfl, rfl⟩) | (go_at_call 61; (with_reducible refine hd.mono ?_); rintro e w9 ⟨rfl, hI9⟩))
        exact ⟨⟨i + 1, by go_num, by omega, hI9⟩, by simp [intOf]; omega⟩
    · obtain rfl : i = N := by omega
      go_wp2
      go_end0
      exact ⟨rfl, hI⟩
set_option maxRecDepth 100000 in
set_option maxHeartbeats 1000000 in
theorem each_look (w : World) (S W N cap : Nat) (shard : Int) (p1 : Value) (I : Nat → World → Prop) (hN : N ≤ 8) (hcells : ∀ i wr, I i wr → EachC wr S W N cap shard)
    (hdo : ∀ (i : Nat) (wr : World), I i wr → i < N → (i : Int) ≠ shard → Calls Try.prog 64 #[.int .i64 (i : Nat), .pointer (some ⟨W, i * 8, none⟩), p1] wr fun e w' => e = .returned (.tuple #[]) ∧ I (i + 1) w')
    (hskip : ∀ (i : Nat) (wr : World), I i wr → (i : Int) = shard → I (i + 1) wr) (h0 : I 0 w) :
    Calls Try.prog 60 #[.pointer (some ⟨S, 0, none⟩), .func (.func 64) #[] #[p1]] w fun e w' => e = .returned (.tuple #[]) ∧ I N w' := by
  have k0 := (hcells 0 w h0).v
  go_enter Try.func60, Try.ntmps60
  go_wp2
  go_loopw [12] (fun iv wr => EaRel I N iv wr) (fun iv _ => (N - intOf iv).toNat)
  case atStart => exact ⟨0, rfl, by omega, h0⟩
  case round =>
    obtain ⟨i, rfl, hi, hI⟩ := hrel
    clear k0 h0
    by_cases hiN : i < N
    · obtain ⟨k1, k2, k3⟩ := hcells i wr hI
      obtain ⟨pb, A, m, cp, w0, w1, hm⟩ := k3 i hiN
      have hat := at_in wr S W N cap i k2 hiN
      have q1 : (i : Int) < (N : Int) := by omega
      have q2 : (0 : Int) < (m : Int) := by omega
      clear k3
      by_cases his : (i : Int) = shard
      · have hs := hskip i wr hI his
        have hne : ((i : Int) != shard) = false := by simp [his]
        clear hdo hskip hI hcells his
        go_wp2_with (go_at_call 68; (with_reducible refine hat.mono ?_); rintro e w9 ⟨rfl, rfl⟩)
        exact ⟨⟨i + 1, by go_num, by omega, hs⟩, by simp [intOf]; omega⟩
      · have hd := hdo i wr hI hiN his
        have hne : ((i : Int) != shard) = true := by simp [his]
        clear hdo hskip hI hcells his
        go_wp2_with (first | (go_at_call 68; (with_reducible refine hat.mono ?_); rintro e w9 ⟨rfl, rfl⟩) | (go_at_call 64; (with_reducible refine hd.mono ?_); rintro e w9 ⟨rfl, hI9⟩))
        exact ⟨⟨i + 1, by go_num, by omega, hI9⟩, by simp [intOf]; omega⟩
    · obtain rfl : i = N := by omega
      go_wp2
      go_end0
      exact ⟨rfl, hI⟩
end Go.Proofs.Ytbgojhjlmlbfpaa
