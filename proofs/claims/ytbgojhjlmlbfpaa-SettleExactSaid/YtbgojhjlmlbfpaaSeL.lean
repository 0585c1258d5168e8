/- tallylaw13's helpers: into, config, firstOf, placeOf. -/
import Derived.Test.YtbgojhjlmlbfpaaSeK
import Derived.Test.YtbgojhjlmlbfpaaPlD
namespace Go.Proofs.Ytbgojhjlmlbfpaa
open Go.RowKit

theorem into13 (n m : Int) (w : World) (hm : 0 < m) (hm2 : m ≤ 100000) :
    Calls Try.prog 33 #[.int .i64 n, .int .i64 m] w fun e w' => e = .returned (.int .i64 (n % m)) ∧ w = w' := by
  obtain ⟨r, hr⟩ : ∃ r, n.tmod m = r := ⟨_, rfl⟩
  have hb : -m < r ∧ r < m ∧ n % m = if r < 0 then r + m else r := by
    have h1 := Int.emod_nonneg n (show m ≠ 0 by omega)
    have h2 := Int.emod_lt_of_pos n hm
    have h3 := Int.emod_emod_of_dvd n (Int.dvd_refl m)
    rcases Int.le_total 0 n with h | h
    · rw [Int.tmod_eq_emod_of_nonneg h] at hr; subst hr; rw [if_neg (by omega)]; omega
    · rw [Int.tmod_eq_emod] at hr
      split at hr
      · rename_i hd
        have : n % m = 0 := by
          rcases hd with hd | hd
          · obtain rfl : n = 0 := by omega
            simp
          · exact Int.emod_eq_zero_of_dvd hd
        subst hr
        rw [if_neg (by omega)]; omega
      · have : (m.natAbs : Int) = m := by omega
        subst hr
        rw [if_pos (by omega)]; omega
  obtain ⟨hb1, hb2, hb3⟩ := hb
  have H := Lib.hid hb3
  clear hb3
  have hm0 : (m == 0) = false := beq_eq_false_iff_ne.2 (by omega)
  by_cases h0 : r < 0
  all_goals
    go_enter Try.func33, Try.ntmps33
    go_wp2
    go_ret
  · exact ⟨by rw [H.out, if_pos h0]; rfl, rfl⟩
  · exact ⟨by rw [H.out, if_neg (by omega)]; rfl, rfl⟩

structure ConfOk (n N cp cap : Nat) : Prop where
  hn : 1 ≤ n ∧ n ≤ 9
  hN : 1 ≤ N ∧ N ≤ 8
  hcp : 1 ≤ cp ∧ cp ≤ n ∧ cp ≤ 7 ∧ cp % 2 = 1
  hcap : 1 ≤ cap ∧ cap ≤ 64
def confV (n N cp cap : Nat) : Value := .agg #[.int .i64 (n : Nat), .int .i64 (N : Nat), .int .i64 (cp : Nat), .int .i64 1, .int .i64 16, .int .i64 (cap : Nat), .int .i64 64, .int .i64 100, .slice none 0 0]
theorem emod_nat (a : Int) (m : Nat) (hm : 0 < m) : ∃ x : Nat, a % (m : Int) = (x : Int) ∧ x < m := by
  have h1 := Int.emod_nonneg a (show (m : Int) ≠ 0 by omega)
  have h2 := Int.emod_lt_of_pos a (show (0 : Int) < (m : Int) by omega)
  exact ⟨(a % (m : Int)).toNat, by omega, by omega⟩
set_option maxRecDepth 100000 in
set_option maxHeartbeats 2000000 in
theorem config_any (a b c d : Int) (w : World) : Calls Try.prog 58 #[.int .i64 a, .int .i64 b, .int .i64 c, .int .i64 d] w fun e w' => ∃ n N cp cap : Nat, e = .returned (confV n N cp cap) ∧ ConfOk n N cp cap ∧ (N : Int) = 1 + b % 8 ∧ Below w.heap.size w w' := by
  obtain ⟨x, hx, hx9⟩ := emod_nat a 9 (by omega)
  obtain ⟨y, hy, hy8⟩ := emod_nat b 8 (by omega)
  obtain ⟨z, hz, hz64⟩ := emod_nat d 64 (by omega)
  obtain ⟨h, hh⟩ : ∃ h : Nat, (1 + (1 + x)) / 2 = h := ⟨_, rfl⟩
  obtain ⟨u, hu, hul⟩ := emod_nat c h (by omega)
  have htd : (1 + (1 + (x : Int))).tdiv 2 = (h : Int) := by
    rw [Int.tdiv_eq_ediv_of_nonneg (by omega), ← hh]
    omega
  have H1 := fun w => into13 a 9 w (by omega) (by omega)
  have H2 := fun w => into13 b 8 w (by omega) (by omega)
  have H3 := fun w => into13 d 64 w (by omega) (by omega)
  have H4 := fun w => into13 c h w (by omega) (by omega)
  rw [show ((9 : Nat) : Int) = 9 from rfl] at hx
  rw [show ((8 : Nat) : Int) = 8 from rfl] at hy
  rw [show ((64 : Nat) : Int) = 64 from rfl] at hz
  rw [hx] at H1
  rw [hy] at H2
  rw [hz] at H3
  rw [hu] at H4
  have hh5 : h ≤ 5 := by omega
  have hu5 : u ≤ 5 := by omega
  have HX := Lib.hid (And.intro hx (And.intro hy (And.intro hz (And.intro hu hh))))
  clear hx hy hz hu hh
  by_cases hc7 : 7 < 1 + 2 * u
  · have q7 : (7 : Int) < 1 + 2 * (u : Int) := by omega
    go_enter Try.func58, Try.ntmps58
    go_wp2_with (go_at_call 33; first | ((with_reducible refine (H1 _).mono ?_); rintro e w9 ⟨rfl, rfl⟩) | ((with_reducible refine (H2 _).mono ?_); rintro e w9 ⟨rfl, rfl⟩) | ((with_reducible refine (H3 _).mono ?_); rintro e w9 ⟨rfl, rfl⟩) | ((with_reducible refine (H4 _).mono ?_); rintro e w9 ⟨rfl, rfl⟩))
    refine bodyPost_ret (v := .agg #[.int .i64 (1 + (x : Int)), .int .i64 (1 + (y : Int)), .int .i64 (7), .int .i64 1, .int .i64 16, .int .i64 (1 + (z : Int)), .int .i64 64, .int .i64 100, .slice none 0 0]) (by simp [results, Try.results58, go_sem]) rfl ⟨1 + x, 1 + y, 7, 1 + z, ?_, ?_, by have hy := HX.out.2.1; omega, ((Below.refl _ _).alloc (Nat.le_refl _) _).alloc (by simp) _⟩
    · simp [confV]
    · have hh := HX.out.2.2.2.2
      exact ⟨by omega, by omega, by omega, by omega⟩
  · have q7 : ¬ (7 : Int) < 1 + 2 * (u : Int) := by omega
    go_enter Try.func58, Try.ntmps58
    go_wp2_with (go_at_call 33; first | ((with_reducible refine (H1 _).mono ?_); rintro e w9 ⟨rfl, rfl⟩) | ((with_reducible refine (H2 _).mono ?_); rintro e w9 ⟨rfl, rfl⟩) | ((with_reducible refine (H3 _).mono ?_); rintro e w9 ⟨rfl, rfl⟩) | ((with_reducible refine (H4 _).mono ?_); rintro e w9 ⟨rfl, rfl⟩))
    refine bodyPost_ret (v := .agg #[.int .i64 (1 + (x : Int)), .int .i64 (1 + (y : Int)), .int .i64 (1 + 2 * (u : Int)), .int .i64 1, .int .i64 16, .int .i64 (1 + (z : Int)), .int .i64 64, .int .i64 100, .slice none 0 0]) (by simp [results, Try.results58, go_sem]) rfl ⟨1 + x, 1 + y, 1 + 2 * u, 1 + z, ?_, ?_, by have hy := HX.out.2.1; omega, ((Below.refl _ _).alloc (Nat.le_refl _) _).alloc (by simp) _⟩
    · simp [confV]
    · have hh := HX.out.2.2.2.2
      exact ⟨by omega, by omega, by omega, by omega⟩
end Go.Proofs.Ytbgojhjlmlbfpaa
