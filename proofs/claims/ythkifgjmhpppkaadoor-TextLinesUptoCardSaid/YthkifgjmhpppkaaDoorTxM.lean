/- text.small, text.Check: the walks. -/
import Derived.Test.YthkifgjmhpppkaaDoorTxL
import Derived.Deep.MidRow
namespace Go.Proofs.YthkifgjmhpppkaaDoor
open Go.RowKit

def capsV : List Value := [.int .i32 65, .int .i32 90, .int .i32 192, .int .i32 214, .int .i32 216, .int .i32 222]
theorem caps_range {w : World} (hT : Tabs w) : w.rangeAt 2 0 capsV := fun j v hv => by
  have h := hT.caps
  rw [Nat.zero_add]
  match j, hv with
  | 0, hv => rw [h 0 65 rfl]; simpa [capsV] using hv
  | 1, hv => rw [h 1 90 rfl]; simpa [capsV] using hv
  | 2, hv => rw [h 2 192 rfl]; simpa [capsV] using hv
  | 3, hv => rw [h 3 214 rfl]; simpa [capsV] using hv
  | 4, hv => rw [h 4 216 rfl]; simpa [capsV] using hv
  | 5, hv => rw [h 5 222 rfl]; simpa [capsV] using hv
  | j + 6, hv => simp [capsV] at hv
def SmallRel (w : World) (c : Nat) (iv : Value) (wr : World) : Prop := ∃ i : Nat, iv = .int .i64 i ∧ i ≤ 3 ∧ Below w.heap.size w wr ∧ (0 < i → ¬ (65 ≤ c ∧ c ≤ 90)) ∧ (1 < i → ¬ (192 ≤ c ∧ c ≤ 214)) ∧ (2 < i → ¬ (216 ≤ c ∧ c ≤ 222))
theorem small_ret (c : Nat) : Ending.returned (.int .i32 ((c : Int) + 32)) = .returned (.int .i32 ((c + 32 : Nat) : Int)) := by simp
def SmallEnd (w : World) (c : Nat) (e : Ending) (w' : World) : Prop := e = .returned (.int .i32 (smallN c : Nat)) ∧ Below w.heap.size w w'
set_option maxRecDepth 100000 in
theorem small_any (c : Nat) (w : World) (hT : Tabs w) (hc : c ≤ 1114111) : Calls Tryd.prog 42 #[.int .i32 (c : Int)] w (SmallEnd w c) := by
  have hx0 : ∀ w, (Instr.index 101 (.agg #[.int .i32 65, .int .i32 90, .int .i32 192, .int .i32 214, .int .i32 216, .int .i32 222]) (.int .i64 0)).run Tryd.prog w = .ok (.agg #[.int .i32 65, .int .i32 90]) w := fun _ => by kernel_rfl
  have hx1 : ∀ w, (Instr.index 101 (.agg #[.int .i32 65, .int .i32 90, .int .i32 192, .int .i32 214, .int .i32 216, .int .i32 222]) (.int .i64 1)).run Tryd.prog w = .ok (.agg #[.int .i32 192, .int .i32 214]) w := fun _ => by kernel_rfl
  have hx2 : ∀ w, (Instr.index 101 (.agg #[.int .i32 65, .int .i32 90, .int .i32 192, .int .i32 214, .int .i32 216, .int .i32 222]) (.int .i64 2)).run Tryd.prog w = .ok (.agg #[.int .i32 216, .int .i32 222]) w := fun _ => by kernel_rfl
  have hR := caps_range hT
  have b0 : (0 : Int) ≤ (c : Int) := by omega
  have b1 : (c : Int) ≤ 1114111 := by omega
  have HX0 := Lib.hid hx0
  have HX1 := Lib.hid hx1
  have HX2 := Lib.hid hx2
  clear hx0 hx1 hx2
  go_enter Tryd.func42, Tryd.ntmps42
  go_wp2_with (refine wpList_load_mid rfl 101 (.global 2) rfl 2 0 rfl capsV _ hR Tryd.underlying101 rfl (by kernel_rfl) ?_)
  unfold capsV
  go_loopw [6] (fun iv wr => SmallRel w c iv wr) (fun iv _ => (3 - intOf iv).toNat)
  case atStart => exact ⟨0, rfl, by omega, Below.refl _ _, by omega, by omega, by omega⟩
  case round =>
    obtain ⟨i, rfl, hi, hb, r0, r1, r2⟩ := hrel
    have HF := Lib.hid (And.intro r0 (And.intro r1 r2))
    clear r0 r1 r2
    have hi4 : i = 0 ∨ i = 1 ∨ i = 2 ∨ i = 3 := by omega
    rcases hi4 with rfl | rfl | rfl | rfl
    · have hx := HX0.out
      by_cases h1 : 65 ≤ c
      · by_cases h2 : c ≤ 90
        · have q1 : (65 : Int) ≤ (c : Int) := by omega
          have q2 : (c : Int) ≤ 90 := by omega
          have HS := Lib.hid (show smallN c = c + 32 from if_pos (.inl ⟨h1, h2⟩))
          clear h1 h2
          go_wp2
          go_ret
          exact ⟨by rw [HS.out]; exact small_ret c, hb.alloc hb.size _⟩
        · have q1 : (65 : Int) ≤ (c : Int) := by omega
          have q2 : ¬ (c : Int) ≤ 90 := by omega
          have HN := Lib.hid (show ¬ (65 ≤ c ∧ c ≤ 90) from fun h => h2 h.2)
          clear h1 h2
          go_wp2
          go_roundw
          case rel => exact ⟨1, rfl, by omega, hb.alloc hb.size _, fun _ => HN.out, fun h => by omega, fun h => by omega⟩
          case measure => simp [intOf]
      · have q1 : ¬ (65 : Int) ≤ (c : Int) := by omega
        have HN := Lib.hid (show ¬ (65 ≤ c ∧ c ≤ 90) from fun h => h1 h.1)
        clear h1
        go_wp2
        go_roundw
        case rel => exact ⟨1, rfl, by omega, hb.alloc hb.size _, fun _ => HN.out, fun h => by omega, fun h => by omega⟩
        case measure => simp [intOf]
    · have hx := HX1.out
      by_cases h1 : 192 ≤ c
      · by_cases h2 : c ≤ 214
        · have q1 : (192 : Int) ≤ (c : Int) := by omega
          have q2 : (c : Int) ≤ 214 := by omega
          have HS := Lib.hid (show smallN c = c + 32 from if_pos (.inr (.inl ⟨h1, h2⟩)))
          clear h1 h2
          go_wp2
          go_ret
          exact ⟨by rw [HS.out]; exact small_ret c, hb.alloc hb.size _⟩
        · have q1 : (192 : Int) ≤ (c : Int) := by omega
          have q2 : ¬ (c : Int) ≤ 214 := by omega
          have HN := Lib.hid (show ¬ (192 ≤ c ∧ c ≤ 214) from fun h => h2 h.2)
          clear h1 h2
          go_wp2
          go_roundw
          case rel => exact ⟨2, rfl, by omega, hb.alloc hb.size _, fun _ => HF.out.1 (by omega), fun _ => HN.out, fun h => by omega⟩
          case measure => simp [intOf]
      · have q1 : ¬ (192 : Int) ≤ (c : Int) := by omega
        have HN := Lib.hid (show ¬ (192 ≤ c ∧ c ≤ 214) from fun h => h1 h.1)
        clear h1
        go_wp2
        go_roundw
        case rel => exact ⟨2, rfl, by omega, hb.alloc hb.size _, fun _ => HF.out.1 (by omega), fun _ => HN.out, fun h => by omega⟩
        case measure => simp [intOf]
    · have hx := HX2.out
      by_cases h1 : 216 ≤ c
      · by_cases h2 : c ≤ 222
        · have q1 : (216 : Int) ≤ (c : Int) := by omega
          have q2 : (c : Int) ≤ 222 := by omega
          have HS := Lib.hid (show smallN c = c + 32 from if_pos (.inr (.inr ⟨h1, h2⟩)))
          clear h1 h2
          go_wp2
          go_ret
          exact ⟨by rw [HS.out]; exact small_ret c, hb.alloc hb.size _⟩
        · have q1 : (216 : Int) ≤ (c : Int) := by omega
          have q2 : ¬ (c : Int) ≤ 222 := by omega
          have HN := Lib.hid (show ¬ (216 ≤ c ∧ c ≤ 222) from fun h => h2 h.2)
          clear h1 h2
          go_wp2
          go_roundw
          case rel => exact ⟨3, rfl, by omega, hb.alloc hb.size _, fun _ => HF.out.1 (by omega), fun _ => HF.out.2.1 (by omega), fun _ => HN.out⟩
          case measure => simp [intOf]
      · have q1 : ¬ (216 : Int) ≤ (c : Int) := by omega
        have HN := Lib.hid (show ¬ (216 ≤ c ∧ c ≤ 222) from fun h => h1 h.1)
        clear h1
        go_wp2
        go_roundw
        case rel => exact ⟨3, rfl, by omega, hb.alloc hb.size _, fun _ => HF.out.1 (by omega), fun _ => HF.out.2.1 (by omega), fun _ => HN.out⟩
        case measure => simp [intOf]
    · have HS := Lib.hid (show smallN c = c from if_neg (fun h => by
        rcases h with h | h | h
        · exact HF.out.1 (by omega) h
        · exact HF.out.2.1 (by omega) h
        · exact HF.out.2.2 (by omega) h))
      go_wp2
      go_ret
      exact ⟨by rw [HS.out]; rfl, hb⟩
end Go.Proofs.YthkifgjmhpppkaaDoor
