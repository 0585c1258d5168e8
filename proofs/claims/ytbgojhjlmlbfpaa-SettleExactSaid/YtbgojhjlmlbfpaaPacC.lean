/- (As PaceC, without Wait.) Tick and New of a pace, and how a pace stands in memory ('PaceAt'): what the laws' walks use. -/
import Derived.Test.YtbgojhjlmlbfpaaPacB
import Derived.WalkSmall
namespace Go.Proofs.Ytbgojhjlmlbfpaa
open Go.RowKit

/-- A pace with its cap, left and gap lies in block b. -/
def PaceAt (w : World) (b : Nat) (c l g : Int) : Prop := w.heap[b]? = some (paceObj b c l g (decide (l ≤ 1)))
/-- Only the pace in block b has turned. -/
def Turned (w w' : World) (b : Nat) (c l g : Int) : Prop := OnlyB w w' b (paceObj b c l g (decide (l ≤ 1)))
theorem PaceAt.lt {w : World} {b : Nat} {c l g : Int} (h : PaceAt w b c l g) : b < w.heap.size := lt_of_obj h
theorem Turned.at_ {w w' : World} {b : Nat} {c l g : Int} (h : Turned w w' b c l g) (hb : b < w.heap.size) : PaceAt w' b c l g := OnlyB.at_ h hb
theorem Turned.far {w w' : World} {b : Nat} {c l g : Int} (h : Turned w w' b c l g) {k : Nat} (hk : k ≠ b) : w'.heap[k]? = w.heap[k]? := OnlyB.far h hk
theorem Turned.pace {w w' : World} {b k : Nat} {c l g c1 l1 g1 : Int} (h : Turned w w' b c l g) (hk : k ≠ b) (h1 : PaceAt w k c1 l1 g1) : PaceAt w' k c1 l1 g1 := (h.far hk).trans h1
theorem Turned.below {w w' : World} {b : Nat} {c l g : Int} (h : Turned w w' b c l g) {B : Nat} (hB : B ≤ b) : Below B w w' := OnlyB.below h hB
theorem Turned.size {w w' : World} {b : Nat} {c l g : Int} (h : Turned w w' b c l g) : w'.heap.size = w.heap.size := OnlyB.size h
theorem PaceAt.below {w w' : World} {b B : Nat} {c l g : Int} (h : PaceAt w b c l g) (hb : Below B w w') (hB : b < B) : PaceAt w' b c l g := (hb.block b hB).trans h

theorem reset_at (b : Nat) (c l g : Int) (w : World) (h : PaceAt w b c l g) :
    Calls Try.prog 67 #[.pointer (some ⟨b, 0, none⟩)] w fun e w' => e = .returned (.tuple #[]) ∧ Turned w w' b c 0 1 := pace_reset b c l g _ w h

theorem tick_now (b : Nat) (c l g : Int) (w : World) (h : PaceAt w b c l g) (hl : l ≤ 1) (hg1 : 1 ≤ g) (hg2 : g ≤ 64) (hc : 1 ≤ c) (hc2 : c ≤ 64) :
    Calls Try.prog 62 #[.pointer (some ⟨b, 0, none⟩)] w fun e w' => e = .returned (.bool true) ∧ Turned w w' b c g (min (2 * g) c) := by
  unfold PaceAt at h
  rw [show decide (l ≤ 1) = true by simp [hl]] at h
  have h3 := cell_of_obj h 3
  simp [paceFn] at h3
  have K := pace_send b c l g w h hg1 hg2 hc hc2
  have H := Lib.hid K
  clear h K hl hg1 hg2 hc hc2
  go_enter Try.func62, Try.ntmps62
  go_wp2_with (go_at_call 102; refine (H.out).mono ?_; rintro e w1 ⟨rfl, ho⟩)
  go_ret
  exact ⟨rfl, ho⟩

theorem tick_not (b : Nat) (c l g : Int) (w : World) (h : PaceAt w b c l g) (hl1 : 2 ≤ l) (hl2 : l ≤ 64) :
    Calls Try.prog 62 #[.pointer (some ⟨b, 0, none⟩)] w fun e w' => e = .returned (.bool false) ∧ Turned w w' b c (l - 1) g := by
  unfold PaceAt at h
  rw [show decide (l ≤ 1) = false by simp; omega] at h
  have h3 := cell_of_obj h 3
  simp [paceFn] at h3
  have K := pace_wait_ b c l g w h hl1 hl2
  have H := Lib.hid K
  clear h K hl1 hl2
  go_enter Try.func62, Try.ntmps62
  go_wp2_with (go_at_call 128; refine (H.out).mono ?_; rintro e w1 ⟨rfl, ho⟩)
  go_ret
  exact ⟨rfl, ho⟩

def tickL (l g : Int) : Int := if l ≤ 1 then g else l - 1
def tickG (c l g : Int) : Int := if l ≤ 1 then min (2 * g) c else g
def tickB (l : Int) : Bool := decide (l ≤ 1)
theorem tick_any (b : Nat) (c l g : Int) (w : World) (h : PaceAt w b c l g) (hl2 : l ≤ 64) (hg1 : 1 ≤ g) (hg2 : g ≤ 64) (hc : 1 ≤ c) (hc2 : c ≤ 64) :
    Calls Try.prog 62 #[.pointer (some ⟨b, 0, none⟩)] w fun e w' => e = .returned (.bool (tickB l)) ∧ Turned w w' b c (tickL l g) (tickG c l g) := by
  unfold tickL tickG tickB
  by_cases hl : l ≤ 1
  · rw [if_pos hl, if_pos hl, decide_eq_true hl]; exact tick_now b c l g w h hl hg1 hg2 hc hc2
  · rw [if_neg hl, if_neg hl, decide_eq_false hl]; exact tick_not b c l g w h (by omega) hl2

/-- New at a cap that may be: a new block, and nothing else. -/
def NewPace (w w' : World) (c : Int) : Prop := PaceAt w' w.heap.size c 0 1 ∧ Below w.heap.size w w' ∧ w'.heap.size = w.heap.size + 1
theorem new_pace (w : World) (c : Int) : NewPace w ((w.alloc (.cells #[.int .i64 c, .int .i64 0, .int .i64 1, paceFn w.heap.size true] 177))) c := by
  refine ⟨?_, (Below.refl _ _).alloc (Nat.le_refl _) _, by simp⟩
  unfold PaceAt World.alloc
  simp [paceObj]
theorem pace_new (c : Int) (w : World) (hc : 1 ≤ c) (hc2 : c ≤ 64) :
    Calls Try.prog 59 #[.int .i64 c] w fun e w' => e = .returned (.tuple #[.pointer (some ⟨w.heap.size, 0, none⟩), .int .i64 0]) ∧ NewPace w w' c := by
  have H := Lib.hid (new_pace w c)
  have hmf : ∀ (fn : Fn) (first cap : Array Value) (w : World), (Instr.makeFunc fn first cap).run Try.prog w = .ok (.func fn first cap) w := fun _ _ _ _ => rfl
  go_enter Try.func59, Try.ntmps59
  go_wp2
  go_ret2
  exact ⟨rfl, H.out⟩
end Go.Proofs.Ytbgojhjlmlbfpaa
