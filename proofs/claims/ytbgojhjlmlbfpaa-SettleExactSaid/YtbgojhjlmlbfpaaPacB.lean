/- (As PaceB, without Wait and into, for a seat that lacks these.) What each method of a pace does to its block, as contracts: a walk a method and a way. -/
import Derived.Test.YtbgojhjlmlbfpaaPaceA
namespace Go.Proofs.Ytbgojhjlmlbfpaa
open Go.RowKit

theorem only_two (w : World) (b : Nat) (c l g l' gg : Int) (s : Bool) (h : w.heap[b]? = some (paceObj b c l g s)) (g' : Int) (e : g' = gg) :
    OnlyB w (((w.setCell ⟨b, 1, none⟩ (.int .i64 l')).setCell ⟨b, 2, none⟩ (.int .i64 g')).drew) b (paceObj b c l' gg s) :=
  e ▸ (((OnlyB.refl h).set (lt_of_obj h) 1 _).set (lt_of_obj h) 2 _).drew
theorem only_three (w : World) (b : Nat) (c l g l' gg : Int) (s s' : Bool) (h : w.heap[b]? = some (paceObj b c l g s)) (g' : Int) (e : g' = gg) :
    OnlyB w (((w.setCell ⟨b, 1, none⟩ (.int .i64 l')).setCell ⟨b, 2, none⟩ (.int .i64 g')).setCell ⟨b, 3, none⟩ (paceFn b s')) b (paceObj b c l' gg s') :=
  e ▸ (((OnlyB.refl h).set (lt_of_obj h) 1 _).set (lt_of_obj h) 2 _).set (lt_of_obj h) 3 _

theorem pace_send (b : Nat) (c l g : Int) (w : World) (h : w.heap[b]? = some (paceObj b c l g true)) (hg1 : 1 ≤ g) (hg2 : g ≤ 64) (hc : 1 ≤ c) (hc2 : c ≤ 64) :
    Calls Try.prog 102 #[.pointer (some ⟨b, 0, none⟩)] w fun e w' => e = .returned (.bool true) ∧ OnlyB w w' b (paceObj b c g (min (2 * g) c) (decide (g ≤ 1))) := by
  have h0 := cell_of_obj h 0
  have h1 := cell_of_obj h 1
  have h2 := cell_of_obj h 2
  have h3 := cell_of_obj h 3
  have f1 := free_of_obj h 1
  have f2 := free_of_obj h 2
  have f3 := free_of_obj h 3
  have o2 := only_two w b c l g g (min (2 * g) c) true h
  have o3 := only_three w b c l g g (min (2 * g) c) true false h
  have H2 := Lib.hid o2
  have H3 := Lib.hid o3
  simp at h0 h1 h2 h3
  clear h o2 o3
  by_cases hg : g ≤ 1
  · rw [show decide (g ≤ 1) = true by simp [hg]]
    go_enter Try.func102, Try.ntmps102
    go_wp2
    go_region
    all_goals go_wp2
    all_goals go_ret
    all_goals exact ⟨rfl, H2.out _ (by omega)⟩
  · rw [show decide (g ≤ 1) = false by simp [hg]]
    have hmf : ∀ (fn : Fn) (first cap : Array Value) (w : World), (Instr.makeFunc fn first cap).run Try.prog w = .ok (.func fn first cap) w := fun _ _ _ _ => rfl
    go_enter Try.func102, Try.ntmps102
    go_wp2
    go_region
    all_goals go_wp2
    all_goals go_ret
    all_goals exact ⟨rfl, (H3.out _ (by omega)).drew⟩

theorem pace_wait_ (b : Nat) (c l g : Int) (w : World) (h : w.heap[b]? = some (paceObj b c l g false)) (hl1 : 2 ≤ l) (hl2 : l ≤ 64) :
    Calls Try.prog 128 #[.pointer (some ⟨b, 0, none⟩)] w fun e w' => e = .returned (.bool false) ∧ OnlyB w w' b (paceObj b c (l - 1) g (decide (l - 1 ≤ 1))) := by
  have h1 := cell_of_obj h 1
  have h3 := cell_of_obj h 3
  have f1 := free_of_obj h 1
  have f3 := free_of_obj h 3
  have o1 := (OnlyB.refl h).set (lt_of_obj h) 1 (.int .i64 (l - 1))
  have o2 := o1.set (lt_of_obj h) 3 (paceFn b true)
  have H1 : Hid (OnlyB w _ b (paceObj b c (l - 1) g false)) := Lib.hid o1
  have H2 : Hid (OnlyB w _ b (paceObj b c (l - 1) g true)) := Lib.hid o2
  simp at h1 h3
  clear h o1 o2
  by_cases hg : l = 2
  · rw [show decide (l - 1 ≤ 1) = true by simp; omega]
    have hmf : ∀ (fn : Fn) (first cap : Array Value) (w : World), (Instr.makeFunc fn first cap).run Try.prog w = .ok (.func fn first cap) w := fun _ _ _ _ => rfl
    have ht : (l - 1 == 1) = true := beq_iff_eq.2 (by omega)
    clear hg
    go_enter Try.func128, Try.ntmps128
    go_wp2
    go_ret
    exact ⟨rfl, H2.out⟩
  · rw [show decide (l - 1 ≤ 1) = false by simp; omega]
    have ht : (l - 1 == 1) = false := beq_eq_false_iff_ne.2 (by omega)
    clear hg
    go_enter Try.func128, Try.ntmps128
    go_wp2
    go_ret
    exact ⟨rfl, H1.out⟩

theorem pace_reset (b : Nat) (c l g : Int) (s : Bool) (w : World) (h : w.heap[b]? = some (paceObj b c l g s)) :
    Calls Try.prog 67 #[.pointer (some ⟨b, 0, none⟩)] w fun e w' => e = .returned (.tuple #[]) ∧ OnlyB w w' b (paceObj b c 0 1 true) := by
  have h1 := cell_of_obj h 1
  have h2 := cell_of_obj h 2
  have h3 := cell_of_obj h 3
  have f1 := free_of_obj h 1
  have f2 := free_of_obj h 2
  have f3 := free_of_obj h 3
  have H3 := Lib.hid (only_three w b c l g 0 1 s true h 1 rfl)
  simp at h1 h2 h3
  clear h
  have hmf : ∀ (fn : Fn) (first cap : Array Value) (w : World), (Instr.makeFunc fn first cap).run Try.prog w = .ok (.func fn first cap) w := fun _ _ _ _ => rfl
  go_enter Try.func67, Try.ntmps67
  go_wp2
  go_end0
  exact ⟨rfl, H3.out⟩
end Go.Proofs.Ytbgojhjlmlbfpaa
