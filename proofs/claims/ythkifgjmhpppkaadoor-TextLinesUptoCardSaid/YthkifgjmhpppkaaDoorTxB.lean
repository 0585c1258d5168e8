/- text.figures: one digit or more, and nothing else. -/
import Derived.Test.YthkifgjmhpppkaaDoorTxA
import Derived.Laws.RangeAny
import Derived.Lib.Hide
import Derived.Outline
namespace Go.Proofs.YthkifgjmhpppkaaDoor
open Go.RowKit

def digB (b : UInt8) : Bool := decide (48 ≤ b.toNat) && decide (b.toNat ≤ 57)
def figsL (l : List UInt8) : Bool := !l.isEmpty && l.all digB
theorem below_iter (w : World) (s : ByteArray) (pos : Nat) : Below w.heap.size w (w.iter s pos) := (Below.refl _ _).alloc (Nat.le_refl _) _
theorem figs_no {s : ByteArray} {k : Nat} (hk : k < s.size) (h : digB s[k] = false) : figsL s.data.toList = false := by
  unfold figsL
  have : s.data.toList.all digB = false := by
    rw [List.all_eq_false]
    exact ⟨s[k], by rw [← Array.mem_def]; exact Array.getElem_mem _, by rw [h]; simp⟩
  rw [this, Bool.and_false]
theorem figs_yes {s : ByteArray} (h0 : 0 < s.size) (h : ∀ k (hk : k < s.size), digB s[k] = true) : figsL s.data.toList = true := by
  unfold figsL
  have h1 : s.data.toList.all digB = true := by
    rw [List.all_eq_true]
    intro x hx
    obtain ⟨k, hk, rfl⟩ := List.mem_iff_getElem.1 hx
    exact h k (by simpa using hk)
  have h2 : s.data.toList.isEmpty = false := by
    cases hl : s.data.toList with
    | nil => have : s.data.toList.length = s.size := rfl; rw [hl] at this; simp at this; omega
    | cons _ _ => rfl
  rw [h1, h2]
  rfl
def FigRel (w : World) (s : ByteArray) (wr : World) : Prop := ∃ pos, wr = w.iter s pos ∧ pos ≤ s.size ∧ ∀ k (hk : k < s.size), k < pos → digB s[k] = true
def Says (b : Bool) (w : World) (e : Ending) (w' : World) : Prop := e = .returned (.bool b) ∧ Below w.heap.size w w'
set_option maxRecDepth 100000 in
theorem figures_any (s : ByteArray) (w : World) : Calls Tryd.prog 30 #[.string s] w (Says (figsL s.data.toList) w) := by
  go_enter Tryd.func30, Tryd.ntmps30
  go_wp2
  go_loopw [] (fun wr => FigRel w s wr) (fun wr => s.size - wr.iterPos w.heap.size)
  case atStart => exact ⟨0, rfl, Nat.zero_le _, fun k _ h => by omega⟩
  case round =>
    obtain ⟨pos, rfl, hle, hall⟩ := hrel
    have HA := Lib.hid hall
    clear hall
    by_cases hp : pos < s.size
    · by_cases ha : (s[pos]'hp).toNat < 128
      · have hnx : ∀ ty, (Instr.next (.pointer (some ⟨w.heap.size, 0, none⟩)) true ty).run Tryd.prog (w.iter s pos) = _ := fun ty => run_next_ascii w s pos ty hp ha
        by_cases hd : 48 ≤ (s[pos]'hp).toNat ∧ (s[pos]'hp).toNat ≤ 57
        · have q1 : ¬ (((s[pos]'hp).toNat : Nat) : Int) < 48 := by omega
          have q2 : ¬ (57 : Int) < (((s[pos]'hp).toNat : Nat) : Int) := by omega
          go_wp2
          go_roundw
          case rel =>
            refine ⟨pos + 1, rfl, by omega, fun k hk hlt => ?_⟩
            by_cases hkp : k = pos
            · subst hkp
              unfold digB
              simp
              omega
            · exact HA.out k hk (by omega)
          case measure =>
            simp
            omega
        · have hno : digB (s[pos]'hp) = false := by
            unfold digB
            simp
            omega
          have HF := Lib.hid (figs_no hp hno)
          clear hno
          by_cases q1 : (((s[pos]'hp).toNat : Nat) : Int) < 48
          · go_wp2
            go_ret
            exact ⟨by rw [HF.out]; rfl, below_iter _ _ _⟩
          · have q2 : (57 : Int) < (((s[pos]'hp).toNat : Nat) : Int) := by omega
            go_wp2
            go_ret
            exact ⟨by rw [HF.out]; rfl, below_iter _ _ _⟩
      · have hnx : ∀ ty, (Instr.next (.pointer (some ⟨w.heap.size, 0, none⟩)) true ty).run Tryd.prog (w.iter s pos) = _ := fun ty => run_next_any w s pos ty hp
        have hh := decode_high s pos hp (by omega)
        have hno : digB (s[pos]'hp) = false := by
          unfold digB
          simp
          omega
        have HF := Lib.hid (figs_no hp hno)
        clear hno
        have q1 : ¬ (((Utf8.decode s pos).1 : Nat) : Int) < 48 := by omega
        have q2 : (57 : Int) < (((Utf8.decode s pos).1 : Nat) : Int) := by omega
        go_wp2
        go_ret
        exact ⟨by rw [HF.out]; rfl, below_iter _ _ _⟩
    · have hnx : ∀ ty, (Instr.next (.pointer (some ⟨w.heap.size, 0, none⟩)) true ty).run Tryd.prog (w.iter s pos) = _ := fun ty => run_next_end w s pos ty hp
      rcases Nat.eq_zero_or_pos s.size with h0 | h0
      · have h1 : s.data.toList = [] := List.eq_nil_of_length_eq_zero h0
        have he : s.toList = [] := by rw [Lib.toList_data, h1]
        have HF := Lib.hid (show figsL s.data.toList = false from by unfold figsL; rw [h1]; rfl)
        clear h1
        go_wp2
        go_ret
        exact ⟨by rw [HF.out]; rfl, below_iter _ _ _⟩
      · have h1 : s.toList.isEmpty = false := by
          rw [Lib.toList_data]
          cases hl : s.data.toList with
          | nil => have h2 : s.data.toList.length = s.size := rfl; rw [hl] at h2; simp at h2; omega
          | cons _ _ => rfl
        have HF := Lib.hid (figs_yes h0 (fun k hk => HA.out k hk (by omega)))
        go_wp2
        go_ret
        exact ⟨by rw [HF.out]; rfl, below_iter _ _ _⟩
end Go.Proofs.YthkifgjmhpppkaaDoor
