/- text.quoted: the walk. -/
import Derived.Test.YthkifgjmhpppkaaDoorTxI
namespace Go.Proofs.YthkifgjmhpppkaaDoor
open Go.RowKit

/-- What quoted answers. -/
def quoS (s : ByteArray) : ByteArray × Nat := match quoN false [] 0 (s.data.toList.drop 1) with
  | none => (⟨#[]⟩, 0)
  | some (a, n) => (⟨a.toArray⟩, n)
theorem quoS_none {s : ByteArray} (h : quoN false [] 0 (s.data.toList.drop 1) = none) : quoS s = (⟨#[]⟩, 0) := by
  unfold quoS
  rw [h]
theorem quoS_some {s : ByteArray} {a : List UInt8} {n : Nat} (h : quoN false [] 0 (s.data.toList.drop 1) = some (a, n)) : quoS s = (⟨a.toArray⟩, n) := by
  unfold quoS
  rw [h]
def QuoEnd (s : ByteArray) (w : World) (e : Ending) (w' : World) : Prop := e = .returned (.tuple #[.string (quoS s).1, .int .i64 (quoS s).2]) ∧ Below w.heap.size w w'
def QuoRel (w : World) (t : ByteArray) (ev : Value) (wr : World) : Prop :=
  ∃ (pos : Nat) (esc : Bool) (acc : List UInt8), ev = .bool esc ∧ Lib.IsBuilderF 70 5 w.heap.size w.heap.size (Lib.byteCells acc) wr ∧ wr.heap[w.heap.size + 1]? = some (.stringIter t pos) ∧ Below w.heap.size w wr ∧ pos ≤ t.size ∧
    Lib.validD (t.data.toList.drop pos) = true ∧ quoN false [] 0 t.data.toList = quoN esc acc pos (t.data.toList.drop pos) ∧ acc.length ≤ pos
set_option maxRecDepth 100000 in
set_option maxHeartbeats 4000000 in
theorem quoted_any (s : ByteArray) (w : World) (h1 : 1 ≤ s.size) (hs : s.size ≤ 1048576) (hv : Lib.validD (s.data.toList.drop 1) = true) : Calls Tryd.prog 37 #[.string s] w (QuoEnd s w) := by
  have HQ := Lib.hid (And.intro (@quoS_none s) (fun a n => @quoS_some s a n))
  obtain ⟨t, ht⟩ : ∃ t, s.extract 1 s.size = t := ⟨_, rfl⟩
  have htl : s.data.toList.drop 1 = t.data.toList := by rw [← ht, Lib.extract_to_end]
  rw [htl] at hv HQ
  have hts : t.size ≤ 1048576 := by
    have e : t.data.toList.length = t.size := rfl
    have e2 : s.data.toList.length = s.size := rfl
    rw [← e, ← htl, List.length_drop]
    omega
  have HT := Lib.hid ht
  have HV := Lib.hid hv
  clear ht htl hv
  have b9 : (1 : Int) ≤ (s.size : Int) := by omega
  go_enter Tryd.func37, Tryd.ntmps37
  go_wp2
  rw [HT.out]
  go_loopw [5] (fun ev wr => QuoRel w t ev wr) (fun _ wr => t.size - wr.iterPos (w.heap.size + 1))
  case atStart =>
    refine ⟨0, false, [], rfl, (Lib.IsBuilderF.of (Lib.fresh_isBuilder 70 5 w)).alloc _, ?_, ((Below.refl _ w).alloc (Nat.le_refl _) _).alloc (by simp) _, by omega, by simpa using HV.out, by simp, by simp⟩
    have := World.iter_heap (w.alloc (.cells #[.pointer none, .slice none 0 0] 70)) t 0
    simpa using this
  case round =>
    obtain ⟨pos, esc, acc, rfl, hI, hit, hbw, hle, hval, hq, hal⟩ := hrel
    have HVL := Lib.hid hval
    have HE := Lib.hid hq
    have hsz : w.heap.size + 1 < wr.heap.size := (Array.getElem?_eq_some_iff.1 hit).1
    clear hval hq
    by_cases hp : pos < t.size
    · obtain ⟨c, k, hck, hD, hk⟩ := dec_at t pos hp
      have hnx : ∀ ty, (Instr.next (.pointer (some ⟨w.heap.size + 1, 0, none⟩)) true ty).run Tryd.prog wr = _ := fun ty => Lib.run_next_any_at wr (w.heap.size + 1) t pos ty hit hp
      rw [hck] at hnx
      dsimp only at hnx
      have HD := Lib.hid hD
      have HW := Lib.hid (hD.valid (drop_ne hp) HVL.out)
      have hk1 := hD.one
      have hcm := hD.max
      clear hD hck
      have hI2 := hI.iterAt hit (pos + k)
      have hit2 := Lib.iterAt_heap wr (w.heap.size + 1) t pos (pos + k) hit
      have hbw2 := Lib.below_iterAt hbw (k := w.heap.size + 1) (by omega) t (pos + k)
      have hsz2 : w.heap.size + 1 < (wr.iterAt (w.heap.size + 1) t (pos + k)).heap.size := by rw [Lib.iterAt_size]; omega
      have HIP := Lib.hid (show wr.iterPos (w.heap.size + 1) = pos from by simp only [World.iterPos, hit])
      clear hI hit
      generalize wr.iterAt (w.heap.size + 1) t (pos + k) = w1 at hnx hI2 hit2 hbw2 hsz2
      have b0 : (0 : Int) ≤ (c : Int) := by omega
      have b1 : (c : Int) ≤ 1114111 := by omega
      have b2 : (pos : Int) ≤ 1048576 := by omega
      have b3 : (0 : Int) ≤ (pos : Int) := by omega
      have HVN : Hid (Lib.validD (t.data.toList.drop (pos + k)) = true) := by
        refine Lib.hid ?_
        have := HW.out.2
        rw [List.drop_drop] at this
        exact this
      have hWR := writeRune_k w.heap.size w.heap.size (Lib.byteCells acc) (c : Int) (by omega) (by omega) w1 hI2 (by rw [Lib.byteCells_length]; omega) (by omega)
      have HWR : Hid (Calls Tryd.prog 41 #[.pointer (some ⟨w.heap.size, 0, none⟩), .int .i32 (c : Int)] w1 fun e w' => e = .returned (.tuple #[.int .i64 (Lib.runeCells (c : Int)).length, .nilIface]) ∧ (Lib.IsBuilderF 70 5 w.heap.size w.heap.size (Lib.byteCells (acc ++ (t.data.toList.drop pos).take k)) w' ∧ Below w.heap.size w1 w' ∧ w'.heap[w.heap.size + 1]? = some (.stringIter t (pos + k)))) := by
        refine Lib.hid (hWR.mono fun e w' ⟨h1, h2, h3, h4⟩ => ⟨h1, ?_, h3, h4.iter hit2 (by omega)⟩)
        rw [Lib.byteCells_append, ← HD.out.enc (drop_ne hp) HW.out.1, Lib.byteCells_encodeRune]
        exact .inr h2
      have hkl : ((t.data.toList.drop pos).take k).length = k := by
        have := HD.out.le
        rw [List.length_take]
        omega
      clear hWR
      cases esc with
      | true =>
        by_cases hok : c = 34 ∨ c = 92
        · have HN := Lib.hid (show quoN false [] 0 t.data.toList = quoN false (acc ++ (t.data.toList.drop pos).take k) (pos + k) (t.data.toList.drop (pos + k)) from by
            rw [HE.out, HD.out.quoE, if_pos hok, List.drop_drop])
          rcases hok with h | h
          · have q1 : ((c : Int) != 34) = false := by simp; omega
            clear h
            go_wp2_with (go_at_call 41; (with_reducible refine HWR.out.mono ?_); rintro e w2 ⟨rfl, hI3, hb3, hit3⟩)
            go_roundw
            case rel => exact ⟨pos + k, false, _, rfl, hI3, hit3, hbw2.trans hb3, hk, HVN.out, HN.out, by rw [List.length_append]; omega⟩
            case measure =>
              rw [HIP.out]
              simp only [World.iterPos, hit3]
              omega
          · have q1 : ((c : Int) != 34) = true := by simp; omega
            have q2 : ((c : Int) != 92) = false := by simp; omega
            clear h
            go_wp2_with (go_at_call 41; (with_reducible refine HWR.out.mono ?_); rintro e w2 ⟨rfl, hI3, hb3, hit3⟩)
            go_roundw
            case rel => exact ⟨pos + k, false, _, rfl, hI3, hit3, hbw2.trans hb3, hk, HVN.out, HN.out, by rw [List.length_append]; omega⟩
            case measure =>
              rw [HIP.out]
              simp only [World.iterPos, hit3]
              omega
        · have HR := Lib.hid (HQ.out.1 (by rw [HE.out, HD.out.quoE, if_neg hok]))
          have q1 : ((c : Int) != 34) = true := by simp; omega
          have q2 : ((c : Int) != 92) = true := by simp; omega
          clear hok
          go_wp2_with fail
          go_ret2
          exact ⟨by rw [HR.out]; rfl, hbw2⟩
      | false =>
        by_cases h92 : c = 92
        · have HN := Lib.hid (show quoN false [] 0 t.data.toList = quoN true acc (pos + k) (t.data.toList.drop (pos + k)) from by
            rw [HE.out, HD.out.quo, if_pos h92, List.drop_drop])
          have q1 : ((c : Int) == 92) = true := by simp; omega
          clear h92
          go_wp2_with fail
          go_roundw
          case rel => exact ⟨pos + k, true, _, rfl, hI2, hit2, hbw2, hk, HVN.out, HN.out, by omega⟩
          case measure =>
            rw [HIP.out]
            simp only [World.iterPos, hit2]
            omega
        · have q1 : ((c : Int) == 92) = false := by rw [beq_eq_false_iff_ne]; omega
          by_cases h34 : c = 34
          · have HR := Lib.hid (HQ.out.2 acc (pos + 2) (by rw [HE.out, HD.out.quo, if_neg h92, if_pos h34]))
            have q2 : ((c : Int) == 34) = true := by simp; omega
            clear h92 h34
            go_wp2_with (go_at_call 43; (with_reducible refine (Tryd.Builder_String_any_k w.heap.size w.heap.size acc _ hI2 (by omega)).mono ?_); rintro e w2 ⟨rfl, _, hb3, _⟩)
            go_ret2
            exact ⟨by rw [HR.out]; rfl, hbw2.trans hb3⟩
          · have q2 : ((c : Int) == 34) = false := by rw [beq_eq_false_iff_ne]; omega
            cases hpl : plainN c with
            | false =>
              have HR := Lib.hid (HQ.out.1 (by rw [HE.out, HD.out.quo, if_neg h92, if_neg h34, hpl, if_neg (by decide)]))
              have HP := Lib.hid hpl
              clear h92 h34 hpl
              go_wp2_with (go_at_call 55; (with_reducible refine (plain_not c _ hcm HP.out).mono ?_); rintro e w2 ⟨rfl, rfl⟩)
              go_ret2
              exact ⟨by rw [HR.out]; rfl, hbw2⟩
            | true =>
              have HN := Lib.hid (show quoN false [] 0 t.data.toList = quoN false (acc ++ (t.data.toList.drop pos).take k) (pos + k) (t.data.toList.drop (pos + k)) from by
                rw [HE.out, HD.out.quo, if_neg h92, if_neg h34, hpl, if_pos rfl, List.drop_drop])
              have HP := Lib.hid hpl
              clear h92 h34 hpl
              go_wp2_with (first | (go_at_call 55; (with_reducible refine (plain_yes c _ hcm HP.out).mono ?_); rintro e w2 ⟨rfl, rfl⟩) | (go_at_call 41; (with_reducible refine HWR.out.mono ?_); rintro e w2 ⟨rfl, hI3, hb3, hit3⟩))
              go_roundw
              case rel => exact ⟨pos + k, false, _, rfl, hI3, hit3, hbw2.trans hb3, hk, HVN.out, HN.out, by rw [List.length_append]; omega⟩
              case measure =>
                rw [HIP.out]
                simp only [World.iterPos, hit3]
                omega
    · have hnx : ∀ ty, (Instr.next (.pointer (some ⟨w.heap.size + 1, 0, none⟩)) true ty).run Tryd.prog wr = _ := fun ty => Lib.run_next_end_at wr (w.heap.size + 1) t pos ty hit hp
      have hd : t.data.toList.drop pos = [] := List.drop_of_length_le (show t.size ≤ pos by omega)
      have HR := Lib.hid (HQ.out.1 (by rw [HE.out, hd]; cases esc <;> rfl))
      clear hd
      go_wp2_with fail
      go_ret2
      exact ⟨by rw [HR.out]; rfl, hbw⟩
end Go.Proofs.YthkifgjmhpppkaaDoor
