/- text.Check, text.Fold: the walks. -/
import Derived.Test.YthkifgjmhpppkaaDoorTxM
namespace Go.Proofs.YthkifgjmhpppkaaDoor
open Go.RowKit

def nameL (l : List UInt8) : Bool := l.all (fun b => nameN b.toNat)
def checkN (l : List UInt8) : Nat := if checkL l = true then 0 else 20
def CheckEnd (w : World) (n : Nat) (e : Ending) (w' : World) : Prop := e = .returned (.int .i64 (n : Int)) ∧ Below w.heap.size w w'
def CheckRel (w1 : World) (s : ByteArray) (wr : World) : Prop := ∃ pos, wr = w1.iter s pos ∧ pos ≤ s.size ∧ nameL s.data.toList = nameL (s.data.toList.drop pos)
theorem checkN_bad {l : List UInt8} (h : ¬ (1 ≤ l.length ∧ l.length ≤ 64 ∧ Lib.validD l = true ∧ nameL l = true)) : checkN l = 20 := by
  unfold checkN
  rw [if_neg]
  intro hc
  apply h
  unfold checkL at hc
  simp only [Bool.and_eq_true, decide_eq_true_iff] at hc
  exact ⟨hc.1.1.1, hc.1.1.2, hc.1.2, hc.2⟩
theorem checkN_good {l : List UInt8} (h1 : 1 ≤ l.length) (h2 : l.length ≤ 64) (h3 : Lib.validD l = true) (h4 : nameL l = true) : checkN l = 0 := by
  unfold checkN
  rw [if_pos]
  unfold checkL
  unfold nameL at h4
  rw [decide_eq_true h1, decide_eq_true h2, h3, h4]
  rfl
theorem Dec.nameStep {l : List UInt8} {c k : Nat} (h : Dec l c k) : nameL l = (nameN c && nameL (l.drop k)) := h.name
set_option maxRecDepth 100000 in
set_option maxHeartbeats 4000000 in
theorem check_any (s : ByteArray) (w : World) (hT : Tabs w) (hs : s.size ≤ 9223372036854775807) : Calls Tryd.prog 23 #[.string s] w (CheckEnd w (checkN s.data.toList)) := by
  have hlen : s.data.toList.length = s.size := rfl
  obtain ⟨N, hN⟩ : ∃ N, checkN s.data.toList = N := ⟨_, rfl⟩
  rw [hN]
  have HN := Lib.hid hN
  clear hN
  by_cases h1 : s.size < 1
  · have HB := Lib.hid (show N = 20 from HN.out.symm.trans (checkN_bad (fun h => by omega)))
    have q1 : (s.size : Int) < 1 := by omega
    clear h1 hlen
    go_enter Tryd.func23, Tryd.ntmps23
    go_wp2
    go_ret
    exact ⟨by rw [HB.out]; rfl, Below.refl _ _⟩
  · have q1 : ¬ (s.size : Int) < 1 := by omega
    by_cases h2 : 64 < s.size
    · have HB := Lib.hid (show N = 20 from HN.out.symm.trans (checkN_bad (fun h => by omega)))
      have q2 : (64 : Int) < (s.size : Int) := by omega
      clear h1 h2 hlen
      go_enter Tryd.func23, Tryd.ntmps23
      go_wp2
      go_ret
      exact ⟨by rw [HB.out]; rfl, Below.refl _ _⟩
    · have q2 : ¬ (64 : Int) < (s.size : Int) := by omega
      have hVS := Lib.hid (Tryd.utf8_ValidString s w hs hT.utf)
      cases hvd : Lib.validD s.data.toList with
      | false =>
        have HB := Lib.hid (show N = 20 from HN.out.symm.trans (checkN_bad (fun h => by rw [hvd] at h; exact absurd h.2.2.1 (by decide))))
        have HVD := Lib.hid hvd
        clear h1 h2 hlen hvd
        go_enter Tryd.func23, Tryd.ntmps23
        go_wp2_with (go_at_call 34; (with_reducible refine hVS.out.mono ?_); rintro e w1 ⟨rfl, hb⟩; rw [HVD.out])
        go_ret
        exact ⟨by rw [HB.out]; rfl, hb⟩
      | true =>
        have HG := Lib.hid (fun h => HN.out.symm.trans (checkN_good (l := s.data.toList) (by omega) (by omega) hvd h))
        have HB := Lib.hid (fun (h : nameL s.data.toList = false) => HN.out.symm.trans (checkN_bad (fun h' => by rw [h] at h'; exact absurd h'.2.2.2 (by decide))))
        have HVD := Lib.hid hvd
        have b9 : s.size ≤ 64 := by omega
        clear h1 h2 hlen hvd
        go_enter Tryd.func23, Tryd.ntmps23
        go_wp2_with (go_at_call 34; (with_reducible refine hVS.out.mono ?_); rintro e w1 ⟨rfl, hb1⟩; rw [HVD.out])
        clear hVS
        go_loopw [] (fun wr => CheckRel w1 s wr) (fun wr => s.size - wr.iterPos w1.heap.size)
        case atStart => exact ⟨0, rfl, Nat.zero_le _, by simp⟩
        case round =>
          obtain ⟨pos, rfl, hle, hall⟩ := hrel
          have HA := Lib.hid hall
          clear hall
          by_cases hp : pos < s.size
          · obtain ⟨c, k, hck, hD, hk⟩ := dec_at s pos hp
            have hnx : ∀ ty, (Instr.next (.pointer (some ⟨w1.heap.size, 0, none⟩)) true ty).run Tryd.prog (w1.iter s pos) = _ := fun ty => run_next_any w1 s pos ty hp
            rw [hck] at hnx
            dsimp only at hnx
            have HS := Lib.hid hD.nameStep
            have hk1 := hD.one
            have hcm := hD.max
            clear hD hck
            have b0 : (0 : Int) ≤ (c : Int) := by omega
            have b1 : (c : Int) ≤ 1114111 := by omega
            cases hnm : nameN c with
            | true =>
              have HR := Lib.hid (show nameL s.data.toList = nameL (s.data.toList.drop (pos + k)) from by rw [HA.out, HS.out, hnm, Bool.true_and, List.drop_drop])
              have hcl : (97 ≤ (c : Int) ∧ (c : Int) ≤ 122) ∨ (¬ 97 ≤ (c : Int) ∧ 65 ≤ (c : Int) ∧ (c : Int) ≤ 90) ∨ (¬ 97 ≤ (c : Int) ∧ ¬ 65 ≤ (c : Int) ∧ 48 ≤ (c : Int) ∧ (c : Int) ≤ 57) ∨ (¬ 97 ≤ (c : Int) ∧ ¬ 65 ≤ (c : Int) ∧ ¬ 48 ≤ (c : Int) ∧ ((c : Int) == 45) = true) ∨ (¬ 97 ≤ (c : Int) ∧ ¬ 65 ≤ (c : Int) ∧ ¬ 48 ≤ (c : Int) ∧ ((c : Int) == 45) = false ∧ ((c : Int) == 46) = true) ∨ (¬ 97 ≤ (c : Int) ∧ 65 ≤ (c : Int) ∧ ¬ (c : Int) ≤ 90 ∧ 48 ≤ (c : Int) ∧ ¬ (c : Int) ≤ 57 ∧ ((c : Int) == 45) = false ∧ ((c : Int) == 46) = false ∧ ((c : Int) == 95) = true) ∨ (97 ≤ (c : Int) ∧ ¬ (c : Int) ≤ 122 ∧ 65 ≤ (c : Int) ∧ ¬ (c : Int) ≤ 90 ∧ 48 ≤ (c : Int) ∧ ¬ (c : Int) ≤ 57 ∧ ((c : Int) == 45) = false ∧ ((c : Int) == 46) = false ∧ ((c : Int) == 95) = false ∧ 127 < (c : Int)) := by
                unfold nameN at hnm
                simp only [Bool.or_eq_true, Bool.and_eq_true, decide_eq_true_iff] at hnm
                simp only [beq_iff_eq, beq_eq_false_iff_ne]
                omega
              clear hnm
              rcases hcl with ⟨q3, q4⟩ | ⟨q3, q4, q5⟩ | ⟨q3, q4, q5, q6⟩ | ⟨q3, q4, q5, q6⟩ | ⟨q3, q4, q5, q6, q7⟩ | ⟨q3, q4, q5, q6, q7, q8, q9, q10⟩ | ⟨q3, q4, q5, q6, q7, q8, q9, q10, q11, q12⟩
              all_goals
                go_wp2
                go_roundw
                case rel => exact ⟨pos + k, rfl, hk, HR.out⟩
                case measure =>
                  simp
                  omega
            | false =>
              have HR := Lib.hid (HB.out (by rw [HA.out, HS.out, hnm, Bool.false_and]))
              have hcl : (¬ 97 ≤ (c : Int) ∧ ¬ 65 ≤ (c : Int) ∧ ¬ 48 ≤ (c : Int) ∧ ((c : Int) == 45) = false ∧ ((c : Int) == 46) = false ∧ ((c : Int) == 95) = false ∧ ¬ 127 < (c : Int)) ∨ (¬ 97 ≤ (c : Int) ∧ ¬ 65 ≤ (c : Int) ∧ 48 ≤ (c : Int) ∧ ¬ (c : Int) ≤ 57 ∧ ((c : Int) == 45) = false ∧ ((c : Int) == 46) = false ∧ ((c : Int) == 95) = false ∧ ¬ 127 < (c : Int)) ∨ (¬ 97 ≤ (c : Int) ∧ 65 ≤ (c : Int) ∧ ¬ (c : Int) ≤ 90 ∧ 48 ≤ (c : Int) ∧ ¬ (c : Int) ≤ 57 ∧ ((c : Int) == 45) = false ∧ ((c : Int) == 46) = false ∧ ((c : Int) == 95) = false ∧ ¬ 127 < (c : Int)) ∨ (97 ≤ (c : Int) ∧ ¬ (c : Int) ≤ 122 ∧ 65 ≤ (c : Int) ∧ ¬ (c : Int) ≤ 90 ∧ 48 ≤ (c : Int) ∧ ¬ (c : Int) ≤ 57 ∧ ((c : Int) == 45) = false ∧ ((c : Int) == 46) = false ∧ ((c : Int) == 95) = false ∧ ¬ 127 < (c : Int)) := by
                unfold nameN at hnm
                simp only [Bool.or_eq_false_iff, Bool.and_eq_false_iff, decide_eq_false_iff_not] at hnm
                simp only [beq_eq_false_iff_ne]
                omega
              clear hnm
              rcases hcl with ⟨q3, q4, q5, q6, q7, q8, q9⟩ | ⟨q3, q4, q5, q6, q7, q8, q9, q10⟩ | ⟨q3, q4, q5, q6, q7, q8, q9, q10, q11⟩ | ⟨q3, q4, q5, q6, q7, q8, q9, q10, q11, q12⟩
              all_goals
                go_wp2
                go_ret
                exact ⟨by rw [HR.out]; rfl, hb1.trans ((below_iter _ _ _).mono hb1.size)⟩
          · have hnx : ∀ ty, (Instr.next (.pointer (some ⟨w1.heap.size, 0, none⟩)) true ty).run Tryd.prog (w1.iter s pos) = _ := fun ty => run_next_end w1 s pos ty hp
            have HR := Lib.hid (HG.out (by rw [HA.out, List.drop_of_length_le (show s.size ≤ pos by omega)]; rfl))
            go_wp2
            go_ret
            exact ⟨by rw [HR.out]; rfl, hb1.trans ((below_iter _ _ _).mono hb1.size)⟩
/-! ### Fold -/
def FoldRel (w : World) (s : ByteArray) (wr : World) : Prop :=
  ∃ (pos : Nat) (acc : List UInt8), Lib.IsBuilderF 70 5 w.heap.size w.heap.size (Lib.byteCells acc) wr ∧ wr.heap[w.heap.size + 1]? = some (.stringIter s pos) ∧ Below w.heap.size w wr ∧ pos ≤ s.size ∧
    foldP s.data.toList = acc ++ foldP (s.data.toList.drop pos) ∧ acc.length ≤ 4 * pos
def FoldEnd (s : ByteArray) (w : World) (e : Ending) (w' : World) : Prop := e = .returned (.string ⟨(foldP s.data.toList).toArray⟩) ∧ Below w.heap.size w w'
theorem smallN_le (c : Nat) (h : c ≤ 1114111) : smallN c ≤ 1114143 := by
  unfold smallN
  split <;> omega
theorem encode_len (r : Int) : (Lib.encodeRune r).length ≤ 4 := by
  have := Lib.runeCells_le r
  rw [Lib.runeCells_length] at this
  exact this.2
theorem builder_below {T e : TypeId} {B b : Nat} {bs : List Value} {w w' : World} (h : Lib.IsBuilderF T e B b bs w) (hb : Below w.heap.size w w') : Lib.IsBuilderF T e B b bs w' := by
  have hg : w.grownBy w' (some w.heap.size) := ⟨hb.os, hb.tape, hb.output, hb.size, fun i hi _ => hb.block i hi⟩
  have step : ∀ p, Lib.BuilderAtF T e B b p bs w → Lib.BuilderAtF T e B b p bs w' := fun p hh => by
    have hlt := hh.lt
    obtain ⟨hB, v, hbk, hown, hne⟩ := hh
    refine ⟨hB, v, (hb.block b hlt).trans hbk, hown.kept hg ?_, hne⟩
    rcases hv : v.ownBlock with _ | k
    · exact .inl rfl
    · refine .inr ?_
      have := (hown.lt k hv).2
      intro e
      injection e with e
      omega
  exact h.imp (step _) (step _)
set_option maxRecDepth 100000 in
set_option maxHeartbeats 4000000 in
theorem fold_any (s : ByteArray) (w : World) (hT : Tabs w) (hs : s.size ≤ 1048576) : Calls Tryd.prog 25 #[.string s] w (FoldEnd s w) := by
  go_enter Tryd.func25, Tryd.ntmps25
  go_wp2
  go_loopw [] (fun wr => FoldRel w s wr) (fun wr => s.size - wr.iterPos (w.heap.size + 1))
  case atStart =>
    refine ⟨0, [], (Lib.IsBuilderF.of (Lib.fresh_isBuilder 70 5 w)).alloc _, ?_, ((Below.refl _ w).alloc (Nat.le_refl _) _).alloc (by simp) _, by omega, by simp, by simp⟩
    have := World.iter_heap (w.alloc (.cells #[.pointer none, .slice none 0 0] 70)) s 0
    simpa using this
  case round =>
    obtain ⟨pos, acc, hI, hit, hbw, hle, hacc, hal⟩ := hrel
    have HE := Lib.hid hacc
    have hsz : w.heap.size + 1 < wr.heap.size := (Array.getElem?_eq_some_iff.1 hit).1
    clear hacc
    by_cases hp : pos < s.size
    · obtain ⟨c, k, hck, hD, hk⟩ := dec_at s pos hp
      have hnx : ∀ ty, (Instr.next (.pointer (some ⟨w.heap.size + 1, 0, none⟩)) true ty).run Tryd.prog wr = _ := fun ty => Lib.run_next_any_at wr (w.heap.size + 1) s pos ty hit hp
      rw [hck] at hnx
      dsimp only at hnx
      have HD := Lib.hid hD
      have hk1 := hD.one
      have hcm := hD.max
      clear hck
      have hI2 := hI.iterAt hit (pos + k)
      have hit2 := Lib.iterAt_heap wr (w.heap.size + 1) s pos (pos + k) hit
      have hbw2 := Lib.below_iterAt hbw (k := w.heap.size + 1) (by omega) s (pos + k)
      have hsz2 : w.heap.size + 1 < (wr.iterAt (w.heap.size + 1) s (pos + k)).heap.size := by rw [Lib.iterAt_size]; omega
      have HIP := Lib.hid (show wr.iterPos (w.heap.size + 1) = pos from by simp only [World.iterPos, hit])
      clear hI hit
      generalize wr.iterAt (w.heap.size + 1) s (pos + k) = w1 at hnx hI2 hit2 hbw2 hsz2
      have b0 : (0 : Int) ≤ (c : Int) := by omega
      have b1 : (c : Int) ≤ 1114111 := by omega
      have b2 : (pos : Int) ≤ 1048576 := by omega
      have b3 : (0 : Int) ≤ (pos : Int) := by omega
      have HF : Hid (foldP s.data.toList = (acc ++ foldStep (s.data.toList.drop pos) c k) ++ foldP (s.data.toList.drop (pos + k))) := by
        refine Lib.hid ?_
        rw [HE.out, hD.fold (drop_ne hp), List.drop_drop, List.append_assoc]
      clear hD
      by_cases hre : c = 65533
      · have q1 : ((c : Int) == 65533) = true := by simp; omega
        have HS := Lib.hid (show foldStep (s.data.toList.drop pos) c k = (s.data.toList.drop pos).take k from if_pos hre)
        have hDR : ∀ W, Tabs W → Calls Tryd.prog 39 #[.string (s.extract pos s.size)] W fun e w' => e = .returned (.tuple #[.int .i32 (c : Nat), .int .i64 (k : Nat)]) ∧ Below W.heap.size W w' := fun W hW => by
          have h := Tryd.utf8_DecodeRuneInString (s.extract pos s.size) W hW.utf
          have e : Lib.decodeGo (s.extract pos s.size) = (c, k) := by
            have hz : (s.extract pos s.size).size ≠ 0 := by
              rw [Lib.size_eq, Lib.extract_to_end]
              exact fun h => drop_ne hp (List.eq_nil_of_length_eq_zero h)
            unfold Lib.decodeGo
            rw [if_neg hz, ← Lib.decodeL_drop, Lib.extract_to_end, List.drop_zero, HD.out.eq]
          rw [e] at h
          exact h
        have HDR := Lib.hid hDR
        have hTk : ((s.data.toList.drop pos).take k).length ≤ k := List.length_take_le _ _
        have b4 : (pos : Int) + (k : Int) ≤ (s.size : Int) := by omega
        have b5 : (0 : Int) ≤ (k : Int) := by omega
        have b6 : (pos : Int) ≤ (pos : Int) + (k : Int) := by omega
        have b7 : (s.size : Int) ≤ 1048576 := by omega
        have b8 : (pos : Int) ≤ (s.size : Int) := by omega
        clear hre hDR
        have e1 : (s.extract pos (pos + k)).data.toList = (s.data.toList.drop pos).take k := by rw [Lib.extract_data]; simp
        have hez : (s.extract pos (pos + k)).size ≤ k := by
          have : (s.extract pos (pos + k)).data.toList.length = (s.extract pos (pos + k)).size := rfl
          rw [e1] at this
          omega
        have hWS : ∀ W, Lib.IsBuilderF 70 5 w.heap.size w.heap.size (Lib.byteCells acc) W → w.heap.size ≤ W.heap.size → W.heap[w.heap.size + 1]? = some (.stringIter s (pos + k)) → Calls Tryd.prog 40 #[.pointer (some ⟨w.heap.size, 0, none⟩), .string (s.extract pos (pos + k))] W fun e w' => e = .returned (.tuple #[.int .i64 (s.extract pos (pos + k)).size, .nilIface]) ∧ Lib.IsBuilderF 70 5 w.heap.size w.heap.size (Lib.byteCells (acc ++ (s.data.toList.drop pos).take k)) w' ∧ Below w.heap.size W w' ∧ w'.heap[w.heap.size + 1]? = some (.stringIter s (pos + k)) := fun W hW hWz hWi => by
          refine (writeString_k w.heap.size w.heap.size (Lib.byteCells acc) (s.extract pos (pos + k)) W hW (by rw [Lib.byteCells_length]; omega) hWz).mono fun e w' ⟨h1, h2, h3, h4⟩ => ⟨h1, ?_, h3, h4.iter hWi (by omega)⟩
          rw [Lib.byteCells_append, ← e1]
          exact .inr h2
        have HWS := Lib.hid hWS
        clear hWS e1 hez
        go_wp2_with (first | (go_at_call 39; (with_reducible refine (HDR.out _ (hT.below hbw2)).mono ?_); rintro e w2 ⟨rfl, hb2⟩; have hI3 := builder_below hI2 hb2; have hit3 := (hb2.block _ hsz2).trans hit2; have hsz3 := hb2.size) | (go_at_call 40; (with_reducible refine (HWS.out _ hI3 (by omega) hit3).mono ?_); rintro e w3 ⟨rfl, hI4, hb4, hit4⟩))
        go_roundw
        case rel => exact ⟨pos + k, _, hI4, hit4, (hbw2.trans (hb2.mono (by omega))).trans hb4, hk, by rw [HF.out, HS.out], by rw [List.length_append]; omega⟩
        case measure =>
          rw [HIP.out]
          simp only [World.iterPos, hit4]
          omega
      · have q1 : ((c : Int) == 65533) = false := by rw [beq_eq_false_iff_ne]; omega
        have HS := Lib.hid (show foldStep (s.data.toList.drop pos) c k = Lib.encodeRune (smallN c : Int) from if_neg hre)
        have hsm := smallN_le c hcm
        have hen := encode_len (smallN c : Int)
        have hWR : ∀ W, Lib.IsBuilderF 70 5 w.heap.size w.heap.size (Lib.byteCells acc) W → w.heap.size ≤ W.heap.size → W.heap[w.heap.size + 1]? = some (.stringIter s (pos + k)) → Calls Tryd.prog 41 #[.pointer (some ⟨w.heap.size, 0, none⟩), .int .i32 (smallN c : Nat)] W fun e w' => e = .returned (.tuple #[.int .i64 (Lib.runeCells ((smallN c : Nat) : Int)).length, .nilIface]) ∧ Lib.IsBuilderF 70 5 w.heap.size w.heap.size (Lib.byteCells (acc ++ Lib.encodeRune (smallN c : Int))) w' ∧ Below w.heap.size W w' ∧ w'.heap[w.heap.size + 1]? = some (.stringIter s (pos + k)) := fun W hW hWz hWi => by
          refine (writeRune_k w.heap.size w.heap.size (Lib.byteCells acc) (smallN c : Nat) (by omega) (by omega) W hW (by rw [Lib.byteCells_length]; omega) hWz).mono fun e w' ⟨h1, h2, h3, h4⟩ => ⟨h1, ?_, h3, h4.iter hWi (by omega)⟩
          rw [Lib.byteCells_append, Lib.byteCells_encodeRune]
          exact .inr h2
        have HWR := Lib.hid hWR
        clear hre hWR
        go_wp2_with (first | (go_at_call 42; (with_reducible refine (small_any c _ (hT.below hbw2) hcm).mono ?_); rintro e w2 ⟨rfl, hb2⟩; have hI3 := builder_below hI2 hb2; have hit3 := (hb2.block _ hsz2).trans hit2; have hsz3 := hb2.size) | (go_at_call 41; (with_reducible refine (HWR.out _ hI3 (by omega) hit3).mono ?_); rintro e w3 ⟨rfl, hI4, hb4, hit4⟩))
        go_roundw
        case rel => exact ⟨pos + k, _, hI4, hit4, (hbw2.trans (hb2.mono (by omega))).trans hb4, hk, by rw [HF.out, HS.out], by rw [List.length_append]; omega⟩
        case measure =>
          rw [HIP.out]
          simp only [World.iterPos, hit4]
          omega
    · have hnx : ∀ ty, (Instr.next (.pointer (some ⟨w.heap.size + 1, 0, none⟩)) true ty).run Tryd.prog wr = _ := fun ty => Lib.run_next_end_at wr (w.heap.size + 1) s pos ty hit hp
      have hd : s.data.toList.drop pos = [] := List.drop_of_length_le (show s.size ≤ pos by omega)
      have HR := Lib.hid (show foldP s.data.toList = acc from by rw [HE.out, hd, foldP_nil, List.append_nil])
      clear hd
      go_wp2_with (go_at_call 43; (with_reducible refine (Tryd.Builder_String_any_k w.heap.size w.heap.size acc _ hI (by omega)).mono ?_); rintro e w2 ⟨rfl, _, hb3, _⟩)
      go_ret
      exact ⟨by rw [HR.out]; rfl, hbw.trans hb3⟩
end Go.Proofs.YthkifgjmhpppkaaDoor
