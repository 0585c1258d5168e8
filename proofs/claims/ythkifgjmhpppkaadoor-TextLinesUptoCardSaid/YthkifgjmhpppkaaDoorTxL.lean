/- text.Words: the walk. -/
import Derived.Test.YthkifgjmhpppkaaDoorTxK
import Derived.Laws.OwnMore
namespace Go.Proofs.YthkifgjmhpppkaaDoor
open Go.RowKit

theorem string_info : (Tryd.prog.info? 9).map (fun i => (i.zero, i.size, i.bytes)) = some (some (.string ⟨#[]⟩), 1, 16) := by kernel_rfl
def strV (l : List UInt8) : Value := .string ⟨l.toArray⟩
theorem ba_eta (s : ByteArray) : (⟨s.data.toList.toArray⟩ : ByteArray) = s := by
  cases s
  simp
theorem row_form {w : World} {B e sz n : Nat} {v : Value} {xs : List Value} (h : w.ownsRow B e sz v n xs) : ∃ A cap, v = .slice A n cap := by
  rcases h.2 with ⟨hv, h0⟩ | ⟨g, cap, cur, hv, _⟩
  · exact ⟨none, 0, by rw [hv, h0]⟩
  · exact ⟨_, _, hv⟩
theorem own_below {w w' : World} {B e sz n : Nat} {v : Value} {xs : List Value} (h : w.ownsRow B e sz v n xs) (hb : Below w.heap.size w w') : w'.ownsRow B e sz v n xs :=
  h.kept (row := some w.heap.size) ⟨hb.os, hb.tape, hb.output, hb.size, fun i hi _ => hb.block i hi⟩ (by
    rcases hv : v.ownBlock with _ | k
    · exact .inl rfl
    · refine .inr ?_
      have := (h.lt k hv).2
      intro e
      injection e with e
      omega)
theorem new_cell (W : World) (x : Value) (t : TypeId) : ∀ (j : Nat) (u : Value), [x][j]? = some u → (W.alloc (.cells #[x] t)).cell? ((⟨W.heap.size, 0, none⟩ : Addr).add j) = some u := fun j u hu => by
  match j, hu with
  | 0, hu =>
    have : x = u := by simpa using hu
    subst this
    show (W.alloc _).cell? ⟨W.heap.size, 0, none⟩ = _
    rw [World.cell?_alloc_at _ _ _ _ rfl]
    rfl
  | j + 1, hu => simp at hu
theorem one_str (l : List UInt8) : ∀ u ∈ [strV l], u.oneCell' = true := fun u hu => by
  rw [List.mem_singleton] at hu
  subst hu
  rfl
theorem ba_size (l : List UInt8) : (⟨l.toArray⟩ : ByteArray).size = l.length := by
  show l.toArray.size = _
  simp
/-- How Words ends. -/
def WordsEnd (o : Option (List (List UInt8))) (w : World) (e : Ending) (w' : World) : Prop := Below w.heap.size w w' ∧ match o with
  | none => e = .returned (.tuple #[.slice none 0 0, .int .i64 23])
  | some ws => ∃ A cap, e = .returned (.tuple #[.slice A ws.length cap, .int .i64 0]) ∧ w'.ownsRow w.heap.size 9 1 (.slice A ws.length cap) ws.length (ws.map strV)
def WordsRel (w : World) (o : Option (List (List UInt8))) (v4 v5 : Value) (wr : World) : Prop :=
  ∃ (f : Nat) (rest : ByteArray) (ws : List (List UInt8)) (A : Option Addr) (cap : Nat), v5 = .string rest ∧ v4 = .slice A ws.length cap ∧ wr.ownsRow w.heap.size 9 1 (.slice A ws.length cap) ws.length (ws.map strV) ∧ Below w.heap.size w wr ∧
    Lib.validD rest.data.toList = true ∧ o = wordsG f rest.data.toList ws ∧ rest.size < f ∧ rest.size ≤ 1024 ∧ ws.length ≤ 16
theorem wordsG_nil (f : Nat) (out : List (List UInt8)) : wordsG (f + 1) [] out = some out := rfl
theorem head_at (s : ByteArray) (h : 0 < s.size) : ∃ t, s.data.toList = s[0] :: t := by
  have hl : 0 < s.data.toList.length := h
  cases hs : s.data.toList with
  | nil => rw [hs] at hl; simp at hl
  | cons b t =>
    refine ⟨t, ?_⟩
    congr 1
    have : s[0] = s.data.toList[0]'hl := rfl
    rw [this]
    simp only [hs]
    rfl
theorem isEmpty_no {s : ByteArray} (h : 0 < s.size) : s.toList.isEmpty = false := by
  obtain ⟨t, ht⟩ := head_at s h
  rw [Lib.toList_data, ht]
  rfl
/-- What is taken off the front of rest, in the walk's words. -/
theorem one_quo {rest : ByteArray} (h : 0 < rest.size) (h34 : rest[0].toNat = 34) : quoS rest = (⟨(wordOne rest.data.toList).1.toArray⟩, (wordOne rest.data.toList).2) := by
  obtain ⟨t, ht⟩ := head_at rest h
  have hb : rest[0] = 34 := UInt8.toNat_inj.1 h34
  unfold quoS wordOne
  rw [ht, hb]
  simp only [List.head?_cons, if_true]
  cases quoN false [] 0 (List.drop 1 (34 :: t)) with
  | none => rfl
  | some x => rfl
theorem one_bare {rest : ByteArray} (h : 0 < rest.size) (h34 : rest[0].toNat ≠ 34) : bareS rest = (⟨(wordOne rest.data.toList).1.toArray⟩, (wordOne rest.data.toList).2) := by
  obtain ⟨t, ht⟩ := head_at rest h
  have hb : rest[0] ≠ 34 := fun e => h34 (by rw [e]; rfl)
  have hh : rest.data.toList.head? ≠ some 34 := by
    rw [ht]
    simpa using hb
  unfold bareS wordOne
  rw [if_neg hh]
  cases bareN rest.data.toList 0 with
  | none => rfl
  | some n =>
    dsimp only
    congr 1
    rw [← ba_eta (rest.extract 0 n), Lib.extract_data]
    simp
set_option maxRecDepth 100000 in
set_option maxHeartbeats 8000000 in
theorem words_any (s : ByteArray) (w : World) (hT : Tabs w) (hs : s.size ≤ 9223372036854775807) : Calls Tryd.prog 15 #[.string s] w (WordsEnd (wordsP s.data.toList) w) := by
  have hlen : s.data.toList.length = s.size := rfl
  by_cases h1 : 1024 < s.size
  · have HO := Lib.hid (show wordsP s.data.toList = none from if_pos (.inl h1))
    have q1 : (1024 : Int) < (s.size : Int) := by omega
    clear h1 hlen
    go_enter Tryd.func15, Tryd.ntmps15
    go_wp2
    go_ret2
    exact ⟨Below.refl _ _, by rw [HO.out]; rfl⟩
  · have q1 : ¬ (1024 : Int) < (s.size : Int) := by omega
    have hVS := Lib.hid (Tryd.utf8_ValidString s w hs hT.utf)
    cases hvd : Lib.validD s.data.toList with
    | false =>
      have HO := Lib.hid (show wordsP s.data.toList = none from if_pos (.inr hvd))
      have HVD := Lib.hid hvd
      clear h1 hlen hvd
      go_enter Tryd.func15, Tryd.ntmps15
      go_wp2_with (go_at_call 34; (with_reducible refine hVS.out.mono ?_); rintro e w1 ⟨rfl, hb⟩; rw [HVD.out])
      go_ret2
      exact ⟨hb, by rw [HO.out]; rfl⟩
    | true =>
      have HO := Lib.hid (show wordsP s.data.toList = wordsG (s.size + 1) (trimB s.data.toList) [] from if_neg (by rw [hvd, hlen]; simp; omega))
      have HVD := Lib.hid hvd
      have hTV := trimB_valid _ hvd
      have hTL := trimB_len s.data.toList
      have hTr : ∀ (x : ByteArray) (w' : World), Calls Tryd.prog 35 #[.string x, .string ⟨#[32, 9]⟩] w' fun e w'' => e = .returned (.string ⟨(trimB x.data.toList).toArray⟩) ∧ Below w'.heap.size w' w'' := fun x w' =>
        Tryd.strings_TrimLeft_two x ⟨#[32, 9]⟩ w' (by decide) (fun j b hb => by
          have h2 : ([32, 9] : List UInt8)[j]? = some b := hb
          match j, h2 with
          | 0, h2 => simp at h2; rw [← h2]; decide
          | 1, h2 => simp at h2; rw [← h2]; decide)
      have HTR := Lib.hid hTr
      obtain ⟨t0, ht0⟩ : ∃ t0 : ByteArray, (⟨(trimB s.data.toList).toArray⟩ : ByteArray) = t0 := ⟨_, rfl⟩
      have htd : trimB s.data.toList = t0.data.toList := by rw [← ht0]
      have hts : t0.size ≤ s.size := by
        rw [htd] at hTL
        exact hTL
      rw [htd] at hTV HO
      have HT0 := Lib.hid ht0
      have HTV := Lib.hid hTV
      obtain ⟨i0, hi, hz0, hz1, hz2⟩ := info_parts string_info
      have HI := Lib.hid (And.intro hi (And.intro hz0 (And.intro hz1 hz2)))
      have b9 : s.size ≤ 1024 := by omega
      obtain ⟨o, ho⟩ : ∃ o, wordsG (s.size + 1) t0.data.toList [] = o := ⟨_, rfl⟩
      rw [HO.out, ho]
      have HOO := Lib.hid ho
      clear h1 hlen hvd hTr ht0 htd hTL hTV hi hz0 hz1 hz2 ho
      go_enter Tryd.func15, Tryd.ntmps15
      go_wp2_with (first | (go_at_call 34; (with_reducible refine hVS.out.mono ?_); rintro e w1 ⟨rfl, hb1⟩; rw [HVD.out]) | (go_at_call 35; (with_reducible refine (HTR.out _ _).mono ?_); rintro e w2 ⟨rfl, hb2⟩; rw [HT0.out]))
      have hb := hb1.trans (hb2.mono hb1.size)
      clear hb1 hb2 hVS
      go_loopw [4, 5] (fun v4 v5 wr => WordsRel w o v4 v5 wr) (fun _ v5 _ => match v5 with | .string x => x.size | _ => 0)
      case atStart => exact ⟨s.size + 1, t0, [], none, 0, rfl, rfl, ⟨by simp, .inl ⟨rfl, rfl⟩⟩, hb, HTV.out, HOO.out.symm, by omega, by omega, by simp⟩
      case round =>
        obtain ⟨f, rest, ws, A, cap, rfl, rfl, hown, hbw, hval, hoe, hrf, hr1, hwl⟩ := hrel
        obtain ⟨f, rfl⟩ : ∃ f', f = f' + 1 := ⟨f - 1, by omega⟩
        have HVL := Lib.hid hval
        have HOE := Lib.hid hoe
        clear hval hoe
        by_cases h0 : 0 < rest.size
        · obtain ⟨wl, n, hwn⟩ : ∃ wl n, wordOne rest.data.toList = (wl, n) := ⟨_, _, rfl⟩
          have hwv := wordOne_valid _ HVL.out
          rw [hwn] at hwv
          dsimp only at hwv
          have hne : rest.data.toList ≠ [] := fun h => by
            have : rest.data.toList.length = rest.size := rfl
            rw [h] at this
            simp at this
            omega
          have HG : Hid (o = if n = 0 ∨ ws.length = 16 then none else if blankHead (rest.data.toList.drop n) = true then wordsG f (trimB (rest.data.toList.drop n)) (ws ++ [wl]) else none) := by
            refine Lib.hid ?_
            rw [HOE.out, wordsG, if_neg hne, hwn]
          have hne1 : rest.toList.isEmpty = false := isEmpty_no h0
          have hsp : (∃ (bx : ByteArray) (bn : Nat), rest[0].toNat = 34 ∧ (∀ w', Calls Tryd.prog 36 #[.string rest] w' fun e w'' => e = .returned (.tuple #[.string bx, .int .i64 bn]) ∧ Below w'.heap.size w' w'') ∧ (∀ w', Calls Tryd.prog 37 #[.string rest] w' fun e w'' => e = .returned (.tuple #[.string ⟨wl.toArray⟩, .int .i64 n]) ∧ Below w'.heap.size w' w'')) ∨ (rest[0].toNat ≠ 34 ∧ (∀ w', Calls Tryd.prog 36 #[.string rest] w' fun e w'' => e = .returned (.tuple #[.string ⟨wl.toArray⟩, .int .i64 n]) ∧ Below w'.heap.size w' w'')) := by
            by_cases h34 : rest[0].toNat = 34
            · refine .inl ⟨(bareS rest).1, (bareS rest).2, h34, fun w' => bare_any rest w', fun w' => ?_⟩
              have hv1 : Lib.validD (rest.data.toList.drop 1) = true := by
                obtain ⟨t, ht⟩ := head_at rest h0
                have := HVL.out
                rw [ht, Lib.validD_cons _ _ (by omega)] at this
                rw [ht]
                exact this
              have := quoted_any rest w' (by omega) (by omega) hv1
              unfold QuoEnd at this
              rw [one_quo h0 h34, hwn] at this
              exact this
            · refine .inr ⟨h34, fun w' => ?_⟩
              have := bare_any rest w'
              unfold BareEnd at this
              rw [one_bare h0 h34, hwn] at this
              exact this
          have HWV := Lib.hid hwv
          clear hwn hne hwv
          have b8 : ws.length ≤ 1024 := by omega
          by_cases hn0 : n = 0
          · have HN := Lib.hid (show o = none from by rw [HG.out, if_pos (.inl hn0)])
            have q3 : ((n : Int) == 0) = true := by simp; omega
            clear hn0
            rcases hsp with ⟨bx, bn, q34, HB, HQ⟩ | ⟨q34, HB⟩
            · have q4 : ((rest[0].toNat : Int) == 34) = true := by simp; omega
              have HBB := Lib.hid HB
              have HQQ := Lib.hid HQ
              clear HB HQ q34
              go_wp2_with (first | (go_at_call 36; (with_reducible refine (HBB.out _).mono ?_); rintro e w1 ⟨rfl, hb1⟩; have hb3 := hbw.trans (hb1.mono hbw.size)) | (go_at_call 37; (with_reducible refine (HQQ.out _).mono ?_); rintro e w2 ⟨rfl, hb2⟩; have hb4 := hb3.trans (hb2.mono hb3.size)))
              go_ret2
              exact ⟨hb4, by rw [HN.out]; rfl⟩
            · have q4 : ((rest[0].toNat : Int) == 34) = false := by rw [beq_eq_false_iff_ne]; omega
              have HBB := Lib.hid HB
              clear HB q34
              go_wp2_with (first | (go_at_call 36; (with_reducible refine (HBB.out _).mono ?_); rintro e w1 ⟨rfl, hb1⟩; have hb4 := hbw.trans (hb1.mono hbw.size)))
              go_ret2
              exact ⟨hb4, by rw [HN.out]; rfl⟩
          · have q3 : ((n : Int) == 0) = false := by rw [beq_eq_false_iff_ne]; omega
            by_cases hw16 : ws.length = 16
            · have HN := Lib.hid (show o = none from by rw [HG.out, if_pos (.inr hw16)])
              have q5 : ((ws.length : Int) == 16) = true := by simp; omega
              clear hn0 hw16
              rcases hsp with ⟨bx, bn, q34, HB, HQ⟩ | ⟨q34, HB⟩
              · have q4 : ((rest[0].toNat : Int) == 34) = true := by simp; omega
                have HBB := Lib.hid HB
                have HQQ := Lib.hid HQ
                clear HB HQ q34
                go_wp2_with (first | (go_at_call 36; (with_reducible refine (HBB.out _).mono ?_); rintro e w1 ⟨rfl, hb1⟩; have hb3 := hbw.trans (hb1.mono hbw.size)) | (go_at_call 37; (with_reducible refine (HQQ.out _).mono ?_); rintro e w2 ⟨rfl, hb2⟩; have hb4 := hb3.trans (hb2.mono hb3.size)))
                go_ret2
                exact ⟨hb4, by rw [HN.out]; rfl⟩
              · have q4 : ((rest[0].toNat : Int) == 34) = false := by rw [beq_eq_false_iff_ne]; omega
                have HBB := Lib.hid HB
                clear HB q34
                go_wp2_with (first | (go_at_call 36; (with_reducible refine (HBB.out _).mono ?_); rintro e w1 ⟨rfl, hb1⟩; have hb4 := hbw.trans (hb1.mono hbw.size)))
                go_ret2
                exact ⟨hb4, by rw [HN.out]; rfl⟩
            · have q5 : ((ws.length : Int) == 16) = false := by rw [beq_eq_false_iff_ne]; omega
              have HW16 := Lib.hid (show ws.length < 16 by omega)
              obtain ⟨r', hr'⟩ : ∃ r', rest.extract n rest.size = r' := ⟨_, rfl⟩
              have hrd : rest.data.toList.drop n = r'.data.toList := by rw [← hr', Lib.extract_to_end]
              have hvr : Lib.validD r'.data.toList = true := by
                rw [← hrd]
                exact HWV.out.2 hn0
              have hG2 := HG.out
              rw [if_neg (by omega), hrd] at hG2
              have hnle : n ≤ rest.size := HWV.out.1
              have hrz : r'.size < rest.size := by
                have e : r'.data.toList.length = r'.size := rfl
                have e2 : rest.data.toList.length = rest.size := rfl
                rw [← e, ← hrd, List.length_drop, e2]
                omega
              have HG2 := Lib.hid hG2
              have HRR := Lib.hid hr'
              have HVR := Lib.hid hvr
              have b7 : (n : Int) ≤ (rest.size : Int) := by omega
              have b6 : (0 : Int) ≤ (n : Int) := by omega
              have hl1 : 1 ≤ rest.size := h0
              have hsp2 : ∃ (bx : ByteArray) (bn : Nat), Hid (∀ w', Calls Tryd.prog 36 #[.string rest] w' fun e w'' => e = .returned (.tuple #[.string bx, .int .i64 bn]) ∧ Below w'.heap.size w' w'') ∧ ((((rest[0].toNat : Int) == 34) = true ∧ Hid (∀ w', Calls Tryd.prog 37 #[.string rest] w' fun e w'' => e = .returned (.tuple #[.string ⟨wl.toArray⟩, .int .i64 n]) ∧ Below w'.heap.size w' w'')) ∨ (((rest[0].toNat : Int) == 34) = false ∧ Hid (bx = ⟨wl.toArray⟩ ∧ bn = n))) := by
                rcases hsp with ⟨bx, bn, q34, HB, HQ⟩ | ⟨q34, HB⟩
                · exact ⟨bx, bn, Lib.hid HB, .inl ⟨by simp; omega, Lib.hid HQ⟩⟩
                · exact ⟨⟨wl.toArray⟩, n, Lib.hid HB, .inr ⟨by rw [beq_eq_false_iff_ne]; omega, Lib.hid ⟨rfl, rfl⟩⟩⟩
              obtain ⟨bx, bn, HBB, hsp3⟩ := hsp2
              have HRD := Lib.hid hrd
              clear hn0 hG2 hrd hvr hnle HG HWV hsp
              by_cases hbl : blankHead r'.data.toList = true
              · have HN := Lib.hid (show o = wordsG f (trimB r'.data.toList) (ws ++ [wl]) from by rw [HG2.out, if_pos hbl])
                have hr3 : (r'.toList = []) ∨ (∃ h : 0 < r'.size, r'.toList.isEmpty = false ∧ (((r'[0]'h).toNat : Int) != 32) = false) ∨ (∃ h : 0 < r'.size, r'.toList.isEmpty = false ∧ (((r'[0]'h).toNat : Int) != 32) = true ∧ (((r'[0]'h).toNat : Int) != 9) = false) := by
                  by_cases hz : 0 < r'.size
                  · obtain ⟨t, ht⟩ := head_at r' hz
                    rw [ht] at hbl
                    have hb2 : r'[0] = 32 ∨ r'[0] = 9 := by simpa [blankHead] using hbl
                    rcases hb2 with h | h
                    · exact .inr (.inl ⟨hz, isEmpty_no hz, by rw [h]; rfl⟩)
                    · exact .inr (.inr ⟨hz, isEmpty_no hz, by rw [h]; rfl, by rw [h]; rfl⟩)
                  · have h : r'.data.toList = [] := List.eq_nil_of_length_eq_zero (show r'.size = 0 by omega)
                    exact .inl (by rw [Lib.toList_data, h])
                clear hbl
                rcases hr3 with e1 | ⟨hz, e1, e2⟩ | ⟨hz, e1, e2, e3⟩
                all_goals
                  rcases hsp3 with ⟨q4, HQQ⟩ | ⟨q4, HBE⟩
                  all_goals
                    first | (obtain ⟨rfl, rfl⟩ := HBE.out; have HQQ := Lib.hid True.intro) | skip
                    go_wp2_with (first | (go_at_call 36; (with_reducible refine (HBB.out _).mono ?_); rintro e w1 ⟨rfl, hb1⟩; have hb4 := hbw.trans (hb1.mono hbw.size); have ho4 := own_below hown hb1) | (go_at_call 37; (with_reducible refine (HQQ.out _).mono ?_); rintro e w2 ⟨rfl, hb2⟩; have ho4 := own_below ho4 hb2; have hb4 := hb4.trans (hb2.mono hb4.size)) | (at_builtin; refine wpList_append_own _ rfl (.tmp 42) (.tmp 44) 22 rfl w.heap.size 9 i0 (.string ⟨#[]⟩) 1 16 Tryd.underlying22 HI.out.1 HI.out.2.1 HI.out.2.2.1 HI.out.2.2.2 rfl (by decide) (.slice A ws.length cap) ws.length (ws.map strV) rfl (ho4.alloc _) ⟨_, 0, none⟩ 1 1 [strV wl] rfl rfl (new_cell _ _ _) (one_str wl) (by unfold maxLen; omega) (by omega) (by have := hb4.size; simp; omega) ?_; intro v' w5 hown5 hgrow _; obtain ⟨A5, cap5, rfl⟩ := row_form hown5; have hb5 := (hb4.alloc hb4.size _).grown hgrow (by have := hb4.size; simp; omega) (fun k hk => (ho4.lt k hk).1)) | (go_at_call 35; (with_reducible refine (HTR.out _ _).mono ?_); rintro e w6 ⟨rfl, hb6⟩))
                    go_roundw
                    case rel => exact ⟨f, ⟨(trimB r'.data.toList).toArray⟩, ws ++ [wl], A5, cap5, rfl, by rw [List.length_append]; rfl, by rw [List.length_append, List.map_append]; exact own_below hown5 hb6, hb5.trans (hb6.mono hb5.size), trimB_valid _ HVR.out, HN.out, by rw [ba_size]; have := trimB_len r'.data.toList; have e : r'.data.toList.length = r'.size := rfl; omega, by rw [ba_size]; have := trimB_len r'.data.toList; have e : r'.data.toList.length = r'.size := rfl; omega, by rw [List.length_append]; show ws.length + 1 ≤ 16; have := HW16.out; omega⟩
                    case measure =>
                      simp only [ba_size]
                      have := trimB_len r'.data.toList
                      have e : r'.data.toList.length = r'.size := rfl
                      omega
              · have HN := Lib.hid (show o = none from by rw [HG2.out, if_neg hbl])
                have hz : 0 < r'.size := by
                  rcases Nat.eq_zero_or_pos r'.size with h | h
                  · have h : r'.data.toList = [] := List.eq_nil_of_length_eq_zero h
                    rw [h] at hbl
                    exact absurd rfl hbl
                  · exact h
                have hr3 : r'.toList.isEmpty = false ∧ (((r'[0]'hz).toNat : Int) != 32) = true ∧ (((r'[0]'hz).toNat : Int) != 9) = true := by
                  obtain ⟨t, ht⟩ := head_at r' hz
                  rw [ht] at hbl
                  have hb2 : ¬ (r'[0] = 32 ∨ r'[0] = 9) := by simpa [blankHead] using hbl
                  refine ⟨isEmpty_no hz, ?_, ?_⟩
                  · rw [bne_iff_ne]
                    exact fun h => hb2 (.inl (UInt8.toNat_inj.1 (by show _ = 32; omega)))
                  · rw [bne_iff_ne]
                    exact fun h => hb2 (.inr (UInt8.toNat_inj.1 (by show _ = 9; omega)))
                clear hbl
                obtain ⟨e1, e2, e3⟩ := hr3
                rcases hsp3 with ⟨q4, HQQ⟩ | ⟨q4, HBE⟩
                all_goals
                  first | (obtain ⟨rfl, rfl⟩ := HBE.out; have HQQ := Lib.hid True.intro) | skip
                  go_wp2_with (first | (go_at_call 36; (with_reducible refine (HBB.out _).mono ?_); rintro e w1 ⟨rfl, hb1⟩; have hb4 := hbw.trans (hb1.mono hbw.size); have ho4 := own_below hown hb1) | (go_at_call 37; (with_reducible refine (HQQ.out _).mono ?_); rintro e w2 ⟨rfl, hb2⟩; have ho4 := own_below ho4 hb2; have hb4 := hb4.trans (hb2.mono hb4.size)) | (at_builtin; refine wpList_append_own _ rfl (.tmp 42) (.tmp 44) 22 rfl w.heap.size 9 i0 (.string ⟨#[]⟩) 1 16 Tryd.underlying22 HI.out.1 HI.out.2.1 HI.out.2.2.1 HI.out.2.2.2 rfl (by decide) (.slice A ws.length cap) ws.length (ws.map strV) rfl (ho4.alloc _) ⟨_, 0, none⟩ 1 1 [strV wl] rfl rfl (new_cell _ _ _) (one_str wl) (by unfold maxLen; omega) (by omega) (by have := hb4.size; simp; omega) ?_; intro v' w5 hown5 hgrow _; obtain ⟨A5, cap5, rfl⟩ := row_form hown5; have hb5 := (hb4.alloc hb4.size _).grown hgrow (by have := hb4.size; simp; omega) (fun k hk => (ho4.lt k hk).1)) | (go_at_call 35; (with_reducible refine (HTR.out _ _).mono ?_); rintro e w6 ⟨rfl, hb6⟩))
                  go_ret2
                  exact ⟨hb5, by rw [HN.out]; rfl⟩
        · have hz : rest.data.toList = [] := List.eq_nil_of_length_eq_zero (show rest.size = 0 by omega)
          have he : rest.toList = [] := by rw [Lib.toList_data, hz]
          have HZ := Lib.hid (show o = some ws from by rw [HOE.out, hz]; rfl)
          clear hz
          go_wp2_with fail
          go_ret2
          exact ⟨hbw, by rw [HZ.out]; exact ⟨A, cap, rfl, hown⟩⟩
end Go.Proofs.YthkifgjmhpppkaaDoor
