import Derived.Test.YthkifgjmhpppkaaDoorTxK
import Derived.Test.YthkifgjmhpppkaaDoorTxL
import Derived.Test.YthkifgjmhpppkaaDoorTyI
import Derived.Test.YthkifgjmhpppkaaDoorTxX
import Derived.Laws.OwnMore
import Derived.Test.YthkifgjmhpppkaaDoorMem
import Derived.Test.YthkifgjmhpppkaaDoorProg
import Derived.Test.YthkifgjmhpppkaaDoorTxT
import Derived.Test.YthkifgjmhpppkaaDoorPrE
import Derived.Deep.RegionHeld3
import Derived.Deep.AppendLies
import Derived.OrdersHeld
/- The document's Words, plain: its state machine. -/
namespace Go.Proofs.YthkifgjmhpppkaaDoor

/-- What one is in (0 between, 1 bare, 2 quoted, 3 behind a backslash, 4 behind a quoted one), whether it is bad, the words so far, the word in hand. -/
structure RefW where
  st : Nat
  bad : Bool
  out : List (List UInt8)
  word : List UInt8
def refBad (c : Nat) : Bool := (decide (c < 32) && !decide (c = 9)) || decide (c = 127)
def refW1 (s : RefW) (b : UInt8) : RefW :=
  let bad := s.bad || refBad b.toNat
  if s.st = 3 then ⟨2, bad || (!decide (b.toNat = 34) && !decide (b.toNat = 92)), s.out, s.word ++ [b]⟩
  else if s.st = 2 ∧ b.toNat = 92 then ⟨3, bad, s.out, s.word⟩
  else if s.st = 2 ∧ b.toNat = 34 then ⟨4, bad, s.out ++ [s.word], []⟩
  else if s.st = 2 then ⟨2, bad, s.out, s.word ++ [b]⟩
  else if stopN b.toNat = true ∧ s.st = 1 then ⟨0, bad, s.out ++ [s.word], []⟩
  else if stopN b.toNat = true then ⟨0, bad, s.out, s.word⟩
  else if s.st = 0 ∧ b.toNat = 34 then ⟨2, bad, s.out, s.word⟩
  else if s.st = 4 ∨ b.toNat = 34 ∨ b.toNat = 92 then ⟨s.st, true, s.out, s.word⟩
  else ⟨1, bad, s.out, s.word ++ [b]⟩
def refRun (s : RefW) (l : List UInt8) : RefW := l.foldl refW1 s
def refOut (s : RefW) : Option (List (List UInt8)) :=
  let out := if s.st = 1 then s.out ++ [s.word] else s.out
  if s.bad = true ∨ s.st = 2 ∨ s.st = 3 ∨ 16 < out.length then none else some out
theorem refW1_bad (s : RefW) (b : UInt8) (h : s.bad = true) : (refW1 s b).bad = true := by
  unfold refW1
  repeat' split
  all_goals simp [h]
theorem refRun_bad : ∀ (l : List UInt8) (s : RefW), s.bad = true → (refRun s l).bad = true
  | [], _, h => h
  | b :: t, s, h => refRun_bad t (refW1 s b) (refW1_bad s b h)
theorem refOut_bad (s : RefW) (h : s.bad = true) : refOut s = none := by
  unfold refOut
  exact if_pos (Or.inl h)
theorem refRun_none (l : List UInt8) (s : RefW) (h : s.bad = true) : refOut (refRun s l) = none := refOut_bad _ (refRun_bad l s h)
theorem refRun_app (s : RefW) (a b : List UInt8) : refRun s (a ++ b) = refRun (refRun s a) b := by unfold refRun; rw [List.foldl_append]
theorem refBad_plain (c : Nat) : refBad c = !plainN c := by
  unfold refBad plainN
  by_cases h1 : c < 32
  · by_cases h2 : c = 9
    · subst h2; decide
    · rw [decide_eq_true h1, decide_eq_false h2, decide_eq_false (show ¬ 32 ≤ c by omega), decide_eq_false (show ¬ c = 127 by omega)]
      rfl
  · rw [decide_eq_false h1, decide_eq_true (show 32 ≤ c by omega), decide_eq_false (show ¬ c = 9 by omega)]
    cases decide (c = 127) <;> rfl
theorem refRun_cons (s : RefW) (b : UInt8) (t : List UInt8) : refRun s (b :: t) = refRun (refW1 s b) t := rfl
/-- A quoted word, from behind its first quote on. -/
theorem quo_ref : ∀ (l : List UInt8) (esc : Bool) (acc : List UInt8) (i : Nat) (out : List (List UInt8)),
    (∀ a n, quoN esc acc i l = some (a, n) → i + 2 ≤ n ∧ refRun ⟨if esc then 3 else 2, false, out, acc⟩ l = refRun ⟨4, false, out ++ [a], []⟩ (l.drop (n - i - 1))) ∧
    (quoN esc acc i l = none → refOut (refRun ⟨if esc then 3 else 2, false, out, acc⟩ l) = none)
  | [], esc, acc, i, out => by
    refine ⟨fun a n h => ?_, fun _ => ?_⟩
    · cases esc <;> simp [quoN] at h
    · unfold refRun refOut
      cases esc <;> simp
  | b :: t, true, acc, i, out => by
    obtain ⟨i1, i2⟩ := quo_ref t false (acc ++ [b]) (i + 1) out
    rw [quoN, if_pos rfl, refRun_cons]
    by_cases h : b.toNat = 34 ∨ b.toNat = 92
    · have e : refW1 ⟨3, false, out, acc⟩ b = ⟨2, false, out, acc ++ [b]⟩ := by
        unfold refW1
        rw [if_pos rfl]
        rcases h with h | h <;> simp [h] <;> rfl
      rw [if_pos h, e]
      refine ⟨fun a n hn => ?_, fun hn => i2 hn⟩
      obtain ⟨h1, h2⟩ := i1 a n hn
      refine ⟨by omega, ?_⟩
      rw [show n - i - 1 = (n - (i + 1) - 1) + 1 by omega, List.drop_succ_cons]
      exact h2
    · rw [if_neg h]
      refine ⟨fun a n hn => (by cases hn), fun _ => refRun_none t _ ?_⟩
      unfold refW1
      rw [if_pos rfl]
      have h3 : ¬ b.toNat = 34 := fun x => h (.inl x)
      have h4 : ¬ b.toNat = 92 := fun x => h (.inr x)
      simp [h3, h4]
  | b :: t, false, acc, i, out => by
    rw [quoN, if_neg Bool.false_ne_true, refRun_cons]
    by_cases h1 : b.toNat = 92
    · obtain ⟨i1, i2⟩ := quo_ref t true acc (i + 1) out
      have e : refW1 ⟨2, false, out, acc⟩ b = ⟨3, false, out, acc⟩ := by
        unfold refW1
        dsimp only
        rw [if_neg (show ¬ (2 : Nat) = 3 by decide), if_pos ⟨rfl, h1⟩, h1]
        rfl
      rw [if_pos h1, e]
      refine ⟨fun a n hn => ?_, fun hn => i2 hn⟩
      obtain ⟨h3, h2⟩ := i1 a n hn
      refine ⟨by omega, ?_⟩
      rw [show n - i - 1 = (n - (i + 1) - 1) + 1 by omega, List.drop_succ_cons]
      exact h2
    · rw [if_neg h1]
      by_cases h2 : b.toNat = 34
      · have e : refW1 ⟨2, false, out, acc⟩ b = ⟨4, false, out ++ [acc], []⟩ := by
          unfold refW1
          dsimp only
          rw [if_neg (show ¬ (2 : Nat) = 3 by decide), if_neg (fun x => h1 x.2), if_pos ⟨rfl, h2⟩, h2]
          rfl
        rw [if_pos h2, e]
        refine ⟨fun a n hn => ?_, fun hn => (by cases hn)⟩
        injection hn with hn
        injection hn with ha hn
        subst ha hn
        refine ⟨by omega, ?_⟩
        rw [show i + 2 - i - 1 = 0 + 1 by omega, List.drop_succ_cons]
        rfl
      · rw [if_neg h2]
        have e : refW1 ⟨2, false, out, acc⟩ b = ⟨2, refBad b.toNat, out, acc ++ [b]⟩ := by
          unfold refW1
          dsimp only
          rw [if_neg (show ¬ (2 : Nat) = 3 by decide), if_neg (fun x => h1 x.2), if_neg (fun x => h2 x.2), if_pos rfl, Bool.false_or]
        rw [e, refBad_plain]
        by_cases hp : plainN b.toNat = true
        · obtain ⟨i1, i2⟩ := quo_ref t false (acc ++ [b]) (i + 1) out
          rw [if_pos hp, hp]
          refine ⟨fun a n hn => ?_, fun hn => i2 hn⟩
          obtain ⟨h3, h4⟩ := i1 a n hn
          refine ⟨by omega, ?_⟩
          rw [show n - i - 1 = (n - (i + 1) - 1) + 1 by omega, List.drop_succ_cons]
          exact h4
        · rw [if_neg hp]
          refine ⟨fun a n hn => (by cases hn), fun _ => refRun_none t _ ?_⟩
          simp only [Bool.not_eq_true] at hp
          simp [hp]
/-- A bare word. -/
theorem bare_step (out : List (List UInt8)) (acc : List UInt8) (b : UInt8) (hs : ¬ stopN b.toNat = true) : refW1 ⟨1, false, out, acc⟩ b = if b.toNat = 34 ∨ b.toNat = 92 then ⟨1, true, out, acc⟩ else ⟨1, refBad b.toNat, out, acc ++ [b]⟩ := by
  unfold refW1
  dsimp only
  rw [if_neg (show ¬ (1 : Nat) = 3 by decide), if_neg (fun x => absurd x.1 (by decide)), if_neg (fun x => absurd x.1 (by decide)), if_neg (show ¬ (1 : Nat) = 2 by decide), if_neg (fun x => hs x.1), if_neg hs, if_neg (fun x => absurd x.1 (by decide)), Bool.false_or]
  by_cases h : b.toNat = 34 ∨ b.toNat = 92
  · rw [if_pos (Or.inr h), if_pos h]
  · rw [if_neg (fun x => x.elim (fun y => absurd y (by decide)) h), if_neg h]
theorem bare_ref : ∀ (l : List UInt8) (acc : List UInt8) (i : Nat) (out : List (List UInt8)),
    (∀ n, bareN l i = some n → i ≤ n ∧ refRun ⟨1, false, out, acc⟩ l = refRun ⟨1, false, out, acc ++ l.take (n - i)⟩ (l.drop (n - i))) ∧
    (bareN l i = none → refOut (refRun ⟨1, false, out, acc⟩ l) = none)
  | [], acc, i, out => by
    refine ⟨fun n h => ?_, fun h => (by cases h)⟩
    injection h with h
    subst h
    exact ⟨Nat.le_refl _, by simp⟩
  | b :: t, acc, i, out => by
    obtain ⟨i1, i2⟩ := bare_ref t (acc ++ [b]) (i + 1) out
    rw [bareN]
    by_cases hs : stopN b.toNat = true
    · rw [if_pos hs]
      refine ⟨fun n h => ?_, fun h => (by cases h)⟩
      injection h with h
      subst h
      exact ⟨Nat.le_refl _, by simp⟩
    · rw [if_neg hs, refRun_cons, bare_step out acc b hs]
      by_cases hq : b.toNat = 34 ∨ b.toNat = 92
      · have hb : badN b.toNat = true := by
          unfold badN
          rcases hq with h | h
          · rw [h]; rfl
          · rw [h]; rfl
        rw [if_pos hb, if_pos hq]
        exact ⟨fun n h => (by cases h), fun _ => refRun_none t _ rfl⟩
      · have hb : badN b.toNat = refBad b.toNat := by
          rw [refBad_plain]
          unfold badN
          rw [decide_eq_false (fun x => hq (.inl x)), decide_eq_false (fun x => hq (.inr x))]
          rfl
        rw [if_neg hq, hb]
        by_cases hr : refBad b.toNat = true
        · rw [if_pos hr]
          exact ⟨fun n h => (by cases h), fun _ => refRun_none t _ hr⟩
        · rw [if_neg hr]
          simp only [Bool.not_eq_true] at hr
          rw [hr]
          refine ⟨fun n h => ?_, fun h => i2 h⟩
          obtain ⟨h1, h2⟩ := i1 n h
          refine ⟨by omega, ?_⟩
          rw [h2, show n - i = (n - (i + 1)) + 1 by omega, List.take_succ_cons, List.drop_succ_cons, List.append_assoc]
          rfl
/-- Blanks. -/
theorem stop_u8 (b : UInt8) : (b = 32 ∨ b = 9) ↔ stopN b.toNat = true := by
  unfold stopN
  rw [Bool.or_eq_true, decide_eq_true_iff, decide_eq_true_iff]
  constructor
  · rintro (h | h)
    · exact .inl (by rw [h]; rfl)
    · exact .inr (by rw [h]; rfl)
  · rintro (h | h)
    · exact .inl (UInt8.toNat_inj.1 h)
    · exact .inr (UInt8.toNat_inj.1 h)
theorem blank_step (st : Nat) (hst : st = 0 ∨ st = 4) (out : List (List UInt8)) (b : UInt8) (hs : stopN b.toNat = true) : refW1 ⟨st, false, out, []⟩ b = ⟨0, false, out, []⟩ := by
  have hb : refBad b.toNat = false := by
    rcases (stop_u8 b).2 hs with h | h
    · rw [h]; rfl
    · rw [h]; rfl
  unfold refW1
  dsimp only
  rw [if_neg (show ¬ st = 3 by omega), if_neg (fun x => absurd x.1 (by omega)), if_neg (fun x => absurd x.1 (by omega)), if_neg (show ¬ st = 2 by omega), if_neg (fun x => absurd x.2 (by omega)), if_pos hs, Bool.false_or, hb]
theorem trim_ref : ∀ (l : List UInt8) (out : List (List UInt8)), refRun ⟨0, false, out, []⟩ l = refRun ⟨0, false, out, []⟩ (trimB l)
  | [], _ => rfl
  | b :: t, out => by
    rw [trimB_cons]
    by_cases h : b = 32 ∨ b = 9
    · rw [if_pos h, refRun_cons, blank_step 0 (.inl rfl) out b ((stop_u8 b).1 h), trim_ref t out]
    · rw [if_neg h]
end Go.Proofs.YthkifgjmhpppkaaDoor

/- The document's Words, plain: a whole line. -/
namespace Go.Proofs.YthkifgjmhpppkaaDoor

def refCount (s : RefW) : Nat := s.out.length + if s.st = 1 then 1 else 0
theorem refCount_step (s : RefW) (b : UInt8) : refCount s ≤ refCount (refW1 s b) := by
  unfold refW1 refCount
  dsimp only
  repeat' split
  all_goals simp_all
  all_goals omega
theorem refCount_run : ∀ (l : List UInt8) (s : RefW), refCount s ≤ refCount (refRun s l)
  | [], _ => Nat.le_refl _
  | b :: t, s => Nat.le_trans (refCount_step s b) (refCount_run t (refW1 s b))
theorem refOut_many (s : RefW) (h : 16 < refCount s) : refOut s = none := by
  unfold refOut
  refine if_pos (.inr (.inr (.inr ?_)))
  unfold refCount at h
  split
  · rename_i h1
    rw [if_pos h1] at h
    simpa using h
  · rename_i h1
    rw [if_neg h1] at h
    simpa using h
theorem bareN_end : ∀ (l : List UInt8) (i n : Nat), bareN l i = some n → blankHead (l.drop (n - i)) = true
  | [], i, n, h => by simp [blankHead]
  | b :: t, i, n, h => by
    have hb := (bare_ref (b :: t) [] i []).1 n h
    rw [bareN] at h
    by_cases hs : stopN b.toNat = true
    · rw [if_pos hs] at h
      injection h with h
      subst h
      rw [Nat.sub_self]
      show (b == 32 || b == 9) = true
      rcases (stop_u8 b).2 hs with e | e <;> rw [e] <;> rfl
    · rw [if_neg hs] at h
      by_cases hq : badN b.toNat = true
      · rw [if_pos hq] at h
        cases h
      · rw [if_neg hq] at h
        have h1 := (bare_ref t [] (i + 1) []).1 n h
        rw [show n - i = (n - (i + 1)) + 1 by omega, List.drop_succ_cons]
        exact bareN_end t (i + 1) n h
theorem bareN_pos (b : UInt8) (t : List UInt8) (n : Nat) (hs : ¬ stopN b.toNat = true) (h : bareN (b :: t) 0 = some n) : 1 ≤ n := by
  rw [bareN, if_neg hs] at h
  by_cases hq : badN b.toNat = true
  · rw [if_pos hq] at h
    cases h
  · rw [if_neg hq] at h
    exact ((bare_ref t [] 1 []).1 n h).1
theorem trimB_idem : ∀ l : List UInt8, trimB (trimB l) = trimB l
  | [] => rfl
  | b :: t => by
    rw [trimB_cons]
    by_cases h : b = 32 ∨ b = 9
    · rw [if_pos h]
      exact trimB_idem t
    · rw [if_neg h, trimB_cons, if_neg h]
theorem one_stop (out : List (List UInt8)) (acc : List UInt8) (b : UInt8) (hs : stopN b.toNat = true) : refW1 ⟨1, false, out, acc⟩ b = ⟨0, false, out ++ [acc], []⟩ := by
  have hb : refBad b.toNat = false := by
    rcases (stop_u8 b).2 hs with h | h
    · rw [h]; rfl
    · rw [h]; rfl
  unfold refW1
  dsimp only
  rw [if_neg (show ¬ (1 : Nat) = 3 by decide), if_neg (fun x => absurd x.1 (by decide)), if_neg (fun x => absurd x.1 (by decide)), if_neg (show ¬ (1 : Nat) = 2 by decide), if_pos ⟨hs, rfl⟩, Bool.false_or, hb]
theorem four_bad (out : List (List UInt8)) (b : UInt8) (hs : ¬ stopN b.toNat = true) : (refW1 ⟨4, false, out, []⟩ b).bad = true := by
  unfold refW1
  dsimp only
  rw [if_neg (show ¬ (4 : Nat) = 3 by decide), if_neg (fun x => absurd x.1 (by decide)), if_neg (fun x => absurd x.1 (by decide)), if_neg (show ¬ (4 : Nat) = 2 by decide), if_neg (fun x => hs x.1), if_neg hs, if_neg (fun x => absurd x.1 (by decide)), if_pos (Or.inl rfl)]
theorem zero_step (out : List (List UInt8)) (b : UInt8) (t : List UInt8) (hs : ¬ stopN b.toNat = true) (h34 : ¬ b.toNat = 34) : refOut (refRun ⟨0, false, out, []⟩ (b :: t)) = refOut (refRun ⟨1, false, out, []⟩ (b :: t)) := by
  rw [refRun_cons, refRun_cons, bare_step out [] b hs]
  have e : refW1 ⟨0, false, out, []⟩ b = if b.toNat = 34 ∨ b.toNat = 92 then ⟨0, true, out, []⟩ else ⟨1, refBad b.toNat, out, [] ++ [b]⟩ := by
    unfold refW1
    dsimp only
    rw [if_neg (show ¬ (0 : Nat) = 3 by decide), if_neg (fun x => absurd x.1 (by decide)), if_neg (fun x => absurd x.1 (by decide)), if_neg (show ¬ (0 : Nat) = 2 by decide), if_neg (fun x => hs x.1), if_neg hs, if_neg (fun x => h34 x.2), Bool.false_or]
    by_cases h : b.toNat = 34 ∨ b.toNat = 92
    · rw [if_pos (Or.inr h), if_pos h]
    · rw [if_neg (fun x => x.elim (fun y => absurd y (by decide)) h), if_neg h]
  rw [e]
  by_cases h : b.toNat = 34 ∨ b.toNat = 92
  · rw [if_pos h, if_pos h, refRun_none t _ rfl, refRun_none t _ rfl]
  · rw [if_neg h, if_neg h]
/-- Behind a word. -/
theorem behind (st : Nat) (hst : st = 1 ∨ st = 4) (f : Nat) (ih : ∀ (l : List UInt8) (out : List (List UInt8)), l.length < f → trimB l = l → out.length ≤ 16 → refOut (refRun ⟨0, false, out, []⟩ l) = wordsG f l out)
    (r a : List UInt8) (out : List (List UInt8)) (hr : r.length < f) (ho : out.length ≤ 16) (hbl : st = 1 → blankHead r = true) :
    refOut (refRun (if st = 1 then ⟨1, false, out, a⟩ else ⟨4, false, out ++ [a], []⟩) r) = if out.length = 16 then none else if blankHead r = true then wordsG f (trimB r) (out ++ [a]) else none := by
  obtain ⟨f, rfl⟩ : ∃ m, f = m + 1 := ⟨f - 1, by omega⟩
  by_cases h16 : out.length = 16
  · rw [if_pos h16]
    refine refOut_many _ (Nat.lt_of_lt_of_le ?_ (refCount_run r _))
    unfold refCount
    rcases hst with rfl | rfl
    · simp [h16]
    · simp [h16]
  rw [if_neg h16]
  have hol : (out ++ [a]).length ≤ 16 := by
    rw [List.length_append]
    show out.length + 1 ≤ 16
    omega
  cases r with
  | nil =>
    rw [if_pos (show blankHead [] = true from rfl)]
    show _ = some (out ++ [a])
    rcases hst with rfl | rfl
    · show refOut ⟨1, false, out, a⟩ = _
      unfold refOut
      dsimp only
      rw [if_pos rfl, if_neg (by rintro (h | h | h | h) <;> first | cases h | omega)]
    · show refOut ⟨4, false, out ++ [a], []⟩ = _
      unfold refOut
      dsimp only
      rw [if_neg (show ¬ (4 : Nat) = 1 by decide), if_neg (by rintro (h | h | h | h) <;> first | cases h | omega)]
  | cons b t =>
    have hbh : blankHead (b :: t) = stopN b.toNat := by
      show (b == 32 || b == 9) = _
      rw [Bool.eq_iff_iff, ← stop_u8, Bool.or_eq_true, beq_iff_eq, beq_iff_eq]
    rw [hbh] at hbl ⊢
    by_cases hs : stopN b.toNat = true
    · rw [if_pos hs, refRun_cons]
      have e : refW1 (if st = 1 then ⟨1, false, out, a⟩ else ⟨4, false, out ++ [a], []⟩) b = ⟨0, false, out ++ [a], []⟩ := by
        rcases hst with rfl | rfl
        · rw [if_pos rfl, one_stop out a b hs]
        · rw [if_neg (by decide), blank_step 4 (.inr rfl) _ b hs]
      rw [e, trim_ref, trimB_cons, if_pos ((stop_u8 b).2 hs)]
      refine ih _ _ ?_ (trimB_idem t) hol
      have := trimB_len t
      simp at hr
      omega
    · rw [if_neg hs]
      rcases hst with rfl | rfl
      · exact absurd (hbl rfl) hs
      · rw [if_neg (by decide), refRun_cons]
        exact refRun_none t _ (four_bad _ b hs)
theorem words_run : ∀ (f : Nat) (l : List UInt8) (out : List (List UInt8)), l.length < f → trimB l = l → out.length ≤ 16 → refOut (refRun ⟨0, false, out, []⟩ l) = wordsG f l out
  | 0, l, _, h, _, _ => by omega
  | f + 1, [], out, _, _, ho => by
    show refOut ⟨0, false, out, []⟩ = some out
    unfold refOut
    dsimp only
    rw [if_neg (show ¬ (0 : Nat) = 1 by decide), if_neg (by rintro (h | h | h | h) <;> first | cases h | omega)]
  | f + 1, b :: t, out, hl, ht, ho => by
    have ih := words_run f
    have hs : ¬ stopN b.toNat = true := fun h => by
      rw [trimB_cons, if_pos ((stop_u8 b).2 h)] at ht
      have := trimB_len t
      rw [ht] at this
      simp at this
      omega
    rw [wordsG, if_neg (by simp)]
    by_cases h34 : b.toNat = 34
    · have e0 : refW1 ⟨0, false, out, []⟩ b = ⟨2, false, out, []⟩ := by
        unfold refW1
        dsimp only
        rw [if_neg (show ¬ (0 : Nat) = 3 by decide), if_neg (fun x => absurd x.1 (by decide)), if_neg (fun x => absurd x.1 (by decide)), if_neg (show ¬ (0 : Nat) = 2 by decide), if_neg (fun x => hs x.1), if_neg hs, if_pos ⟨rfl, h34⟩, h34]
        rfl
      have hb : b = 34 := UInt8.toNat_inj.1 h34
      have hh : (b :: t).head? = some 34 := by rw [hb]; rfl
      rw [refRun_cons, e0]
      obtain ⟨q1, q2⟩ := quo_ref t false [] 0 out
      cases hq : quoN false [] 0 t with
      | none =>
        have e1 : wordOne (b :: t) = ([], 0) := by
          unfold wordOne
          rw [if_pos hh]
          show (match quoN false [] 0 t with | none => ([], 0) | some x => x) = _
          rw [hq]
        rw [e1, if_pos (.inl rfl)]
        exact q2 hq
      | some x =>
        obtain ⟨a, n⟩ := x
        have e1 : wordOne (b :: t) = (a, n) := by
          unfold wordOne
          rw [if_pos hh]
          show (match quoN false [] 0 t with | none => ([], 0) | some x => x) = _
          rw [hq]
        obtain ⟨h2, h3⟩ := q1 a n hq
        have e2 : (b :: t).drop n = t.drop (n - 0 - 1) := by
          rw [show n = (n - 0 - 1) + 1 by omega, List.drop_succ_cons]
          congr 1
        rw [e1]
        dsimp only
        rw [e2]
        have := behind 4 (.inr rfl) f ih (t.drop (n - 0 - 1)) a out (by rw [List.length_drop]; simp at hl; omega) ho (fun h => absurd h (by decide))
        rw [if_neg (by decide)] at this
        have h3' : refRun ⟨2, false, out, []⟩ t = refRun ⟨4, false, out ++ [a], []⟩ (t.drop (n - 0 - 1)) := h3
        rw [h3', this]
        by_cases h16 : out.length = 16
        · rw [if_pos h16, if_pos (.inr h16)]
        · rw [if_neg h16, if_neg (show ¬ (n = 0 ∨ out.length = 16) by omega)]
    · have hh : ¬ (b :: t).head? = some 34 := by
        simp only [List.head?_cons, Option.some.injEq]
        intro e
        rw [e] at h34
        exact h34 rfl
      rw [zero_step out b t hs h34]
      obtain ⟨q1, q2⟩ := bare_ref (b :: t) [] 0 out
      cases hq : bareN (b :: t) 0 with
      | none =>
        have e1 : wordOne (b :: t) = ([], 0) := by
          unfold wordOne
          rw [if_neg hh, hq]
        rw [e1, if_pos (.inl rfl)]
        exact q2 hq
      | some n =>
        have e1 : wordOne (b :: t) = ((b :: t).take n, n) := by
          unfold wordOne
          rw [if_neg hh, hq]
        have hn := bareN_pos b t n hs hq
        have hbe := bareN_end (b :: t) 0 n hq
        obtain ⟨_, h3⟩ := q1 n hq
        rw [Nat.sub_zero] at h3 hbe
        rw [e1]
        dsimp only
        have := behind 1 (.inl rfl) f ih ((b :: t).drop n) ([] ++ (b :: t).take n) out (by rw [List.length_drop]; simp only [List.length_cons] at hl ⊢; omega) ho (fun _ => hbe)
        rw [if_pos rfl] at this
        rw [h3, this, List.nil_append]
        by_cases h16 : out.length = 16
        · rw [if_pos h16, if_pos (.inr h16)]
        · rw [if_neg h16, if_neg (show ¬ (n = 0 ∨ out.length = 16) by omega)]
/-- The document's machine over a whole line. -/
theorem words_ref (l : List UInt8) : wordsP l = if 1024 < l.length ∨ Lib.validD l = false then none else refOut (refRun ⟨0, false, [], []⟩ l) := by
  unfold wordsP
  by_cases h : 1024 < l.length ∨ Lib.validD l = false
  · rw [if_pos h, if_pos h]
  · rw [if_neg h, if_neg h, trim_ref, words_run (l.length + 1) (trimB l) [] (by have := trimB_len l; omega) (trimB_idem l) (by simp)]
end Go.Proofs.YthkifgjmhpppkaaDoor

/- The document's Words: the walk. -/
namespace Go.Proofs.YthkifgjmhpppkaaDoor
open Go.RowKit Go.Proofs.YthkifgjmhpppkaaDoorW.PrintWords Go.Proofs.YthkifgjmhpppkaaDoor.PTextAmounts Go.Proofs.YthkifgjmhpppkaaDoor.PTextLines

theorem string_info2 : (Tryd.prog.info? 9).map (fun i => (i.zero, i.size, i.bytes)) = some (some (.string ⟨#[]⟩), 1, 16) := by kernel_rfl
theorem u8_info2 : (Tryd.prog.info? 5).map (fun i => (i.zero, i.size, i.bytes)) = some (some (.int .u8 0), 1, 1) := by kernel_rfl
theorem run_next {s : ByteArray} {k : Nat} {s0 st : RefW} (h : refRun s0 (s.data.toList.take k) = st) (hk : k < s.size) : refRun s0 (s.data.toList.take (k + 1)) = refW1 st s[k] := by
  have hl : s.data.toList.length = s.size := rfl
  have e : s.data.toList.take (k + 1) = s.data.toList.take k ++ [s[k]] := by
    rw [List.take_succ_eq_append_getElem (by omega)]
    rfl
  rw [e, refRun_app, h]
  rfl
theorem strOf_bytes (l : List UInt8) : strOfNums (numsB l) = ⟨l.toArray⟩ := by
  have h := str_numsB l
  generalize strOfNums (numsB l) = x at h
  cases x
  simp at h
  subst h
  simp
theorem nums_app (a : List UInt8) (b : UInt8) : nums .u8 (numsB (a ++ [b])) = nums .u8 (numsB a) ++ [.int .u8 (b.toNat : Nat)] := by
  unfold nums numsB
  simp
/-- The two lists of the machine: words, and the word in hand. -/
def TwoL (wr : World) (B : Nat) (v4 v5 : Value) (out : List (List UInt8)) (word : List UInt8) : Prop :=
  wr.ownsRow B 9 1 v4 out.length (out.map strV) ∧ wr.ownsRow B 5 1 v5 word.length (nums .u8 (numsB word))
theorem TwoL.apart {wr : World} {B : Nat} {v4 v5 : Value} {out : List (List UInt8)} {word : List UInt8} (h : TwoL wr B v4 v5 out word) : v4.ownBlock = none ∨ v4.ownBlock ≠ v5.ownBlock := by
  rcases h.1.2 with ⟨rfl, _⟩ | ⟨g, cap, cur, rfl, _, h4, _⟩
  · exact .inl rfl
  · refine .inr fun e => ?_
    rcases h.2.2 with ⟨rfl, _⟩ | ⟨g', cap', cur', rfl, _, h5, _⟩
    · cases e
    · have e : some g = some g' := e
      injection e with e
      subst e
      rw [h4] at h5
      injection h5 with h5
      injection h5 with _ h5
      cases h5
theorem TwoL.grow5 {wr w5 : World} {B : Nat} {v4 v5 v' : Value} {out : List (List UInt8)} {word : List UInt8} {b : UInt8} (h : TwoL wr B v4 v5 out word)
    (hown : w5.ownsRow B 5 1 v' (word.length + 1) (nums .u8 (numsB word) ++ [.int .u8 (b.toNat : Nat)])) (hg : (wr.alloc (.cells #[.int .u8 (b.toNat : Nat)] 5)).grownBy w5 v5.ownBlock) : TwoL w5 B v4 v' out (word ++ [b]) :=
  ⟨(h.1.alloc _).kept hg h.apart, by rw [nums_app, List.length_append]; exact hown⟩
theorem TwoL.grow4 {wr w5 : World} {B : Nat} {v4 v5 v' : Value} {out : List (List UInt8)} {word : List UInt8} (_ : TwoL wr B v4 v5 out word)
    (hown : w5.ownsRow B 9 1 v' (out.length + 1) (out.map strV ++ [strV word])) : TwoL w5 B v' (.slice none 0 0) (out ++ [word]) [] :=
  ⟨by rw [List.length_append, List.map_append]; exact hown, by simp [numsB, nums], .inl ⟨rfl, rfl⟩⟩
theorem one_int (x : Int) : ∀ u ∈ [Value.int .u8 x], u.oneCell' = true := fun u hu => by
  rw [List.mem_singleton] at hu
  subst hu
  rfl
def WRelR (w : World) (s : ByteArray) (v4 v5 v6 v7 v8 : Value) (wr : World) : Prop :=
  ∃ (k : Nat) (z : Int) (bad : Bool) (out : List (List UInt8)) (word : List UInt8) (A4 : Option Addr) (c4 : Nat) (A5 : Option Addr) (c5 : Nat), k ≤ s.size ∧ refRun ⟨0, false, [], []⟩ (s.data.toList.take k) = ⟨z.toNat, bad, out, word⟩ ∧
    v4 = .slice A4 out.length c4 ∧ v5 = .slice A5 word.length c5 ∧ v6 = .int .i64 z ∧ v7 = .bool bad ∧ v8 = .int .i64 k ∧ 0 ≤ z ∧ z ≤ 4 ∧ TwoL wr w.heap.size (.slice A4 out.length c4) (.slice A5 word.length c5) out word ∧ out.length + word.length ≤ k ∧ Below w.heap.size w wr
/-- A byte's class, in the walk's words. -/
def ClsF (c : Int) (b32 b9 l32 b127 b34 b92 : Bool) : Prop := (c == 32) = b32 ∧ (c == 9) = b9 ∧ decide (c < 32) = l32 ∧ (c == 127) = b127 ∧ (c == 34) = b34 ∧ (c == 92) = b92
theorem cls_of (c : Nat) : (c = 32 ∧ ClsF c true false false false false false) ∨ (c = 9 ∧ ClsF c false true true false false false) ∨ ((c < 32 ∧ ¬ c = 9 ∧ ¬ c = 32 ∧ ¬ c = 34 ∧ ¬ c = 92 ∧ ¬ c = 127) ∧ ClsF c false false true false false false) ∨ (c = 127 ∧ ClsF c false false false true false false) ∨
    (c = 34 ∧ ClsF c false false false false true false) ∨ (c = 92 ∧ ClsF c false false false false false true) ∨ ((¬ c < 32 ∧ ¬ c = 9 ∧ ¬ c = 32 ∧ ¬ c = 34 ∧ ¬ c = 92 ∧ ¬ c = 127) ∧ ClsF c false false false false false false) := by
  have e : ∀ d : Nat, ((c : Int) == (d : Int)) = decide (c = d) := fun d => by rw [Bool.eq_iff_iff]; simp; omega
  have hl : decide ((c : Int) < 32) = decide (c < 32) := by rw [Bool.eq_iff_iff]; simp; omega
  have e32 : ((c : Int) == 32) = decide (c = 32) := e 32
  have e9 : ((c : Int) == 9) = decide (c = 9) := e 9
  have e127 : ((c : Int) == 127) = decide (c = 127) := e 127
  have e34 : ((c : Int) == 34) = decide (c = 34) := e 34
  have e92 : ((c : Int) == 92) = decide (c = 92) := e 92
  unfold ClsF
  rw [e32, e9, hl, e127, e34, e92]
  simp only [decide_eq_true_eq, decide_eq_false_iff_not]
  omega
set_option maxRecDepth 100000 in
set_option maxHeartbeats 16000000 in
theorem refWords_any (s : ByteArray) (w : World) (hs : s.size ≤ 9223372036854775807) (hgood : s.size ≤ 1024 → Calls Tryd.prog 38 #[.string s] w fun e w' => e = .returned (.bool (Lib.validD s.data.toList)) ∧ ∃ n, w' = w.drewN n) : Calls Tryd.prog 16 #[.string s] w (WordsEnd (if 1024 < s.data.toList.length ∨ Lib.validD s.data.toList = false then none else refOut (refRun ⟨0, false, [], []⟩ s.data.toList)) w) := by
  obtain ⟨o, ho⟩ : ∃ o, (if 1024 < s.data.toList.length ∨ Lib.validD s.data.toList = false then none else refOut (refRun ⟨0, false, [], []⟩ s.data.toList)) = o := ⟨_, rfl⟩
  rw [ho]
  have hlen : s.data.toList.length = s.size := rfl
  by_cases h1 : 1024 < s.size
  · have HO := Lib.hid (show o = none from by rw [← ho, if_pos (.inl (by omega))])
    have q1 : (1024 : Int) < (s.size : Int) := by omega
    clear h1 hlen ho hgood
    go_enter Tryd.func16, Tryd.ntmps16
    go_wp2
    go_ret2
    exact ⟨Below.refl _ _, by rw [HO.out]; rfl⟩
  · have q1 : ¬ (1024 : Int) < (s.size : Int) := by omega
    have HG := Lib.hid (hgood (by omega))
    clear hgood
    cases hvd : Lib.validD s.data.toList with
    | false =>
      have HO := Lib.hid (show o = none from by rw [← ho, if_pos (.inr hvd)])
      have HVD := Lib.hid hvd
      clear h1 hlen hvd ho
      go_enter Tryd.func16, Tryd.ntmps16
      go_wp2_with (go_at_call 38; (with_reducible refine HG.out.mono ?_); rintro e w1 ⟨rfl, n, rfl⟩; rw [HVD.out])
      go_ret2
      exact ⟨(belowD w n).mono (Nat.le_refl _), by rw [HO.out]; rfl⟩
    | true =>
      have HO := Lib.hid (show o = refOut (refRun ⟨0, false, [], []⟩ s.data.toList) from by rw [← ho, if_neg (by rw [hvd, hlen]; simp; omega)])
      have HVD := Lib.hid hvd
      obtain ⟨i0, hi, hz0, hz1, hz2⟩ := info_parts string_info2
      have HI := Lib.hid (And.intro hi (And.intro hz0 (And.intro hz1 hz2)))
      obtain ⟨i1, hi1, hy0, hy1, hy2⟩ := info_parts u8_info2
      have HJ := Lib.hid (And.intro hi1 (And.intro hy0 (And.intro hy1 hy2)))
      have b9 : s.size ≤ 1024 := by omega
      clear h1 hlen hvd ho hi hz0 hz1 hz2 hi1 hy0 hy1 hy2
      go_enter Tryd.func16, Tryd.ntmps16
      go_wp2_with (go_at_call 38; (with_reducible refine HG.out.mono ?_); rintro e w1 ⟨rfl, n, rfl⟩; rw [HVD.out])
      go_loopw [4, 5, 6, 7, 8] (fun v4 v5 v6 v7 v8 wr => WRelR w s v4 v5 v6 v7 v8 wr) (fun _ _ _ _ v8 _ => s.size - (intOf v8).toNat)
      case atStart => exact ⟨0, 0, false, [], [], none, 0, none, 0, Nat.zero_le _, rfl, rfl, rfl, rfl, rfl, rfl, by decide, by decide, ⟨⟨by simp, .inl ⟨rfl, rfl⟩⟩, ⟨by simp [numsB, nums], .inl ⟨rfl, rfl⟩⟩⟩, Nat.le_refl _, belowD w n⟩
      case round =>
        obtain ⟨k, z, bad, out, word, A4, c4, A5, c5, hk, hrun, rfl, rfl, rfl, rfl, rfl, hz0, hz4, hTL, hsum, hbw⟩ := hrel
        have hcv := own_string (P := Tryd.prog) Tryd.underlying58 Tryd.underlying5 Tryd.underlying9 hTL.2
        rw [strOf_bytes] at hcv
        by_cases hlt : k < s.size
        · have HRUN := Lib.hid (run_next hrun hlt)
          have hcl := cls_of s[k].toNat
          unfold ClsF at hcl
          have hzb : (z = 3 ∧ bad = true) ∨ (z = 3 ∧ bad = false) ∨ z = 2 ∨ z = 1 ∨ z = 0 ∨ z = 4 := by
            cases bad <;> simp <;> omega
          clear hrun
          have h1024 : out.length + word.length ≤ 1024 := by omega
          rcases hzb with ⟨rfl, rfl⟩ | ⟨rfl, rfl⟩ | rfl | rfl | rfl | rfl
          all_goals
            rcases hcl with ⟨hc, c1, c2, c3, c4', c5', c6'⟩ | ⟨hc, c1, c2, c3, c4', c5', c6'⟩ | ⟨hc, c1, c2, c3, c4', c5', c6'⟩ | ⟨hc, c1, c2, c3, c4', c5', c6'⟩ | ⟨hc, c1, c2, c3, c4', c5', c6'⟩ | ⟨hc, c1, c2, c3, c4', c5', c6'⟩ | ⟨hc, c1, c2, c3, c4', c5', c6'⟩
            all_goals
              have n9 : ((s[k].toNat : Int) != 9) = !((s[k].toNat : Int) == 9) := rfl
              have n34 : ((s[k].toNat : Int) != 34) = !((s[k].toNat : Int) == 34) := rfl
              have n92 : ((s[k].toNat : Int) != 92) = !((s[k].toNat : Int) == 92) := rfl
              rw [c2] at n9
              rw [c5'] at n34
              rw [c6'] at n92
              simp only [Bool.not_true, Bool.not_false] at n9 n34 n92
              have HC := Lib.hid hc
              clear hc
              go_wp2_with (first | (at_builtin; refine wpList_append_own _ rfl (.tmp 60) (.tmp 62) 58 rfl w.heap.size 5 i1 (.int .u8 0) 1 1 Tryd.underlying58 HJ.out.1 HJ.out.2.1 HJ.out.2.2.1 HJ.out.2.2.2 rfl (by decide) (.slice A5 word.length c5) word.length (nums .u8 (numsB word)) rfl (hTL.2.alloc _) ⟨_, 0, none⟩ 1 1 [.int .u8 (s[k].toNat : Nat)] rfl rfl (new_cell _ _ _) (one_int _) (by unfold maxLen; omega) (by omega) (by have := hbw.size; simp; omega) ?_; intro v' w5 hown5 hgrow _; obtain ⟨A6, c6, rfl⟩ := row_form hown5) | (at_builtin; refine wpList_append_own _ rfl (.tmp 86) (.tmp 88) 58 rfl w.heap.size 5 i1 (.int .u8 0) 1 1 Tryd.underlying58 HJ.out.1 HJ.out.2.1 HJ.out.2.2.1 HJ.out.2.2.2 rfl (by decide) (.slice A5 word.length c5) word.length (nums .u8 (numsB word)) rfl (hTL.2.alloc _) ⟨_, 0, none⟩ 1 1 [.int .u8 (s[k].toNat : Nat)] rfl rfl (new_cell _ _ _) (one_int _) (by unfold maxLen; omega) (by omega) (by have := hbw.size; simp; omega) ?_; intro v' w5 hown5 hgrow _; obtain ⟨A6, c6, rfl⟩ := row_form hown5) | (at_builtin; refine wpList_append_own _ rfl (.tmp 44) (.tmp 46) 58 rfl w.heap.size 5 i1 (.int .u8 0) 1 1 Tryd.underlying58 HJ.out.1 HJ.out.2.1 HJ.out.2.2.1 HJ.out.2.2.2 rfl (by decide) (.slice A5 word.length c5) word.length (nums .u8 (numsB word)) rfl (hTL.2.alloc _) ⟨_, 0, none⟩ 1 1 [.int .u8 (s[k].toNat : Nat)] rfl rfl (new_cell _ _ _) (one_int _) (by unfold maxLen; omega) (by omega) (by have := hbw.size; simp; omega) ?_; intro v' w5 hown5 hgrow _; obtain ⟨A6, c6, rfl⟩ := row_form hown5) | (at_builtin; refine wpList_append_own _ rfl (.tmp 78) (.tmp 81) 22 rfl w.heap.size 9 i0 (.string ⟨#[]⟩) 1 16 Tryd.underlying22 HI.out.1 HI.out.2.1 HI.out.2.2.1 HI.out.2.2.2 rfl (by decide) (.slice A4 out.length c4) out.length (out.map strV) rfl (hTL.1.alloc _) ⟨_, 0, none⟩ 1 1 [strV word] rfl rfl (new_cell _ _ _) (one_str word) (by unfold maxLen; omega) (by omega) (by have := hbw.size; simp; omega) ?_; intro v' w5 hown5 hgrow _; obtain ⟨A6, c6, rfl⟩ := row_form hown5) | (at_builtin; refine wpList_append_own _ rfl (.tmp 96) (.tmp 99) 22 rfl w.heap.size 9 i0 (.string ⟨#[]⟩) 1 16 Tryd.underlying22 HI.out.1 HI.out.2.1 HI.out.2.2.1 HI.out.2.2.2 rfl (by decide) (.slice A4 out.length c4) out.length (out.map strV) rfl (hTL.1.alloc _) ⟨_, 0, none⟩ 1 1 [strV word] rfl rfl (new_cell _ _ _) (one_str word) (by unfold maxLen; omega) (by omega) (by have := hbw.size; simp; omega) ?_; intro v' w5 hown5 hgrow _; obtain ⟨A6, c6, rfl⟩ := row_form hown5))
              go_roundw
              case rel =>
                first
                  | (refine ⟨k + 1, _, _, _, word ++ [s[k]], _, _, _, _, by omega, ?_, rfl, by rw [List.length_append]; rfl, rfl, rfl, by go_num, by decide, by decide, by rw [List.length_append]; exact hTL.grow5 hown5 hgrow, by simp; omega, (hbw.alloc hbw.size _).grown hgrow (by have := hbw.size; simp; omega) (fun q hq => (hTL.2.lt q hq).1)⟩; rw [HRUN.out]; clear hTL hown5 hgrow hcv; have HC := HC.out; simp [refW1, refBad, stopN, HC]; try omega)
                  | (refine ⟨k + 1, _, _, out ++ [word], [], _, _, none, 0, by omega, ?_, by rw [List.length_append]; rfl, rfl, rfl, rfl, by go_num, by decide, by decide, by rw [List.length_append]; exact hTL.grow4 hown5, by simp; omega, (hbw.alloc hbw.size _).grown hgrow (by have := hbw.size; simp; omega) (fun q hq => (hTL.1.lt q hq).1)⟩; rw [HRUN.out]; clear hTL hown5 hgrow hcv; have HC := HC.out; simp [refW1, refBad, stopN, HC]; try omega)
                  | (refine ⟨k + 1, _, _, out, word, _, _, _, _, by omega, ?_, rfl, rfl, rfl, rfl, by go_num, by decide, by decide, hTL, by omega, hbw⟩; rw [HRUN.out]; clear hTL hcv; have HC := HC.out; simp [refW1, refBad, stopN, HC]; try omega)
              case measure => simp [intOf]; omega
        · have HF : Hid (o = refOut ⟨z.toNat, bad, out, word⟩) := by
            refine Lib.hid ?_
            rw [HO.out, ← hrun, List.take_of_length_le (by show s.size ≤ k; omega)]
          have hzb2 : z = 1 ∨ z = 2 ∨ z = 3 ∨ z = 0 ∨ z = 4 := by omega
          have h1024 : out.length + word.length ≤ 1024 := by omega
          clear hrun
          rcases hzb2 with rfl | rfl | rfl | rfl | rfl
          · by_cases h16 : 16 < out.length + 1
            all_goals
              cases bad
              all_goals
                go_wp2_with (first | (at_builtin; refine wpList_append_own _ rfl (.tmp 123) (.tmp 126) 22 rfl w.heap.size 9 i0 (.string ⟨#[]⟩) 1 16 Tryd.underlying22 HI.out.1 HI.out.2.1 HI.out.2.2.1 HI.out.2.2.2 rfl (by decide) (.slice A4 out.length c4) out.length (out.map strV) rfl (hTL.1.alloc _) ⟨_, 0, none⟩ 1 1 [strV word] rfl rfl (new_cell _ _ _) (one_str word) (by unfold maxLen; omega) (by omega) (by have := hbw.size; simp; omega) ?_; intro v' w5 hown5 hgrow _; obtain ⟨A6, c6, rfl⟩ := row_form hown5))
                go_ret2
                first
                  | exact ⟨(hbw.alloc hbw.size _).grown hgrow (by have := hbw.size; simp; omega) (fun q hq => (hTL.1.lt q hq).1), by rw [show o = none from HF.out.trans (by simp [refOut]; try omega)]; rfl⟩
                  | exact ⟨(hbw.alloc hbw.size _).grown hgrow (by have := hbw.size; simp; omega) (fun q hq => (hTL.1.lt q hq).1), by rw [show o = some (out ++ [word]) from HF.out.trans (by simp [refOut]; try omega)]; exact ⟨A6, c6, by rw [List.length_append]; rfl, by rw [List.length_append, List.map_append]; exact hown5⟩⟩
          all_goals
            by_cases h16 : 16 < out.length
            all_goals
              cases bad
              all_goals
                go_wp2_with fail
                go_ret2
                first
                  | exact ⟨hbw, by rw [show o = none from HF.out.trans (by simp [refOut]; try omega)]; rfl⟩
                  | exact ⟨hbw, by rw [show o = some out from HF.out.trans (by simp [refOut]; try omega)]; exact ⟨A4, c4, rfl, hTL.1⟩⟩
theorem refWords_all (s : ByteArray) (w : World) (hs : s.size ≤ 9223372036854775807) : Calls Tryd.prog 16 #[.string s] w (WordsEnd (wordsP s.data.toList) w) := by
  rw [words_ref]
  exact refWords_any s w hs fun h => (tallyref2_Good.calls _ s _ w (good_f s (by omega) s.size (Nat.le_refl _))).mono fun _ _ h => ⟨h.1, h.2.out⟩
end Go.Proofs.YthkifgjmhpppkaaDoor

/- Lists that each hold a mark of their own: 'One' (a list of n elements whose cells are c 0, c 1, ..), and append with the mark's own cells: every list keeps its mark ('run_append_marked'). Of no program: types and sizes are letters. -/
namespace Go.Proofs.YthkifgjmhpppkaaDoor
open Go.RowKit

/-- The list v, n elements of sz cells, holds the cells c 0, c 1, ..; it lies in a block from base on. -/
def One (w : World) (base : Nat) (e : TypeId) (sz : Nat) (v : Value) (n : Nat) (c : Nat → Value) : Prop :=
  (v = .slice none 0 0 ∧ n = 0) ∨ ∃ g cap cur, v = .slice (some ⟨g, 0, none⟩) n cap ∧ base ≤ g ∧ w.heap[g]? = some (.cells cur e (0, 0)) ∧ n ≤ cap ∧ cap ≤ maxLen ∧ cur.size = cap * sz ∧ ∀ k, k < n * sz → cur[k]? = some (c k)

theorem take_marks {cur : Array Value} {m : Nat} {c : Nat → Value} : cur.toList.take m = (List.range m).map c ↔ ∀ k, k < m → cur[k]? = some (c k) := by
  constructor
  · intro h k hk
    have := congrArg (fun l => l[k]?) h
    simp only [List.getElem?_take, hk, if_true, List.getElem?_map, List.getElem?_range hk, Option.map_some] at this
    simpa using this
  · intro h
    apply List.ext_getElem?
    intro k
    by_cases hk : k < m
    · simp only [List.getElem?_take, hk, if_true, List.getElem?_map, List.getElem?_range hk, Option.map_some]
      simpa using h k hk
    · rw [List.getElem?_eq_none (by simp; omega), List.getElem?_eq_none (by simp; omega)]
theorem One.own {w : World} {base sz n : Nat} {e : TypeId} {v : Value} {c : Nat → Value} (h : One w base e sz v n c) : w.ownsRow base e sz v n ((List.range (n * sz)).map c) := by
  refine ⟨by simp, ?_⟩
  rcases h with h | ⟨g, cap, cur, h1, h2, h3, h4, h5, h6, h7⟩
  · exact .inl h
  · exact .inr ⟨g, cap, cur, h1, h2, h3, h4, h5, h6, take_marks.2 h7⟩
theorem One.of {w : World} {base sz n : Nat} {e : TypeId} {v : Value} {c : Nat → Value} (h : w.ownsRow base e sz v n ((List.range (n * sz)).map c)) : One w base e sz v n c := by
  rcases h.2 with h | ⟨g, cap, cur, h1, h2, h3, h4, h5, h6, h7⟩
  · exact .inl h
  · exact .inr ⟨g, cap, cur, h1, h2, h3, h4, h5, h6, take_marks.1 h7⟩
theorem One.block {w : World} {base sz n : Nat} {e : TypeId} {v : Value} {c : Nat → Value} (h : One w base e sz v n c) {g : Nat} (hg : v.ownBlock = some g) : base ≤ g ∧ g < w.heap.size := by
  rcases h with ⟨rfl, _⟩ | ⟨g', cap, cur, rfl, h2, h3, _⟩
  · simp [Value.ownBlock] at hg
  · simp [Value.ownBlock] at hg
    subst hg
    exact ⟨h2, lt_of_obj h3⟩
/-- In a world where the list's block is as it was, it is as it was. -/
theorem One.same {w w1 : World} {base sz n : Nat} {e : TypeId} {v : Value} {c : Nat → Value} (h : One w base e sz v n c) (hb : ∀ g, v.ownBlock = some g → w1.heap[g]? = w.heap[g]?) : One w1 base e sz v n c := by
  rcases h with h | ⟨g, cap, cur, rfl, h2, h3, h4⟩
  · exact .inl h
  · exact .inr ⟨g, cap, cur, rfl, h2, (hb g rfl).trans h3, h4⟩
theorem One.below {w w1 : World} {base sz n : Nat} {e : TypeId} {v : Value} {c : Nat → Value} (h : One w base e sz v n c) (hb : Below w.heap.size w w1) : One w1 base e sz v n c :=
  h.same fun g hg => hb.block g (h.block hg).2
theorem One.only {w w1 : World} {base sz n b : Nat} {e : TypeId} {v : Value} {c : Nat → Value} {o : Obj} (h : One w base e sz v n c) (hb : OnlyB w w1 b o) (hne : v.ownBlock ≠ some b) : One w1 base e sz v n c :=
  h.same fun g hg => hb.far (fun he => hne (by rw [hg, he]))
theorem One.cell {w : World} {base sz n g : Nat} {e : TypeId} {v : Value} {c : Nat → Value} (h : One w base e sz v n c) (hg : v.ownBlock = some g) {k : Nat} (hk : k < n * sz) : w.cell? ⟨g, k, none⟩ = some (c k) := by
  rcases h with ⟨rfl, _⟩ | ⟨g', cap, cur, rfl, h2, h3, h4, h5, h6, h7⟩
  · simp [Value.ownBlock] at hg
  · simp [Value.ownBlock] at hg
    subst hg
    rw [cell_of_obj h3 k]
    exact h7 k hk

/-- THE LAW: append to a list, and what is appended goes on with its mark: the new list holds the mark; every list that does not share the row with another mark holds its own. -/
theorem run_append_marked {P : Program} (w : World) (base : Nat) (t ty e : TypeId) (i : TypeInfo) (z : Value) (size bytes : Nat) (ht : P.underlying t = some (.slice e)) (hi : P.info? e = some i) (hz : i.zero = some z)
    (hsize : i.size = size) (hby : i.bytes = bytes) (hzs : z.cells.size = size) (hsz : 0 < size)
    (v : Value) (n : Nat) (c : Nat → Value) (hv : One w base e size v n c)
    (a : Addr) (m cp : Nat) (news : List Value) (hl : news.length = m * size) (hnc : ∀ k, k < m * size → news[k]? = some (c (n * size + k))) (hnews : ∀ j u, news[j]? = some u → w.cell? (a.add j) = some u) (h1 : ∀ u ∈ news, u.oneCell' = true)
    (hm : 0 < m) (h63 : n + m ≤ maxLen) (hbytes : (n + m) * bytes ≤ 140737488355328) (hbase : base ≤ w.heap.size) :
    ∃ g cap w', (Builtin.append_ #[t, t] ty #[v, .slice (some a) m cp]).run P w = .ok (.slice (some ⟨g, 0, none⟩) (n + m) cap) w' ∧ One w' base e size (.slice (some ⟨g, 0, none⟩) (n + m) cap) (n + m) c ∧ w.grownBy w' v.ownBlock ∧
      (v.ownBlock = some g ∨ g = w.heap.size) ∧ ∀ u nu cu, One w base e size u nu cu → (u.ownBlock = v.ownBlock → cu = c) → One w' base e size u nu cu := by
  obtain ⟨g, cap, w', hr, h2, h3, h4, h5⟩ := run_append_lies (P := P) w t ty base e i z size bytes ht hi hz hsize hby hzs hsz v n _ hv.own a m cp news hl hnews h1 hm h63 hbytes hbase _ rfl
  have hxs : (List.range (n * size)).map c ++ news = (List.range ((n + m) * size)).map c := by
    apply List.ext_getElem?
    intro k
    by_cases hk : k < n * size
    · rw [List.getElem?_append_left (by simpa using hk)]
      simp only [List.getElem?_map, List.getElem?_range hk, List.getElem?_range (show k < (n + m) * size by rw [Nat.add_mul]; omega)]
    · rw [List.getElem?_append_right (by simp; omega)]
      simp only [List.length_map, List.length_range]
      by_cases hk2 : k < (n + m) * size
      · rw [Nat.add_mul] at hk2
        rw [hnc (k - n * size) (by omega)]
        rw [List.getElem?_map, List.getElem?_range (by rw [Nat.add_mul]; omega)]
        simp
        congr 1
        omega
      · rw [Nat.add_mul] at hk2
        rw [List.getElem?_eq_none (by rw [hl]; omega), List.getElem?_eq_none (by simp [Nat.add_mul]; omega)]
  rw [hxs] at h2
  refine ⟨g, cap, w', hr, One.of h2, h3, h4, ?_⟩
  have hsmall : n + m ≤ 9223372036854775807 := by simp only [maxLen] at h63; omega
  intro u nu cu hu hsame
  subst hsize
  subst hby
  rcases hv with ⟨rfl, rfl⟩ | ⟨g0, cap0, cur, rfl, k2, k3, k4, k5, k6, k7⟩
  · have hr2 := run_append_nil (P := P) w t ty e i z ht hi hz a m cp news hl hnews hm (by omega) (by have hb := hbytes; simp only [Nat.zero_add] at hb; omega)
    rw [hr] at hr2
    injection hr2 with _ hr2
    subst hr2
    exact hu.below (((Below.refl _ _).drew).alloc (by simp) _)
  · by_cases hroom : n + m ≤ cap0
    · have hfit : n * i.size + news.length ≤ cur.size := by rw [hl, k6, ← Nat.add_mul]; exact Nat.mul_le_mul_right _ hroom
      have hr2 := run_append_room (P := P) w t ty e i ht hi g0 n cap0 cur k3 a m cp news hl hnews h1 hroom hfit
      rw [hr] at hr2
      injection hr2 with _ hr2
      subst hr2
      by_cases hsb : u.ownBlock = some g0
      · obtain rfl := hsame hsb
        rcases hu with hu | ⟨g1, cap1, cur1, rfl, j2, j3, j4, j5, j6, j7⟩
        · exact .inl hu
        · simp [Value.ownBlock] at hsb
          subst hsb
          obtain rfl : cur1 = cur := by
            rw [k3] at j3
            injection j3 with j3
            injection j3 with j3
            exact j3.symm
          refine .inr ⟨g1, cap1, _, rfl, j2, setRow_heap w g1 cur1 _ e _ k3, j4, j5, ?_, ?_⟩
          · simp only [List.size_toArray, List.length_append, List.length_take, List.length_drop, Array.length_toList]
            omega
          · intro k hk
            rw [List.getElem?_toArray]
            by_cases hk1 : k < n * i.size
            · rw [List.append_assoc, List.getElem?_append_left (by simp; omega), List.getElem?_take, if_pos hk1]
              simpa using k7 k hk1
            · rw [List.append_assoc, List.getElem?_append_right (by simp; omega)]
              have e1 : (List.take (n * i.size) cur1.toList).length = n * i.size := by simp; omega
              rw [e1]
              by_cases hk2 : k < n * i.size + news.length
              · rw [List.getElem?_append_left (by omega), hnc _ (by omega)]
                congr 2
                omega
              · rw [List.getElem?_append_right (by omega), List.getElem?_drop]
                rw [show n * i.size + news.length + (k - n * i.size - news.length) = k by omega]
                simpa using j7 k hk
      · exact hu.same fun b hb => setRow_other w g0 b _ (fun e => hsb (by rw [hb, e]))
    · have hown : One w base e i.size (.slice (some ⟨g0, 0, none⟩) n cap0) n c := .inr ⟨g0, cap0, cur, rfl, k2, k3, k4, k5, k6, k7⟩
      have hr2 := run_append_grow (P := P) w t ty e i z ht hi hz ⟨g0, 0, none⟩ n cap0 _ hown.own.1 (hown.own.cells (g := g0) rfl) a m cp news hl hnews (by omega) (by omega) (growslice_fits (by omega) hbytes)
      rw [hr] at hr2
      injection hr2 with _ hr2
      subst hr2
      exact hu.below (((Below.refl _ _).drew).alloc (by simp) _)
/-- The law at an operation's place, for the walk. -/
theorem wpList_append_marked {P : Program} {w : World} {ops : Array Oper} {rest : List Oper} {o : Oper} {a : Act} {Q : Exit → Act → World → Prop} (hgd : o.guard = none) (s x : Operand) (t : TypeId)
    (ho : o.op = .call { callee := .builtin .append, args := #[s, x], argTypes := #[t, t] })
    (base : Nat) (e : TypeId) (i : TypeInfo) (z : Value) (size bytes : Nat) (ht : P.underlying t = some (.slice e)) (hi : P.info? e = some i) (hz : i.zero = some z)
    (hsize : i.size = size) (hby : i.bytes = bytes) (hzs : z.cells.size = size) (hsz : 0 < size)
    (v : Value) (n : Nat) (c : Nat → Value) (hs : a.eval s = v) (hv : One w base e size v n c)
    (ad : Addr) (m cp : Nat) (news : List Value) (hx : a.eval x = .slice (some ad) m cp) (hl : news.length = m * size) (hnc : ∀ k, k < m * size → news[k]? = some (c (n * size + k))) (hnews : ∀ j u, news[j]? = some u → w.cell? (ad.add j) = some u) (h1 : ∀ u ∈ news, u.oneCell' = true)
    (hm : 0 < m) (h63 : n + m ≤ maxLen) (hbytes : (n + m) * bytes ≤ 140737488355328) (hbase : base ≤ w.heap.size)
    (h : ∀ g cap w', One w' base e size (.slice (some ⟨g, 0, none⟩) (n + m) cap) (n + m) c → w.grownBy w' v.ownBlock → (v.ownBlock = some g ∨ g = w.heap.size) →
      (∀ u nu cu, One w base e size u nu cu → (u.ownBlock = v.ownBlock → cu = c) → One w' base e size u nu cu) → wpList P ops Q rest (a.put o.dst (.slice (some ⟨g, 0, none⟩) (n + m) cap)) w') : wpList P ops Q (o :: rest) a w :=
  wpList_plain hgd fun _ hK => by
    obtain ⟨g, cap, w', hr, h2, h3, h4, h5⟩ := run_append_marked (P := P) w base t o.type e i z size bytes ht hi hz hsize hby hzs hsz v n c hv ad m cp news hl hnc hnews h1 hm h63 hbytes hbase
    unfold Oper.wp execOp
    simp only [ho, resolve, invoke, builtin, Sem.run_bind, Sem.run_pure, Result.andThen_ok, List.map_toArray, List.map_cons, List.map_nil, hs, hx, hr]
    exact hK _ _ (h g cap w' h2 h3 h4 h5)
end Go.Proofs.YthkifgjmhpppkaaDoor

/- Memory by roles: each block has a number that tells what it is for ('ρ'; 0: for nothing yet); a step that touches only blocks of some roles ('Keeps') leaves every list and object of the others as it was. Of no program. -/
namespace Go.Proofs.YthkifgjmhpppkaaDoor
open Go.RowKit

/-- An object of n cells, cell by cell. -/
def cellsObj (t : TypeId) (n : Nat) (f : Nat → Value) : Obj := .cells ((List.range n).map f).toArray t (0, 0)
theorem obj_cell {w : World} {B n : Nat} {t : TypeId} {f : Nat → Value} (h : w.heap[B]? = some (cellsObj t n f)) (k : Nat) (hk : k < n) : w.cell? ⟨B, k, none⟩ = some (f k) := by
  rw [cell_of_obj h k]
  simp [hk]
/-- One cell put anew. -/
def setc (f : Nat → Value) (k : Nat) (v : Value) : Nat → Value := fun j => if j = k then v else f j
theorem setc_ne {f : Nat → Value} {k j : Nat} {v : Value} (h : j ≠ k) : setc f k v j = f j := if_neg h
theorem setc_eq {f : Nat → Value} {k : Nat} {v : Value} : setc f k v k = v := if_pos rfl
theorem obj_set (t : TypeId) (n : Nat) (f : Nat → Value) (k : Nat) (v : Value) : Obj.cells (((List.range n).map f).toArray.setIfInBounds k v) t (0, 0) = cellsObj t n (setc f k v) := by
  unfold cellsObj setc
  congr 1
  apply Array.ext_getElem?
  intro j
  rw [Array.getElem?_setIfInBounds]
  simp only [List.size_toArray, List.length_map, List.length_range, List.getElem?_toArray, List.getElem?_map]
  by_cases hk : k = j
  · subst hk
    rw [if_pos rfl]
    split
    · simp [List.getElem?_range ‹_›]
    · rw [List.getElem?_eq_none (by simp; omega)]; rfl
  · rw [if_neg hk]
    by_cases hj : j < n
    · rw [List.getElem?_range hj]
      have : ¬ j = k := fun e => hk e.symm
      simp [this]
    · rw [List.getElem?_eq_none (by simp; omega)]; rfl
theorem OnlyB.obj {w w1 : World} {B n : Nat} {t : TypeId} {f : Nat → Value} (h : OnlyB w w1 B (cellsObj t n f)) (hb : B < w.heap.size) (k : Nat) (v : Value) : OnlyB w (w1.setCell ⟨B, k, none⟩ v) B (cellsObj t n (setc f k v)) := by
  have := OnlyB.set h hb k v
  rwa [obj_set] at this
theorem OnlyB.objSet {w : World} {B n : Nat} {t : TypeId} {f : Nat → Value} (h : w.heap[B]? = some (cellsObj t n f)) (k : Nat) (v : Value) : OnlyB w (w.setCell ⟨B, k, none⟩ v) B (cellsObj t n (setc f k v)) :=
  OnlyB.obj (OnlyB.refl h) (lt_of_obj h) k v

/-- A step that touches blocks of the roles R alone. -/
def Keeps (R : Nat → Prop) (w : World) (ρ : Nat → Nat) (w' : World) (ρ' : Nat → Nat) : Prop :=
  w.heap.size ≤ w'.heap.size ∧ ∀ k, k < w.heap.size → ρ' k = ρ k ∧ (¬ R (ρ k) → w'.heap[k]? = w.heap[k]?)
theorem Keeps.refl (R : Nat → Prop) (w : World) (ρ : Nat → Nat) : Keeps R w ρ w ρ := ⟨Nat.le_refl _, fun _ _ => ⟨rfl, fun _ => rfl⟩⟩
theorem Keeps.trans {R : Nat → Prop} {w w1 w2 : World} {ρ ρ1 ρ2 : Nat → Nat} (h : Keeps R w ρ w1 ρ1) (k : Keeps R w1 ρ1 w2 ρ2) : Keeps R w ρ w2 ρ2 :=
  ⟨Nat.le_trans h.1 k.1, fun j hj => by
    obtain ⟨a, b⟩ := h.2 j hj
    obtain ⟨c, d⟩ := k.2 j (Nat.lt_of_lt_of_le hj h.1)
    exact ⟨c.trans a, fun hR => (d (by rw [a]; exact hR)).trans (b hR)⟩⟩
theorem Keeps.mono {R R' : Nat → Prop} {w w' : World} {ρ ρ' : Nat → Nat} (h : Keeps R w ρ w' ρ') (hR : ∀ r, R r → R' r) : Keeps R' w ρ w' ρ' :=
  ⟨h.1, fun k hk => ⟨(h.2 k hk).1, fun hn => (h.2 k hk).2 (fun h' => hn (hR _ h'))⟩⟩
theorem Keeps.below {w w' : World} (R : Nat → Prop) (ρ : Nat → Nat) (hb : Below w.heap.size w w') : Keeps R w ρ w' ρ :=
  ⟨hb.size, fun k hk => ⟨rfl, fun _ => hb.block k hk⟩⟩
theorem Keeps.alloc (w : World) (R : Nat → Prop) (ρ : Nat → Nat) (o : Obj) : Keeps R w ρ (w.alloc o) ρ := Keeps.below R ρ ((Below.refl _ _).alloc (Nat.le_refl _) o)
theorem Keeps.only {R : Nat → Prop} {w w' : World} {B : Nat} {o : Obj} (ρ : Nat → Nat) (h : OnlyB w w' B o) (hR : R (ρ B)) : Keeps R w ρ w' ρ :=
  ⟨by rw [h.size]; exact Nat.le_refl _, fun k _ => ⟨rfl, fun hn => h.far (fun e => hn (by rw [e]; exact hR))⟩⟩
/-- A block gets a role. -/
def lab (ρ : Nat → Nat) (g r : Nat) : Nat → Nat := fun k => if k = g then r else ρ k
theorem lab_eq {ρ : Nat → Nat} {g r : Nat} : lab ρ g r g = r := if_pos rfl
theorem lab_ne {ρ : Nat → Nat} {g r k : Nat} (h : k ≠ g) : lab ρ g r k = ρ k := if_neg h
theorem Keeps.grown {R : Nat → Prop} {w w' : World} {row : Option Nat} {ρ : Nat → Nat} {g r : Nat} (hg : w.grownBy w' row) (hv : ∀ g, row = some g → ρ g = r) (hR : R r) (hat : row = some g ∨ g = w.heap.size) : Keeps R w ρ w' (lab ρ g r) := by
  refine ⟨hg.size, fun k hk => ⟨?_, fun hn => hg.block k hk (fun e => hn (by rw [hv k e.symm]; exact hR))⟩⟩
  unfold lab
  split
  · rename_i e
    subst e
    rcases hat with h | h
    · exact (hv _ h).symm
    · omega
  · rfl
/-- A block that is there, and of role 0, gets a role: nothing else turns. -/
theorem Keeps.fresh {R : Nat → Prop} {w : World} {ρ : Nat → Nat} {g r : Nat} (h : w.heap.size ≤ g) : Keeps R w ρ w (lab ρ g r) :=
  ⟨Nat.le_refl _, fun k hk => ⟨lab_ne (by omega), fun _ => rfl⟩⟩

/-- Nothing beyond the memory has a role. -/
def Free (w : World) (ρ : Nat → Nat) : Prop := ∀ k, w.heap.size ≤ k → ρ k = 0
theorem Free.le {w w' : World} {ρ : Nat → Nat} (h : Free w ρ) (hs : w.heap.size ≤ w'.heap.size) : Free w' ρ := fun k hk => h k (Nat.le_trans hs hk)
theorem Free.lab {w w' : World} {ρ : Nat → Nat} {g : Nat} (h : Free w ρ) (hs : w.heap.size ≤ w'.heap.size) (hg : g < w'.heap.size) (r : Nat) : Free w' (lab ρ g r) := fun k hk => by
  rw [lab_ne (by omega)]
  exact h k (Nat.le_trans hs hk)

/-- A list of one-cell elements that lies in a block of the role r. -/
def Lst (w : World) (base : Nat) (ρ : Nat → Nat) (r : Nat) (e : TypeId) (v : Value) (n : Nat) (c : Nat → Value) : Prop := One w base e 1 v n c ∧ ∀ g, v.ownBlock = some g → ρ g = r
theorem One.keep {R : Nat → Prop} {w w' : World} {base r n : Nat} {ρ ρ' : Nat → Nat} {e : TypeId} {v : Value} {c : Nat → Value} (h : One w base e 1 v n c) (hr0 : ∀ g, v.ownBlock = some g → ρ g = r) (k : Keeps R w ρ w' ρ') (hr : ¬ R r) : One w' base e 1 v n c :=
  h.same fun g hg => (k.2 g (h.block hg).2).2 (by rw [hr0 g hg]; exact hr)
theorem Lst.keep {R : Nat → Prop} {w w' : World} {base r n : Nat} {ρ ρ' : Nat → Nat} {e : TypeId} {v : Value} {c : Nat → Value} (h : Lst w base ρ r e v n c) (k : Keeps R w ρ w' ρ') (hr : ¬ R r) : Lst w' base ρ' r e v n c :=
  ⟨h.1.keep h.2 k hr, fun g hg => ((k.2 g (h.1.block hg).2).1).trans (h.2 g hg)⟩
/-- An object in a block of the role r. -/
def Objr (w : World) (ρ : Nat → Nat) (r B : Nat) (o : Obj) : Prop := w.heap[B]? = some o ∧ ρ B = r
theorem Objr.keep {R : Nat → Prop} {w w' : World} {r B : Nat} {ρ ρ' : Nat → Nat} {o : Obj} (h : Objr w ρ r B o) (k : Keeps R w ρ w' ρ') (hr : ¬ R r) : Objr w' ρ' r B o :=
  ⟨((k.2 B (lt_of_obj h.1)).2 (by rw [h.2]; exact hr)).trans h.1, ((k.2 B (lt_of_obj h.1)).1).trans h.2⟩

/-- The cells of a list of values. -/
def lst (xs : List Value) (k : Nat) : Value := (xs[k]?).getD (.int .i64 0)
theorem lst_at {xs : List Value} {k : Nat} {x : Value} (h : xs[k]? = some x) : lst xs k = x := by unfold lst; rw [h]; rfl
theorem range_lst (xs : List Value) : (List.range xs.length).map (lst xs) = xs := by
  apply List.ext_getElem?
  intro k
  by_cases hk : k < xs.length
  · rw [List.getElem?_map, List.getElem?_range hk, List.getElem?_eq_getElem hk]
    simp [lst, List.getElem?_eq_getElem hk]
  · rw [List.getElem?_eq_none (by simp; omega), List.getElem?_eq_none (by omega)]
theorem One.congr {w : World} {base sz n : Nat} {e : TypeId} {v : Value} {c c' : Nat → Value} (h : One w base e sz v n c) (hc : ∀ k, k < n * sz → c k = c' k) : One w base e sz v n c' := by
  rcases h with h | ⟨g, cap, cur, h1, h2, h3, h4, h5, h6, h7⟩
  · exact .inl h
  · exact .inr ⟨g, cap, cur, h1, h2, h3, h4, h5, h6, fun k hk => by rw [← hc k hk]; exact h7 k hk⟩
theorem One.row {w : World} {base n : Nat} {e : TypeId} {v : Value} {xs : List Value} (h : One w base e 1 v n (lst xs)) (hn : xs.length = n) : w.ownsRow base e 1 v n xs := by
  have := h.own
  rw [Nat.mul_one, ← hn, range_lst] at this
  rwa [hn] at this
theorem One.ofRow {w : World} {base n : Nat} {e : TypeId} {v : Value} {xs : List Value} (h : w.ownsRow base e 1 v n xs) : One w base e 1 v n (lst xs) := by
  refine One.of ?_
  have e1 : n = xs.length := by have := h.1; omega
  rw [Nat.mul_one, e1, range_lst, ← e1]
  exact h
theorem Lst.ofRow {w : World} {base n r : Nat} {ρ : Nat → Nat} {e : TypeId} {v : Value} {xs : List Value} (h : w.ownsRow base e 1 v n xs) (hr : ∀ g, v.ownBlock = some g → ρ g = r) : Lst w base ρ r e v n (lst xs) := ⟨One.ofRow h, hr⟩
theorem Lst.row {w : World} {base n r : Nat} {ρ : Nat → Nat} {e : TypeId} {v : Value} {xs : List Value} (h : Lst w base ρ r e v n (lst xs)) (hn : xs.length = n) : w.ownsRow base e 1 v n xs := h.1.row hn
/-- One cell of a list put anew. -/
theorem One.put {w : World} {base n g cap k : Nat} {e : TypeId} {c : Nat → Value} (h : One w base e 1 (.slice (some ⟨g, 0, none⟩) n cap) n c) (v : Value) :
    One (w.setCell ⟨g, k, none⟩ v) base e 1 (.slice (some ⟨g, 0, none⟩) n cap) n (setc c k v) ∧ ∃ o, OnlyB w (w.setCell ⟨g, k, none⟩ v) g o := by
  rcases h with ⟨h, _⟩ | ⟨g', cap', cur, h1, h2, h3, h4, h5, h6, h7⟩
  · cases h
  · injection h1 with h1 _ h9
    injection h1 with h1
    injection h1 with h1
    subst h1 h9
    have ho := OnlyB.set (OnlyB.refl h3) (lt_of_obj h3) k v
    refine ⟨.inr ⟨g, cap, _, rfl, h2, ho.at_ (lt_of_obj h3), h4, h5, by simpa using h6, fun j hj => ?_⟩, _, ho⟩
    rw [Array.getElem?_setIfInBounds]
    by_cases hjk : k = j
    · subst hjk
      rw [if_pos rfl, if_pos (by rw [h6]; omega), setc_eq]
    · rw [if_neg hjk, setc_ne (fun e => hjk e.symm)]
      exact h7 j hj
theorem One.free {w : World} {base n g m cap : Nat} {e : TypeId} {c : Nat → Value} (h : One w base e 1 (.slice (some ⟨g, 0, none⟩) m cap) n c) (k : Nat) : w.frozen? ⟨g, k, none⟩ = false := by
  rcases h with ⟨h, _⟩ | ⟨g', cap', cur, h1, h2, h3, h4, h5, h6, h7⟩
  · cases h
  · injection h1 with h1 _ _
    injection h1 with h1
    injection h1 with h1
    subst h1
    exact free_of_obj h3 k
theorem One.len {w : World} {base n : Nat} {e : TypeId} {v : Value} {c : Nat → Value} (h : One w base e 1 v n c) : ∃ A cap, v = .slice A n cap := by
  rcases h with ⟨rfl, rfl⟩ | ⟨g, cap, cur, k1, _⟩
  · exact ⟨_, _, rfl⟩
  · exact ⟨_, _, k1⟩
theorem One.form {w : World} {base n : Nat} {e : TypeId} {v : Value} {c : Nat → Value} (h : One w base e 1 v n c) (hn : 0 < n) : ∃ g cap, v = .slice (some ⟨g, 0, none⟩) n cap := by
  rcases h with ⟨_, rfl⟩ | ⟨g, cap, cur, k1, _⟩
  · omega
  · exact ⟨_, _, k1⟩
theorem One.len_eq {w : World} {b n : Nat} {e : TypeId} {A : Option Addr} {m cap : Nat} {c : Nat → Value} (h : One w b e 1 (.slice A m cap) n c) : n = m := by
  obtain ⟨_, _, e⟩ := h.len
  injection e with _ e _
  exact e.symm
theorem One.get {w : World} {b n : Nat} {e : TypeId} {A : Option Addr} {m cap : Nat} {c : Nat → Value} (h : One w b e 1 (.slice A m cap) n c) {k : Nat} (hk : k < n) : ∃ g, A = some ⟨g, 0, none⟩ ∧ w.cell? ⟨g, k, none⟩ = some (c k) := by
  have h' := h
  rcases h with ⟨k1, rfl⟩ | ⟨g, cap, cur, k1, _⟩
  · omega
  · injection k1 with k1 _ _
    subst k1
    exact ⟨g, rfl, h'.cell rfl (by omega)⟩
end Go.Proofs.YthkifgjmhpppkaaDoor

/- TextLines: how the lists of a line's words lie, plain: all lists of line i have the role 4 + i and hold one mark. -/
namespace Go.Proofs.YthkifgjmhpppkaaDoor
open Go.RowKit

/-- The text of a mark, by a function of the law's own. -/
structure Marks where
  s : Nat → Nat → ByteArray
def Marks.c (M : Marks) (n i : Nat) (j : Nat) : Value := .string (if j < n then M.s i 0 else M.s i 1)
theorem Marks.lo {M : Marks} {n i j : Nat} (h : j < n) : M.c n i j = .string (M.s i 0) := by unfold Marks.c; rw [if_pos h]
theorem Marks.hi {M : Marks} {n i j : Nat} (h : n ≤ j) : M.c n i j = .string (M.s i 1) := by unfold Marks.c; rw [if_neg (by omega)]
theorem One.le {w : World} {base base' sz n : Nat} {e : TypeId} {v : Value} {c : Nat → Value} (h : One w base e sz v n c) (hb : base' ≤ base) : One w base' e sz v n c := by
  rcases h with h | ⟨g, cap, cur, h1, h2, h3⟩
  · exact .inl h
  · exact .inr ⟨g, cap, cur, h1, Nat.le_trans hb h2, h3⟩
/-- Words' lists, of any marks; the first d are marked, of list d the first k cells. -/
def KSt (M : Marks) (w : World) (base : Nat) (ρ : Nat → Nat) (ks : List Value) (d k : Nat) : Prop :=
  ∀ (i : Nat) (v : Value), ks[i]? = some v → ∃ n c, n ≤ 16 ∧ Lst w base ρ (4 + i) 9 v n c ∧ (i < d → ∀ j, j < n → c j = .string (M.s i 0)) ∧ (i = d → ∀ j, j < k → c j = .string (M.s i 0))
theorem KSt.keep {M : Marks} {R : Nat → Prop} {w w' : World} {base d k : Nat} {ρ ρ' : Nat → Nat} {ks : List Value} (h : KSt M w base ρ ks d k) (hK : Keeps R w ρ w' ρ') (hR : ∀ i, ¬ R (4 + i)) : KSt M w' base ρ' ks d k := fun i v hi => by
  obtain ⟨n, c, h1, h2, h3⟩ := h i v hi
  exact ⟨n, c, h1, h2.keep hK (hR i), h3⟩
theorem KSt.below {M : Marks} {w w' : World} {base d k : Nat} {ρ : Nat → Nat} {ks : List Value} (h : KSt M w base ρ ks d k) (hb : Below w.heap.size w w') : KSt M w' base ρ ks d k :=
  h.keep (Keeps.below (fun _ => False) ρ hb) (fun _ h => h)
theorem KSt.snoc {M : Marks} {w : World} {base : Nat} {ρ : Nat → Nat} {ks : List Value} {v : Value} {n : Nat} {c : Nat → Value} (h : KSt M w base ρ ks 0 0) (hn : n ≤ 16) (hv : Lst w base ρ (4 + ks.length) 9 v n c) : KSt M w base ρ (ks ++ [v]) 0 0 := fun i u hi => by
  rcases Nat.lt_trichotomy i ks.length with h1 | h1 | h1
  · rw [List.getElem?_append_left h1] at hi
    exact h i u hi
  · subst h1
    rw [List.getElem?_append_right (Nat.le_refl _), Nat.sub_self] at hi
    injection hi with hi
    subst hi
    exact ⟨n, c, hn, hv, fun h => by omega, fun _ j hj => by omega⟩
  · rw [List.getElem?_append_right (by omega), List.getElem?_eq_none (by simp; omega)] at hi
    cases hi
theorem KSt.next {M : Marks} {w : World} {base d k n : Nat} {ρ : Nat → Nat} {ks : List Value} {A : Option Addr} {cap : Nat} (h : KSt M w base ρ ks d k) (hv : ks[d]? = some (.slice A n cap)) (hk : n ≤ k) : KSt M w base ρ ks (d + 1) 0 := by
  intro i v hi
  obtain ⟨m, c, h1, h2, h3, h4⟩ := h i v hi
  refine ⟨m, c, h1, h2, fun hd j hj => ?_, fun _ j hj => by omega⟩
  by_cases hid : i = d
  · subst hid
    rw [hv] at hi
    injection hi with hi
    subst hi
    obtain rfl := h2.1.len_eq
    exact h4 rfl j (by omega)
  · exact h3 (by omega) j hj
theorem KSt.put {M : Marks} {w : World} {base d k n g cap : Nat} {ρ : Nat → Nat} {ks : List Value} (h : KSt M w base ρ ks d k) (hv : ks[d]? = some (.slice (some ⟨g, 0, none⟩) n cap)) :
    KSt M (w.setCell ⟨g, k, none⟩ (.string (M.s d 0))) base ρ ks d (k + 1) ∧ Keeps (fun r => r = 4 + d) w ρ (w.setCell ⟨g, k, none⟩ (.string (M.s d 0))) ρ := by
  obtain ⟨m, c, h1, h2, h3, h4⟩ := h d _ hv
  obtain rfl := h2.1.len_eq
  obtain ⟨hp, o, ho⟩ := h2.1.put (k := k) (.string (M.s d 0))
  have hK : Keeps (fun r => r = 4 + d) w ρ (w.setCell ⟨g, k, none⟩ (.string (M.s d 0))) ρ := Keeps.only ρ ho (h2.2 g rfl)
  refine ⟨fun i v hi => ?_, hK⟩
  by_cases hid : i = d
  · subst hid
    rw [hv] at hi
    injection hi with hi
    subst hi
    refine ⟨_, _, h1, ⟨hp, h2.2⟩, fun hd => by omega, fun _ j hj => ?_⟩
    by_cases hjk : j = k
    · rw [hjk, setc_eq]
    · rw [setc_ne hjk]
      exact h4 rfl j (by omega)
  · obtain ⟨m', c', k1, k2, k3, k4⟩ := h i v hi
    exact ⟨m', c', k1, k2.keep hK (by omega), k3, fun hd => by omega⟩
/-- The lists told, those with one more, those with seventy more. -/
def LSt (M : Marks) (w : World) (base : Nat) (ρ : Nat → Nat) (ks fs ms : List Value) : Prop :=
  ∀ (i : Nat) (v : Value), ks[i]? = some v → ∃ n, n ≤ 16 ∧ Lst w base ρ (4 + i) 9 v n (M.c n i) ∧ (∀ f, fs[i]? = some f → Lst w base ρ (4 + i) 9 f (n + 1) (M.c n i)) ∧ (∀ m, ms[i]? = some m → Lst w base ρ (4 + i) 9 m (n + 70) (M.c n i))
theorem KSt.done {M : Marks} {w : World} {base d : Nat} {ρ : Nat → Nat} {ks : List Value} (h : KSt M w base ρ ks d 0) (hd : ks.length ≤ d) : LSt M w base ρ ks [] [] := by
  intro i v hi
  obtain ⟨m, c, h1, h2, h3, _⟩ := h i v hi
  have hlt : i < ks.length := by
    rcases Nat.lt_or_ge i ks.length with h | h
    · exact h
    · rw [List.getElem?_eq_none h] at hi; cases hi
  exact ⟨m, h1, ⟨h2.1.congr (fun k hk => by rw [h3 (by omega) k (by omega), Marks.lo (by omega)]), h2.2⟩, fun f hf => by simp at hf, fun f hf => by simp at hf⟩
theorem LSt.keep {M : Marks} {R : Nat → Prop} {w w' : World} {base : Nat} {ρ ρ' : Nat → Nat} {ks fs ms : List Value} (h : LSt M w base ρ ks fs ms) (hK : Keeps R w ρ w' ρ') (hR : ∀ i, ¬ R (4 + i)) : LSt M w' base ρ' ks fs ms := fun i v hi => by
  obtain ⟨n, h1, h2, h3, h4⟩ := h i v hi
  exact ⟨n, h1, h2.keep hK (hR i), fun f hf => (h3 f hf).keep hK (hR i), fun f hf => (h4 f hf).keep hK (hR i)⟩
theorem LSt.below {M : Marks} {w w' : World} {base : Nat} {ρ : Nat → Nat} {ks fs ms : List Value} (h : LSt M w base ρ ks fs ms) (hb : Below w.heap.size w w') : LSt M w' base ρ ks fs ms :=
  h.keep (Keeps.below (fun _ => False) ρ hb) (fun _ h => h)
/-- What an append to a list of role 4 + d does to another. -/
theorem Lst.app {w w' : World} {base d i m g : Nat} {ρ : Nat → Nat} {v u : Value} {c cu : Nat → Value} (hv : ∀ g, v.ownBlock = some g → ρ g = 4 + d)
    (hall : ∀ u nu cu, One w base 9 1 u nu cu → (u.ownBlock = v.ownBlock → cu = c) → One w' base 9 1 u nu cu) (hat : v.ownBlock = some g ∨ g = w.heap.size)
    (hu : Lst w base ρ (4 + i) 9 u m cu) (hc : i = d → cu = c) : Lst w' base (lab ρ g (4 + d)) (4 + i) 9 u m cu := by
  refine ⟨?_, fun q hq => ?_⟩
  · rcases hq : u.ownBlock with _ | q
    · rcases hu.1 with h | ⟨g', cap, cur, rfl, _⟩
      · exact .inl h
      · cases hq
    · refine hall u m cu hu.1 fun e => hc ?_
      have e1 := hu.2 q hq
      have e2 := hv q (by rw [← e, hq])
      omega
  · have h1 := hu.2 q hq
    have h2 := (hu.1.block hq).2
    unfold lab
    split
    · rename_i e
      subst e
      rcases hat with h | h
      · have := hv _ h
        omega
      · omega
    · exact h1
theorem LSt.app {M : Marks} {w w' : World} {base d n g : Nat} {ρ : Nat → Nat} {v kv : Value} {ks fs ms : List Value} (h : LSt M w base ρ ks fs ms) (hk : ks[d]? = some kv) (hkn : Lst w base ρ (4 + d) 9 kv n (M.c n d)) (hv : ∀ g, v.ownBlock = some g → ρ g = 4 + d)
    (hall : ∀ u nu cu, One w base 9 1 u nu cu → (u.ownBlock = v.ownBlock → cu = M.c n d) → One w' base 9 1 u nu cu) (hat : v.ownBlock = some g ∨ g = w.heap.size) : LSt M w' base (lab ρ g (4 + d)) ks fs ms := fun i u hi => by
  obtain ⟨m, h1, h2, h3, h4⟩ := h i u hi
  have hc : i = d → M.c m i = M.c n d := fun e => by
    subst e
    rw [hk] at hi
    injection hi with hi
    subst hi
    obtain ⟨A, cap, e1⟩ := h2.1.len
    obtain ⟨A', cap', e2⟩ := hkn.1.len
    rw [e1] at e2
    injection e2 with _ e2 _
    rw [e2]
  exact ⟨m, h1, h2.app hv hall hat hc, fun f hf => (h3 f hf).app hv hall hat hc, fun f hf => (h4 f hf).app hv hall hat hc⟩
theorem LSt.first {M : Marks} {w : World} {base d n : Nat} {ρ : Nat → Nat} {kv f : Value} {ks fs ms : List Value} (h : LSt M w base ρ ks fs ms) (hd : fs.length = d) (hk : ks[d]? = some kv) (hkn : Lst w base ρ (4 + d) 9 kv n (M.c n d)) (hf : Lst w base ρ (4 + d) 9 f (n + 1) (M.c n d)) : LSt M w base ρ ks (fs ++ [f]) ms := fun i u hi => by
  obtain ⟨m, h1, h2, h3, h4⟩ := h i u hi
  refine ⟨m, h1, h2, fun f' hf' => ?_, h4⟩
  rcases Nat.lt_trichotomy i fs.length with e | e | e
  · rw [List.getElem?_append_left e] at hf'
    exact h3 f' hf'
  · obtain rfl : i = d := by omega
    rw [List.getElem?_append_right (by omega), e, Nat.sub_self] at hf'
    injection hf' with hf'
    subst hf'
    rw [hk] at hi
    injection hi with hi
    subst hi
    obtain ⟨A, cap, e1⟩ := h2.1.len
    obtain ⟨A', cap', e2⟩ := hkn.1.len
    rw [e1] at e2
    injection e2 with _ e2 _
    rw [e2]
    exact hf
  · rw [List.getElem?_append_right (by omega), List.getElem?_eq_none (by simp; omega)] at hf'
    cases hf'
theorem LSt.more {M : Marks} {w : World} {base d n : Nat} {ρ : Nat → Nat} {kv f : Value} {ks fs ms : List Value} (h : LSt M w base ρ ks fs ms) (hd : ms.length = d) (hk : ks[d]? = some kv) (hkn : Lst w base ρ (4 + d) 9 kv n (M.c n d)) (hf : Lst w base ρ (4 + d) 9 f (n + 70) (M.c n d)) : LSt M w base ρ ks fs (ms ++ [f]) := fun i u hi => by
  obtain ⟨m, h1, h2, h3, h4⟩ := h i u hi
  refine ⟨m, h1, h2, h3, fun f' hf' => ?_⟩
  rcases Nat.lt_trichotomy i ms.length with e | e | e
  · rw [List.getElem?_append_left e] at hf'
    exact h4 f' hf'
  · obtain rfl : i = d := by omega
    rw [List.getElem?_append_right (by omega), e, Nat.sub_self] at hf'
    injection hf' with hf'
    subst hf'
    rw [hk] at hi
    injection hi with hi
    subst hi
    obtain ⟨A, cap, e1⟩ := h2.1.len
    obtain ⟨A', cap', e2⟩ := hkn.1.len
    rw [e1] at e2
    injection e2 with _ e2 _
    rw [e2]
    exact hf
  · rw [List.getElem?_append_right (by omega), List.getElem?_eq_none (by simp; omega)] at hf'
    cases hf'
/-- A row of lists. -/
def Rw (w : World) (base : Nat) (ρ : Nat → Nat) (r : Nat) (v : Value) (xs : List Value) : Prop := Lst w base ρ r 22 v xs.length (lst xs)
theorem Rw.keep {R : Nat → Prop} {w w' : World} {base r : Nat} {ρ ρ' : Nat → Nat} {v : Value} {xs : List Value} (h : Rw w base ρ r v xs) (hK : Keeps R w ρ w' ρ') (hR : ¬ R r) : Rw w' base ρ' r v xs := Lst.keep h hK hR
theorem Rw.below {w w' : World} {base r : Nat} {ρ : Nat → Nat} {v : Value} {xs : List Value} (h : Rw w base ρ r v xs) (hb : Below w.heap.size w w') : Rw w' base ρ r v xs := h.keep (Keeps.below (fun _ => False) ρ hb) (fun h => h)
theorem Rw.nil (w : World) (base : Nat) (ρ : Nat → Nat) (r : Nat) : Rw w base ρ r (.slice none 0 0) [] := ⟨.inl ⟨rfl, rfl⟩, fun g hg => by cases hg⟩
theorem Rw.snoc {w' : World} {base r g cap : Nat} {ρ : Nat → Nat} {x : Value} {xs : List Value}
    (hown : w'.ownsRow base 22 1 (.slice (some ⟨g, 0, none⟩) (xs.length + 1) cap) (xs.length + 1) (xs ++ [x])) : Rw w' base (lab ρ g r) r (.slice (some ⟨g, 0, none⟩) (xs ++ [x]).length cap) (xs ++ [x]) := by
  unfold Rw
  rw [List.length_append]
  exact ⟨One.ofRow hown, fun q hq => by
    have : g = q := by simpa [Value.ownBlock] using hq
    rw [← this, lab_eq]⟩
end Go.Proofs.YthkifgjmhpppkaaDoor

/- TextLines: what its calls answer, and how its steps turn the memory. -/
namespace Go.Proofs.YthkifgjmhpppkaaDoor
open Go.RowKit Go.Proofs.YthkifgjmhpppkaaDoorW.PrintWords Go.Proofs.YthkifgjmhpppkaaDoor.PTextAmounts Go.Proofs.YthkifgjmhpppkaaDoor.PTextLines

def mkM : Marks := ⟨fun i k => strOfNums [(i : Int) % 256, (i : Int) / 256 % 256, (i : Int) / 65536 % 256, (k : Int) % 256]⟩
theorem mark0_any (i : Nat) (W : World) : Calls Tryd.prog 18 #[.int .i64 (i : Nat), .int .i64 0] W fun e w' => e = .returned (.string (mkM.s i 0)) ∧ Below W.heap.size W w' := tallylaw2_mark.calls (i : Int) 0 _ W rfl
theorem mark1_any (i : Nat) (W : World) : Calls Tryd.prog 18 #[.int .i64 (i : Nat), .int .i64 1] W fun e w' => e = .returned (.string (mkM.s i 1)) ∧ Below W.heap.size W w' := tallylaw2_mark.calls (i : Int) 1 _ W rfl
/-- Words' answer: the words (none: no words, and an error). -/
def WordsU (ws : List (List UInt8)) (z : Int) (w : World) (e : Ending) (w' : World) : Prop :=
  Below w.heap.size w w' ∧ ∃ A cap, e = .returned (.tuple #[.slice A ws.length cap, .int .i64 z]) ∧ w'.ownsRow w.heap.size 9 1 (.slice A ws.length cap) ws.length (ws.map strV)
theorem wordsU_of {o : Option (List (List UInt8))} {w w' : World} {e : Ending} (h : WordsEnd o w e w') : WordsU (o.getD []) (if o = none then 23 else 0) w e w' := by
  unfold WordsEnd at h
  cases o with
  | none => exact ⟨h.1, none, 0, h.2, ⟨by simp, .inl ⟨rfl, rfl⟩⟩⟩
  | some ws =>
    obtain ⟨h1, A, cap, h2, h3⟩ := h
    exact ⟨h1, A, cap, h2, h3⟩
theorem refOut_le (s : RefW) : ((refOut s).getD []).length ≤ 16 := by
  unfold refOut
  dsimp only
  generalize (if s.st = 1 then s.out ++ [s.word] else s.out) = out
  by_cases h : s.bad = true ∨ s.st = 2 ∨ s.st = 3 ∨ 16 < out.length
  · rw [if_pos h]
    simp
  · rw [if_neg h]
    rcases Nat.lt_or_ge 16 out.length with h2 | h2
    · exact absurd (Or.inr (Or.inr (Or.inr h2))) h
    · exact h2
theorem words_le (l : List UInt8) : ((wordsP l).getD []).length ≤ 16 := by
  rw [words_ref]
  split
  · simp
  · exact refOut_le _
theorem eqs_own (ws : List (List UInt8)) {W : World} {B B' c2 c3 : Nat} {A2 A3 : Option Addr} (hl : ws.length ≤ 16) (h1 : W.ownsRow B 9 1 (.slice A2 ws.length c2) ws.length (ws.map strV)) (h2 : W.ownsRow B' 9 1 (.slice A3 ws.length c3) ws.length (ws.map strV)) :
    Calls Tryd.prog 17 #[.slice A2 ws.length c2, .slice A3 ws.length c3] W fun e w' => e = .returned (.bool true) ∧ Below W.heap.size W w' := by
  have e : ws.map strV = (ws.map fun l => (⟨l.toArray⟩ : ByteArray)).map Value.string := by
    rw [List.map_map]
    rfl
  have k1 := row_cap h1
  have k2 := row_cap h2
  rw [e] at h1 h2
  obtain ⟨l1, r1⟩ := RS.own h1 (by omega)
  obtain ⟨_, r2⟩ := RS.own h2 (by omega)
  have := eqStrings_any A2 A3 c2 c3 _ _ W r1 r2 (by rw [l1]; exact k1) (by rw [l1]; exact k2)
  rw [l1, decide_eq_true rfl] at this
  exact this
/-- The role of a list's block, if it has one. -/
def labV (ρ : Nat → Nat) (v : Value) (r : Nat) : Nat → Nat := match v.ownBlock with
  | some g => lab ρ g r
  | none => ρ
theorem labV_own {ρ : Nat → Nat} {v : Value} {r g : Nat} (h : v.ownBlock = some g) : labV ρ v r g = r := by
  unfold labV
  rw [h]
  exact lab_eq
theorem Keeps.labV {R : Nat → Prop} {w w' : World} {ρ : Nat → Nat} {v : Value} {r : Nat} (hb : Below w.heap.size w w') (h : ∀ g, v.ownBlock = some g → w.heap.size ≤ g) : Keeps R w ρ w' (labV ρ v r) :=
  ⟨hb.size, fun k hk => ⟨by
    unfold Go.Proofs.YthkifgjmhpppkaaDoor.labV
    rcases hv : v.ownBlock with _ | g
    · rfl
    · exact lab_ne (by have := h g hv; omega), fun _ => hb.block k hk⟩⟩
def L1Rel (M : Marks) (w : World) (N : Nat) (v3 v6 : Value) (wr : World) : Prop :=
  ∃ (i : Nat) (ρ : Nat → Nat) (ks : List Value) (A : Option Addr) (c : Nat), v6 = .int .i64 i ∧ i ≤ N ∧ ks.length = i ∧ v3 = .slice A i c ∧ Rw wr w.heap.size ρ 1 (.slice A i c) ks ∧ KSt M wr w.heap.size ρ ks 0 0 ∧ BelW w wr
theorem Rw.len {w : World} {base r n c : Nat} {ρ : Nat → Nat} {A : Option Addr} {xs : List Value} (h : Rw w base ρ r (.slice A n c) xs) : xs.length = n := One.len_eq h.1
theorem Rw.own {w : World} {base r n c : Nat} {ρ : Nat → Nat} {A : Option Addr} {xs : List Value} (h : Rw w base ρ r (.slice A n c) xs) : w.ownsRow base 22 1 (.slice A n c) n xs := by
  have e := h.len
  have := Lst.row h rfl
  rw [e] at this
  exact this
theorem Rw.get {w : World} {base r n c i : Nat} {ρ : Nat → Nat} {A : Option Addr} {xs : List Value} {v : Value} (h : Rw w base ρ r (.slice A n c) xs) (hv : xs[i]? = some v) : ∃ g, A = some ⟨g, 0, none⟩ ∧ w.cell? ⟨g, i, none⟩ = some v ∧ base ≤ g := by
  have hlt : i < xs.length := (List.getElem?_eq_some_iff.1 hv).1
  obtain ⟨g, rfl, hc⟩ := One.get h.1 hlt
  rw [lst_at hv] at hc
  exact ⟨g, rfl, hc, (h.1.block rfl).1⟩
theorem L1_next {M : Marks} {wr w2 w5 w6 : World} {base i c n c2 g cap : Nat} {ρ : Nat → Nat} {ks : List Value} {A A2 : Option Addr} {o : Obj} {xs : List Value} (hrow : Rw wr base ρ 1 (.slice A i c) ks) (hks : KSt M wr base ρ ks 0 0) (hbase : base ≤ wr.heap.size)
    (hb2 : Below wr.heap.size wr w2) (ho2 : w2.ownsRow wr.heap.size 9 1 (.slice A2 n c2) n xs) (hn : n ≤ 16) (hb5 : Below w2.heap.size w2 w5)
    (hown : w6.ownsRow base 22 1 (.slice (some ⟨g, 0, none⟩) (i + 1) cap) (i + 1) (ks ++ [.slice A2 n c2])) (hg : (w5.alloc o).grownBy w6 (Value.slice A i c).ownBlock) (hat : (Value.slice A i c).ownBlock = some g ∨ g = (w5.alloc o).heap.size) :
    ∃ ρ', Rw w6 base ρ' 1 (.slice (some ⟨g, 0, none⟩) (i + 1) cap) (ks ++ [.slice A2 n c2]) ∧ KSt M w6 base ρ' (ks ++ [.slice A2 n c2]) 0 0 := by
  have hlen := hrow.len
  have K1 : Keeps (fun _ => False) wr ρ w2 (labV ρ (.slice A2 n c2) (4 + ks.length)) := Keeps.labV hb2 (fun q hq => (ho2.lt q hq).1)
  have hrow2 := hrow.keep K1 (fun h => h)
  have hks2 := hks.keep K1 (fun _ h => h)
  have hnew : Lst w2 base (labV ρ (.slice A2 n c2) (4 + ks.length)) (4 + ks.length) 9 (.slice A2 n c2) n (lst xs) := ⟨(One.ofRow ho2).le hbase, fun q hq => labV_own hq⟩
  have hall := hks2.snoc hn hnew
  have hb6 : Below w2.heap.size w2 (w5.alloc o) := Below.alloc hb5 hb5.size o
  have hrow3 := hrow2.below hb6
  have hall3 := hall.below hb6
  have K2 : Keeps (fun r => r = 1) (w5.alloc o) (labV ρ (.slice A2 n c2) (4 + ks.length)) w6 (lab (labV ρ (.slice A2 n c2) (4 + ks.length)) g 1) := Keeps.grown hg (fun q hq => hrow3.2 q hq) rfl hat
  refine ⟨_, ?_, hall3.keep K2 (fun i => by omega)⟩
  have := Rw.snoc (xs := ks) (x := .slice A2 n c2) (ρ := labV ρ (.slice A2 n c2) (4 + ks.length)) (r := 1) (by rw [hlen]; exact hown)
  have hl2 : (ks ++ [Value.slice A2 n c2]).length = i + 1 := by rw [List.length_append, hlen]; rfl
  rw [hl2] at this
  exact this
def L2Rel (M : Marks) (w : World) (ρ : Nat → Nat) (ks : List Value) (v3 v11 : Value) (wr : World) : Prop :=
  ∃ i : Nat, v11 = .int .i64 i ∧ i ≤ ks.length ∧ KSt M wr w.heap.size ρ ks i 0 ∧ Rw wr w.heap.size ρ 1 v3 ks ∧ BelW w wr
def L3Rel (M : Marks) (w : World) (ρ : Nat → Nat) (ks : List Value) (v3 : Value) (i n : Nat) (v12 : Value) (wr : World) : Prop :=
  ∃ k : Nat, v12 = .int .i64 k ∧ k ≤ n ∧ KSt M wr w.heap.size ρ ks i k ∧ Rw wr w.heap.size ρ 1 v3 ks ∧ BelW w wr
/-- All the rows and lists of the third part. -/
structure LAll (M : Marks) (w : World) (base : Nat) (ρ : Nat → Nat) (v3 v4 v5 : Value) (ks fs ms : List Value) : Prop where
  r1 : Rw w base ρ 1 v3 ks
  r2 : Rw w base ρ 2 v4 fs
  r3 : Rw w base ρ 3 v5 ms
  ls : LSt M w base ρ ks fs ms
theorem LAll.below {M : Marks} {w w' : World} {base : Nat} {ρ : Nat → Nat} {v3 v4 v5 : Value} {ks fs ms : List Value} (h : LAll M w base ρ v3 v4 v5 ks fs ms) (hb : Below w.heap.size w w') : LAll M w' base ρ v3 v4 v5 ks fs ms :=
  ⟨h.r1.below hb, h.r2.below hb, h.r3.below hb, h.ls.below hb⟩
theorem Lst.belowL {w w' : World} {base r n : Nat} {ρ : Nat → Nat} {e : TypeId} {v : Value} {c : Nat → Value} (h : Lst w base ρ r e v n c) (hb : Below w.heap.size w w') : Lst w' base ρ r e v n c := h.keep (Keeps.below (fun _ => False) ρ hb) (fun h => h)
theorem LAll.app {M : Marks} {w w' : World} {base d n m g cap : Nat} {ρ : Nat → Nat} {v3 v4 v5 kv v : Value} {ks fs ms : List Value} (h : LAll M w base ρ v3 v4 v5 ks fs ms) (hk : ks[d]? = some kv) (hkn : Lst w base ρ (4 + d) 9 kv n (M.c n d)) (hg : Lst w base ρ (4 + d) 9 v m (M.c n d))
    (hone : One w' base 9 1 (.slice (some ⟨g, 0, none⟩) (m + 1) cap) (m + 1) (M.c n d)) (hgr : w.grownBy w' v.ownBlock) (hat : v.ownBlock = some g ∨ g = w.heap.size)
    (hall : ∀ u nu cu, One w base 9 1 u nu cu → (u.ownBlock = v.ownBlock → cu = M.c n d) → One w' base 9 1 u nu cu) :
    LAll M w' base (lab ρ g (4 + d)) v3 v4 v5 ks fs ms ∧ Lst w' base (lab ρ g (4 + d)) (4 + d) 9 (.slice (some ⟨g, 0, none⟩) (m + 1) cap) (m + 1) (M.c n d) ∧ Lst w' base (lab ρ g (4 + d)) (4 + d) 9 kv n (M.c n d) := by
  have K : Keeps (fun r => r = 4 + d) w ρ w' (lab ρ g (4 + d)) := Keeps.grown hgr (fun q hq => hg.2 q hq) rfl hat
  refine ⟨⟨h.r1.keep K (by omega), h.r2.keep K (by omega), h.r3.keep K (by omega), h.ls.app hk hkn hg.2 hall hat⟩, ⟨hone, fun q hq => ?_⟩, hkn.app hg.2 hall hat (fun _ => rfl)⟩
  have : g = q := by simpa [Value.ownBlock] using hq
  rw [← this, lab_eq]
theorem LAll.first {M : Marks} {w w' : World} {base d n g cap m : Nat} {ρ : Nat → Nat} {v3 v5 kv f : Value} {A4 : Option Addr} {c4 : Nat} {ks fs ms : List Value} (h : LAll M w base ρ v3 (.slice A4 d c4) v5 ks fs ms) (hk : ks[d]? = some kv) (hkn : Lst w base ρ (4 + d) 9 kv n (M.c n d)) (hf : Lst w base ρ (4 + d) 9 f m (M.c n d)) (hm : m = n + 1)
    (hown : w'.ownsRow base 22 1 (.slice (some ⟨g, 0, none⟩) (d + 1) cap) (d + 1) (fs ++ [f])) (hgr : w.grownBy w' (Value.slice A4 d c4).ownBlock) (hat : (Value.slice A4 d c4).ownBlock = some g ∨ g = w.heap.size) :
    LAll M w' base (lab ρ g 2) v3 (.slice (some ⟨g, 0, none⟩) (d + 1) cap) v5 ks (fs ++ [f]) ms ∧ Lst w' base (lab ρ g 2) (4 + d) 9 f m (M.c n d) ∧ Lst w' base (lab ρ g 2) (4 + d) 9 kv n (M.c n d) := by
  subst hm
  have K : Keeps (fun r => r = 2) w ρ w' (lab ρ g 2) := Keeps.grown hgr (fun q hq => h.r2.2 q hq) rfl hat
  have hl := h.r2.len
  have hr := Rw.snoc (xs := fs) (x := f) (ρ := ρ) (r := 2) (by rw [hl]; exact hown)
  rw [List.length_append, hl] at hr
  exact ⟨⟨h.r1.keep K (by omega), hr, h.r3.keep K (by omega), (h.ls.first hl hk hkn hf).keep K (fun i => by omega)⟩, hf.keep K (by omega), hkn.keep K (by omega)⟩
theorem LAll.more {M : Marks} {w w' : World} {base d n g cap m : Nat} {ρ : Nat → Nat} {v3 v4 kv f : Value} {A5 : Option Addr} {c5 : Nat} {ks fs ms : List Value} (h : LAll M w base ρ v3 v4 (.slice A5 d c5) ks fs ms) (hk : ks[d]? = some kv) (hkn : Lst w base ρ (4 + d) 9 kv n (M.c n d)) (hf : Lst w base ρ (4 + d) 9 f m (M.c n d)) (hm : m = n + 70)
    (hown : w'.ownsRow base 22 1 (.slice (some ⟨g, 0, none⟩) (d + 1) cap) (d + 1) (ms ++ [f])) (hgr : w.grownBy w' (Value.slice A5 d c5).ownBlock) (hat : (Value.slice A5 d c5).ownBlock = some g ∨ g = w.heap.size) :
    LAll M w' base (lab ρ g 3) v3 v4 (.slice (some ⟨g, 0, none⟩) (d + 1) cap) ks fs (ms ++ [f]) := by
  subst hm
  have K : Keeps (fun r => r = 3) w ρ w' (lab ρ g 3) := Keeps.grown hgr (fun q hq => h.r3.2 q hq) rfl hat
  have hl := h.r3.len
  have hr := Rw.snoc (xs := ms) (x := f) (ρ := ρ) (r := 3) (by rw [hl]; exact hown)
  rw [List.length_append, hl] at hr
  exact ⟨h.r1.keep K (by omega), h.r2.keep K (by omega), hr, (h.ls.more hl hk hkn hf).keep K (fun i => by omega)⟩
def L4Rel (M : Marks) (w : World) (ks : List Value) (v3 v4 v5 v13 : Value) (wr : World) : Prop :=
  ∃ (i : Nat) (ρ : Nat → Nat) (fs ms : List Value) (A4 : Option Addr) (c4 : Nat) (A5 : Option Addr) (c5 : Nat), v13 = .int .i64 i ∧ i ≤ ks.length ∧ v4 = .slice A4 i c4 ∧ v5 = .slice A5 i c5 ∧ LAll M wr w.heap.size ρ v3 (.slice A4 i c4) (.slice A5 i c5) ks fs ms ∧ BelW w wr
def L5Rel (M : Marks) (w : World) (ks ms : List Value) (v3 v5 kv : Value) (i n : Nat) (v4 v14 v15 : Value) (wr : World) : Prop :=
  ∃ (k j : Nat) (ρ : Nat → Nat) (fs : List Value) (A4 : Option Addr) (c4 : Nat) (A : Option Addr) (c : Nat), v15 = .int .i64 k ∧ k ≤ 70 ∧ (k = 0 ∧ i = j ∨ 0 < k ∧ j = i + 1) ∧ v4 = .slice A4 j c4 ∧ v14 = .slice A (n + k) c ∧ LAll M wr w.heap.size ρ v3 (.slice A4 j c4) v5 ks fs ms ∧
    Lst wr w.heap.size ρ (4 + i) 9 (.slice A (n + k) c) (n + k) (M.c n i) ∧ Lst wr w.heap.size ρ (4 + i) 9 kv n (M.c n i) ∧ BelW w wr
/-- What the last part reads of line i. -/
theorem LAll.read {M : Marks} {w : World} {base N c3 c4 c5 i : Nat} {ρ : Nat → Nat} {A3 A4 A5 : Option Addr} {ks fs ms : List Value} (h : LAll M w base ρ (.slice A3 N c3) (.slice A4 N c4) (.slice A5 N c5) ks fs ms) (hi : i < N) :
    ∃ (g3 g4 g5 gf gm n ck cf cm : Nat) (Ak : Option Addr), n ≤ 16 ∧ A3 = some ⟨g3, 0, none⟩ ∧ A4 = some ⟨g4, 0, none⟩ ∧ A5 = some ⟨g5, 0, none⟩ ∧ w.cell? ⟨g3, i, none⟩ = some (.slice Ak n ck) ∧ w.cell? ⟨g4, i, none⟩ = some (.slice (some ⟨gf, 0, none⟩) (n + 1) cf) ∧ w.cell? ⟨g5, i, none⟩ = some (.slice (some ⟨gm, 0, none⟩) (n + 70) cm) ∧
      w.cell? ⟨gf, n, none⟩ = some (.string (M.s i 1)) ∧ (∀ k, n ≤ k → k < n + 70 → w.cell? ⟨gm, k, none⟩ = some (.string (M.s i 1))) ∧ (∀ k, k < n → w.cell? ⟨gm, k, none⟩ = some (.string (M.s i 0))) ∧ (∀ k, k < n → ∃ gk, Ak = some ⟨gk, 0, none⟩ ∧ w.cell? ⟨gk, k, none⟩ = some (.string (M.s i 0))) := by
  have l1 := h.r1.len
  have l2 := h.r2.len
  have l3 := h.r3.len
  have e1 := List.getElem?_eq_getElem (show i < ks.length by omega)
  have e2 := List.getElem?_eq_getElem (show i < fs.length by omega)
  have e3 := List.getElem?_eq_getElem (show i < ms.length by omega)
  generalize ks[i]'(by omega) = kv at e1
  generalize fs[i]'(by omega) = f at e2
  generalize ms[i]'(by omega) = m at e3
  obtain ⟨n, hn, hkv, hf, hm⟩ := h.ls i kv e1
  obtain ⟨g3, rfl, q1, _⟩ := h.r1.get e1
  obtain ⟨g4, rfl, q2, _⟩ := h.r2.get e2
  obtain ⟨g5, rfl, q3, _⟩ := h.r3.get e3
  have hf := (hf f e2).1
  have hm := (hm m e3).1
  have hkv := hkv.1
  obtain ⟨gf, cf, rfl⟩ := hf.form (by omega)
  obtain ⟨gm, cm, rfl⟩ := hm.form (by omega)
  obtain ⟨Ak, ck, rfl⟩ := hkv.len
  refine ⟨g3, g4, g5, gf, gm, n, ck, cf, cm, Ak, hn, rfl, rfl, rfl, q1, q2, q3, ?_, fun k hk hk2 => ?_, fun k hk => ?_, fun k hk => ?_⟩
  · rw [hf.cell rfl (k := n) (by omega), Marks.hi (Nat.le_refl _)]
  · rw [hm.cell rfl (k := k) (by omega), Marks.hi hk]
  · rw [hm.cell rfl (k := k) (by omega), Marks.lo hk]
  · obtain ⟨gk, rfl, hc⟩ := hkv.get hk
    exact ⟨gk, rfl, by rw [hc, Marks.lo hk]⟩
end Go.Proofs.YthkifgjmhpppkaaDoor

/- TextLines: the walk. -/
namespace Go.Proofs.YthkifgjmhpppkaaDoor
open Go.RowKit Go.Proofs.YthkifgjmhpppkaaDoorW.PrintWords

theorem strs_info : (Tryd.prog.info? 22).map (fun i => (i.zero, i.size, i.bytes)) = some (some (.slice none 0 0), 1, 24) := by kernel_rfl
theorem one_slice (A : Option Addr) (n c : Nat) : ∀ u ∈ [Value.slice A n c], u.oneCell' = true := fun u hu => by
  rw [List.mem_singleton] at hu
  subst hu
  rfl
theorem one_s (s : ByteArray) : ∀ u ∈ [Value.string s], u.oneCell' = true := fun u hu => by
  rw [List.mem_singleton] at hu
  subst hu
  rfl
theorem frozenKeep {W w1 : World} (hb : Below W.heap.size W w1) {b o : Nat} (hlt : b < W.heap.size) (h : W.frozen? ⟨b, o, none⟩ = false) : w1.frozen? ⟨b, o, none⟩ = false := (hb.frozen (p := ⟨b, o, none⟩) hlt).trans h
theorem news_hi (M : Marks) (n i k : Nat) : ∀ q, q < 1 * 1 → [Value.string (M.s i 1)][q]? = some (M.c n i ((n + k) * 1 + q)) := fun q hq => by
  obtain rfl : q = 0 := by omega
  rw [Marks.hi (by omega)]
  rfl
set_option maxRecDepth 100000 in
set_option maxHeartbeats 64000000 in
theorem textLines_walk (M : Marks) (A0 : Option Addr) (c0 : Nat) (L : List ByteArray) (w : World) (hT : Tabs w) (hL : RS w A0 L) (hLs : ∀ s ∈ L, s.size ≤ 1048576) (hl0 : L.length ≤ 1048576)
    (hM0 : ∀ (i : Nat) (W : World), Calls Tryd.prog 18 #[.int .i64 (i : Nat), .int .i64 0] W fun e w' => e = .returned (.string (M.s i 0)) ∧ Below W.heap.size W w')
    (hM1 : ∀ (i : Nat) (W : World), Calls Tryd.prog 18 #[.int .i64 (i : Nat), .int .i64 1] W fun e w' => e = .returned (.string (M.s i 1)) ∧ Below W.heap.size W w') :
    Calls Tryd.prog 4 #[.slice A0 L.length c0] w (Begun w) := by
  have HLS := Lib.hid hLs
  have HM0 := Lib.hid hM0
  have HM1 := Lib.hid hM1
  obtain ⟨i0, hi, hz0, hz1, hz2⟩ := info_parts string_info2
  have HI := Lib.hid (And.intro hi (And.intro hz0 (And.intro hz1 hz2)))
  obtain ⟨j0, hj, hy0, hy1, hy2⟩ := info_parts strs_info
  have HJ := Lib.hid (And.intro hj (And.intro hy0 (And.intro hy1 hy2)))
  clear hLs hM0 hM1 hi hz0 hz1 hz2 hj hy0 hy1 hy2
  go_enter Tryd.func4, Tryd.ntmps4
  go_wp2_with (go_at_call 9; (with_reducible refine (begun_any _ hT).mono ?_); rintro e w1 ⟨rfl, hb1⟩)
  have hbw : BelW w w1 := hb1
  clear hb1
  go_loopw [3, 6] (fun v3 v6 wr => L1Rel M w L.length v3 v6 wr) (fun _ v6 _ => (L.length - intOf v6).toNat)
  case atStart => exact ⟨0, fun _ => 0, [], none, 0, rfl, Nat.zero_le _, rfl, rfl, Rw.nil _ _ _ _, fun i v h => by simp at h, hbw⟩
  case round =>
    clear hbw
    obtain ⟨i, ρ, ks, A, c, rfl, hi, hkl, rfl, hrow, hks, hbr⟩ := hrel
    by_cases hlt : i < L.length
    · obtain ⟨ad, rfl, hc⟩ := hL.cell_at hlt
      have hc1 := cellKeep hbr hc
      obtain ⟨s, hs⟩ : ∃ s, L[i] = s := ⟨_, rfl⟩
      have hsz : s.size ≤ 1048576 := hs ▸ HLS.out _ (List.getElem_mem hlt)
      rw [hs] at hc hc1
      have hW1 : ∀ W, BelW w W → Calls Tryd.prog 15 #[.string s] W (WordsU ((wordsP s.data.toList).getD []) (if wordsP s.data.toList = none then 23 else 0) W) := fun W hW => (words_any s W (hT.below hW) (by omega)).mono fun _ _ h => wordsU_of h
      have hW2 : ∀ W, Calls Tryd.prog 16 #[.string s] W (WordsU ((wordsP s.data.toList).getD []) (if wordsP s.data.toList = none then 23 else 0) W) := fun W => (refWords_all s W (by omega)).mono fun _ _ h => wordsU_of h
      have h16 := words_le s.data.toList
      obtain ⟨ws, hws⟩ : ∃ ws, (wordsP s.data.toList).getD [] = ws := ⟨_, rfl⟩
      obtain ⟨z, hz⟩ : ∃ z : Int, (if wordsP s.data.toList = none then 23 else 0) = z := ⟨_, rfl⟩
      rw [hws, hz] at hW1 hW2
      rw [hws] at h16
      have hzz : (z != z) = false := by simp
      have HW1 := Lib.hid hW1
      have HW2 := Lib.hid hW2
      have HC := Lib.hid hc
      have q1 : (i : Int) < (L.length : Int) := by omega
      have hown0 := hrow.own
      clear hs hW1 hW2 hws hz hc
      go_wp2_with (first | (go_at_call 15; (with_reducible refine (HW1.out _ hbr).mono ?_); rintro e w2 ⟨hb2, A2, c2, rfl, ho2⟩; have hbr2 := belowKeep hbr hb2; have hc2 := cellKeep hbr2 HC.out) | (go_at_call 16; (with_reducible refine (HW2.out _).mono ?_); rintro e w3 ⟨hb3, A3, c3, rfl, ho3⟩) | (go_at_call 12; (with_reducible refine (num_any _ _).mono ?_); rintro e w4 ⟨rfl, hb4⟩) | (go_at_call 17; (with_reducible refine (eqs_own ws h16 (own_below (own_below ho2 hb3) hb4) (own_below ho3 hb4)).mono ?_); rintro e w5 ⟨rfl, hb5⟩; have hb25 := hb3.trans ((hb4.trans (hb5.mono hb4.size)).mono hb3.size); have hown5 := own_below (own_below hown0 hb2) hb25; have hbr5 := belowKeep hbr2 hb25) | (at_builtin; refine wpList_append_lies _ rfl (.tmp 53) (.tmp 55) 36 rfl w.heap.size 22 j0 (.slice none 0 0) 1 24 Tryd.underlying36 HJ.out.1 HJ.out.2.1 HJ.out.2.2.1 HJ.out.2.2.2 rfl (by decide) (.slice A i c) i ks rfl (hown5.alloc _) ⟨_, 0, none⟩ 1 1 [.slice A2 ws.length c2] rfl rfl (new_cell _ _ _) (one_slice _ _ _) (by decide) (by unfold maxLen; omega) (by omega) (by have := Below.size hbr5; simp; omega) _ rfl ?_; intro g cap w6 hown6 hgrow hat _; have hn1 := Lib.hid (L1_next hrow hks (Below.size hbr) hb2 ho2 h16 hb25 hown6 hgrow hat); have hbr6 : BelW w w6 := (Below.alloc hbr5 (Below.size hbr5) _).grown hgrow (by have := Below.size hbr5; simp; omega) (fun q hq => (hown5.lt q hq).1)))
      obtain ⟨ρ', hr', hk'⟩ := hn1.out
      go_roundw
      case rel => exact ⟨i + 1, ρ', _, _, _, by go_num, by omega, by rw [List.length_append, hkl]; rfl, rfl, hr', hk', hbr6⟩
      case measure => simp [intOf]; omega
    · have q1 : ¬ (i : Int) < (L.length : Int) := by omega
      obtain rfl : i = L.length := by omega
      have HKL := Lib.hid hkl
      clear hi hlt hkl
      go_wp2_with fail
      go_loopw [11] (fun v11 wr' => L2Rel M w ρ ks (.slice A L.length c) v11 wr') (fun v11 _ => (L.length - intOf v11).toNat)
      case atStart => exact ⟨0, rfl, Nat.zero_le _, hks, hrow, hbr⟩
      case round =>
        clear hks hrow hbr q1
        obtain ⟨i, rfl, hi, hks, hrow, hbr⟩ := hrel
        rw [HKL.out] at hi
        by_cases hlt : i < L.length
        · obtain ⟨v, hv⟩ : ∃ v, ks[i]? = some v := ⟨_, List.getElem?_eq_getElem (by rw [HKL.out]; exact hlt)⟩
          obtain ⟨n, cc, hn, hlst, _⟩ := hks i v hv
          obtain ⟨Ak, ck, rfl⟩ := hlst.1.len
          obtain ⟨g3, rfl, x0, _⟩ := hrow.get hv
          have HV := Lib.hid hv
          have q1 : (i : Int) < (L.length : Int) := by omega
          clear hlst hv
          go_wp2_with fail
          go_loopw [12] (fun v12 wr' => L3Rel M w ρ ks (.slice (some ⟨g3, 0, none⟩) L.length c) i n v12 wr') (fun v12 _ => (n - intOf v12).toNat)
          case atStart => exact ⟨0, rfl, Nat.zero_le _, hks, hrow, hbr⟩
          case round =>
            clear x0 hks hrow hbr
            obtain ⟨k, rfl, hk, hks, hrow, hbr⟩ := hrel
            obtain ⟨g3', e3', x0, _⟩ := hrow.get HV.out
            obtain rfl : g3 = g3' := by
              injection e3' with e
              injection e
            clear e3'
            by_cases hkn : k < n
            · obtain ⟨n', c', _, ho, _⟩ := hks i _ HV.out
              obtain rfl := ho.1.len_eq
              obtain ⟨g, rfl, hcell⟩ := ho.1.get hkn
              have hfr := ho.1.free k
              have hgl := (ho.1.block rfl).2
              have hgb := (ho.1.block rfl).1
              have q2 : (k : Int) < (n' : Int) := by omega
              have HKS := Lib.hid hks
              have HRW := Lib.hid hrow
              clear ho hks hrow
              go_wp2_with fail
              refine wp_region_held_drew (S := fun w' => w'.cell? ⟨g3, i, none⟩ = some (.slice (some ⟨g, 0, none⟩) n' ck) ∧ BelW w w') (by kernel_rfl) ⟨x0, BelW.drew hbr⟩ (fun hHeld => ?_)
              refine wpAnyH_take (i := 0) (v := ?_) rfl (by kernel_rfl) (by kernel_rfl) (by kernel_rfl) (fun _ _ _ h => h) (Or.inl ⟨by rfl, fun w hSw => ?_⟩) hHeld ?_
              rotate_left
              · (try dsimp only at hSw); go_split_ands; go_simp <;> with_reducible rfl
              (try simp only [Act.put, List.getElem_toArray, List.getElem_cons_zero, List.setIfInBounds_toArray, List.set_cons_zero, List.set_cons_succ])
              refine wpAnyH_take (i := 1) (v := ?_) rfl (by kernel_rfl) (by kernel_rfl) (by kernel_rfl) (fun _ _ _ h => h) (Or.inl ⟨by rfl, fun w hSw => ?_⟩) hHeld ?_
              rotate_left
              · (try dsimp only at hSw); go_split_ands; go_simp <;> with_reducible rfl
              (try simp only [Act.put, List.getElem_toArray, List.getElem_cons_succ, List.getElem_cons_zero, List.setIfInBounds_toArray, List.set_cons_zero, List.set_cons_succ])
              refine wpAnyH_take (i := 2) (v := ?_) rfl (by kernel_rfl) (by kernel_rfl) (by kernel_rfl) (fun _ _ _ h => h) (Or.inl ⟨by rfl, fun w hSw => ?_⟩) hHeld ?_
              rotate_left
              · (try dsimp only at hSw); go_split_ands; go_simp <;> with_reducible rfl
              (try simp only [Act.put, List.getElem_toArray, List.getElem_cons_succ, List.getElem_cons_zero, List.setIfInBounds_toArray, List.set_cons_zero, List.set_cons_succ])
              refine wpAnyH_take (i := 3) (v := ?_) rfl (by kernel_rfl) (by kernel_rfl) (by kernel_rfl) (fun _ _ _ h => h) (Or.inl ⟨by rfl, fun w hSw => ?_⟩) hHeld ?_
              rotate_left
              · (try dsimp only at hSw); go_split_ands; go_simp <;> with_reducible rfl
              (try simp only [Act.put, List.getElem_toArray, List.getElem_cons_succ, List.getElem_cons_zero, List.setIfInBounds_toArray, List.set_cons_zero, List.set_cons_succ])
              refine wpAnyH_take (i := 4) (v := ?_) rfl (by kernel_rfl) (by kernel_rfl) (by kernel_rfl) (fun _ _ _ h => h) (Or.inl ⟨by rfl, fun w hSw => ?_⟩) hHeld ?_
              rotate_left
              · (try dsimp only at hSw); go_split_ands; go_simp <;> with_reducible rfl
              (try simp only [Act.put, List.getElem_toArray, List.getElem_cons_succ, List.getElem_cons_zero, List.setIfInBounds_toArray, List.set_cons_zero, List.set_cons_succ])
              refine wpAnyH_take (i := 5) (v := ?_) rfl (by kernel_rfl) (by kernel_rfl) (by kernel_rfl) (fun _ _ _ h => h) (Or.inl ⟨by rfl, fun w hSw => ?_⟩) hHeld ?_
              rotate_left
              · (try dsimp only at hSw); go_split_ands; go_simp <;> with_reducible rfl
              (try simp only [Act.put, List.getElem_toArray, List.getElem_cons_succ, List.getElem_cons_zero, List.setIfInBounds_toArray, List.set_cons_zero, List.set_cons_succ])
              refine wpAnyH_ready (rs := [6]) (by kernel_rfl) (by simp) (AllReadyH.cons rfl (fun K hK => ?_) AllReadyH.nil)
              go_simp
              (go_at_call 18; (with_reducible refine (HM0.out i _).mono ?_); rintro e' w5 ⟨rfl, hb5a⟩)
              have hb5 : Below wr.heap.size wr w5 := (Below.refl _ _).drew.trans hb5a
              have hx5 := cellKeep hb5 x0
              have hc5 := cellKeep hb5 hcell
              have hf5 := frozenKeep hb5 hgl hfr
              have hbr5 := belowKeep hbr hb5
              have HP := Lib.hid ((HKS.out.below hb5).put HV.out)
              have HR6 := Lib.hid ((HRW.out.below hb5).keep HP.out.2 (by omega))
              have HX6 := Lib.hid (HR6.out.get HV.out)
              have hbr6 : BelW w (w5.setCell ⟨g, k, none⟩ (.string (M.s i 0))) := Below.setCell hbr5 hgb _
              clear hb5 hb5a x0 hcell hfr hbr
              refine hK.out _ _ ⟨hx5, hbr5⟩ (fun hHeld => ?_)
              clear hK K
              (try simp only [Act.put, List.getElem_toArray, List.getElem_cons_succ, List.getElem_cons_zero, List.setIfInBounds_toArray, List.set_cons_zero, List.set_cons_succ])
              refine wpAnyH_take (i := 7) (v := ?_) rfl (by kernel_rfl) (by kernel_rfl) (by kernel_rfl) (fun _ _ _ h => h) (Or.inl ⟨by rfl, fun w hSw => ?_⟩) hHeld ?_
              rotate_left
              · (try dsimp only at hSw); go_split_ands; go_simp <;> with_reducible rfl
              (try simp only [Act.put, List.getElem_toArray, List.getElem_cons_succ, List.getElem_cons_zero, List.setIfInBounds_toArray, List.set_cons_zero, List.set_cons_succ])
              refine wpAnyH_ready (rs := [8]) (by kernel_rfl) (by simp) (AllReadyH.cons rfl (fun K hK => ?_) AllReadyH.nil)
              go_simp
              obtain ⟨g3', e3', x6, _⟩ := HX6.out
              obtain rfl : g3 = g3' := by
                injection e3' with e
                injection e
              refine hK.out _ _ ⟨x6, hbr6⟩ (fun hHeld => ?_)
              clear hK K
              (try simp only [Act.put, List.getElem_toArray, List.getElem_cons_succ, List.getElem_cons_zero, List.setIfInBounds_toArray, List.set_cons_zero, List.set_cons_succ])
              refine wpAnyH_done (by kernel_rfl) ?_ _
              go_wp2_with fail
              exact ⟨⟨k + 1, by go_num, by omega, HP.out.1, HR6.out, hbr6⟩, by simp [intOf]; omega⟩
            · have q2 : ¬ (k : Int) < (n : Int) := by omega
              have HNX := Lib.hid (hks.next HV.out (by omega))
              clear hks
              go_wp2_with fail
              exact ⟨⟨i + 1, by go_num, by rw [HKL.out]; omega, HNX.out, hrow, hbr⟩, by simp [intOf]; omega⟩
        · obtain rfl : i = L.length := by omega
          have hls := hks.done (by rw [HKL.out]; omega)
          clear hi hlt hks
          go_wp2_with fail
          go_loopw [4, 5, 13] (fun v4 v5 v13 wr' => L4Rel M w ks (.slice A L.length c) v4 v5 v13 wr') (fun _ _ v13 _ => (L.length - intOf v13).toNat)
          case atStart => exact ⟨0, ρ, [], [], none, 0, none, 0, rfl, Nat.zero_le _, rfl, rfl, ⟨hrow, Rw.nil _ _ _ _, Rw.nil _ _ _ _, hls⟩, hbr⟩
          case round =>
            clear hls hrow hbr
            obtain ⟨i, ρ, fs, ms, A4, c4, A5, c5, rfl, hi, rfl, rfl, hA, hbr⟩ := hrel
            rw [HKL.out] at hi
            by_cases hlt : i < L.length
            · obtain ⟨kv, hkv⟩ : ∃ v, ks[i]? = some v := ⟨_, List.getElem?_eq_getElem (by rw [HKL.out]; exact hlt)⟩
              obtain ⟨n, hn, hkn, _, _⟩ := hA.ls i kv hkv
              obtain ⟨Ak, ck, rfl⟩ := hkn.1.len
              obtain ⟨g3, rfl, x0, _⟩ := hA.r1.get hkv
              have HV := Lib.hid hkv
              have q1 : (i : Int) < (L.length : Int) := by omega
              clear hkv
              go_wp2_with fail
              go_loopw [4, 14, 15] (fun v4 v14 v15 wr' => L5Rel M w ks ms (.slice (some ⟨g3, 0, none⟩) L.length c) (.slice A5 i c5) (.slice Ak n ck) i n v4 v14 v15 wr') (fun _ _ v15 _ => (70 - intOf v15).toNat)
              case atStart => exact ⟨0, i, ρ, fs, A4, c4, Ak, ck, rfl, by omega, .inl ⟨rfl, rfl⟩, rfl, rfl, hA, hkn, hkn, hbr⟩
              case round =>
                clear x0 hA hkn hbr
                obtain ⟨k, j, ρ, fs, A4, c4, A, c, rfl, hk, hj, rfl, rfl, hA, hg, hkn, hbr⟩ := hrel
                by_cases hk70 : k < 70
                · have q2 : (k : Int) < 70 := by omega
                  rcases hj with ⟨hk0, rfl⟩ | ⟨hk0, rfl⟩
                  · have q3 : ((k : Int) == 0) = true := by simp; omega
                    have HA := Lib.hid hA
                    have HG := Lib.hid hg
                    have HK := Lib.hid hkn
                    have HK0 := Lib.hid hk0
                    clear hA hg hkn hk0
                    go_wp2_with (first | (go_at_call 18; (with_reducible refine (HM1.out i _).mono ?_); rintro e w2 ⟨rfl, hb2⟩; have hbr2 := belowKeep hbr hb2) | (at_builtin; (refine wpList_append_marked rfl (.tmp 94) (.tmp 97) 22 rfl w.heap.size 9 i0 (.string ⟨#[]⟩) 1 16 Tryd.underlying22 HI.out.1 HI.out.2.1 HI.out.2.2.1 HI.out.2.2.2 rfl (by decide) (.slice A (n + k) c) (n + k) (M.c n i) rfl ((HG.out.belowL hb2).belowL ((Below.refl _ _).alloc (Nat.le_refl _) _)).1 ⟨_, 0, none⟩ 1 1 [.string (M.s i 1)] rfl rfl (news_hi M n i k) (new_cell _ _ _) (one_s _) (by decide) (by unfold maxLen; omega) (by omega) (by have := Below.size hbr2; simp; omega) ?_); intro g cap w6 hone hgrow hat hall; have HB := Lib.hid (((HA.out.below hb2).below ((Below.refl _ _).alloc (Nat.le_refl _) _)).app HV.out ((HK.out.belowL hb2).belowL ((Below.refl _ _).alloc (Nat.le_refl _) _)) ((HG.out.belowL hb2).belowL ((Below.refl _ _).alloc (Nat.le_refl _) _)) hone hgrow hat hall); have hbr6 : BelW w w6 := (Below.alloc hbr2 (Below.size hbr2) _).grown hgrow (by have := Below.size hbr2; simp; omega) (fun q hq => (HG.out.1.block hq).1); clear hone hgrow hat hall hb2 hbr2) | (at_builtin; (refine wpList_append_lies _ rfl (.tmp 101) (.tmp 103) 36 rfl w.heap.size 22 j0 (.slice none 0 0) 1 24 Tryd.underlying36 HJ.out.1 HJ.out.2.1 HJ.out.2.2.1 HJ.out.2.2.2 rfl (by decide) (.slice A4 i c4) i fs rfl (HB.out.1.r2.own.alloc _) ⟨_, 0, none⟩ 1 1 [.slice (some ⟨g, 0, none⟩) (n + k + 1) cap] rfl rfl (new_cell _ _ _) (one_slice _ _ _) (by decide) (by unfold maxLen; omega) (by omega) (by have := Below.size hbr6; simp; omega) _ rfl ?_); intro g7 cap7 w8 hown8 hgrow8 hat8 _; have HF := Lib.hid (LAll.first (HB.out.1.below ((Below.refl _ _).alloc (Nat.le_refl _) _)) HV.out (HB.out.2.2.belowL ((Below.refl _ _).alloc (Nat.le_refl _) _)) (HB.out.2.1.belowL ((Below.refl _ _).alloc (Nat.le_refl _) _)) (by have := HK0.out; omega) hown8 hgrow8 hat8); have hbr8 : BelW w w8 := (Below.alloc hbr6 (Below.size hbr6) _).grown hgrow8 (by have := Below.size hbr6; simp; omega) (fun q hq => (HB.out.1.r2.1.block hq).1); clear hown8 hgrow8 hat8))
                    exact ⟨⟨k + 1, i + 1, _, _, _, _, _, _, by go_num, by omega, .inr ⟨by omega, rfl⟩, rfl, rfl, HF.out.1, HF.out.2.1, HF.out.2.2, hbr8⟩, by simp [intOf]; omega⟩
                  · have q3 : ((k : Int) == 0) = false := by rw [beq_eq_false_iff_ne]; omega
                    have HA := Lib.hid hA
                    have HG := Lib.hid hg
                    have HK := Lib.hid hkn
                    clear hA hg hkn
                    go_wp2_with (first | (go_at_call 18; (with_reducible refine (HM1.out i _).mono ?_); rintro e w2 ⟨rfl, hb2⟩; have hbr2 := belowKeep hbr hb2) | (at_builtin; (refine wpList_append_marked rfl (.tmp 94) (.tmp 97) 22 rfl w.heap.size 9 i0 (.string ⟨#[]⟩) 1 16 Tryd.underlying22 HI.out.1 HI.out.2.1 HI.out.2.2.1 HI.out.2.2.2 rfl (by decide) (.slice A (n + k) c) (n + k) (M.c n i) rfl ((HG.out.belowL hb2).belowL ((Below.refl _ _).alloc (Nat.le_refl _) _)).1 ⟨_, 0, none⟩ 1 1 [.string (M.s i 1)] rfl rfl (news_hi M n i k) (new_cell _ _ _) (one_s _) (by decide) (by unfold maxLen; omega) (by omega) (by have := Below.size hbr2; simp; omega) ?_); intro g cap w6 hone hgrow hat hall; have HB := Lib.hid (((HA.out.below hb2).below ((Below.refl _ _).alloc (Nat.le_refl _) _)).app HV.out ((HK.out.belowL hb2).belowL ((Below.refl _ _).alloc (Nat.le_refl _) _)) ((HG.out.belowL hb2).belowL ((Below.refl _ _).alloc (Nat.le_refl _) _)) hone hgrow hat hall); have hbr6 : BelW w w6 := (Below.alloc hbr2 (Below.size hbr2) _).grown hgrow (by have := Below.size hbr2; simp; omega) (fun q hq => (HG.out.1.block hq).1); clear hone hgrow hat hall hb2 hbr2))
                    exact ⟨⟨k + 1, i + 1, _, _, _, _, _, _, by go_num, by omega, .inr ⟨by omega, rfl⟩, rfl, rfl, HB.out.1, HB.out.2.1, HB.out.2.2, hbr6⟩, by simp [intOf]; omega⟩
                · have q2 : ¬ (k : Int) < 70 := by omega
                  obtain rfl : k = 70 := by omega
                  obtain ⟨_, rfl⟩ : 0 < 70 ∧ j = i + 1 := by omega
                  have HA := Lib.hid hA
                  have HG := Lib.hid hg
                  have HK := Lib.hid hkn
                  clear hA hg hkn hj hk hk70
                  go_wp2_with (first | (at_builtin; refine wpList_append_lies _ rfl (.tmp 105) (.tmp 107) 36 rfl w.heap.size 22 j0 (.slice none 0 0) 1 24 Tryd.underlying36 HJ.out.1 HJ.out.2.1 HJ.out.2.2.1 HJ.out.2.2.2 rfl (by decide) (.slice A5 i c5) i ms rfl (HA.out.r3.own.alloc _) ⟨_, 0, none⟩ 1 1 [.slice A (n + 70) c] rfl rfl (new_cell _ _ _) (one_slice _ _ _) (by decide) (by unfold maxLen; omega) (by omega) (by have := Below.size hbr; simp; omega) _ rfl ?_; intro g7 cap7 w8 hown8 hgrow8 hat8 _; have HF := Lib.hid (LAll.more (HA.out.below ((Below.refl _ _).alloc (Nat.le_refl _) _)) HV.out (HK.out.belowL ((Below.refl _ _).alloc (Nat.le_refl _) _)) (HG.out.belowL ((Below.refl _ _).alloc (Nat.le_refl _) _)) rfl hown8 hgrow8 hat8); have hbr8 : BelW w w8 := (Below.alloc hbr (Below.size hbr) _).grown hgrow8 (by have := Below.size hbr; simp; omega) (fun q hq => (HA.out.r3.1.block hq).1); clear hown8 hgrow8 hat8))
                  exact ⟨⟨i + 1, _, _, _, _, _, _, _, by go_num, by rw [HKL.out]; omega, rfl, rfl, HF.out, hbr8⟩, by simp [intOf]; omega⟩
            · obtain rfl : i = L.length := by omega
              clear hi hlt
              go_wp2_with fail
              obtain ⟨wS, rfl⟩ : ∃ x, x = wr := ⟨_, rfl⟩
              have HA := Lib.hid hA
              clear hA
              go_loopw [16] (fun v16 wr' => CntRel wS L.length v16 wr') (fun v16 _ => (L.length - intOf v16).toNat)
              case atStart => exact ⟨0, rfl, Nat.zero_le _, Below.refl _ _⟩
              case round =>
                obtain ⟨i, rfl, hi, hbs⟩ := hrel
                by_cases hlt : i < L.length
                · obtain ⟨g3, g4, g5, gf, gm, n, ck, cf, cm, Ak, hn, rfl, rfl, rfl, r1, r2, r3, r4, r5, r6, r7⟩ := HA.out.read hlt
                  have HR5 := Lib.hid r5
                  have HR6 := Lib.hid r6
                  have HR7 := Lib.hid r7
                  have q1 : (i : Int) < (L.length : Int) := by omega
                  have s1 := cellKeep hbs r1
                  have s2 := cellKeep hbs r2
                  have s4 := cellKeep hbs r4
                  have q5 : (n : Int) < (n : Int) + 1 := by omega
                  clear r5 r6 r7
                  go_wp2_with fail
                  refine wp_region_held_drew (S := fun w' => w'.cell? ⟨g4, i, none⟩ = some (.slice (some ⟨gf, 0, none⟩) (n + 1) cf) ∧ w'.cell? ⟨gf, n, none⟩ = some (.string (M.s i 1)) ∧ BelW wS w') (by kernel_rfl) ⟨s2, s4, BelW.drew hbs⟩ (fun hHeld => ?_)
                  refine wpAnyH_take (i := 0) (v := ?_) rfl (by kernel_rfl) (by kernel_rfl) (by kernel_rfl) (fun _ _ _ h => h) (Or.inl ⟨by rfl, fun w hSw => ?_⟩) hHeld ?_
                  rotate_left
                  · (try dsimp only at hSw); go_split_ands; go_simp <;> with_reducible rfl
                  (try simp only [Act.put, List.getElem_toArray, List.getElem_cons_zero, List.setIfInBounds_toArray, List.set_cons_zero, List.set_cons_succ])
                  refine wpAnyH_take (i := 1) (v := ?_) rfl (by kernel_rfl) (by kernel_rfl) (by kernel_rfl) (fun _ _ _ h => h) (Or.inl ⟨by rfl, fun w hSw => ?_⟩) hHeld ?_
                  rotate_left
                  · (try dsimp only at hSw); go_split_ands; go_simp <;> with_reducible rfl
                  (try simp only [Act.put, List.getElem_toArray, List.getElem_cons_succ, List.getElem_cons_zero, List.setIfInBounds_toArray, List.set_cons_zero, List.set_cons_succ])
                  refine wpAnyH_take (i := 2) (v := ?_) rfl (by kernel_rfl) (by kernel_rfl) (by kernel_rfl) (fun _ _ _ h => h) (Or.inl ⟨by rfl, fun w hSw => ?_⟩) hHeld ?_
                  rotate_left
                  · (try dsimp only at hSw); go_split_ands; go_simp <;> with_reducible rfl
                  (try simp only [Act.put, List.getElem_toArray, List.getElem_cons_succ, List.getElem_cons_zero, List.setIfInBounds_toArray, List.set_cons_zero, List.set_cons_succ])
                  refine wpAnyH_take (i := 3) (v := ?_) rfl (by kernel_rfl) (by kernel_rfl) (by kernel_rfl) (fun _ _ _ h => h) (Or.inl ⟨by rfl, fun w hSw => ?_⟩) hHeld ?_
                  rotate_left
                  · (try dsimp only at hSw); go_split_ands; go_simp <;> with_reducible rfl
                  (try simp only [Act.put, List.getElem_toArray, List.getElem_cons_succ, List.getElem_cons_zero, List.setIfInBounds_toArray, List.set_cons_zero, List.set_cons_succ])
                  refine wpAnyH_take (i := 4) (v := ?_) rfl (by kernel_rfl) (by kernel_rfl) (by kernel_rfl) (fun _ _ _ h => h) (Or.inl ⟨by rfl, fun w hSw => ?_⟩) hHeld ?_
                  rotate_left
                  · (try dsimp only at hSw); go_split_ands; go_simp <;> with_reducible rfl
                  (try simp only [Act.put, List.getElem_toArray, List.getElem_cons_succ, List.getElem_cons_zero, List.setIfInBounds_toArray, List.set_cons_zero, List.set_cons_succ])
                  refine wpAnyH_take (i := 5) (v := ?_) rfl (by kernel_rfl) (by kernel_rfl) (by kernel_rfl) (fun _ _ _ h => h) (Or.inl ⟨by rfl, fun w hSw => ?_⟩) hHeld ?_
                  rotate_left
                  · (try dsimp only at hSw); go_split_ands; go_simp <;> with_reducible rfl
                  (try simp only [Act.put, List.getElem_toArray, List.getElem_cons_succ, List.getElem_cons_zero, List.setIfInBounds_toArray, List.set_cons_zero, List.set_cons_succ])
                  refine wpAnyH_take (i := 6) (v := ?_) rfl (by kernel_rfl) (by kernel_rfl) (by kernel_rfl) (fun _ _ _ h => h) (Or.inl ⟨by rfl, fun w hSw => ?_⟩) hHeld ?_
                  rotate_left
                  · (try dsimp only at hSw); go_split_ands; go_simp <;> with_reducible rfl
                  (try simp only [Act.put, List.getElem_toArray, List.getElem_cons_succ, List.getElem_cons_zero, List.setIfInBounds_toArray, List.set_cons_zero, List.set_cons_succ])
                  refine wpAnyH_take (i := 7) (v := ?_) rfl (by kernel_rfl) (by kernel_rfl) (by kernel_rfl) (fun _ _ _ h => h) (Or.inl ⟨by rfl, fun w hSw => ?_⟩) hHeld ?_
                  rotate_left
                  · (try dsimp only at hSw); go_split_ands; go_simp <;> with_reducible rfl
                  (try simp only [Act.put, List.getElem_toArray, List.getElem_cons_succ, List.getElem_cons_zero, List.setIfInBounds_toArray, List.set_cons_zero, List.set_cons_succ])
                  refine wpAnyH_ready (rs := [8]) (by kernel_rfl) (by simp) (AllReadyH.cons rfl (fun K hK => ?_) AllReadyH.nil)
                  go_simp
                  (go_at_call 18; (with_reducible refine (HM1.out i _).mono ?_); rintro e' w5 ⟨rfl, hb5a⟩)
                  have hb5 : Below wr.heap.size wr w5 := (Below.refl _ _).drew.trans hb5a
                  have hbr5 := belowKeep hbs hb5
                  refine hK.out _ _ ⟨cellKeep hb5 s2, cellKeep hb5 s4, hbr5⟩ (fun hHeld => ?_)
                  clear hK K
                  (try simp only [Act.put, List.getElem_toArray, List.getElem_cons_succ, List.getElem_cons_zero, List.setIfInBounds_toArray, List.set_cons_zero, List.set_cons_succ])
                  refine wpAnyH_take (i := 9) (v := ?_) rfl (by kernel_rfl) (by kernel_rfl) (by kernel_rfl) (fun _ _ _ h => h) (Or.inl ⟨by rfl, fun w hSw => ?_⟩) hHeld ?_
                  rotate_left
                  · (try dsimp only at hSw); go_split_ands; go_simp <;> with_reducible rfl
                  (try simp only [Act.put, List.getElem_toArray, List.getElem_cons_succ, List.getElem_cons_zero, List.setIfInBounds_toArray, List.set_cons_zero, List.set_cons_succ])
                  refine wpAnyH_done (by kernel_rfl) ?_ _
                  clear s1 s2 s4 hb5 hb5a hHeld hbs
                  go_wp2_with fail
                  go_loopw [18] (fun v18 wr' => CntRel wS (n + 70) v18 wr') (fun v18 _ => (n + 70 - intOf v18).toNat)
                  case atStart => exact ⟨0, rfl, Nat.zero_le _, hbr5⟩
                  case round =>
                    clear hbr5
                    obtain ⟨k, rfl, hk, hbs⟩ := hrel
                    have s1 := cellKeep hbs r1
                    have s3 := cellKeep hbs r3
                    by_cases hkm : k < n + 70
                    · by_cases hkn : k < n
                      · obtain ⟨gk, rfl, r8⟩ := HR7.out k hkn
                        have s5 := cellKeep hbs (HR6.out k hkn)
                        have s6 := cellKeep hbs r8
                        have q2 : decide ((k : Int) < (n : Int)) = true := decide_eq_true (by omega)
                        have q6 : (k : Int) < (n : Int) := by omega
                        have q7 : (k : Int) < (n : Int) + 70 := by omega
                        have q3 : decide (n ≤ k) = false := decide_eq_false (by omega)
                        have q4 : decide (k < n) = true := decide_eq_true hkn
                        go_wp2_with fail
                        refine wp_region_held_drew (S := fun w' => w'.cell? ⟨g3, i, none⟩ = some (.slice (some ⟨gk, 0, none⟩) n ck) ∧ w'.cell? ⟨gk, k, none⟩ = some (.string (M.s i 0)) ∧ w'.cell? ⟨g5, i, none⟩ = some (.slice (some ⟨gm, 0, none⟩) (n + 70) cm) ∧ w'.cell? ⟨gm, k, none⟩ = some (.string (M.s i 0)) ∧ BelW wS w') (by kernel_rfl) ⟨s1, s6, s3, s5, BelW.drew hbs⟩ (fun hHeld => ?_)
                        refine wpAnyH_take (i := 0) (v := ?_) rfl (by kernel_rfl) (by kernel_rfl) (by kernel_rfl) (fun _ _ _ h => h) (Or.inl ⟨by rfl, fun w hSw => ?_⟩) hHeld ?_
                        rotate_left
                        · (try dsimp only at hSw); go_split_ands; go_simp <;> with_reducible rfl
                        (try simp only [Act.put, List.getElem_toArray, List.getElem_cons_zero, List.setIfInBounds_toArray, List.set_cons_zero, List.set_cons_succ])
                        refine wpAnyH_take (i := 1) (v := ?_) rfl (by kernel_rfl) (by kernel_rfl) (by kernel_rfl) (fun _ _ _ h => h) (Or.inl ⟨by rfl, fun w hSw => ?_⟩) hHeld ?_
                        rotate_left
                        · (try dsimp only at hSw); go_split_ands; go_simp <;> with_reducible rfl
                        (try simp only [Act.put, List.getElem_toArray, List.getElem_cons_succ, List.getElem_cons_zero, List.setIfInBounds_toArray, List.set_cons_zero, List.set_cons_succ])
                        refine wpAnyH_take (i := 2) (v := ?_) rfl (by kernel_rfl) (by kernel_rfl) (by kernel_rfl) (fun _ _ _ h => h) (Or.inl ⟨by rfl, fun w hSw => ?_⟩) hHeld ?_
                        rotate_left
                        · (try dsimp only at hSw); go_split_ands; go_simp <;> with_reducible rfl
                        (try simp only [Act.put, List.getElem_toArray, List.getElem_cons_succ, List.getElem_cons_zero, List.setIfInBounds_toArray, List.set_cons_zero, List.set_cons_succ])
                        refine wpAnyH_take (i := 3) (v := ?_) rfl (by kernel_rfl) (by kernel_rfl) (by kernel_rfl) (fun _ _ _ h => h) (Or.inl ⟨by rfl, fun w hSw => ?_⟩) hHeld ?_
                        rotate_left
                        · (try dsimp only at hSw); go_split_ands; go_simp <;> with_reducible rfl
                        (try simp only [Act.put, List.getElem_toArray, List.getElem_cons_succ, List.getElem_cons_zero, List.setIfInBounds_toArray, List.set_cons_zero, List.set_cons_succ])
                        refine wpAnyH_take (i := 4) (v := ?_) rfl (by kernel_rfl) (by kernel_rfl) (by kernel_rfl) (fun _ _ _ h => h) (Or.inl ⟨by rfl, fun w hSw => ?_⟩) hHeld ?_
                        rotate_left
                        · (try dsimp only at hSw); go_split_ands; go_simp <;> with_reducible rfl
                        (try simp only [Act.put, List.getElem_toArray, List.getElem_cons_succ, List.getElem_cons_zero, List.setIfInBounds_toArray, List.set_cons_zero, List.set_cons_succ])
                        refine wpAnyH_take (i := 5) (v := ?_) rfl (by kernel_rfl) (by kernel_rfl) (by kernel_rfl) (fun _ _ _ h => h) (Or.inl ⟨by rfl, fun w hSw => ?_⟩) hHeld ?_
                        rotate_left
                        · (try dsimp only at hSw); go_split_ands; go_simp <;> with_reducible rfl
                        (try simp only [Act.put, List.getElem_toArray, List.getElem_cons_succ, List.getElem_cons_zero, List.setIfInBounds_toArray, List.set_cons_zero, List.set_cons_succ])
                        refine wpAnyH_take (i := 6) (v := ?_) rfl (by kernel_rfl) (by kernel_rfl) (by kernel_rfl) (fun _ _ _ h => h) (Or.inl ⟨by rfl, fun w hSw => ?_⟩) hHeld ?_
                        rotate_left
                        · (try dsimp only at hSw); go_split_ands; go_simp <;> with_reducible rfl
                        (try simp only [Act.put, List.getElem_toArray, List.getElem_cons_succ, List.getElem_cons_zero, List.setIfInBounds_toArray, List.set_cons_zero, List.set_cons_succ])
                        refine wpAnyH_take (i := 7) (v := ?_) rfl (by kernel_rfl) (by kernel_rfl) (by kernel_rfl) (fun _ _ _ h => h) (Or.inl ⟨by rfl, fun w hSw => ?_⟩) hHeld ?_
                        rotate_left
                        · (try dsimp only at hSw); go_split_ands; go_simp <;> with_reducible rfl
                        (try simp only [Act.put, List.getElem_toArray, List.getElem_cons_succ, List.getElem_cons_zero, List.setIfInBounds_toArray, List.set_cons_zero, List.set_cons_succ])
                        refine wpAnyH_take (i := 8) (v := ?_) rfl (by kernel_rfl) (by kernel_rfl) (by kernel_rfl) (fun _ _ _ h => h) (Or.inl ⟨by rfl, fun w hSw => ?_⟩) hHeld ?_
                        rotate_left
                        · (try dsimp only at hSw); go_split_ands; go_simp <;> with_reducible rfl
                        (try simp only [Act.put, List.getElem_toArray, List.getElem_cons_succ, List.getElem_cons_zero, List.setIfInBounds_toArray, List.set_cons_zero, List.set_cons_succ])
                        refine wpAnyH_take (i := 9) (v := ?_) rfl (by kernel_rfl) (by kernel_rfl) (by kernel_rfl) (fun _ _ _ h => h) (Or.inl ⟨by rfl, fun w hSw => ?_⟩) hHeld ?_
                        rotate_left
                        · (try dsimp only at hSw); go_split_ands; go_simp <;> with_reducible rfl
                        (try simp only [Act.put, List.getElem_toArray, List.getElem_cons_succ, List.getElem_cons_zero, List.setIfInBounds_toArray, List.set_cons_zero, List.set_cons_succ])
                        refine wpAnyH_take (i := 10) (v := ?_) rfl (by kernel_rfl) (by kernel_rfl) (by kernel_rfl) (fun _ _ _ h => h) (Or.inl ⟨by rfl, fun w hSw => ?_⟩) hHeld ?_
                        rotate_left
                        · (try dsimp only at hSw); go_split_ands; go_simp <;> with_reducible rfl
                        (try simp only [Act.put, List.getElem_toArray, List.getElem_cons_succ, List.getElem_cons_zero, List.setIfInBounds_toArray, List.set_cons_zero, List.set_cons_succ])
                        refine wpAnyH_take (i := 11) (v := ?_) rfl (by kernel_rfl) (by kernel_rfl) (by kernel_rfl) (fun _ _ _ h => h) (Or.inl ⟨by rfl, fun w hSw => ?_⟩) hHeld ?_
                        rotate_left
                        · (try dsimp only at hSw); go_split_ands; go_simp <;> with_reducible rfl
                        (try simp only [Act.put, List.getElem_toArray, List.getElem_cons_succ, List.getElem_cons_zero, List.setIfInBounds_toArray, List.set_cons_zero, List.set_cons_succ])
                        refine wpAnyH_ready (rs := [12]) (by kernel_rfl) (by simp) (AllReadyH.cons rfl (fun K hK => ?_) AllReadyH.nil)
                        go_simp
                        (go_at_call 18; (with_reducible refine (HM0.out i _).mono ?_); rintro e' w5 ⟨rfl, hb5a⟩)
                        have hb5 : Below wr.heap.size wr w5 := (Below.refl _ _).drew.trans hb5a
                        have hbr5 := belowKeep hbs hb5
                        refine hK.out _ _ ⟨cellKeep hb5 s1, cellKeep hb5 s6, cellKeep hb5 s3, cellKeep hb5 s5, hbr5⟩ (fun hHeld => ?_)
                        clear hK K
                        (try simp only [Act.put, List.getElem_toArray, List.getElem_cons_succ, List.getElem_cons_zero, List.setIfInBounds_toArray, List.set_cons_zero, List.set_cons_succ])
                        refine wpAnyH_take (i := 13) (v := ?_) rfl (by kernel_rfl) (by kernel_rfl) (by kernel_rfl) (fun _ _ _ h => h) (Or.inl ⟨by rfl, fun w hSw => ?_⟩) hHeld ?_
                        rotate_left
                        · (try dsimp only at hSw); go_split_ands; go_simp <;> with_reducible rfl
                        (try simp only [Act.put, List.getElem_toArray, List.getElem_cons_succ, List.getElem_cons_zero, List.setIfInBounds_toArray, List.set_cons_zero, List.set_cons_succ])
                        refine wpAnyH_take (i := 14) (v := ?_) rfl (by kernel_rfl) (by kernel_rfl) (by kernel_rfl) (fun _ _ _ h => h) (Or.inl ⟨by rfl, fun w hSw => ?_⟩) hHeld ?_
                        rotate_left
                        · (try dsimp only at hSw); go_split_ands; go_simp <;> with_reducible rfl
                        (try simp only [Act.put, List.getElem_toArray, List.getElem_cons_succ, List.getElem_cons_zero, List.setIfInBounds_toArray, List.set_cons_zero, List.set_cons_succ])
                        refine wpAnyH_take (i := 15) (v := ?_) rfl (by kernel_rfl) (by kernel_rfl) (by kernel_rfl) (fun _ _ _ h => h) (Or.inl ⟨by rfl, fun w hSw => ?_⟩) hHeld ?_
                        rotate_left
                        · (try dsimp only at hSw); go_split_ands; go_simp <;> with_reducible rfl
                        (try simp only [Act.put, List.getElem_toArray, List.getElem_cons_succ, List.getElem_cons_zero, List.setIfInBounds_toArray, List.set_cons_zero, List.set_cons_succ])
                        refine wpAnyH_take (i := 16) (v := ?_) rfl (by kernel_rfl) (by kernel_rfl) (by kernel_rfl) (fun _ _ _ h => h) (Or.inl ⟨by rfl, fun w hSw => ?_⟩) hHeld ?_
                        rotate_left
                        · (try dsimp only at hSw); go_split_ands; go_simp <;> with_reducible rfl
                        (try simp only [Act.put, List.getElem_toArray, List.getElem_cons_succ, List.getElem_cons_zero, List.setIfInBounds_toArray, List.set_cons_zero, List.set_cons_succ])
                        refine wpAnyH_take (i := 17) (v := ?_) rfl (by kernel_rfl) (by kernel_rfl) (by kernel_rfl) (fun _ _ _ h => h) (Or.inl ⟨by rfl, fun w hSw => ?_⟩) hHeld ?_
                        rotate_left
                        · (try dsimp only at hSw); go_split_ands; go_simp <;> with_reducible rfl
                        (try simp only [Act.put, List.getElem_toArray, List.getElem_cons_succ, List.getElem_cons_zero, List.setIfInBounds_toArray, List.set_cons_zero, List.set_cons_succ])
                        refine wpAnyH_take (i := 18) (v := ?_) rfl (by kernel_rfl) (by kernel_rfl) (by kernel_rfl) (fun _ _ _ h => h) (Or.inl ⟨by rfl, fun w hSw => ?_⟩) hHeld ?_
                        rotate_left
                        · (try dsimp only at hSw); go_split_ands; go_simp <;> with_reducible rfl
                        (try simp only [Act.put, List.getElem_toArray, List.getElem_cons_succ, List.getElem_cons_zero, List.setIfInBounds_toArray, List.set_cons_zero, List.set_cons_succ])
                        refine wpAnyH_take (i := 19) (v := ?_) rfl (by kernel_rfl) (by kernel_rfl) (by kernel_rfl) (fun _ _ _ h => h) (Or.inl ⟨by rfl, fun w hSw => ?_⟩) hHeld ?_
                        rotate_left
                        · (try dsimp only at hSw); go_split_ands; go_simp <;> with_reducible rfl
                        (try simp only [Act.put, List.getElem_toArray, List.getElem_cons_succ, List.getElem_cons_zero, List.setIfInBounds_toArray, List.set_cons_zero, List.set_cons_succ])
                        refine wpAnyH_take (i := 20) (v := ?_) rfl (by kernel_rfl) (by kernel_rfl) (by kernel_rfl) (fun _ _ _ h => h) (Or.inl ⟨by rfl, fun w hSw => ?_⟩) hHeld ?_
                        rotate_left
                        · (try dsimp only at hSw); go_split_ands; go_simp <;> with_reducible rfl
                        (try simp only [Act.put, List.getElem_toArray, List.getElem_cons_succ, List.getElem_cons_zero, List.setIfInBounds_toArray, List.set_cons_zero, List.set_cons_succ])
                        refine wpAnyH_take (i := 21) (v := ?_) rfl (by kernel_rfl) (by kernel_rfl) (by kernel_rfl) (fun _ _ _ h => h) (Or.inl ⟨by rfl, fun w hSw => ?_⟩) hHeld ?_
                        rotate_left
                        · (try dsimp only at hSw); go_split_ands; go_simp <;> with_reducible rfl
                        (try simp only [Act.put, List.getElem_toArray, List.getElem_cons_succ, List.getElem_cons_zero, List.setIfInBounds_toArray, List.set_cons_zero, List.set_cons_succ])
                        refine wpAnyH_take (i := 22) (v := ?_) rfl (by kernel_rfl) (by kernel_rfl) (by kernel_rfl) (fun _ _ _ h => h) (Or.inl ⟨by rfl, fun w hSw => ?_⟩) hHeld ?_
                        rotate_left
                        · (try dsimp only at hSw); go_split_ands; go_simp <;> with_reducible rfl
                        (try simp only [Act.put, List.getElem_toArray, List.getElem_cons_succ, List.getElem_cons_zero, List.setIfInBounds_toArray, List.set_cons_zero, List.set_cons_succ])
                        refine wpAnyH_ready (rs := [23]) (by kernel_rfl) (by simp) (AllReadyH.cons rfl (fun K hK => ?_) AllReadyH.nil)
                        go_simp
                        (go_at_call 18; (with_reducible refine (HM0.out i _).mono ?_); rintro e' w6 ⟨rfl, hb6⟩)
                        have hbr6 := belowKeep hbr5 hb6
                        have hb56 := hb5.trans (hb6.mono hb5.size)
                        refine hK.out _ _ ⟨cellKeep hb56 s1, cellKeep hb56 s6, cellKeep hb56 s3, cellKeep hb56 s5, hbr6⟩ (fun hHeld => ?_)
                        clear hK K
                        (try simp only [Act.put, List.getElem_toArray, List.getElem_cons_succ, List.getElem_cons_zero, List.setIfInBounds_toArray, List.set_cons_zero, List.set_cons_succ])
                        refine wpAnyH_take (i := 24) (v := ?_) rfl (by kernel_rfl) (by kernel_rfl) (by kernel_rfl) (fun _ _ _ h => h) (Or.inl ⟨by rfl, fun w hSw => ?_⟩) hHeld ?_
                        rotate_left
                        · (try dsimp only at hSw); go_split_ands; go_simp <;> with_reducible rfl
                        (try simp only [Act.put, List.getElem_toArray, List.getElem_cons_succ, List.getElem_cons_zero, List.setIfInBounds_toArray, List.set_cons_zero, List.set_cons_succ])
                        refine wpAnyH_take (i := 25) (v := ?_) rfl (by kernel_rfl) (by kernel_rfl) (by kernel_rfl) (fun _ _ _ h => h) (Or.inl ⟨by rfl, fun w hSw => ?_⟩) hHeld ?_
                        rotate_left
                        · (try dsimp only at hSw); go_split_ands; go_simp <;> with_reducible rfl
                        (try simp only [Act.put, List.getElem_toArray, List.getElem_cons_succ, List.getElem_cons_zero, List.setIfInBounds_toArray, List.set_cons_zero, List.set_cons_succ])
                        refine wpAnyH_take (i := 26) (v := ?_) rfl (by kernel_rfl) (by kernel_rfl) (by kernel_rfl) (fun _ _ _ h => h) (Or.inl ⟨by rfl, fun w hSw => ?_⟩) hHeld ?_
                        rotate_left
                        · (try dsimp only at hSw); go_split_ands; go_simp <;> with_reducible rfl
                        (try simp only [Act.put, List.getElem_toArray, List.getElem_cons_succ, List.getElem_cons_zero, List.setIfInBounds_toArray, List.set_cons_zero, List.set_cons_succ])
                        refine wpAnyH_take (i := 27) (v := ?_) rfl (by kernel_rfl) (by kernel_rfl) (by kernel_rfl) (fun _ _ _ h => h) (Or.inl ⟨by rfl, fun w hSw => ?_⟩) hHeld ?_
                        rotate_left
                        · (try dsimp only at hSw); go_split_ands; go_simp <;> with_reducible rfl
                        (try simp only [Act.put, List.getElem_toArray, List.getElem_cons_succ, List.getElem_cons_zero, List.setIfInBounds_toArray, List.set_cons_zero, List.set_cons_succ])
                        refine wpAnyH_take (i := 28) (v := ?_) rfl (by kernel_rfl) (by kernel_rfl) (by kernel_rfl) (fun _ _ _ h => h) (Or.inl ⟨by rfl, fun w hSw => ?_⟩) hHeld ?_
                        rotate_left
                        · (try dsimp only at hSw); go_split_ands; go_simp <;> with_reducible rfl
                        (try simp only [Act.put, List.getElem_toArray, List.getElem_cons_succ, List.getElem_cons_zero, List.setIfInBounds_toArray, List.set_cons_zero, List.set_cons_succ])
                        refine wpAnyH_take (i := 29) (v := ?_) rfl (by kernel_rfl) (by kernel_rfl) (by kernel_rfl) (fun _ _ _ h => h) (Or.inl ⟨by rfl, fun w hSw => ?_⟩) hHeld ?_
                        rotate_left
                        · (try dsimp only at hSw); go_split_ands; go_simp <;> with_reducible rfl
                        (try simp only [Act.put, List.getElem_toArray, List.getElem_cons_succ, List.getElem_cons_zero, List.setIfInBounds_toArray, List.set_cons_zero, List.set_cons_succ])
                        refine wpAnyH_take (i := 30) (v := ?_) rfl (by kernel_rfl) (by kernel_rfl) (by kernel_rfl) (fun _ _ _ h => h) (Or.inl ⟨by rfl, fun w hSw => ?_⟩) hHeld ?_
                        rotate_left
                        · (try dsimp only at hSw); go_split_ands; go_simp <;> with_reducible rfl
                        (try simp only [Act.put, List.getElem_toArray, List.getElem_cons_succ, List.getElem_cons_zero, List.setIfInBounds_toArray, List.set_cons_zero, List.set_cons_succ])
                        refine wpAnyH_take (i := 31) (v := ?_) rfl (by kernel_rfl) (by kernel_rfl) (by kernel_rfl) (fun _ _ _ h => h) (Or.inl ⟨by rfl, fun w hSw => ?_⟩) hHeld ?_
                        rotate_left
                        · (try dsimp only at hSw); go_split_ands; go_simp <;> with_reducible rfl
                        (try simp only [Act.put, List.getElem_toArray, List.getElem_cons_succ, List.getElem_cons_zero, List.setIfInBounds_toArray, List.set_cons_zero, List.set_cons_succ])
                        refine wpAnyH_take (i := 32) (v := undef) rfl (by kernel_rfl) (by kernel_rfl) (by kernel_rfl) (fun _ _ _ h => h) (Or.inr ⟨by rfl, rfl⟩) hHeld ?_
                        (try simp only [Act.put, List.getElem_toArray, List.getElem_cons_succ, List.getElem_cons_zero, List.setIfInBounds_toArray, List.set_cons_zero, List.set_cons_succ])
                        refine wpAnyH_take (i := 33) (v := undef) rfl (by kernel_rfl) (by kernel_rfl) (by kernel_rfl) (fun _ _ _ h => h) (Or.inr ⟨by rfl, rfl⟩) hHeld ?_
                        (try simp only [Act.put, List.getElem_toArray, List.getElem_cons_succ, List.getElem_cons_zero, List.setIfInBounds_toArray, List.set_cons_zero, List.set_cons_succ])
                        refine wpAnyH_take (i := 34) (v := undef) rfl (by kernel_rfl) (by kernel_rfl) (by kernel_rfl) (fun _ _ _ h => h) (Or.inr ⟨by rfl, rfl⟩) hHeld ?_
                        (try simp only [Act.put, List.getElem_toArray, List.getElem_cons_succ, List.getElem_cons_zero, List.setIfInBounds_toArray, List.set_cons_zero, List.set_cons_succ])
                        refine wpAnyH_take (i := 35) (v := undef) rfl (by kernel_rfl) (by kernel_rfl) (by kernel_rfl) (fun _ _ _ h => h) (Or.inr ⟨by rfl, rfl⟩) hHeld ?_
                        (try simp only [Act.put, List.getElem_toArray, List.getElem_cons_succ, List.getElem_cons_zero, List.setIfInBounds_toArray, List.set_cons_zero, List.set_cons_succ])
                        refine wpAnyH_take (i := 36) (v := undef) rfl (by kernel_rfl) (by kernel_rfl) (by kernel_rfl) (fun _ _ _ h => h) (Or.inr ⟨by rfl, rfl⟩) hHeld ?_
                        (try simp only [Act.put, List.getElem_toArray, List.getElem_cons_succ, List.getElem_cons_zero, List.setIfInBounds_toArray, List.set_cons_zero, List.set_cons_succ])
                        refine wpAnyH_take (i := 37) (v := undef) rfl (by kernel_rfl) (by kernel_rfl) (by kernel_rfl) (fun _ _ _ h => h) (Or.inr ⟨by rfl, rfl⟩) hHeld ?_
                        (try simp only [Act.put, List.getElem_toArray, List.getElem_cons_succ, List.getElem_cons_zero, List.setIfInBounds_toArray, List.set_cons_zero, List.set_cons_succ])
                        refine wpAnyH_take (i := 38) (v := undef) rfl (by kernel_rfl) (by kernel_rfl) (by kernel_rfl) (fun _ _ _ h => h) (Or.inr ⟨by rfl, rfl⟩) hHeld ?_
                        (try simp only [Act.put, List.getElem_toArray, List.getElem_cons_succ, List.getElem_cons_zero, List.setIfInBounds_toArray, List.set_cons_zero, List.set_cons_succ])
                        refine wpAnyH_take (i := 39) (v := undef) rfl (by kernel_rfl) (by kernel_rfl) (by kernel_rfl) (fun _ _ _ h => h) (Or.inr ⟨by rfl, rfl⟩) hHeld ?_
                        (try simp only [Act.put, List.getElem_toArray, List.getElem_cons_succ, List.getElem_cons_zero, List.setIfInBounds_toArray, List.set_cons_zero, List.set_cons_succ])
                        refine wpAnyH_take (i := 40) (v := undef) rfl (by kernel_rfl) (by kernel_rfl) (by kernel_rfl) (fun _ _ _ h => h) (Or.inr ⟨by rfl, rfl⟩) hHeld ?_
                        (try simp only [Act.put, List.getElem_toArray, List.getElem_cons_succ, List.getElem_cons_zero, List.setIfInBounds_toArray, List.set_cons_zero, List.set_cons_succ])
                        refine wpAnyH_take (i := 41) (v := undef) rfl (by kernel_rfl) (by kernel_rfl) (by kernel_rfl) (fun _ _ _ h => h) (Or.inr ⟨by rfl, rfl⟩) hHeld ?_
                        (try simp only [Act.put, List.getElem_toArray, List.getElem_cons_succ, List.getElem_cons_zero, List.setIfInBounds_toArray, List.set_cons_zero, List.set_cons_succ])
                        refine wpAnyH_take (i := 42) (v := ?_) rfl (by kernel_rfl) (by kernel_rfl) (by kernel_rfl) (fun _ _ _ h => h) (Or.inl ⟨by rfl, fun w hSw => ?_⟩) hHeld ?_
                        rotate_left
                        · (try dsimp only at hSw); go_split_ands; go_simp <;> with_reducible rfl
                        (try simp only [Act.put, List.getElem_toArray, List.getElem_cons_succ, List.getElem_cons_zero, List.setIfInBounds_toArray, List.set_cons_zero, List.set_cons_succ])
                        refine wpAnyH_take (i := 43) (v := ?_) rfl (by kernel_rfl) (by kernel_rfl) (by kernel_rfl) (fun _ _ _ h => h) (Or.inl ⟨by rfl, fun w hSw => ?_⟩) hHeld ?_
                        rotate_left
                        · (try dsimp only at hSw); go_split_ands; go_simp <;> with_reducible rfl
                        (try simp only [Act.put, List.getElem_toArray, List.getElem_cons_succ, List.getElem_cons_zero, List.setIfInBounds_toArray, List.set_cons_zero, List.set_cons_succ])
                        refine wpAnyH_done (by kernel_rfl) ?_ _
                        clear s1 s3 s5 s6 hHeld
                        go_wp2_with fail
                        exact ⟨⟨k + 1, by go_num, by omega, hbr6⟩, by simp [intOf]; omega⟩
                      · have s5 := cellKeep hbs (HR5.out k (by omega) hkm)
                        have q2 : decide ((k : Int) < (n : Int)) = false := decide_eq_false (by omega)
                        have q7 : (k : Int) < (n : Int) + 70 := by omega
                        have q3 : decide (n ≤ k) = true := decide_eq_true (by omega)
                        have q4 : decide (k < n) = false := decide_eq_false hkn
                        go_wp2_with fail
                        refine wp_region_held_drew (S := fun w' => w'.cell? ⟨g5, i, none⟩ = some (.slice (some ⟨gm, 0, none⟩) (n + 70) cm) ∧ w'.cell? ⟨gm, k, none⟩ = some (.string (M.s i 1)) ∧ BelW wS w') (by kernel_rfl) ⟨s3, s5, BelW.drew hbs⟩ (fun hHeld => ?_)
                        refine wpAnyH_take (i := 0) (v := ?_) rfl (by kernel_rfl) (by kernel_rfl) (by kernel_rfl) (fun _ _ _ h => h) (Or.inl ⟨by rfl, fun w hSw => ?_⟩) hHeld ?_
                        rotate_left
                        · (try dsimp only at hSw); go_split_ands; go_simp <;> with_reducible rfl
                        (try simp only [Act.put, List.getElem_toArray, List.getElem_cons_zero, List.setIfInBounds_toArray, List.set_cons_zero, List.set_cons_succ])
                        refine wpAnyH_take (i := 1) (v := ?_) rfl (by kernel_rfl) (by kernel_rfl) (by kernel_rfl) (fun _ _ _ h => h) (Or.inl ⟨by rfl, fun w hSw => ?_⟩) hHeld ?_
                        rotate_left
                        · (try dsimp only at hSw); go_split_ands; go_simp <;> with_reducible rfl
                        (try simp only [Act.put, List.getElem_toArray, List.getElem_cons_succ, List.getElem_cons_zero, List.setIfInBounds_toArray, List.set_cons_zero, List.set_cons_succ])
                        refine wpAnyH_take (i := 2) (v := ?_) rfl (by kernel_rfl) (by kernel_rfl) (by kernel_rfl) (fun _ _ _ h => h) (Or.inl ⟨by rfl, fun w hSw => ?_⟩) hHeld ?_
                        rotate_left
                        · (try dsimp only at hSw); go_split_ands; go_simp <;> with_reducible rfl
                        (try simp only [Act.put, List.getElem_toArray, List.getElem_cons_succ, List.getElem_cons_zero, List.setIfInBounds_toArray, List.set_cons_zero, List.set_cons_succ])
                        refine wpAnyH_take (i := 3) (v := ?_) rfl (by kernel_rfl) (by kernel_rfl) (by kernel_rfl) (fun _ _ _ h => h) (Or.inl ⟨by rfl, fun w hSw => ?_⟩) hHeld ?_
                        rotate_left
                        · (try dsimp only at hSw); go_split_ands; go_simp <;> with_reducible rfl
                        (try simp only [Act.put, List.getElem_toArray, List.getElem_cons_succ, List.getElem_cons_zero, List.setIfInBounds_toArray, List.set_cons_zero, List.set_cons_succ])
                        refine wpAnyH_take (i := 4) (v := undef) rfl (by kernel_rfl) (by kernel_rfl) (by kernel_rfl) (fun _ _ _ h => h) (Or.inr ⟨by rfl, rfl⟩) hHeld ?_
                        (try simp only [Act.put, List.getElem_toArray, List.getElem_cons_succ, List.getElem_cons_zero, List.setIfInBounds_toArray, List.set_cons_zero, List.set_cons_succ])
                        refine wpAnyH_take (i := 5) (v := undef) rfl (by kernel_rfl) (by kernel_rfl) (by kernel_rfl) (fun _ _ _ h => h) (Or.inr ⟨by rfl, rfl⟩) hHeld ?_
                        (try simp only [Act.put, List.getElem_toArray, List.getElem_cons_succ, List.getElem_cons_zero, List.setIfInBounds_toArray, List.set_cons_zero, List.set_cons_succ])
                        refine wpAnyH_take (i := 6) (v := undef) rfl (by kernel_rfl) (by kernel_rfl) (by kernel_rfl) (fun _ _ _ h => h) (Or.inr ⟨by rfl, rfl⟩) hHeld ?_
                        (try simp only [Act.put, List.getElem_toArray, List.getElem_cons_succ, List.getElem_cons_zero, List.setIfInBounds_toArray, List.set_cons_zero, List.set_cons_succ])
                        refine wpAnyH_take (i := 7) (v := undef) rfl (by kernel_rfl) (by kernel_rfl) (by kernel_rfl) (fun _ _ _ h => h) (Or.inr ⟨by rfl, rfl⟩) hHeld ?_
                        (try simp only [Act.put, List.getElem_toArray, List.getElem_cons_succ, List.getElem_cons_zero, List.setIfInBounds_toArray, List.set_cons_zero, List.set_cons_succ])
                        refine wpAnyH_take (i := 8) (v := undef) rfl (by kernel_rfl) (by kernel_rfl) (by kernel_rfl) (fun _ _ _ h => h) (Or.inr ⟨by rfl, rfl⟩) hHeld ?_
                        (try simp only [Act.put, List.getElem_toArray, List.getElem_cons_succ, List.getElem_cons_zero, List.setIfInBounds_toArray, List.set_cons_zero, List.set_cons_succ])
                        refine wpAnyH_take (i := 9) (v := undef) rfl (by kernel_rfl) (by kernel_rfl) (by kernel_rfl) (fun _ _ _ h => h) (Or.inr ⟨by rfl, rfl⟩) hHeld ?_
                        (try simp only [Act.put, List.getElem_toArray, List.getElem_cons_succ, List.getElem_cons_zero, List.setIfInBounds_toArray, List.set_cons_zero, List.set_cons_succ])
                        refine wpAnyH_take (i := 10) (v := undef) rfl (by kernel_rfl) (by kernel_rfl) (by kernel_rfl) (fun _ _ _ h => h) (Or.inr ⟨by rfl, rfl⟩) hHeld ?_
                        (try simp only [Act.put, List.getElem_toArray, List.getElem_cons_succ, List.getElem_cons_zero, List.setIfInBounds_toArray, List.set_cons_zero, List.set_cons_succ])
                        refine wpAnyH_take (i := 11) (v := undef) rfl (by kernel_rfl) (by kernel_rfl) (by kernel_rfl) (fun _ _ _ h => h) (Or.inr ⟨by rfl, rfl⟩) hHeld ?_
                        (try simp only [Act.put, List.getElem_toArray, List.getElem_cons_succ, List.getElem_cons_zero, List.setIfInBounds_toArray, List.set_cons_zero, List.set_cons_succ])
                        refine wpAnyH_take (i := 12) (v := undef) rfl (by kernel_rfl) (by kernel_rfl) (by kernel_rfl) (fun _ _ _ h => h) (Or.inr ⟨by rfl, rfl⟩) hHeld ?_
                        (try simp only [Act.put, List.getElem_toArray, List.getElem_cons_succ, List.getElem_cons_zero, List.setIfInBounds_toArray, List.set_cons_zero, List.set_cons_succ])
                        refine wpAnyH_take (i := 13) (v := undef) rfl (by kernel_rfl) (by kernel_rfl) (by kernel_rfl) (fun _ _ _ h => h) (Or.inr ⟨by rfl, rfl⟩) hHeld ?_
                        (try simp only [Act.put, List.getElem_toArray, List.getElem_cons_succ, List.getElem_cons_zero, List.setIfInBounds_toArray, List.set_cons_zero, List.set_cons_succ])
                        refine wpAnyH_take (i := 14) (v := undef) rfl (by kernel_rfl) (by kernel_rfl) (by kernel_rfl) (fun _ _ _ h => h) (Or.inr ⟨by rfl, rfl⟩) hHeld ?_
                        (try simp only [Act.put, List.getElem_toArray, List.getElem_cons_succ, List.getElem_cons_zero, List.setIfInBounds_toArray, List.set_cons_zero, List.set_cons_succ])
                        refine wpAnyH_take (i := 15) (v := undef) rfl (by kernel_rfl) (by kernel_rfl) (by kernel_rfl) (fun _ _ _ h => h) (Or.inr ⟨by rfl, rfl⟩) hHeld ?_
                        (try simp only [Act.put, List.getElem_toArray, List.getElem_cons_succ, List.getElem_cons_zero, List.setIfInBounds_toArray, List.set_cons_zero, List.set_cons_succ])
                        refine wpAnyH_take (i := 16) (v := undef) rfl (by kernel_rfl) (by kernel_rfl) (by kernel_rfl) (fun _ _ _ h => h) (Or.inr ⟨by rfl, rfl⟩) hHeld ?_
                        (try simp only [Act.put, List.getElem_toArray, List.getElem_cons_succ, List.getElem_cons_zero, List.setIfInBounds_toArray, List.set_cons_zero, List.set_cons_succ])
                        refine wpAnyH_take (i := 17) (v := undef) rfl (by kernel_rfl) (by kernel_rfl) (by kernel_rfl) (fun _ _ _ h => h) (Or.inr ⟨by rfl, rfl⟩) hHeld ?_
                        (try simp only [Act.put, List.getElem_toArray, List.getElem_cons_succ, List.getElem_cons_zero, List.setIfInBounds_toArray, List.set_cons_zero, List.set_cons_succ])
                        refine wpAnyH_take (i := 18) (v := undef) rfl (by kernel_rfl) (by kernel_rfl) (by kernel_rfl) (fun _ _ _ h => h) (Or.inr ⟨by rfl, rfl⟩) hHeld ?_
                        (try simp only [Act.put, List.getElem_toArray, List.getElem_cons_succ, List.getElem_cons_zero, List.setIfInBounds_toArray, List.set_cons_zero, List.set_cons_succ])
                        refine wpAnyH_take (i := 19) (v := undef) rfl (by kernel_rfl) (by kernel_rfl) (by kernel_rfl) (fun _ _ _ h => h) (Or.inr ⟨by rfl, rfl⟩) hHeld ?_
                        (try simp only [Act.put, List.getElem_toArray, List.getElem_cons_succ, List.getElem_cons_zero, List.setIfInBounds_toArray, List.set_cons_zero, List.set_cons_succ])
                        refine wpAnyH_take (i := 20) (v := undef) rfl (by kernel_rfl) (by kernel_rfl) (by kernel_rfl) (fun _ _ _ h => h) (Or.inr ⟨by rfl, rfl⟩) hHeld ?_
                        (try simp only [Act.put, List.getElem_toArray, List.getElem_cons_succ, List.getElem_cons_zero, List.setIfInBounds_toArray, List.set_cons_zero, List.set_cons_succ])
                        refine wpAnyH_take (i := 21) (v := undef) rfl (by kernel_rfl) (by kernel_rfl) (by kernel_rfl) (fun _ _ _ h => h) (Or.inr ⟨by rfl, rfl⟩) hHeld ?_
                        (try simp only [Act.put, List.getElem_toArray, List.getElem_cons_succ, List.getElem_cons_zero, List.setIfInBounds_toArray, List.set_cons_zero, List.set_cons_succ])
                        refine wpAnyH_take (i := 22) (v := undef) rfl (by kernel_rfl) (by kernel_rfl) (by kernel_rfl) (fun _ _ _ h => h) (Or.inr ⟨by rfl, rfl⟩) hHeld ?_
                        (try simp only [Act.put, List.getElem_toArray, List.getElem_cons_succ, List.getElem_cons_zero, List.setIfInBounds_toArray, List.set_cons_zero, List.set_cons_succ])
                        refine wpAnyH_take (i := 23) (v := undef) rfl (by kernel_rfl) (by kernel_rfl) (by kernel_rfl) (fun _ _ _ h => h) (Or.inr ⟨by rfl, rfl⟩) hHeld ?_
                        (try simp only [Act.put, List.getElem_toArray, List.getElem_cons_succ, List.getElem_cons_zero, List.setIfInBounds_toArray, List.set_cons_zero, List.set_cons_succ])
                        refine wpAnyH_take (i := 24) (v := undef) rfl (by kernel_rfl) (by kernel_rfl) (by kernel_rfl) (fun _ _ _ h => h) (Or.inr ⟨by rfl, rfl⟩) hHeld ?_
                        (try simp only [Act.put, List.getElem_toArray, List.getElem_cons_succ, List.getElem_cons_zero, List.setIfInBounds_toArray, List.set_cons_zero, List.set_cons_succ])
                        refine wpAnyH_take (i := 25) (v := undef) rfl (by kernel_rfl) (by kernel_rfl) (by kernel_rfl) (fun _ _ _ h => h) (Or.inr ⟨by rfl, rfl⟩) hHeld ?_
                        (try simp only [Act.put, List.getElem_toArray, List.getElem_cons_succ, List.getElem_cons_zero, List.setIfInBounds_toArray, List.set_cons_zero, List.set_cons_succ])
                        refine wpAnyH_take (i := 26) (v := ?_) rfl (by kernel_rfl) (by kernel_rfl) (by kernel_rfl) (fun _ _ _ h => h) (Or.inl ⟨by rfl, fun w hSw => ?_⟩) hHeld ?_
                        rotate_left
                        · (try dsimp only at hSw); go_split_ands; go_simp <;> with_reducible rfl
                        (try simp only [Act.put, List.getElem_toArray, List.getElem_cons_succ, List.getElem_cons_zero, List.setIfInBounds_toArray, List.set_cons_zero, List.set_cons_succ])
                        refine wpAnyH_take (i := 27) (v := ?_) rfl (by kernel_rfl) (by kernel_rfl) (by kernel_rfl) (fun _ _ _ h => h) (Or.inl ⟨by rfl, fun w hSw => ?_⟩) hHeld ?_
                        rotate_left
                        · (try dsimp only at hSw); go_split_ands; go_simp <;> with_reducible rfl
                        (try simp only [Act.put, List.getElem_toArray, List.getElem_cons_succ, List.getElem_cons_zero, List.setIfInBounds_toArray, List.set_cons_zero, List.set_cons_succ])
                        refine wpAnyH_take (i := 28) (v := ?_) rfl (by kernel_rfl) (by kernel_rfl) (by kernel_rfl) (fun _ _ _ h => h) (Or.inl ⟨by rfl, fun w hSw => ?_⟩) hHeld ?_
                        rotate_left
                        · (try dsimp only at hSw); go_split_ands; go_simp <;> with_reducible rfl
                        (try simp only [Act.put, List.getElem_toArray, List.getElem_cons_succ, List.getElem_cons_zero, List.setIfInBounds_toArray, List.set_cons_zero, List.set_cons_succ])
                        refine wpAnyH_take (i := 29) (v := ?_) rfl (by kernel_rfl) (by kernel_rfl) (by kernel_rfl) (fun _ _ _ h => h) (Or.inl ⟨by rfl, fun w hSw => ?_⟩) hHeld ?_
                        rotate_left
                        · (try dsimp only at hSw); go_split_ands; go_simp <;> with_reducible rfl
                        (try simp only [Act.put, List.getElem_toArray, List.getElem_cons_succ, List.getElem_cons_zero, List.setIfInBounds_toArray, List.set_cons_zero, List.set_cons_succ])
                        refine wpAnyH_take (i := 30) (v := ?_) rfl (by kernel_rfl) (by kernel_rfl) (by kernel_rfl) (fun _ _ _ h => h) (Or.inl ⟨by rfl, fun w hSw => ?_⟩) hHeld ?_
                        rotate_left
                        · (try dsimp only at hSw); go_split_ands; go_simp <;> with_reducible rfl
                        (try simp only [Act.put, List.getElem_toArray, List.getElem_cons_succ, List.getElem_cons_zero, List.setIfInBounds_toArray, List.set_cons_zero, List.set_cons_succ])
                        refine wpAnyH_take (i := 31) (v := ?_) rfl (by kernel_rfl) (by kernel_rfl) (by kernel_rfl) (fun _ _ _ h => h) (Or.inl ⟨by rfl, fun w hSw => ?_⟩) hHeld ?_
                        rotate_left
                        · (try dsimp only at hSw); go_split_ands; go_simp <;> with_reducible rfl
                        (try simp only [Act.put, List.getElem_toArray, List.getElem_cons_succ, List.getElem_cons_zero, List.setIfInBounds_toArray, List.set_cons_zero, List.set_cons_succ])
                        refine wpAnyH_take (i := 32) (v := ?_) rfl (by kernel_rfl) (by kernel_rfl) (by kernel_rfl) (fun _ _ _ h => h) (Or.inl ⟨by rfl, fun w hSw => ?_⟩) hHeld ?_
                        rotate_left
                        · (try dsimp only at hSw); go_split_ands; go_simp <;> with_reducible rfl
                        (try simp only [Act.put, List.getElem_toArray, List.getElem_cons_succ, List.getElem_cons_zero, List.setIfInBounds_toArray, List.set_cons_zero, List.set_cons_succ])
                        refine wpAnyH_take (i := 33) (v := ?_) rfl (by kernel_rfl) (by kernel_rfl) (by kernel_rfl) (fun _ _ _ h => h) (Or.inl ⟨by rfl, fun w hSw => ?_⟩) hHeld ?_
                        rotate_left
                        · (try dsimp only at hSw); go_split_ands; go_simp <;> with_reducible rfl
                        (try simp only [Act.put, List.getElem_toArray, List.getElem_cons_succ, List.getElem_cons_zero, List.setIfInBounds_toArray, List.set_cons_zero, List.set_cons_succ])
                        refine wpAnyH_take (i := 34) (v := ?_) rfl (by kernel_rfl) (by kernel_rfl) (by kernel_rfl) (fun _ _ _ h => h) (Or.inl ⟨by rfl, fun w hSw => ?_⟩) hHeld ?_
                        rotate_left
                        · (try dsimp only at hSw); go_split_ands; go_simp <;> with_reducible rfl
                        (try simp only [Act.put, List.getElem_toArray, List.getElem_cons_succ, List.getElem_cons_zero, List.setIfInBounds_toArray, List.set_cons_zero, List.set_cons_succ])
                        refine wpAnyH_take (i := 35) (v := ?_) rfl (by kernel_rfl) (by kernel_rfl) (by kernel_rfl) (fun _ _ _ h => h) (Or.inl ⟨by rfl, fun w hSw => ?_⟩) hHeld ?_
                        rotate_left
                        · (try dsimp only at hSw); go_split_ands; go_simp <;> with_reducible rfl
                        (try simp only [Act.put, List.getElem_toArray, List.getElem_cons_succ, List.getElem_cons_zero, List.setIfInBounds_toArray, List.set_cons_zero, List.set_cons_succ])
                        refine wpAnyH_take (i := 36) (v := ?_) rfl (by kernel_rfl) (by kernel_rfl) (by kernel_rfl) (fun _ _ _ h => h) (Or.inl ⟨by rfl, fun w hSw => ?_⟩) hHeld ?_
                        rotate_left
                        · (try dsimp only at hSw); go_split_ands; go_simp <;> with_reducible rfl
                        (try simp only [Act.put, List.getElem_toArray, List.getElem_cons_succ, List.getElem_cons_zero, List.setIfInBounds_toArray, List.set_cons_zero, List.set_cons_succ])
                        refine wpAnyH_take (i := 37) (v := ?_) rfl (by kernel_rfl) (by kernel_rfl) (by kernel_rfl) (fun _ _ _ h => h) (Or.inl ⟨by rfl, fun w hSw => ?_⟩) hHeld ?_
                        rotate_left
                        · (try dsimp only at hSw); go_split_ands; go_simp <;> with_reducible rfl
                        (try simp only [Act.put, List.getElem_toArray, List.getElem_cons_succ, List.getElem_cons_zero, List.setIfInBounds_toArray, List.set_cons_zero, List.set_cons_succ])
                        refine wpAnyH_take (i := 38) (v := ?_) rfl (by kernel_rfl) (by kernel_rfl) (by kernel_rfl) (fun _ _ _ h => h) (Or.inl ⟨by rfl, fun w hSw => ?_⟩) hHeld ?_
                        rotate_left
                        · (try dsimp only at hSw); go_split_ands; go_simp <;> with_reducible rfl
                        (try simp only [Act.put, List.getElem_toArray, List.getElem_cons_succ, List.getElem_cons_zero, List.setIfInBounds_toArray, List.set_cons_zero, List.set_cons_succ])
                        refine wpAnyH_take (i := 39) (v := ?_) rfl (by kernel_rfl) (by kernel_rfl) (by kernel_rfl) (fun _ _ _ h => h) (Or.inl ⟨by rfl, fun w hSw => ?_⟩) hHeld ?_
                        rotate_left
                        · (try dsimp only at hSw); go_split_ands; go_simp <;> with_reducible rfl
                        (try simp only [Act.put, List.getElem_toArray, List.getElem_cons_succ, List.getElem_cons_zero, List.setIfInBounds_toArray, List.set_cons_zero, List.set_cons_succ])
                        refine wpAnyH_ready (rs := [40]) (by kernel_rfl) (by simp) (AllReadyH.cons rfl (fun K hK => ?_) AllReadyH.nil)
                        go_simp
                        (go_at_call 18; (with_reducible refine (HM1.out i _).mono ?_); rintro e' w5 ⟨rfl, hb5a⟩)
                        have hb5 : Below wr.heap.size wr w5 := (Below.refl _ _).drew.trans hb5a
                        have hbr5 := belowKeep hbs hb5
                        refine hK.out _ _ ⟨cellKeep hb5 s3, cellKeep hb5 s5, hbr5⟩ (fun hHeld => ?_)
                        clear hK K
                        (try simp only [Act.put, List.getElem_toArray, List.getElem_cons_succ, List.getElem_cons_zero, List.setIfInBounds_toArray, List.set_cons_zero, List.set_cons_succ])
                        refine wpAnyH_take (i := 41) (v := ?_) rfl (by kernel_rfl) (by kernel_rfl) (by kernel_rfl) (fun _ _ _ h => h) (Or.inl ⟨by rfl, fun w hSw => ?_⟩) hHeld ?_
                        rotate_left
                        · (try dsimp only at hSw); go_split_ands; go_simp <;> with_reducible rfl
                        (try simp only [Act.put, List.getElem_toArray, List.getElem_cons_succ, List.getElem_cons_zero, List.setIfInBounds_toArray, List.set_cons_zero, List.set_cons_succ])
                        refine wpAnyH_take (i := 42) (v := ?_) rfl (by kernel_rfl) (by kernel_rfl) (by kernel_rfl) (fun _ _ _ h => h) (Or.inl ⟨by rfl, fun w hSw => ?_⟩) hHeld ?_
                        rotate_left
                        · (try dsimp only at hSw); go_split_ands; go_simp <;> with_reducible rfl
                        (try simp only [Act.put, List.getElem_toArray, List.getElem_cons_succ, List.getElem_cons_zero, List.setIfInBounds_toArray, List.set_cons_zero, List.set_cons_succ])
                        refine wpAnyH_take (i := 43) (v := ?_) rfl (by kernel_rfl) (by kernel_rfl) (by kernel_rfl) (fun _ _ _ h => h) (Or.inl ⟨by rfl, fun w hSw => ?_⟩) hHeld ?_
                        rotate_left
                        · (try dsimp only at hSw); go_split_ands; go_simp <;> with_reducible rfl
                        (try simp only [Act.put, List.getElem_toArray, List.getElem_cons_succ, List.getElem_cons_zero, List.setIfInBounds_toArray, List.set_cons_zero, List.set_cons_succ])
                        refine wpAnyH_done (by kernel_rfl) ?_ _
                        clear s1 s3 s5 hHeld
                        go_wp2_with fail
                        exact ⟨⟨k + 1, by go_num, by omega, hbr5⟩, by simp [intOf]; omega⟩
                    · have q2 : ¬ (k : Int) < ((n + 70 : Nat) : Int) := by omega
                      go_wp2_with fail
                      exact ⟨⟨i + 1, by go_num, by omega, hbs⟩, by simp [intOf]; omega⟩
                · have q1 : ¬ (i : Int) < (L.length : Int) := by omega
                  have hbE := belowKeep hbr hbs
                  have hTj : Tabs wr := hT.below hbE
                  go_wp2_with (go_at_call 9; (with_reducible refine (begun_any _ hTj).mono ?_); rintro e w9 ⟨rfl, hb9⟩)
                  go_ret
                  exact ⟨rfl, belowKeep hbE hb9⟩
set_option maxRecDepth 100000 in
open Go.ChangeShapes Go.WideShapes Go.ChangeAt Go.Joins in
theorem law_TextLines {H : Type} (enc : TypeId × Value → H) (W : World) {base : Nat} (v : Value) (d : DataW H) (ps : List MemPlace)
    (hok : Value.okWide Tryd.prog W .any base 22 v) (h : DataW.Trod enc Tryd.prog W 0 (fun _ => true) true 22 v d ps)
    (hT : Tabs W) (hbulk : Rows.uptoBulkAll [d] ≤ 1048576) : Calls Tryd.prog 4 #[v] W (Begun W) := by
  obtain ⟨x0, x1, x2, rfl⟩ := okWide_slice Tryd.underlying22 hok
  obtain ⟨m, hm⟩ := h
  obtain ⟨A0, L, k0, hv, _, hL, hl0, hLs⟩ := strs_of hm
  have hB : Rows.uptoBulkAll [d] = Rows.uptoBulk d := by simp [Rows.uptoBulkAll]
  rw [hB] at hbulk
  dsimp only at hl0 hLs
  rw [hv]
  exact textLines_walk mkM A0 k0 L W hT hL (fun s hs => by have := hLs s hs; omega) (by omega) mark0_any mark1_any
end Go.Proofs.YthkifgjmhpppkaaDoor
