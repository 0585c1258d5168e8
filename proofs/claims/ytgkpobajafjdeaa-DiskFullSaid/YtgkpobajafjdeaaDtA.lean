/- The plain law of DiskFull: two disks that are alike but for strokes and plan. Of no program. -/
import Derived.Test.YtgkpobajafjdeaaDsD
namespace Go.Proofs.Ytgkpobajafjdeaa

structure Same (a b : DM) : Prop where
  room : a.room = b.room
  off : a.off = b.off
  files : a.files = b.files
  names : a.names = b.names
  sure : a.sure = b.sure
  ch : a.ch = b.ch
theorem Same.refl (a : DM) : Same a a := ⟨rfl, rfl, rfl, rfl, rfl, rfl⟩
section
variable {a b : DM} (S : Same a b)
include S
theorem Same.file (f : Nat) : a.file f = b.file f := by unfold DM.file; rw [S.files]
theorem Same.used : a.used = b.used := by
  unfold DM.used
  rw [S.names]
  congr 1
  exact List.map_congr_left fun p _ => by rw [S.file]
theorem Same.err (n : BS) : a.err n = b.err n := by unfold DM.err; rw [S.off, S.names]
theorem Same.strk (h : a.stroke.off = b.stroke.off) : Same a.stroke b.stroke := ⟨S.room, h, S.files, S.names, S.sure, S.ch⟩
theorem Same.setF (f : Nat) (x : FM) : Same (a.setF f x) (b.setF f x) := ⟨S.room, S.off, by show a.files.set f x = b.files.set f x; rw [S.files], S.names, S.sure, S.ch⟩
theorem Same.addTo (f : Nat) (x : BS) : Same (a.addTo f x) (b.addTo f x) := by
  unfold DM.addTo
  rw [S.file]
  exact S.setF f _
theorem Same.change (c : Ch) : Same (a.change c) (b.change c) := ⟨S.room, S.off, S.files, by show Ch.on a.names c = Ch.on b.names c; rw [S.names], S.sure, by show a.ch ++ [c] = b.ch ++ [c]; rw [S.ch]⟩
theorem Same.make (n : BS) : Same (a.make n) (b.make n) := by
  unfold DM.make
  rw [S.files]
  exact Same.change (a := { a with files := b.files ++ [⟨[], [], []⟩] }) (b := { b with files := b.files ++ [⟨[], [], []⟩] }) ⟨S.room, S.off, rfl, S.names, S.sure, S.ch⟩ _
theorem Same.seenL : a.seenL = b.seenL := by
  unfold DM.seenL DM.bytes
  rw [S.off, S.names]
  refine List.map_congr_left fun p _ => ?_
  rw [S.err]
  congr 1
  split
  · cases b.names.get p.1 with
    | none => rfl
    | some f => show (a.file f).seen = (b.file f).seen; rw [S.file]
  · rfl
theorem Same.crash (ps : List Int) : a.crash ps = b.crash ps := by
  unfold DM.crash
  have : a.file = b.file := funext S.file
  rw [this, S.sure, S.ch]
theorem Same.append (h : a.stroke.off = b.stroke.off) (hf : a.stroke.isFull = b.stroke.isFull) (n x : BS) : (a.append n x).2 = (b.append n x).2 ∧ Same (a.append n x).1 (b.append n x).1 := by
  have T := S.strk h
  have hno : a.stroke.no x.length = b.stroke.no x.length := by unfold DM.no; rw [hf, T.room, T.used]
  unfold DM.append
  rw [S.err, S.names, hno, h]
  split
  · exact ⟨rfl, S⟩
  split
  · exact ⟨rfl, S⟩
  cases b.names.get n with
  | some f =>
    simp only
    split
    · exact ⟨rfl, T⟩
    · exact ⟨rfl, T.addTo f x⟩
  | none =>
    simp only
    split
    · exact ⟨rfl, S⟩
    split
    · exact ⟨rfl, T⟩
    · refine ⟨rfl, ?_⟩
      rw [S.files]
      exact (T.make n).addTo _ x
theorem Same.cut (h : a.stroke.off = b.stroke.off) (n : BS) (k : Int) : (a.cut n k).2 = (b.cut n k).2 ∧ Same (a.cut n k).1 (b.cut n k).1 := by
  have T := S.strk h
  unfold DM.cut
  rw [S.err, S.names, h]
  split
  · rename_i f _ _
    rw [S.file]
    split
    · exact ⟨rfl, S⟩
    · refine ⟨rfl, ?_⟩
      show Same (if _ then _ else _) (if _ then _ else _)
      split
      · exact T.setF f _
      · exact T
  · exact ⟨rfl, S⟩
theorem Same.sync (h : a.stroke.off = b.stroke.off) (n : BS) : (a.sync n).2 = (b.sync n).2 ∧ Same (a.sync n).1 (b.sync n).1 := by
  have T := S.strk h
  unfold DM.sync
  rw [S.err, S.names, h]
  split
  · rename_i f _ _
    refine ⟨rfl, ?_⟩
    show Same (if _ then _ else _) (if _ then _ else _)
    rw [S.file]
    split
    · exact T
    · exact T.setF f _
  · exact ⟨rfl, S⟩
theorem Same.syncNames (h : a.stroke.off = b.stroke.off) : a.syncNames.2 = b.syncNames.2 ∧ Same a.syncNames.1 b.syncNames.1 := by
  have T := S.strk h
  unfold DM.syncNames
  rw [S.off, h]
  split
  · exact ⟨rfl, S⟩
  · refine ⟨rfl, ?_⟩
    show Same (if _ then _ else _) (if _ then _ else _)
    split
    · exact T
    · exact ⟨T.room, T.off, T.files, T.names, by show play a.sure a.ch = play b.sure b.ch; rw [S.sure, S.ch], rfl⟩
theorem Same.rename (h : a.stroke.off = b.stroke.off) (n t : BS) : (a.rename n t).2 = (b.rename n t).2 ∧ Same (a.rename n t).1 (b.rename n t).1 := by
  have T := S.strk h
  unfold DM.rename
  rw [S.err, h]
  split
  · exact ⟨rfl, S⟩
  split
  · exact ⟨rfl, S⟩
  split
  · exact ⟨rfl, S⟩
  split
  · refine ⟨rfl, ?_⟩
    show Same (if _ then _ else _) (if _ then _ else _)
    split
    · exact T
    · exact T.change _
  · exact ⟨rfl, S⟩
theorem Same.remove (h : a.stroke.off = b.stroke.off) (n : BS) : (a.remove n).2 = (b.remove n).2 ∧ Same (a.remove n).1 (b.remove n).1 := by
  have T := S.strk h
  unfold DM.remove
  rw [S.err, h]
  split
  · exact ⟨rfl, T.change _⟩
  · exact ⟨rfl, S⟩
theorem Same.op (h : a.stroke.off = b.stroke.off) (o : OpM) (hf : o.kind = 1 → a.stroke.isFull = b.stroke.isFull) : (a.op o).2 = (b.op o).2 ∧ Same (a.op o).1 (b.op o).1 := by
  unfold DM.op
  split
  · exact S.append h (hf ‹_›) _ _
  split
  · exact S.cut h _ _
  split
  · exact S.sync h _
  split
  · exact S.syncNames h
  split
  · exact S.rename h _ _
  split
  · exact S.remove h _
  · exact ⟨rfl, S⟩
end
/-! ## Which calls are counted -/
def countedB (e : Int) : Bool := e == 0 || e == 44 || e == 45
/-- A call of a disk whose power is on: it is not counted and nothing turns, or it is counted once. -/
def CountOk (d : DM) (r : DM × Int) : Prop := (r.1 = d ∧ countedB r.2 = false) ∨ (r.1.strokes = d.strokes + 1 ∧ r.1.count = d.count + 1 ∧ countedB r.2 = true)
theorem err_on {d : DM} (h : d.off = false) (n : BS) : d.err n = 0 ∨ d.err n = 41 ∨ d.err n = 42 := by
  rcases err_cases d n with ⟨e, _⟩ | ⟨_, _, e⟩ | ⟨_, _, _, e⟩ | ⟨_, _, _, e⟩
  · rw [h] at e; cases e
  · exact .inr (.inl e)
  · exact .inr (.inr e)
  · exact .inl e
theorem told_counted (b : Bool) : countedB (toldN b) = true := by cases b <;> rfl
theorem op_count {d : DM} (h : d.off = false) (o : OpM) (hk : 1 ≤ o.kind ∧ o.kind ≤ 6) : CountOk d (d.op o) := by
  have he := fun n => err_on h n
  unfold DM.op
  split
  · unfold DM.append
    rcases he o.name with e | e | e <;> rw [e]
    · rw [if_neg (by decide), if_neg (by decide)]
      cases d.names.get o.name with
      | some f =>
        simp only
        split
        · exact .inr ⟨rfl, rfl, by show countedB (if _ then _ else _) = true; split <;> rfl⟩
        · exact .inr ⟨rfl, rfl, told_counted _⟩
      | none =>
        simp only
        split
        · exact .inl ⟨rfl, rfl⟩
        split
        · exact .inr ⟨rfl, rfl, by show countedB (if _ then _ else _) = true; split <;> rfl⟩
        · exact .inr ⟨rfl, rfl, told_counted _⟩
    · rw [if_neg (by decide), if_pos rfl]
      exact .inl ⟨rfl, rfl⟩
    · rw [if_neg (by decide), if_neg (by decide)]
      cases d.names.get o.name with
      | some f =>
        simp only
        split
        · exact .inr ⟨rfl, rfl, by show countedB (if _ then _ else _) = true; split <;> rfl⟩
        · exact .inr ⟨rfl, rfl, told_counted _⟩
      | none =>
        simp only
        split
        · exact .inl ⟨rfl, rfl⟩
        split
        · exact .inr ⟨rfl, rfl, by show countedB (if _ then _ else _) = true; split <;> rfl⟩
        · exact .inr ⟨rfl, rfl, told_counted _⟩
  split
  · unfold DM.cut
    split
    · split
      · exact .inl ⟨rfl, rfl⟩
      · refine .inr ⟨?_, ?_, told_counted _⟩
        · show DM.strokes (if _ then _ else _) = _
          split <;> rfl
        · show DM.count (if _ then _ else _) = _
          split <;> rfl
    · rename_i hx
      refine .inl ⟨rfl, ?_⟩
      rcases err_cases d o.name with ⟨e, _⟩ | ⟨_, _, e⟩ | ⟨_, _, _, e⟩ | ⟨_, _, ⟨f, hf⟩, e⟩
      · rw [h] at e; cases e
      · show countedB (d.err o.name) = false; rw [e]; rfl
      · show countedB (d.err o.name) = false; rw [e]; rfl
      · exact absurd hf (hx f e)
  split
  · unfold DM.sync
    split
    · refine .inr ⟨?_, ?_, told_counted _⟩
      · show DM.strokes (if _ then _ else _) = _
        split <;> rfl
      · show DM.count (if _ then _ else _) = _
        split <;> rfl
    · rename_i hx
      refine .inl ⟨rfl, ?_⟩
      rcases err_cases d o.name with ⟨e, _⟩ | ⟨_, _, e⟩ | ⟨_, _, _, e⟩ | ⟨_, _, ⟨f, hf⟩, e⟩
      · rw [h] at e; cases e
      · show countedB (d.err o.name) = false; rw [e]; rfl
      · show countedB (d.err o.name) = false; rw [e]; rfl
      · exact absurd hf (hx f e)
  split
  · unfold DM.syncNames
    rw [h]
    refine .inr ⟨?_, ?_, told_counted _⟩
    · show DM.strokes (if _ then _ else _) = _
      split <;> rfl
    · show DM.count (if _ then _ else _) = _
      split <;> rfl
  split
  · unfold DM.rename
    rcases he o.name with e | e | e <;> rw [e]
    · rw [if_neg (by decide), if_neg (by decide)]
      split
      · exact .inl ⟨rfl, rfl⟩
      · rw [if_pos rfl]
        refine .inr ⟨?_, ?_, told_counted _⟩
        · show DM.strokes (if _ then _ else _) = _
          split <;> rfl
        · show DM.count (if _ then _ else _) = _
          split <;> rfl
    · rw [if_neg (by decide), if_pos rfl]
      exact .inl ⟨rfl, rfl⟩
    · rw [if_neg (by decide), if_neg (by decide)]
      split
      · exact .inl ⟨rfl, rfl⟩
      · rw [if_neg (by decide)]
        exact .inl ⟨rfl, rfl⟩
  split
  · unfold DM.remove
    rcases he o.name with e | e | e <;> rw [e]
    · exact .inr ⟨rfl, rfl, told_counted _⟩
    · exact .inl ⟨rfl, rfl⟩
    · exact .inl ⟨rfl, rfl⟩
  · omega
/-- An append that is refused for its name is refused so on both. -/
theorem append_41 {a b : DM} (S : Same a b) (ha : a.off = false) (n x : BS) (h : (a.append n x).2 = 41) (hs : a.stroke.off = false) : b.append n x = (b, 41) := by
  have hx : ∀ (d : DM), d.stroke.off = false → ∀ (y : DM), ((if d.stroke.no x.length then (d.stroke, if d.stroke.off then 45 else 44) else (y, toldN d.stroke.off)) : DM × Int).2 ≠ 41 := fun d hd y => by
    rw [hd]
    split
    · show (44 : Int) ≠ 41; decide
    · show (0 : Int) ≠ 41; decide
  unfold DM.append at h ⊢
  rw [S.err, S.names] at h
  rcases err_on (d := b) (by rw [← S.off]; exact ha) n with e | e | e <;> rw [e] at h ⊢
  · rw [if_neg (by decide), if_neg (by decide)] at h ⊢
    cases hg : b.names.get n with
    | some f =>
      rw [hg] at h
      exact absurd h (hx a hs _)
    | none =>
      rw [hg] at h
      simp only at h ⊢
      split
      · rfl
      · rename_i hl
        rw [if_neg hl] at h
        exact absurd h (hx a hs _)
  · rw [if_neg (by decide), if_pos rfl]
  · rw [if_neg (by decide), if_neg (by decide)] at h ⊢
    cases hg : b.names.get n with
    | some f =>
      rw [hg] at h
      exact absurd h (hx a hs _)
    | none =>
      rw [hg] at h
      simp only at h ⊢
      split
      · rfl
      · rename_i hl
        rw [if_neg hl] at h
        exact absurd h (hx a hs _)
/-! ## How much is seen -/
theorem op_used {d : DM} (h : d.Ok) (o : OpM) : (d.op o).1.used ≤ d.used + o.b.length := by
  unfold DM.op
  repeat' split
  · rcases append_ways d o.name o.b with e | e | ⟨f, hg, _, e⟩ | ⟨_, _, hl, hf, _, e⟩
    · rw [e]; exact Nat.le_add_right _ _
    · rw [e]; exact Nat.le_add_right _ _
    · rw [e]
      exact addTo_used h.strk (h.nameG.idx _ (NM.get_mem hg)) o.b
    · rw [e]
      have h1 := make_used h.strk o.name
      have h2 := addTo_used (h.strk.make hf hl) (f := d.files.length) (by rw [make_len]; exact Nat.lt_succ_self _) o.b
      exact Nat.le_trans h2 (Nat.add_le_add_right h1 _)
  · rcases cut_ways d o.name o.n with e | e | ⟨f, _, hg, h0, hk, e⟩
    · rw [e]; exact Nat.le_add_right _ _
    · rw [e]; exact Nat.le_add_right _ _
    · rw [e]
      have h1 := setF_used_le (d := d.stroke) (f := f) (x := ⟨(d.file f).kept, (d.file f).units ++ [.cut o.n.toNat], (d.file f).seen.take o.n.toNat⟩) (h.nameG.idx _ (NM.get_mem hg)) (by show (List.take _ _).length ≤ (d.file f).seen.length; rw [List.length_take]; omega)
      exact Nat.le_trans h1 (Nat.le_add_right _ _)
  · rcases sync_ways d o.name with e | e | ⟨f, _, hg, _, e⟩
    · rw [e]; exact Nat.le_add_right _ _
    · rw [e]; exact Nat.le_add_right _ _
    · rw [e]
      have h1 := setF_used_le (d := d.stroke) (f := f) (x := ⟨(d.file f).seen, [], (d.file f).seen⟩) (h.nameG.idx _ (NM.get_mem hg)) (Nat.le_refl _)
      exact Nat.le_trans h1 (Nat.le_add_right _ _)
  · rcases syncNames_ways d with e | e | ⟨_, _, e⟩ <;> rw [e] <;> exact Nat.le_add_right _ _
  · rcases rename_ways d o.name o.dst with e | e | ⟨f, _, hg, _, hne, e⟩
    · rw [e]; exact Nat.le_add_right _ _
    · rw [e]; exact Nat.le_add_right _ _
    · rw [e]
      have hgs : d.stroke.names.get o.name = some f := hg
      have h1 : (d.stroke.change (.renames o.name o.dst)).used ≤ d.stroke.used := by
        rw [used_of, used_of]
        show usedOf _ (Ch.on d.stroke.names (.renames o.name o.dst)) ≤ _
        rw [on_rename hgs]
        exact usedOf_rename _ (NM.get_mem hg) hne
      exact Nat.le_trans h1 (Nat.le_add_right _ _)
  · rcases remove_ways d o.name with e | ⟨f, _, _, e⟩
    · rw [e]; exact Nat.le_add_right _ _
    · rw [e]
      have h1 : (d.stroke.change (.removes o.name)).used ≤ d.stroke.used := by
        rw [used_of, used_of]
        exact usedOf_del _ o.name _
      exact Nat.le_trans h1 (Nat.le_add_right _ _)
  · exact Nat.le_add_right _ _
/-- An append where there is room: refused for its size it is not; at a full stroke it is refused, and nothing but the stroke is counted. -/
theorem append_full {d : DM} (hs : d.stroke.off = false) (h : d.off = false) (n b : BS) (hr : ((d.used + b.length : Nat) : Int) ≤ d.room) :
    ((d.append n b).2 = 41 ∧ (d.append n b).1 = d) ∨ ((d.append n b).2 = 44 ∧ d.stroke.isFull = true ∧ (d.append n b).1 = d.stroke) ∨ ((d.append n b).2 = 0 ∧ d.stroke.isFull = false) := by
  have hno : d.stroke.no b.length = d.stroke.isFull := by
    unfold DM.no
    have e1 : d.stroke.room = d.room := rfl
    have e2 : d.stroke.used = d.used := rfl
    rw [e1, e2, decide_eq_false (by omega), Bool.or_false]
  have key : ∀ (x : DM), ((if d.stroke.no b.length then (d.stroke, if d.stroke.off then 45 else 44) else (x, toldN d.stroke.off)) : DM × Int) = if d.stroke.isFull then (d.stroke, 44) else (x, 0) := fun x => by
    rw [hno, hs]
    rfl
  unfold DM.append
  rcases err_on h n with e | e | e <;> rw [e]
  · rw [if_neg (by decide), if_neg (by decide)]
    cases d.names.get n with
    | some f =>
      simp only
      rw [key]
      cases hf : d.stroke.isFull with
      | true => exact .inr (.inl ⟨rfl, rfl, rfl⟩)
      | false => exact .inr (.inr ⟨rfl, rfl⟩)
    | none =>
      simp only
      split
      · exact .inl ⟨rfl, rfl⟩
      · rw [key]
        cases hf : d.stroke.isFull with
        | true => exact .inr (.inl ⟨rfl, rfl, rfl⟩)
        | false => exact .inr (.inr ⟨rfl, rfl⟩)
  · rw [if_neg (by decide), if_pos rfl]
    exact .inl ⟨rfl, rfl⟩
  · rw [if_neg (by decide), if_neg (by decide)]
    cases d.names.get n with
    | some f =>
      simp only
      rw [key]
      cases hf : d.stroke.isFull with
      | true => exact .inr (.inl ⟨rfl, rfl, rfl⟩)
      | false => exact .inr (.inr ⟨rfl, rfl⟩)
    | none =>
      simp only
      split
      · exact .inl ⟨rfl, rfl⟩
      · rw [key]
        cases hf : d.stroke.isFull with
        | true => exact .inr (.inl ⟨rfl, rfl, rfl⟩)
        | false => exact .inr (.inr ⟨rfl, rfl⟩)
theorem op_off {d : DM} (h : d.off = false) (hs : d.stroke.off = false) (o : OpM) : (d.op o).1.off = false := by
  unfold DM.op
  repeat' split
  · rcases append_ways d o.name o.b with e | e | ⟨f, _, _, e⟩ | ⟨_, _, _, _, _, e⟩ <;> rw [e] <;> first | exact h | exact hs
  · rcases cut_ways d o.name o.n with e | e | ⟨f, _, _, _, _, e⟩ <;> rw [e] <;> first | exact h | exact hs
  · rcases sync_ways d o.name with e | e | ⟨f, _, _, _, e⟩ <;> rw [e] <;> first | exact h | exact hs
  · rcases syncNames_ways d with e | e | ⟨_, _, e⟩ <;> rw [e] <;> first | exact h | exact hs
  · rcases rename_ways d o.name o.dst with e | e | ⟨f, _, _, _, _, e⟩ <;> rw [e] <;> first | exact h | exact hs
  · rcases remove_ways d o.name with e | ⟨f, _, _, e⟩ <;> rw [e] <;> first | exact h | exact hs
  · exact h
theorem crash_stroke (d : DM) (ps : List Int) : d.stroke.crash ps = d.crash ps := rfl
theorem full_both {fr tt s : Int} (h : true = (decide (fr ≤ s) && decide (s ≤ tt) && decide (0 < fr))) : decide (s < fr) = false ∧ decide (tt < s) = false := by
  have h0 := h.symm
  simp only [Bool.and_eq_true, decide_eq_true_eq] at h0
  exact ⟨decide_eq_false (by omega), decide_eq_false (by omega)⟩
theorem full_neither {fr tt s : Int} (h : false = (decide (fr ≤ s) && decide (s ≤ tt) && decide (0 < fr))) (h0 : 1 ≤ fr) (h1 : fr ≤ s) : decide (s ≤ tt) = false := by
  rw [decide_eq_true h1, decide_eq_true (show 0 < fr by omega)] at h
  simpa using h.symm
theorem Same.strike {a b : DM} (S : Same a b) (h : a.stroke.off = b.off) : Same a.stroke b := ⟨S.room, h, S.files, S.names, S.sure, S.ch⟩
theorem strikes {a a' : DM} {s s1 : Nat} (h : a' = a.stroke) (hs : a.strokes = s) (hs1 : s + 1 = s1) : a'.strokes = s1 := by subst h hs hs1; rfl
theorem strikec {a a' : DM} (h : a' = a.stroke) (hc : a.count = a.strokes) : a'.count = a'.strokes := by subst h; show a.count + 1 = a.strokes + 1; rw [hc]
theorem used_next {u' u l i : Nat} (h1 : u' ≤ u + l) (h2 : u ≤ 4096 * i) (h3 : l ≤ 4096) : u' ≤ 4096 * (i + 1) := by omega
end Go.Proofs.Ytgkpobajafjdeaa
