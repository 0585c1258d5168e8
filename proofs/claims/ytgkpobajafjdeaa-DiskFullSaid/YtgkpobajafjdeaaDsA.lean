/- The plain law of DiskSafe: what was made safe, behind appends and a crash. Of no program. -/
import Derived.Test.YtgkpobajafjdeaaP7
namespace Go.Proofs.Ytgkpobajafjdeaa

/-- All is safe. -/
structure DM.AllSafe (d : DM) : Prop where
  ch : d.ch = []
  units : ∀ p ∈ d.names, (d.file p.2).units = []
def syncAll (d : DM) : NM → DM
  | [] => d
  | p :: r => syncAll (d.sync p.1).1 r
def DM.allSafe (d : DM) : DM := (syncAll d d.names).syncNames.1
theorem err_in {d : DM} (h : d.Ok) (ho : d.off = false) {p : BS × Nat} (hp : p ∈ d.names) : d.err p.1 = 0 ∧ d.names.get p.1 = some p.2 := by
  have hg := NM.get_of h.nameG.ok (n := p.1) (f := p.2) hp
  refine ⟨?_, hg⟩
  unfold DM.err
  rw [ho, h.nameG.fair p hp, hg]
  rfl
theorem sync_calm {d : DM} (h : d.Ok) (hc : d.Calm) {p : BS × Nat} (hp : p ∈ d.names) : d.sync p.1 = (d.stroke.setF p.2 ⟨(d.file p.2).seen, [], (d.file p.2).seen⟩, 0) := by
  obtain ⟨h1, h2⟩ := err_in h hc.off hp
  unfold DM.sync
  rw [h1, h2]
  simp only [stroke_off hc]
  rfl
structure Synced (d d' : DM) (l : NM) : Prop where
  ok : d'.Ok
  calm : d'.Calm
  names : d'.names = d.names
  room : d'.room = d.room
  done : ∀ p ∈ l, (d'.file p.2).units = []
theorem sync_step {d d' : DM} {l : NM} (h : Synced d d' l) {p : BS × Nat} (hp : p ∈ d.names) : Synced d (d'.sync p.1).1 (l ++ [p]) ∧ (d'.sync p.1).2 = 0 := by
  have hp' : p ∈ d'.names := by rw [h.names]; exact hp
  have e := sync_calm h.ok h.calm hp'
  have hok := h.ok.sync p.1
  have hcl := op_calm h.calm ⟨3, p.1, [], 0, []⟩
  have e3 : d'.op ⟨3, p.1, [], 0, []⟩ = d'.sync p.1 := rfl
  rw [e3] at hcl
  have hfl : p.2 < d'.stroke.files.length := h.ok.nameG.idx p hp'
  rw [e] at hok hcl ⊢
  refine ⟨⟨hok, hcl, h.names, h.room, fun q hq => ?_⟩, rfl⟩
  by_cases hqp : q.2 = p.2
  · rw [hqp]
    show ((d'.stroke.setF p.2 _).file p.2).units = []
    rw [setF_file _ hfl]
  · show ((d'.stroke.setF p.2 _).file q.2).units = []
    rw [setF_other _ hqp]
    rcases List.mem_append.1 hq with hq | hq
    · exact h.done q hq
    · simp at hq; subst hq; exact absurd rfl hqp
theorem Synced.start {d : DM} (h : d.Ok) (hc : d.Calm) : Synced d d [] := ⟨h, hc, rfl, rfl, fun _ hp => by simp at hp⟩
theorem syncNames_calm {d : DM} (hc : d.Calm) : d.syncNames = ({ d.stroke with sure := play d.sure d.ch, ch := [] }, 0) := by
  unfold DM.syncNames
  rw [hc.off, stroke_off hc]
  rfl
theorem Synced.all {d d' : DM} (h : Synced d d' d.names) : d'.syncNames.1.Ok ∧ d'.syncNames.1.Calm ∧ d'.syncNames.1.AllSafe ∧ d'.syncNames.1.names = d.names ∧ d'.syncNames.1.room = d.room ∧ d'.syncNames.2 = 0 := by
  have hok := h.ok.syncNames
  have hcl := op_calm h.calm ⟨4, [], [], 0, []⟩
  have e3 : d'.op ⟨4, [], [], 0, []⟩ = d'.syncNames := rfl
  rw [e3] at hcl
  rw [syncNames_calm h.calm] at hok hcl ⊢
  exact ⟨hok, hcl, ⟨rfl, fun p hp => h.done p (by rw [← h.names]; exact hp)⟩, h.names, h.room, rfl⟩
/-! ## Behind it, appends -/
structure Since (s d : DM) : Prop where
  sub1 : ∀ k, ∀ p ∈ s.names, p ∈ play d.sure (d.ch.take k)
  sub2 : ∀ k, ∀ p ∈ play d.sure (d.ch.take k), p ∈ d.names
  sure : d.sure = s.names
  kept : ∀ p ∈ s.names, (d.file p.2).kept = (s.file p.2).seen
  apps : ∀ p ∈ d.names, ∀ u ∈ (d.file p.2).units, u.isApp = true
  idx : s.files.length ≤ d.files.length
theorem FM.Ok.safe {f : FM} (h : f.Ok) (hu : f.units = []) : f.kept = f.seen := by
  rw [h.seen, hu]
  rfl
theorem Since.start {s : DM} (h : s.Ok) (hs : s.AllSafe) : Since s s := by
  have e : s.sure = s.names := by
    have := h.names
    rw [hs.ch] at this
    exact this.symm
  refine ⟨fun k p hp => ?_, fun k p hp => ?_, e, fun p hp => (h.file p.2).safe (hs.units p hp), fun p hp u hu => ?_, Nat.le_refl _⟩
  · rw [hs.ch, List.take_nil, e]; exact hp
  · rw [hs.ch, List.take_nil] at hp; rw [← e]; exact hp
  · rw [hs.units p hp] at hu; cases hu
theorem isApp_map (b : BS) : ∀ u ∈ b.map Un.app, u.isApp = true := fun u hu => by
  obtain ⟨x, _, rfl⟩ := List.mem_map.1 hu
  rfl
theorem Since.append {s d : DM} (h : Since s d) (hs : s.Ok) (ho : d.Ok) (n b : BS) : Since s (d.append n b).1 := by
  rcases append_ways d n b with e | e | ⟨f, hg, _, e⟩ | ⟨_, hg, hl, hf, _, e⟩
  · rw [e]; exact h
  · rw [e]; exact ⟨h.sub1, h.sub2, h.sure, h.kept, h.apps, h.idx⟩
  · rw [e]
    have hfl : f < d.stroke.files.length := ho.nameG.idx _ (NM.get_mem hg)
    refine ⟨h.sub1, h.sub2, h.sure, fun p hp => ?_, fun p hp u hu => ?_, by show s.files.length ≤ (d.stroke.setF f _).files.length; rw [setF_len]; exact h.idx⟩
    · by_cases hpf : p.2 = f
      · rw [hpf]
        show ((d.stroke.setF f _).file f).kept = _
        rw [setF_file _ hfl, ← hpf]
        exact h.kept p hp
      · show ((d.stroke.setF f _).file p.2).kept = _
        rw [setF_other _ hpf]
        exact h.kept p hp
    · by_cases hpf : p.2 = f
      · rw [hpf] at hu
        have hu' : u ∈ ((d.stroke.setF f ⟨(d.stroke.file f).kept, (d.stroke.file f).units ++ b.map Un.app, (d.stroke.file f).seen ++ b⟩).file f).units := hu
        rw [setF_file _ hfl] at hu'
        rcases List.mem_append.1 hu' with hu' | hu'
        · exact h.apps p hp u (by rw [hpf]; exact hu')
        · exact isApp_map b u hu'
      · have hu' : u ∈ ((d.stroke.setF f ⟨(d.stroke.file f).kept, (d.stroke.file f).units ++ b.map Un.app, (d.stroke.file f).seen ++ b⟩).file p.2).units := hu
        rw [setF_other _ hpf] at hu'
        exact h.apps p hp u hu'
  · rw [e]
    have hfl : d.files.length < (d.stroke.make n).files.length := by rw [make_len]; exact Nat.lt_succ_self _
    have hnn := NM.get_none.1 hg
    have hmem : ∀ p ∈ d.names, p ∈ NM.put d.names n d.files.length := fun p hp => NM.mem_put.2 (.inr ⟨hp, hnn p hp⟩)
    have hps : ∀ k, play d.sure ((d.ch ++ [Ch.makes n d.files.length]).take k) = if k ≤ d.ch.length then play d.sure (d.ch.take k) else NM.put d.names n d.files.length := fun k => by
      rw [play_snoc, ← ho.names]
      rfl
    refine ⟨fun k p hp => ?_, fun k p hp => ?_, h.sure, fun p hp => ?_, fun p hp u hu => ?_, ?_⟩
    · show p ∈ play d.sure ((d.ch ++ [Ch.makes n d.files.length]).take k)
      rw [hps]
      split
      · exact h.sub1 k p hp
      · have := h.sub1 d.ch.length p hp
        rw [List.take_length, ← ho.names] at this
        exact hmem p this
    · have hp' : p ∈ play d.sure ((d.ch ++ [Ch.makes n d.files.length]).take k) := hp
      rw [hps] at hp'
      show p ∈ NM.put d.names n d.files.length
      split at hp'
      · exact hmem p (h.sub2 k p hp')
      · exact hp'
    · have hpi : p.2 < d.files.length := Nat.lt_of_lt_of_le (hs.nameG.idx p hp) h.idx
      show (((d.stroke.make n).setF d.files.length _).file p.2).kept = _
      rw [setF_other _ (by omega), make_old d.stroke n hpi]
      exact h.kept p hp
    · have hp' : p ∈ NM.put d.names n d.files.length := hp
      rcases NM.mem_put.1 hp' with rfl | ⟨hp', _⟩
      · have hu' : u ∈ (((d.stroke.make n).setF d.files.length ⟨((d.stroke.make n).file d.files.length).kept, ((d.stroke.make n).file d.files.length).units ++ b.map Un.app, ((d.stroke.make n).file d.files.length).seen ++ b⟩).file d.files.length).units := hu
        rw [setF_file _ hfl, make_any d.stroke n (j := d.files.length) (Nat.lt_irrefl _)] at hu'
        exact isApp_map b u (by simpa using hu')
      · have hpi : p.2 < d.files.length := ho.nameG.idx p hp'
        have hu' : u ∈ (((d.stroke.make n).setF d.files.length ⟨((d.stroke.make n).file d.files.length).kept, ((d.stroke.make n).file d.files.length).units ++ b.map Un.app, ((d.stroke.make n).file d.files.length).seen ++ b⟩).file p.2).units := hu
        rw [setF_other _ (by omega), make_old d.stroke n hpi] at hu'
        exact h.apps p hp' u hu'
    · show s.files.length ≤ ((d.stroke.make n).setF d.files.length _).files.length
      rw [setF_len, make_len]
      have := h.idx
      show _ ≤ d.files.length + 1
      omega
/-! ## A crash -/
theorem replay_prefix {us : List Un} (h : ∀ u ∈ us, u.isApp = true) (l : BS) : ∃ r, replay l us = l ++ r := by
  induction us generalizing l with
  | nil => exact ⟨[], by simp [replay]⟩
  | cons u r ih =>
    cases u with
    | cut n => have := h (.cut n) (by simp); cases this
    | app b =>
      obtain ⟨x, hx⟩ := ih (fun u hu => h u (by simp [hu])) (l ++ [b])
      exact ⟨b :: x, by show replay (l ++ [b]) r = _; rw [hx]; simp⟩
theorem find_crash (file : Nat → FM) : ∀ {l : NM} (ps : List Int) {n : BS} {f : Nat}, NM.Ok l → (n, f) ∈ l → ∃ j, findI (crashL file l ps) n = some ((file f).left j)
  | [], _, _, _, _, h => by simp at h
  | (m, g) :: r, ps, n, f, hok, hm => by
    unfold NM.Ok at hok
    rw [List.pairwise_cons] at hok
    rcases List.mem_cons.1 hm with e | hm
    · injection e with e1 e2
      subst e1 e2
      exact ⟨_, by unfold findI crashL; rw [List.find?_cons_of_pos (by simp)]; rfl⟩
    · have hne : m ≠ n := fun e => by have := hok.1 _ hm; rw [e] at this; exact bs_irrefl _ this
      obtain ⟨j, hj⟩ := find_crash file ps.tail hok.2 hm
      refine ⟨j, ?_⟩
      unfold findI at *
      unfold crashL
      rw [List.find?_cons_of_neg (by simpa using hne)]
      exact hj
theorem mem_crash (file : Nat → FM) : ∀ {l : NM} (ps : List Int) {k : Nat} {x : BS × BS}, (crashL file l ps)[k]? = some x → ∃ p ∈ l, ∃ j, x = (p.1, (file p.2).left j)
  | [], _, k, _, h => by simp [crashL] at h
  | (m, g) :: r, ps, 0, x, h => by
    simp [crashL] at h
    exact ⟨(m, g), by simp, _, h.symm⟩
  | (m, g) :: r, ps, k + 1, x, h => by
    obtain ⟨p, hp, j, e⟩ := mem_crash file ps.tail (l := r) (k := k) (x := x) (by simpa [crashL] using h)
    exact ⟨p, by simp [hp], j, e⟩
/-- b begins with a. -/
def beginsB (b a : BS) : Bool := decide (a.length ≤ b.length) && decide (b.take a.length = a)
theorem begins_append (a r : BS) : beginsB (a ++ r) a = true := by simp [beginsB]
theorem Since.was {s d : DM} (h : Since s d) (hs : s.Ok) (ho : d.Ok) (hc : s.Calm) (ps : List Int) {k : Nat} {x : BS × BS} (hx : s.seenL[k]? = some x) : ∃ b, findI (d.crash ps) x.1 = some b ∧ beginsB b x.2 = true := by
  rw [seenL_eq hs hc.off, List.getElem?_map] at hx
  cases hp : s.names[k]? with
  | none => rw [hp] at hx; cases hx
  | some p =>
    rw [hp] at hx
    injection hx with hx
    subst hx
    have hpm := List.mem_of_getElem? hp
    obtain ⟨n, f⟩ := p
    have hS := h.sub1 (pickN ps d.ch.length) _ hpm
    obtain ⟨j, hj⟩ := find_crash d.file ps.tail (ho.good _).ok hS
    refine ⟨_, hj, ?_⟩
    have hk := h.kept _ hpm
    have ha := h.apps _ (h.sub2 _ _ hS)
    obtain ⟨r, hr⟩ := replay_prefix (us := (d.file f).units.take j) (fun u hu => ha u (List.mem_of_mem_take hu)) (d.file f).kept
    unfold FM.left
    rw [hr, hk]
    exact begins_append _ _
theorem Since.left {s d : DM} (h : Since s d) (ho : d.Ok) (hc : d.off = false) (ps : List Int) {k : Nat} {x : BS × BS} (hx : (d.crash ps)[k]? = some x) : ∃ b, findI d.seenL x.1 = some b ∧ beginsB b x.2 = true := by
  obtain ⟨p, hp, j, rfl⟩ := mem_crash d.file ps.tail hx
  have hn := h.sub2 _ p hp
  have hg := NM.get_of ho.nameG.ok (n := p.1) (f := p.2) hn
  refine ⟨(d.file p.2).seen, by rw [findI_seen ho hc, hg]; rfl, ?_⟩
  have ha := h.apps p hn
  obtain ⟨r, hr⟩ := replay_prefix (us := (d.file p.2).units.drop j) (fun u hu => ha u (List.mem_of_mem_drop hu)) ((d.file p.2).left j)
  have e : (d.file p.2).seen = (d.file p.2).left j ++ r := by
    rw [(ho.file p.2).seen, ← hr]
    unfold FM.left
    rw [← replay_append, List.take_append_drop]
  rw [e]
  exact begins_append _ _
theorem neg1_mod (m : Nat) : (-1 : Int) % ((m : Int) + 1) = m := by
  have h := Int.add_emod_right (-1) ((m : Int) + 1)
  rw [show (-1 : Int) + ((m : Int) + 1) = m by omega, Int.emod_eq_of_lt (by omega) (by omega)] at h
  exact h.symm
theorem crash_nilL (file : Nat → FM) (l : NM) : crashL file l [] = l.map fun p => (p.1, (file p.2).kept) := by
  induction l with
  | nil => rfl
  | cons p r ih =>
    obtain ⟨n, f⟩ := p
    show (n, _) :: crashL file r [] = _
    rw [ih]
    rfl
theorem Since.none {s d : DM} (h : Since s d) (hs : s.Ok) (hc : s.Calm) : d.crash [] = s.seenL := by
  unfold DM.crash
  show crashL d.file (play d.sure (d.ch.take 0)) [] = _
  rw [crash_nilL, seenL_eq hs hc.off]
  show (d.sure.map _) = _
  rw [h.sure]
  exact List.map_congr_left fun p hp => by rw [h.kept p hp]
theorem crash_allL (file : Nat → FM) (hf : ∀ j, (file j).Ok) : ∀ (l : NM) (m : Nat), l.length ≤ m → crashL file l (List.replicate m (-1)) = l.map fun p => (p.1, (file p.2).seen)
  | [], _, _ => rfl
  | (n, f) :: r, 0, h => by simp at h
  | (n, f) :: r, m + 1, h => by
    have ih := crash_allL file hf r m (by simpa using h)
    rw [List.replicate_succ]
    show (n, _) :: crashL file r (List.replicate m (-1)) = _
    rw [ih]
    have e : pickN (-1 :: List.replicate m (-1)) (file f).units.length = (file f).units.length := by
      show ((-1 : Int) % (((file f).units.length : Int) + 1)).toNat = _
      rw [neg1_mod]; rfl
    rw [e]
    unfold FM.left
    rw [List.take_length, ← (hf f).seen]
    rfl
theorem crash_all {d : DM} (ho : d.Ok) (hc : d.off = false) : d.crash (List.replicate (d.seenL.length + 1) (-1)) = d.seenL := by
  have hl : d.seenL.length = d.names.length := by rw [seenL_eq ho hc, List.length_map]
  unfold DM.crash
  have e : pickN (List.replicate (d.seenL.length + 1) (-1)) d.ch.length = d.ch.length := by
    rw [List.replicate_succ]
    show ((-1 : Int) % ((d.ch.length : Int) + 1)).toNat = _
    rw [neg1_mod]; rfl
  rw [e, List.take_length, ← ho.names, List.replicate_succ, List.tail_cons, crash_allL d.file ho.file _ _ (by omega), ← seenL_eq ho hc]
end Go.Proofs.Ytgkpobajafjdeaa
