/- 'made' (tallylaw7): a pace and the document's, side by side; and the twelve pairs in memory. -/
import Derived.Test.YtlaecfalegffkaaPaceG
namespace Go.Proofs.Ytlaecfalegffkaa
open Go.RowKit

/-- The numbers of the pace against the document's ticks. -/
def Goes (c l g : Int) (n : Nat) : Prop := 1 ≤ c ∧ c ≤ 64 ∧ 0 ≤ l ∧ l ≤ c ∧ 1 ≤ g ∧ g ≤ c ∧ ((n = 0 ∧ l = 0 ∧ g = 1) ∨ (1 ≤ n ∧ l = sA c n - n ∧ g = sG c n))
theorem Goes.start {c : Int} (h : 1 ≤ c) (h2 : c ≤ 64) : Goes c 0 1 0 := ⟨h, h2, by omega, by omega, by omega, by omega, .inl ⟨rfl, rfl, rfl⟩⟩
theorem Goes.tick {c l g : Int} {n : Nat} (h : Goes c l g n) : Goes c (tickL l g) (tickG c l g) (n + 1) ∧ tickB l = decide (sA c n ≤ (n : Int) + 1) := by
  obtain ⟨h1, h2, h3, h4, h5, h6, h7⟩ := h
  have hr := s_range c h1 n
  have hs := s_succ c n
  unfold Goes tickL tickG tickB
  rcases h7 with ⟨rfl, rfl, rfl⟩ | ⟨h7, h8, h9⟩
  · have hz := s_zero c
    obtain ⟨k1, k2, k3⟩ := hs.1 (by omega)
    rw [if_pos (by omega), if_pos (by omega)]
    refine ⟨⟨h1, h2, by omega, by omega, by omega, by omega, .inr ⟨by omega, by omega, by omega⟩⟩, ?_⟩
    rw [decide_eq_true (by omega), decide_eq_true (by omega)]
  · by_cases hl : l ≤ 1
    · obtain ⟨k1, k2, k3⟩ := hs.1 (by omega)
      rw [if_pos hl, if_pos hl]
      refine ⟨⟨h1, h2, by omega, by omega, by omega, by omega, .inr ⟨by omega, by omega, by omega⟩⟩, ?_⟩
      rw [decide_eq_true hl, decide_eq_true (by omega)]
    · obtain ⟨k1, k2, k3⟩ := hs.2 (by omega)
      rw [if_neg hl, if_neg hl]
      refine ⟨⟨h1, h2, by omega, by omega, by omega, by omega, .inr ⟨by omega, by omega, by omega⟩⟩, ?_⟩
      rw [decide_eq_false hl, decide_eq_false (by omega)]

theorem pace_new_bad (c : Int) (w : World) (hc : c < 1 ∨ 64 < c) :
    Calls Try.prog 14 #[.int .i64 c] w fun e w' => e = .returned (.tuple #[.pointer none, .int .i64 70]) ∧ w = w' := by
  rcases hc with hc | hc
  all_goals
    go_enter Try.func14, Try.ntmps14
    go_wp2
    go_ret2
    exact ⟨rfl, rfl⟩
theorem ref_new_bad (c : Int) (w : World) (hc : c < 1 ∨ 64 < c) :
    Calls Try.prog 16 #[.int .i64 c] w fun e w' => e = .returned (.tuple #[.pointer none, .int .i64 70]) ∧ w = w' := by
  rcases hc with hc | hc
  all_goals
    go_enter Try.func16, Try.ntmps16
    go_wp2
    go_ret2
    exact ⟨rfl, rfl⟩
def NewRef (w w' : World) (c : Int) : Prop := RefAt w' w.heap.size c 0 ∧ Below w.heap.size w w' ∧ w'.heap.size = w.heap.size + 1
theorem new_ref (w : World) (c : Int) : NewRef w (w.alloc (.cells #[.int .i64 c, .int .i64 0] 53)) c :=
  ⟨heap_alloc_new w _, (Below.refl _ _).alloc (Nat.le_refl _) _, by simp⟩
theorem ref_new (c : Int) (w : World) (hc : 1 ≤ c) (hc2 : c ≤ 64) :
    Calls Try.prog 16 #[.int .i64 c] w fun e w' => e = .returned (.tuple #[.pointer (some ⟨w.heap.size, 0, none⟩), .int .i64 0]) ∧ NewRef w w' c := by
  have H := Lib.hid (new_ref w c)
  go_enter Try.func16, Try.ntmps16
  go_wp2
  go_ret2
  exact ⟨rfl, H.out⟩

def MadePair (w w' : World) (c : Int) : Prop := PaceAt w' w.heap.size c 0 1 ∧ RefAt w' (w.heap.size + 1) c 0 ∧ Below w.heap.size w w' ∧ w'.heap.size = w.heap.size + 2
theorem made_pair {w w1 w2 : World} {c : Int} (h : NewPace w w1 c) (k : NewRef w1 w2 c) : MadePair w w2 c := by
  obtain ⟨h1, h2, h3⟩ := h
  obtain ⟨k1, k2, k3⟩ := k
  exact ⟨h1.below k2 (by omega), by rw [← h3]; exact k1, h2.trans (k2.mono (by omega)), by omega⟩
theorem made_ok (c : Int) (w : World) (hc : 1 ≤ c) (hc2 : c ≤ 64) :
    Calls Try.prog 6 #[.int .i64 c] w fun e w' => e = .returned (.tuple #[.pointer (some ⟨w.heap.size, 0, none⟩), .pointer (some ⟨w.heap.size + 1, 0, none⟩), .bool true]) ∧ MadePair w w' c := by
  go_enter Try.func6, Try.ntmps6
  go_wp2_with (first | (go_at_call 14; refine (pace_new _ _ hc hc2).mono ?_; rintro e w1 ⟨rfl, h1⟩; have e1 := h1.2.2) | (go_at_call 16; refine (ref_new _ _ hc hc2).mono ?_; rintro e w2 ⟨rfl, h2⟩))
  go_ret3
  exact ⟨rfl, made_pair h1 h2⟩
theorem made_bad (c : Int) (w : World) (hc : c < 1 ∨ 64 < c) :
    Calls Try.prog 6 #[.int .i64 c] w fun e w' => e = .returned (.tuple #[.pointer none, .pointer none, .bool true]) ∧ w = w' := by
  go_enter Try.func6, Try.ntmps6
  go_wp2_with (first | (go_at_call 14; refine (pace_new_bad _ _ hc).mono ?_; rintro e w1 ⟨rfl, rfl⟩) | (go_at_call 16; refine (ref_new_bad _ _ hc).mono ?_; rintro e w2 ⟨rfl, rfl⟩))
  go_ret3
  exact ⟨rfl, rfl⟩

/-- One of the twelve: where the two lie, and how they stand. -/
structure Duo where
  pb : Nat
  qb : Nat
  c : Int
  l : Int
  g : Int
  n : Nat

/-- The first m of the twelve, in the world of the law's loops. -/
structure Twelve (w wr : World) (o : Obj) (m k : Nat) (f : Nat → Duo) (P Q : Array Value) : Prop where
  bel : Below w.heap.size w wr
  box : wr.heap[w.heap.size]? = some o
  parr : wr.heap[w.heap.size + 1]? = some (.cells P 27 (0, 0))
  qarr : wr.heap[w.heap.size + 2]? = some (.cells Q 29 (0, 0))
  ps : P.size = 12
  qs : Q.size = 12
  ptr : ∀ i, i < m → P[i]? = some (.pointer (some ⟨(f i).pb, 0, none⟩)) ∧ Q[i]? = some (.pointer (some ⟨(f i).qb, 0, none⟩))
  two : ∀ i, i < m → PaceAt wr (f i).pb (f i).c (f i).l (f i).g ∧ RefAt wr (f i).qb (f i).c (f i).n
  goes : ∀ i, i < m → Goes (f i).c (f i).l (f i).g (f i).n ∧ (f i).n ≤ k
  low : ∀ i, i < m → w.heap.size + 2 < (f i).pb ∧ w.heap.size + 2 < (f i).qb
  inj : ∀ i j, i < m → j < m → i ≠ j → (f i).pb ≠ (f j).pb ∧ (f i).qb ≠ (f j).qb

theorem apart {w : World} {b q : Nat} {c l g c' : Int} {n : Nat} (h : PaceAt w b c l g) (k : RefAt w q c' n) : b ≠ q := by
  rintro rfl
  unfold PaceAt at h; unfold RefAt at k
  rw [h] at k
  simp [paceObj, refObj] at k

def upd (f : Nat → Duo) (k : Nat) (d : Duo) : Nat → Duo := fun i => if i = k then d else f i
theorem upd_same (f : Nat → Duo) (k : Nat) (d : Duo) : upd f k d k = d := if_pos rfl
theorem upd_other (f : Nat → Duo) {k i : Nat} (d : Duo) (h : i ≠ k) : upd f k d i = f i := if_neg h

theorem Twelve.later {w wr : World} {o : Obj} {m k : Nat} {f : Nat → Duo} {P Q : Array Value} (h : Twelve w wr o m k f P Q) {k' : Nat} (hk : k ≤ k') : Twelve w wr o m k' f P Q :=
  ⟨h.bel, h.box, h.parr, h.qarr, h.ps, h.qs, h.ptr, h.two, fun i hi => ⟨(h.goes i hi).1, Nat.le_trans (h.goes i hi).2 hk⟩, h.low, h.inj⟩
/-- The pace of pair i turns. -/
theorem Twelve.turnP {w wr w1 : World} {o : Obj} {m k : Nat} {f : Nat → Duo} {P Q : Array Value} (h : Twelve w wr o m k f P Q) {i : Nat} (hi : i < m) {l' g' : Int} (ht : Turned wr w1 (f i).pb (f i).c l' g') :
    Below w.heap.size w w1 ∧ w1.heap[w.heap.size]? = some o ∧ w1.heap[w.heap.size + 1]? = some (.cells P 27 (0, 0)) ∧ w1.heap[w.heap.size + 2]? = some (.cells Q 29 (0, 0)) ∧
      PaceAt w1 (f i).pb (f i).c l' g' ∧ (∀ j, j < m → j ≠ i → PaceAt w1 (f j).pb (f j).c (f j).l (f j).g) ∧ (∀ j, j < m → RefAt w1 (f j).qb (f j).c (f j).n) := by
  have hl := (h.low i hi).1
  refine ⟨h.bel.trans (ht.below (by omega)), (ht.far (by omega)).trans h.box, (ht.far (by omega)).trans h.parr, (ht.far (by omega)).trans h.qarr, ht.at_ (h.two i hi).1.lt, fun j hj hne => ?_, fun j hj => ?_⟩
  · exact (ht.far (h.inj j i hj hi hne).1).trans (h.two j hj).1
  · exact (ht.far (apart (h.two i hi).1 (h.two j hj).2).symm).trans (h.two j hj).2
/-- Both of pair i turn, one behind the other. -/
theorem Twelve.turn {w wr w1 w2 : World} {o : Obj} {m k : Nat} {f : Nat → Duo} {P Q : Array Value} (h : Twelve w wr o m k f P Q) {i : Nat} (hi : i < m) {l' g' : Int} {n' : Nat}
    (ht : Turned wr w1 (f i).pb (f i).c l' g') (hr : RefTurned w1 w2 (f i).qb (f i).c n') (hg : Goes (f i).c l' g' n') (hn : n' ≤ k + 1) :
    Twelve w w2 o m (k + 1) (upd f i ⟨(f i).pb, (f i).qb, (f i).c, l', g', n'⟩) P Q := by
  obtain ⟨b1, b2, b3, b4, b5, b6, b7⟩ := h.turnP hi ht
  have hl := (h.low i hi).2
  refine ⟨b1.trans (OnlyB.below hr (by omega)), (OnlyB.far hr (by omega)).trans b2, (OnlyB.far hr (by omega)).trans b3, (OnlyB.far hr (by omega)).trans b4, h.ps, h.qs, fun j hj => ?_, fun j hj => ?_, fun j hj => ?_, fun j hj => ?_, fun a b ha hb hab => ?_⟩
  · by_cases e : j = i
    · subst e; rw [upd_same]; exact h.ptr j hj
    · rw [upd_other f _ e]; exact h.ptr j hj
  · by_cases e : j = i
    · subst e; rw [upd_same]
      exact ⟨(OnlyB.far hr (apart b5 (b7 j hj))).trans b5, OnlyB.at_ hr (b7 j hj).lt⟩
    · rw [upd_other f _ e]
      exact ⟨(OnlyB.far hr (apart (b6 j hj e) (b7 i hi))).trans (b6 j hj e), (OnlyB.far hr (h.inj j i hj hi e).2).trans (b7 j hj)⟩
  · by_cases e : j = i
    · subst e; rw [upd_same]; exact ⟨hg, hn⟩
    · rw [upd_other f _ e]; exact ⟨(h.goes j hj).1, by have := (h.goes j hj).2; omega⟩
  · by_cases e : j = i
    · subst e; rw [upd_same]; exact h.low j hj
    · rw [upd_other f _ e]; exact h.low j hj
  · have key : ∀ j, j < m → (upd f i ⟨(f i).pb, (f i).qb, (f i).c, l', g', n'⟩ j).pb = (f j).pb ∧ (upd f i ⟨(f i).pb, (f i).qb, (f i).c, l', g', n'⟩ j).qb = (f j).qb := fun j _ => by
      by_cases e : j = i
      · subst e; rw [upd_same]; exact ⟨rfl, rfl⟩
      · rw [upd_other f _ e]; exact ⟨rfl, rfl⟩
    rw [(key a ha).1, (key a ha).2, (key b hb).1, (key b hb).2]
    exact h.inj a b ha hb hab
/-- Draws turn nothing. -/
theorem Twelve.drewN {w wr : World} {o : Obj} {m k : Nat} {f : Nat → Duo} {P Q : Array Value} (h : Twelve w wr o m k f P Q) (n : Nat) : Twelve w (wr.drewN n) o m k f P Q :=
  ⟨below_drewN h.bel n, h.box, h.parr, h.qarr, h.ps, h.qs, h.ptr, h.two, h.goes, h.low, h.inj⟩
/-- A new block more. -/
theorem Twelve.below {w wr w1 : World} {o : Obj} {m k : Nat} {f : Nat → Duo} {P Q : Array Value} (h : Twelve w wr o m k f P Q) (hb : Below wr.heap.size wr w1) : Twelve w w1 o m k f P Q := by
  have hs := lt_of_obj h.qarr
  refine ⟨h.bel.trans (hb.mono (by omega)), (hb.block _ (by omega)).trans h.box, (hb.block _ (by omega)).trans h.parr, (hb.block _ hs).trans h.qarr, h.ps, h.qs, h.ptr, fun i hi => ⟨(hb.block _ (h.two i hi).1.lt).trans (h.two i hi).1, (hb.block _ (h.two i hi).2.lt).trans (h.two i hi).2⟩, h.goes, h.low, h.inj⟩
/-- A pair that was made is put in at k, one of the first m or the next. -/
theorem Twelve.put {w wr w1 : World} {o : Obj} {m t : Nat} {f : Nat → Duo} {P Q : Array Value} (h : Twelve w wr o m t f P Q) {c : Int} (hm : MadePair wr w1 c) (hc : 1 ≤ c) (hc2 : c ≤ 64) {k m' : Nat} (hk : k < 12) (hm' : (k < m ∧ m' = m) ∨ (k = m ∧ m' = m + 1)) :
    Twelve w ((w1.setCell ⟨w.heap.size + 1, k, none⟩ (.pointer (some ⟨wr.heap.size, 0, none⟩))).setCell ⟨w.heap.size + 2, k, none⟩ (.pointer (some ⟨wr.heap.size + 1, 0, none⟩))) o m' t
      (upd f k ⟨wr.heap.size, wr.heap.size + 1, c, 0, 1, 0⟩) (P.setIfInBounds k (.pointer (some ⟨wr.heap.size, 0, none⟩))) (Q.setIfInBounds k (.pointer (some ⟨wr.heap.size + 1, 0, none⟩))) := by
  obtain ⟨m1, m2, m3, m4⟩ := hm
  have h1 := h.below m3
  have hq := lt_of_obj h.qarr
  have o1 := (OnlyB.refl h1.parr).set (lt_of_obj h1.parr) k (.pointer (some ⟨wr.heap.size, 0, none⟩))
  have q1 : (w1.setCell ⟨w.heap.size + 1, k, none⟩ (.pointer (some ⟨wr.heap.size, 0, none⟩))).heap[w.heap.size + 2]? = some (.cells Q 29 (0, 0)) := (o1.far (by omega)).trans h1.qarr
  have o2 := (OnlyB.refl q1).set (lt_of_obj q1) k (.pointer (some ⟨wr.heap.size + 1, 0, none⟩))
  have far : ∀ j, j ≠ w.heap.size + 1 → j ≠ w.heap.size + 2 → ((w1.setCell ⟨w.heap.size + 1, k, none⟩ (.pointer (some ⟨wr.heap.size, 0, none⟩))).setCell ⟨w.heap.size + 2, k, none⟩ (.pointer (some ⟨wr.heap.size + 1, 0, none⟩))).heap[j]? = w1.heap[j]? := fun j a b => (o2.far b).trans (o1.far a)
  have old : ∀ j, j < m' → j ≠ k → j < m := fun j hj hne => by omega
  refine ⟨(h1.bel.trans (o1.below (by omega))).trans (o2.below (by omega)), (far _ (by omega) (by omega)).trans h1.box, (o2.far (by omega)).trans (o1.at_ (lt_of_obj h1.parr)), o2.at_ (lt_of_obj q1), by simp [h.ps], by simp [h.qs], fun j hj => ?_, fun j hj => ?_, fun j hj => ?_, fun j hj => ?_, fun a b ha hb hab => ?_⟩
  · by_cases e : j = k
    · subst e; rw [upd_same]; simp [h.ps, h.qs, hk]
    · rw [upd_other f _ e]
      have := h.ptr j (old j hj e)
      rw [Array.getElem?_setIfInBounds, if_neg (fun x => e x.symm), Array.getElem?_setIfInBounds, if_neg (fun x => e x.symm)]
      exact this
  · by_cases e : j = k
    · subst e; rw [upd_same]
      exact ⟨(far _ (by simp only; omega) (by simp only; omega)).trans m1, (far _ (by simp only; omega) (by simp only; omega)).trans m2⟩
    · rw [upd_other f _ e]
      have hl := h.low j (old j hj e)
      exact ⟨(far _ (by omega) (by omega)).trans (h1.two j (old j hj e)).1, (far _ (by omega) (by omega)).trans (h1.two j (old j hj e)).2⟩
  · by_cases e : j = k
    · subst e; rw [upd_same]; exact ⟨Goes.start hc hc2, Nat.zero_le _⟩
    · rw [upd_other f _ e]; exact h.goes j (old j hj e)
  · by_cases e : j = k
    · subst e; rw [upd_same]; exact ⟨by simp only; omega, by simp only; omega⟩
    · rw [upd_other f _ e]; exact h.low j (old j hj e)
  · by_cases ea : a = k
    · subst ea; rw [upd_same, upd_other f _ (fun x => hab x.symm)]
      have := h.two b (old b hb (fun x => hab x.symm))
      have l1 := this.1.lt
      have l2 := this.2.lt
      exact ⟨by simp only; omega, by simp only; omega⟩
    · by_cases eb : b = k
      · subst eb; rw [upd_same, upd_other f _ ea]
        have := h.two a (old a ha ea)
        have l1 := this.1.lt
        have l2 := this.2.lt
        exact ⟨by simp only; omega, by simp only; omega⟩
      · rw [upd_other f _ ea, upd_other f _ eb]
        exact h.inj a b (old a ha ea) (old b hb eb) hab
end Go.Proofs.Ytlaecfalegffkaa
