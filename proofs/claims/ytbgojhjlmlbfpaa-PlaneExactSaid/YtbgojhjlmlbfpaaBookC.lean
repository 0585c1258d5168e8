/- tallylaw1.Book that keeps lists of ints alone: what the appends and the stores leave ('BookI' carried on). -/
import Derived.Test.YtbgojhjlmlbfpaaBookB
namespace Go.Proofs.Ytbgojhjlmlbfpaa
open Go.RowKit

theorem Rest.upd {f : Nat → Value} (h : Rest f) (k : Nat) (hk : k = 9 ∨ k = 10 ∨ k = 11 ∨ k = 36 ∨ k = 37 ∨ k = 38) (v : Value) : Rest (upd f k v) := by
  intro j hj
  have hh := h j hj
  simp at hj
  refine ⟨?_, ?_⟩
  · unfold Go.Proofs.Ytbgojhjlmlbfpaa.upd
    rw [if_neg (by omega)]
    exact hh.1
  · unfold Go.Proofs.Ytbgojhjlmlbfpaa.upd
    rw [if_neg (by omega)]
    exact hh.2
theorem own_len' {w : World} {b size n : Nat} {e : TypeId} {v : Value} {xs : List Value} (h : w.ownsRow b e size v n xs) : ∃ A cap, v = .slice A n cap := by
  rcases h.2 with ⟨k, rfl⟩ | ⟨g, cap, cur, k1, _⟩
  · exact ⟨_, _, k⟩
  · exact ⟨_, _, k1⟩
theorem upd_ne {f : Nat → Value} {k j : Nat} {v : Value} (h : j ≠ k) : upd f k v j = f j := if_neg h
theorem upd_eq {f : Nat → Value} {k : Nat} {v : Value} : upd f k v k = v := if_pos rfl

theorem BookI.only {w w1 : World} {B base : Nat} {f f' : Nat → Value} {V : List Value} {M : List Nat} {X : List (Value × Nat × Nat)} (h : BookI w B base f V M X) (o : OnlyB w w1 B (bookObj f')) (h9 : f' 9 = f 9) (h10 : f' 10 = f 10) (hr : Rest f') : BookI w1 B base f' V M X := by
  obtain ⟨ρ, r0, r1, r2, r3⟩ := h.sep
  refine ⟨o.at_ (lt_of_obj h.blk), hr, ?_, ?_, ?_, ⟨ρ, r0, by rw [h9]; exact r1, by rw [h10]; exact r2, r3⟩, h.pairs, h.small⟩
  · rw [h9]
    exact ownsRow_keep h.iv fun g hg => o.far (fun e => by have := r1 g hg; rw [e, r0] at this; omega)
  · rw [h10]
    exact ownsRow_keep h.ov fun g hg => o.far (fun e => by have := r2 g hg; rw [e, r0] at this; omega)
  · exact fun p hp => (h.one p hp).same fun g hg => o.far (fun e => by have := r3 p hp g hg; rw [e, r0] at this; omega)
theorem BookI.setN {w : World} {B base : Nat} {f : Nat → Value} {V : List Value} {M : List Nat} {X : List (Value × Nat × Nat)} (h : BookI w B base f V M X) (k : Nat) (hk : k = 11 ∨ k = 36 ∨ k = 37 ∨ k = 38) (v : Value) :
    BookI (w.setCell ⟨B, k, none⟩ v) B base (upd f k v) V M X :=
  h.only (OnlyB.book (OnlyB.refl h.blk) (lt_of_obj h.blk) k v) (upd_ne (by omega)) (upd_ne (by omega)) (h.rest.upd k (by omega) v)

/-- A list of the Book's, appended to. -/
theorem BookI.grow {w w1 : World} {B base g cap ln m : Nat} {f : Nat → Value} {V : List Value} {M : List Nat} {X : List (Value × Nat × Nat)} {v : Value} (h : BookI w B base f V M X) (hp : (v, ln, m) ∈ X)
    (h1 : One w1 base 3 1 (.slice (some ⟨g, 0, none⟩) (ln + 1) cap) (ln + 1) (fun _ => .int .i64 (1000 + (m : Nat)))) (hg : w.grownBy w1 v.ownBlock) (hat : v.ownBlock = some g ∨ g = w.heap.size)
    (keep : ∀ u nu cu, One w base 3 1 u nu cu → (u.ownBlock = v.ownBlock → cu = (fun _ => .int .i64 (1000 + (m : Nat)))) → One w1 base 3 1 u nu cu) (hln : ln + 1 ≤ 1000000) :
    BookI w1 B base f V M ((.slice (some ⟨g, 0, none⟩) (ln + 1) cap, ln + 1, m) :: X) := by
  obtain ⟨ρ, r0, r1, r2, r3⟩ := h.sep
  obtain ⟨s1, s2, s3⟩ := h.small
  have hv := r3 _ hp
  simp only at hv
  have hfar : ∀ k, k < w.heap.size → ρ k ≠ 3 + m → w1.heap[k]? = w.heap[k]? := fun k hk hr => hg.block k hk (fun e => hr (hv k e.symm))
  have hB := lt_of_obj h.blk
  refine ⟨(hfar B hB (by omega)).trans h.blk, h.rest, ownsRow_keep h.iv fun g' hg' => hfar g' (ownsRow_lt h.iv hg').2 (by have := r1 g' hg'; omega), ownsRow_keep h.ov fun g' hg' => hfar g' (ownsRow_lt h.ov hg').2 (by have := r2 g' hg'; omega), ?_, ?_, ?_, s1, s2, ?_⟩
  · intro p' hp'
    rcases List.mem_cons.1 hp' with rfl | hp'
    · exact h1
    · have ho := h.one p' hp'
      cases hb : p'.1.ownBlock with
      | none => exact ho.same fun g' hg' => by rw [hb] at hg'; cases hg'
      | some g' =>
        refine keep _ _ _ ho fun e => ?_
        rw [hb] at e
        have e1 := hv g' e.symm
        have e2 := r3 p' hp' g' hb
        rw [show p'.2.2 = m by omega]
  · refine ⟨fun k => if k = w.heap.size then 3 + m else ρ k, ?_, ?_, ?_, ?_⟩
    · simp only
      rw [if_neg (by omega)]; exact r0
    · intro g' hg'
      have := (ownsRow_lt h.iv hg').2
      simp only
      rw [if_neg (by omega)]; exact r1 g' hg'
    · intro g' hg'
      have := (ownsRow_lt h.ov hg').2
      simp only
      rw [if_neg (by omega)]; exact r2 g' hg'
    · intro p' hp' g' hg'
      rcases List.mem_cons.1 hp' with rfl | hp'
      · simp [Value.ownBlock] at hg'
        subst hg'
        simp only
        split
        · rfl
        · rcases hat with hat | hat
          · exact hv g hat
          · exact absurd hat (by assumption)
      · have := ((h.one p' hp').block hg').2
        simp only
        rw [if_neg (by omega)]; exact r3 p' hp' g' hg'
  · intro i v' m' hi hm'
    obtain ⟨n, hn⟩ := h.pairs i v' m' hi hm'
    exact ⟨n, List.mem_cons_of_mem _ hn⟩
  · intro p' hp'
    rcases List.mem_cons.1 hp' with rfl | hp'
    · exact ⟨hln, (s3 _ hp).2⟩
    · exact s3 p' hp'

theorem BookI.blkV {w w1 : World} {B base : Nat} {f : Nat → Value} {V : List Value} {M : List Nat} {X : List (Value × Nat × Nat)} (h : BookI w B base f V M X) (hg : w.grownBy w1 (f 9).ownBlock) : w1.heap[B]? = some (bookObj f) := by
  obtain ⟨ρ, r0, r1, r2, r3⟩ := h.sep
  exact (hg.block B (lt_of_obj h.blk) (fun e => by have := r1 B e.symm; omega)).trans h.blk
theorem BookI.blkM {w w1 : World} {B base : Nat} {f : Nat → Value} {V : List Value} {M : List Nat} {X : List (Value × Nat × Nat)} (h : BookI w B base f V M X) (hg : w.grownBy w1 (f 10).ownBlock) : w1.heap[B]? = some (bookObj f) := by
  obtain ⟨ρ, r0, r1, r2, r3⟩ := h.sep
  exact (hg.block B (lt_of_obj h.blk) (fun e => by have := r2 B e.symm; omega)).trans h.blk
/-- b.ints = append(b.ints, v). -/
theorem BookI.pushV {w w1 : World} {B base g cap L : Nat} {f : Nat → Value} {V : List Value} {M : List Nat} {X : List (Value × Nat × Nat)} {v : Value} (h : BookI w B base f V M X) (hL : V.length = L)
    (h1 : w1.ownsRow base 31 1 (.slice (some ⟨g, 0, none⟩) (L + 1) cap) (L + 1) (V ++ [v])) (hg : w.grownBy w1 (f 9).ownBlock) (hat : (f 9).ownBlock = some g ∨ g = w.heap.size)
    (hp : ∀ m : Nat, M[L]? = some m → ∃ n, (v, n, m) ∈ X) (hl : L + 1 ≤ 1000000) :
    BookI (w1.setCell ⟨B, 9, none⟩ (.slice (some ⟨g, 0, none⟩) (L + 1) cap)) B base (upd f 9 (.slice (some ⟨g, 0, none⟩) (L + 1) cap)) (V ++ [v]) M X := by
  subst hL
  obtain ⟨ρ, r0, r1, r2, r3⟩ := h.sep
  obtain ⟨s1, s2, s3⟩ := h.small
  have hB := lt_of_obj h.blk
  have hfar : ∀ k, k < w.heap.size → ρ k ≠ 1 → w1.heap[k]? = w.heap[k]? := fun k hk hr => hg.block k hk (fun e => hr (r1 k e.symm))
  have hblk : w1.heap[B]? = some (bookObj f) := (hfar B hB (by omega)).trans h.blk
  have o := OnlyB.book (OnlyB.refl hblk) (lt_of_obj hblk) 9 (.slice (some ⟨g, 0, none⟩) (V.length + 1) cap)
  have hgB : g ≠ B := by
    rintro rfl
    rcases hat with hat | hat
    · have := r1 _ hat; omega
    · omega
  refine ⟨o.at_ (lt_of_obj hblk), h.rest.upd 9 (by omega) _, ?_, ?_, ?_, ?_, ?_, by simpa using hl, s2, s3⟩
  · rw [upd_eq, List.length_append]
    exact ownsRow_keep h1 fun g' hg' => o.far (by simp [Value.ownBlock] at hg'; omega)
  · rw [upd_ne (by omega)]
    refine ownsRow_keep h.ov fun g' hg' => ?_
    have := r2 g' hg'
    rw [o.far (fun e => by rw [e] at this; omega)]
    exact hfar g' (ownsRow_lt h.ov hg').2 (by omega)
  · intro p' hp'
    refine (h.one p' hp').same fun g' hg' => ?_
    have := r3 p' hp' g' hg'
    rw [o.far (fun e => by rw [e] at this; omega)]
    exact hfar g' ((h.one p' hp').block hg').2 (by omega)
  · refine ⟨fun k => if k = w.heap.size then 1 else ρ k, ?_, ?_, ?_, ?_⟩
    · simp only
      rw [if_neg (by omega)]; exact r0
    · intro g' hg'
      rw [upd_eq] at hg'
      simp [Value.ownBlock] at hg'
      subst hg'
      simp only
      split
      · rfl
      · rcases hat with hat | hat
        · exact r1 g hat
        · exact absurd hat (by assumption)
    · intro g' hg'
      rw [upd_ne (by omega)] at hg'
      have := (ownsRow_lt h.ov hg').2
      simp only
      rw [if_neg (by omega)]; exact r2 g' hg'
    · intro p' hp' g' hg'
      have := ((h.one p' hp').block hg').2
      simp only
      rw [if_neg (by omega)]; exact r3 p' hp' g' hg'
  · intro i v' m' hi hm'
    by_cases hiV : i < V.length
    · rw [List.getElem?_append_left hiV] at hi
      exact h.pairs i v' m' hi hm'
    · rw [List.getElem?_append_right (by omega)] at hi
      have e : i = V.length := by
        rcases Nat.lt_or_ge (i - V.length) 1 with h' | h'
        · omega
        · rw [List.getElem?_eq_none (by simpa using h')] at hi; cases hi
      subst e
      simp at hi
      subst hi
      exact hp m' hm'
/-- b.intsOf = append(b.intsOf, m). -/
theorem BookI.pushM {w w1 : World} {B base g cap m L : Nat} {f : Nat → Value} {V : List Value} {M : List Nat} {X : List (Value × Nat × Nat)} (h : BookI w B base f V M X) (hL : M.length = L)
    (h1 : w1.ownsRow base 3 1 (.slice (some ⟨g, 0, none⟩) (L + 1) cap) (L + 1) ((M.map fun m => .int .i64 (m : Nat)) ++ [.int .i64 (m : Nat)])) (hg : w.grownBy w1 (f 10).ownBlock) (hat : (f 10).ownBlock = some g ∨ g = w.heap.size)
    (hp : ∀ v, V[L]? = some v → ∃ n, (v, n, m) ∈ X) (hl : L + 1 ≤ 1000000) :
    BookI (w1.setCell ⟨B, 10, none⟩ (.slice (some ⟨g, 0, none⟩) (L + 1) cap)) B base (upd f 10 (.slice (some ⟨g, 0, none⟩) (L + 1) cap)) V (M ++ [m]) X := by
  subst hL
  obtain ⟨ρ, r0, r1, r2, r3⟩ := h.sep
  obtain ⟨s1, s2, s3⟩ := h.small
  have hB := lt_of_obj h.blk
  have hfar : ∀ k, k < w.heap.size → ρ k ≠ 2 → w1.heap[k]? = w.heap[k]? := fun k hk hr => hg.block k hk (fun e => hr (r2 k e.symm))
  have hblk : w1.heap[B]? = some (bookObj f) := (hfar B hB (by omega)).trans h.blk
  have o := OnlyB.book (OnlyB.refl hblk) (lt_of_obj hblk) 10 (.slice (some ⟨g, 0, none⟩) (M.length + 1) cap)
  have hgB : g ≠ B := by
    rintro rfl
    rcases hat with hat | hat
    · have := r2 _ hat; omega
    · omega
  refine ⟨o.at_ (lt_of_obj hblk), h.rest.upd 10 (by omega) _, ?_, ?_, ?_, ?_, ?_, s1, by simpa using hl, s3⟩
  · rw [upd_ne (by omega)]
    refine ownsRow_keep h.iv fun g' hg' => ?_
    have := r1 g' hg'
    rw [o.far (fun e => by rw [e] at this; omega)]
    exact hfar g' (ownsRow_lt h.iv hg').2 (by omega)
  · rw [upd_eq, List.length_append, List.map_append]
    exact ownsRow_keep h1 fun g' hg' => o.far (by simp [Value.ownBlock] at hg'; omega)
  · intro p' hp'
    refine (h.one p' hp').same fun g' hg' => ?_
    have := r3 p' hp' g' hg'
    rw [o.far (fun e => by rw [e] at this; omega)]
    exact hfar g' ((h.one p' hp').block hg').2 (by omega)
  · refine ⟨fun k => if k = w.heap.size then 2 else ρ k, ?_, ?_, ?_, ?_⟩
    · simp only
      rw [if_neg (by omega)]; exact r0
    · intro g' hg'
      rw [upd_ne (by omega)] at hg'
      have := (ownsRow_lt h.iv hg').2
      simp only
      rw [if_neg (by omega)]; exact r1 g' hg'
    · intro g' hg'
      rw [upd_eq] at hg'
      simp [Value.ownBlock] at hg'
      subst hg'
      simp only
      split
      · rfl
      · rcases hat with hat | hat
        · exact r2 g hat
        · exact absurd hat (by assumption)
    · intro p' hp' g' hg'
      have := ((h.one p' hp').block hg').2
      simp only
      rw [if_neg (by omega)]; exact r3 p' hp' g' hg'
  · intro i v' m' hi hm'
    by_cases hiM : i < M.length
    · rw [List.getElem?_append_left hiM] at hm'
      exact h.pairs i v' m' hi hm'
    · rw [List.getElem?_append_right (by omega)] at hm'
      have e : i = M.length := by
        rcases Nat.lt_or_ge (i - M.length) 1 with h' | h'
        · omega
        · rw [List.getElem?_eq_none (by simpa using h')] at hm'; cases hm'
      subst e
      simp at hm'
      subst hm'
      exact hp v' hi
end Go.Proofs.Ytbgojhjlmlbfpaa
