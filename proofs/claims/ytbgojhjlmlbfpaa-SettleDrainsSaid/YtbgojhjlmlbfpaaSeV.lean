/- SettleDrains: the plain law: how long a peer's payments take at most; what a credit does. -/
import Derived.Test.YtbgojhjlmlbfpaaSeU
namespace Go.Proofs.Ytbgojhjlmlbfpaa
open Go.RowKit

theorem firstE_find (Q : List Ent) (p : Int) : firstE Q p = Q.find? (fun e => e.peer == p) := by
  unfold firstE
  induction Q with
  | nil => rfl
  | cons e r ih =>
    rw [List.findIdx?_cons, List.find?_cons]
    cases h : (e.peer == p)
    · rw [← ih]
      cases hf : r.findIdx? (fun e => e.peer == p) <;> simp
    · rfl
/-- Each peer's payments are numbered on from what has been credited. -/
def bump (mk : Int → Nat) (p : Int) : Int → Nat := fun q => if q = p then mk q + 1 else mk q
def NumOk : List Ent → (Int → Nat) → Prop
  | [], _ => True
  | e :: r, mk => e.num = ((mk e.peer + 1 : Nat) : Int) ∧ NumOk r (bump mk e.peer)
theorem NumOk.low (p : Int) : ∀ (Q : List Ent) (mk : Int → Nat), NumOk Q mk → ∀ e ∈ Q, e.peer = p → ((mk p + 1 : Nat) : Int) ≤ e.num
  | [], _, _, e, he, _ => by cases he
  | e :: r, mk, h, e', he, hp => by
    obtain ⟨h1, h2⟩ := h
    rcases List.mem_cons.1 he with rfl | he
    · rw [h1, hp]; exact Int.le_refl _
    · have := NumOk.low p r _ h2 e' he hp
      unfold bump at this
      split at this <;> omega
theorem bump_comm (mk : Int → Nat) (p q : Int) (h : p ≠ q) : bump (bump mk p) q = bump (bump mk q) p := by
  funext x
  unfold bump
  by_cases h1 : x = p
  · subst h1
    simp [h]
  · by_cases h2 : x = q
    · subst h2
      simp [h1]
    · simp [h1, h2]
/-- What a credit leaves of the queue. -/
theorem NumOk.credit (p : Int) : ∀ (Q : List Ent) (mk : Int → Nat), NumOk Q mk → NumOk (Q.filter (leftB p ((mk p + 1 : Nat) : Int))) (bump mk p) ∧ cnt (Q.filter (leftB p ((mk p + 1 : Nat) : Int))) p = cnt Q p - 1
  | [], _, _ => ⟨trivial, rfl⟩
  | e :: r, mk, h => by
    obtain ⟨h1, h2⟩ := h
    by_cases hp : e.peer = p
    · have hf : leftB p ((mk p + 1 : Nat) : Int) e = false := by
        unfold leftB
        rw [hp, h1, hp]
        simp
      have hr : r.filter (leftB p ((mk p + 1 : Nat) : Int)) = r := by
        rw [List.filter_eq_self]
        intro x hx
        unfold leftB
        by_cases hxp : x.peer = p
        · have := NumOk.low p r _ h2 x hx hxp
          rw [hp] at this
          unfold bump at this
          rw [if_pos rfl] at this
          have h3 : decide (((mk p + 1 : Nat) : Int) < x.num) = true := decide_eq_true (by omega)
          rw [h3, Bool.or_true]
        · have : (x.peer != p) = true := by simp [hxp]
          rw [this, Bool.true_or]
      rw [List.filter_cons_of_neg (by rw [hf]; simp), hr]
      rw [hp] at h2
      refine ⟨h2, ?_⟩
      unfold cnt
      rw [List.countP_cons_of_pos (by simp [hp])]
      omega
    · have hf : leftB p ((mk p + 1 : Nat) : Int) e = true := by
        unfold leftB
        have : (e.peer != p) = true := by simp [hp]
        rw [this, Bool.true_or]
      have hb : bump mk e.peer p = mk p := if_neg (fun h => hp h.symm)
      obtain ⟨i1, i2⟩ := NumOk.credit p r _ h2
      rw [hb] at i1 i2
      rw [List.filter_cons_of_pos hf]
      refine ⟨⟨?_, ?_⟩, ?_⟩
      · rw [h1]
        unfold bump
        rw [if_neg hp]
      · rw [bump_comm _ _ _ (fun h => hp h.symm)]
        exact i1
      · unfold cnt at i2 ⊢
        rw [List.countP_cons_of_neg (by simp [hp]), List.countP_cons_of_neg (by simp [hp])]
        exact i2
theorem NumOk.first (p : Int) : ∀ (Q : List Ent) (mk : Int → Nat), NumOk Q mk → ∀ e, firstE Q p = some e → e.num = ((mk p + 1 : Nat) : Int)
  | [], _, _, e, he => by rw [firstE_find] at he; cases he
  | x :: r, mk, h, e, he => by
    obtain ⟨h1, h2⟩ := h
    rw [firstE_find, List.find?_cons] at he
    by_cases hp : x.peer = p
    · have : (x.peer == p) = true := by simp [hp]
      rw [this] at he
      injection he with he
      subst he
      rw [h1, hp]
    · have : (x.peer == p) = false := by simp [hp]
      rw [this] at he
      have := NumOk.first p r _ h2 e (by rw [firstE_find]; exact he)
      rw [this]
      unfold bump
      rw [if_neg (fun h => hp h.symm)]
/-- Another peer's first payment stays. -/
theorem credit_other (Q : List Ent) (p q m : Int) (h : q ≠ p) : firstE (Q.filter (leftB p m)) q = firstE Q q ∧ cnt (Q.filter (leftB p m)) q = cnt Q q := by
  have hb : ∀ e : Ent, (e.peer == q && leftB p m e) = (e.peer == q) := fun e => by
    cases h1 : (e.peer == q)
    · rfl
    · have h2 : e.peer = q := by simpa using h1
      have : (e.peer != p) = true := by rw [h2]; simp [h]
      unfold leftB
      rw [this, Bool.true_or, Bool.true_and]
  constructor
  · rw [firstE_find, firstE_find, List.find?_filter]
    congr 1
    funext e
    rw [← hb e, Bool.and_comm]
    cases e.peer == q <;> cases leftB p m e <;> simp
  · unfold cnt
    rw [List.countP_filter]
    congr 1
    funext e
    exact hb e
theorem cnt_zero {Q : List Ent} {p : Int} (h : firstE Q p = none) : cnt Q p = 0 := by
  rw [firstE_find, List.find?_eq_none] at h
  unfold cnt
  rw [List.countP_eq_zero]
  exact h
theorem cnt_pos {Q : List Ent} {p : Int} {e : Ent} (h : firstE Q p = some e) : 1 ≤ cnt Q p := by
  rw [firstE_find] at h
  unfold cnt
  exact List.countP_pos_iff.2 ⟨e, List.mem_of_find?_eq_some h, by have := List.find?_some h; exact this⟩
/-- From a turn on to the holder. -/
def dd (h t cp : Nat) : Nat := if t ≤ h then h - t else h + cp - t
/-- How many ticks it takes at most till all of a peer's payments are credited. -/
def Tm (cp cap c h : Nat) (y : Way) : Nat := if c = 0 then 0 else (c - 1) * (cp * cap) + (if y.l ≤ 1 then 1 else y.l.toNat) + dd h y.turn cp * cap
structure WayOk (y : Way) (k n cp cap : Nat) : Prop where
  L : y.L = copiesL k n cp
  c : y.c = cap
  turn : y.turn < cp
  l : 0 ≤ y.l ∧ y.l ≤ cap
  g : 1 ≤ y.g ∧ y.g ≤ cap
theorem Tm_le {y : Way} {k n cp cap c h : Nat} (hy : WayOk y k n cp cap) (hh : h < cp) (hcap : 1 ≤ cap) : Tm cp cap c h y ≤ c * (cp * cap) := by
  unfold Tm
  split
  · omega
  · have h1 : dd h y.turn cp ≤ cp - 1 := by
      have := hy.turn
      unfold dd
      split <;> omega
    have h2 := Nat.mul_le_mul_right cap h1
    have h3 : (cp - 1) * cap + cap = cp * cap := by
      obtain ⟨m, rfl⟩ : ∃ m, cp = m + 1 := ⟨cp - 1, by omega⟩
      rw [Nat.add_sub_cancel, Nat.add_mul, Nat.one_mul]
    have h4 : (c - 1) * (cp * cap) + cp * cap = c * (cp * cap) := by
      obtain ⟨m, rfl⟩ : ∃ m, c = m + 1 := ⟨c - 1, by omega⟩
      rw [Nat.add_sub_cancel, Nat.add_mul, Nat.one_mul]
    have h5 := hy.l
    generalize (c - 1) * (cp * cap) = A at *
    generalize c * (cp * cap) = B at *
    generalize dd h y.turn cp * cap = C at *
    generalize (cp - 1) * cap = D at *
    generalize cp * cap = E at *
    split <;> omega
theorem Tm_low {y : Way} {cp cap c h : Nat} (hc : 1 ≤ c) : (c - 1) * (cp * cap) + 1 ≤ Tm cp cap c h y := by
  unfold Tm
  rw [if_neg (by omega)]
  generalize (c - 1) * (cp * cap) = A
  generalize dd h y.turn cp * cap = C
  split <;> omega
theorem WayOk.tick {y : Way} {k n cp cap : Nat} (hy : WayOk y k n cp cap) (hn : cp ≤ n) (hcap : 1 ≤ cap) : WayOk y.tick k n cp cap := by
  have h1 := hy.l
  have h2 := hy.g
  have h4 : 0 ≤ tickL y.l y.g ∧ tickL y.l y.g ≤ cap := by unfold tickL; split <;> omega
  have h5 : 1 ≤ tickG y.c y.l y.g ∧ tickG y.c y.l y.g ≤ cap := by
    unfold tickG
    rw [hy.c]
    split
    · omega
    · exact h2
  unfold Way.tick
  split
  · split
    · refine ⟨hy.L, hy.c, ?_, h4, h5⟩
      show (y.turn + 1) % y.L.length < cp
      rw [hy.L, copiesL_length hn]
      exact Nat.mod_lt _ (by have := hy.turn; omega)
    · exact ⟨hy.L, hy.c, hy.turn, h4, h5⟩
  · exact hy
theorem tick_parts (y : Way) (ht : y.there = true) : y.tick.l = tickL y.l y.g ∧ y.tick.turn = if y.l ≤ 1 then (y.turn + 1) % y.L.length else y.turn := by
  unfold Way.tick
  rw [if_pos ht]
  split
  · exact ⟨rfl, rfl⟩
  · exact ⟨rfl, rfl⟩
theorem Tm_tick {y : Way} {k n cp cap c h : Nat} (hy : WayOk y k n cp cap) (hn : cp ≤ n) (hh : h < cp) (hc : 1 ≤ c) (ht : y.there = true) (hm : y.l ≤ 1 → y.turn ≠ h) : Tm cp cap c h y.tick + 1 ≤ Tm cp cap c h y := by
  have h1 := hy.l
  have h2 := hy.g
  have h3 := hy.turn
  have hc0 : ¬ c = 0 := by omega
  obtain ⟨e1, e2⟩ := tick_parts y ht
  unfold Tm
  rw [if_neg hc0, if_neg hc0, e1, e2]
  generalize (c - 1) * (cp * cap) = A
  by_cases hl : y.l ≤ 1
  · rw [if_pos hl, if_pos hl]
    have hne := hm hl
    have h4 : dd h ((y.turn + 1) % y.L.length) cp + 1 = dd h y.turn cp := by
      rw [hy.L, copiesL_length hn]
      unfold dd
      by_cases he : y.turn + 1 = cp
      · rw [he, Nat.mod_self]
        split <;> split <;> omega
      · rw [Nat.mod_eq_of_lt (by omega)]
        split <;> split <;> omega
    rw [← h4, Nat.add_mul, Nat.one_mul]
    have h5 : tickL y.l y.g = y.g := by unfold tickL; rw [if_pos hl]
    rw [h5]
    generalize dd h ((y.turn + 1) % y.L.length) cp * cap = C
    split <;> omega
  · rw [if_neg hl, if_neg hl]
    have h5 : tickL y.l y.g = y.l - 1 := by unfold tickL; rw [if_neg hl]
    rw [h5]
    generalize dd h y.turn cp * cap = C
    split <;> omega
end Go.Proofs.Ytbgojhjlmlbfpaa
