/- Settle's plain law: how far a peer is behind t ticks; where its copies are. -/
import Derived.Test.YtbgojhjlmlbfpaaSeO
namespace Go.Proofs.Ytbgojhjlmlbfpaa
open Go.RowKit

theorem copiesL_all : ∀ k, k < 8 → ∀ n, n < 10 → (copiesL k n n).Nodup := by decide +kernel
theorem copiesL_nodup (k n c : Nat) (hk : k < 8) (hn : n ≤ 9) (hc : c ≤ n) : (copiesL k n c).Nodup := by
  rw [copiesL_take k n n c hc]
  exact (copiesL_all k hk n (by omega)).sublist (List.take_sublist _ _)
/-- What lies at a place is found there. -/
theorem placeZ_at {L : List Int} (h : L.Nodup) {j : Nat} (hj : j < L.length) : placeZ L (L.getD j 0) = (j : Nat) := by
  have e0 : L.getD j 0 = L[j] := by rw [List.getD_eq_getElem?_getD, List.getElem?_eq_getElem hj, Option.getD_some]
  unfold placeZ
  rw [e0, findL_some (node := L[j]) (k := j) (x := L[j]) (fun i x hi hx => ?_) (List.getElem?_eq_getElem hj) (by simp)]
  · rfl
  · rw [beq_eq_false_iff_ne]
    intro e
    obtain ⟨hi', hx'⟩ := List.getElem?_eq_some_iff.1 hx
    rw [e] at hx'
    exact absurd ((List.getElem_inj h).1 hx') (by omega)

/-- A peer that is there, behind t ticks: the last was at la, there were s. -/
structure PeerAt (y : Way) (cap cp : Nat) (L : List Int) (e : Ent) (t la s : Nat) : Prop where
  there : y.there = true
  ent : y.e = e
  cop : y.L = L
  c : y.c = cap
  turn : y.turn = s % cp
  g : 1 ≤ y.g ∧ y.g ≤ cap
  none : s = 0 → t = 0 ∧ y.l ≤ 1 ∧ la = 0
  some : 0 < s → 1 ≤ la ∧ la ≤ t ∧ (t : Int) - la + y.l ≤ cap ∧ 1 ≤ y.l ∧ la ≤ 1 + (s - 1) * cap
theorem PeerAt.tick {y : Way} {cap cp : Nat} {L : List Int} {e : Ent} {t la s : Nat} (h : PeerAt y cap cp L e t la s) (hL : L.length = cp) :
    PeerAt y.tick cap cp L e (t + 1) (if y.fires = true then t + 1 else la) (if y.fires = true then s + 1 else s) := by
  have hth := h.there
  have hg := h.g
  unfold Way.fires Way.tick
  rw [hth, if_pos rfl]
  by_cases hl : y.l ≤ 1
  · rw [if_pos hl]
    simp only [Bool.true_and, decide_eq_true_eq, if_pos hl]
    refine ⟨rfl, h.ent, h.cop, h.c, ?_, ?_, fun h0 => by omega, fun _ => ⟨by omega, by omega, ?_, ?_, ?_⟩⟩
    · show (y.turn + 1) % y.L.length = (s + 1) % cp
      rw [h.turn, h.cop, hL, Nat.mod_add_mod]
    · show 1 ≤ tickG y.c y.l y.g ∧ tickG y.c y.l y.g ≤ cap
      unfold tickG
      rw [if_pos hl, h.c]
      omega
    · show ((t + 1 : Nat) : Int) - (t + 1 : Nat) + tickL y.l y.g ≤ cap
      unfold tickL
      rw [if_pos hl]
      omega
    · show 1 ≤ tickL y.l y.g
      unfold tickL
      rw [if_pos hl]
      omega
    · rcases Nat.eq_zero_or_pos s with h0 | h0
      · have := (h.none h0).1
        omega
      · obtain ⟨a1, a2, a3, a4, a5⟩ := h.some h0
        have : (s - 1) * cap + cap = s * cap := by
          obtain ⟨m, rfl⟩ : ∃ m, s = m + 1 := ⟨s - 1, by omega⟩
          rw [Nat.add_sub_cancel, Nat.add_mul, Nat.one_mul]
        rw [Nat.add_sub_cancel]
        omega
  · rw [if_neg hl]
    have hs : 0 < s := by
      rcases Nat.eq_zero_or_pos s with h0 | h0
      · exact absurd (h.none h0).2.1 hl
      · exact h0
    obtain ⟨a1, a2, a3, a4, a5⟩ := h.some hs
    simp only [Bool.true_and, decide_eq_true_eq, if_neg hl]
    refine ⟨rfl, h.ent, h.cop, h.c, h.turn, ?_, fun h0 => by omega, fun _ => ⟨a1, by omega, ?_, ?_, a5⟩⟩
    · show 1 ≤ tickG y.c y.l y.g ∧ tickG y.c y.l y.g ≤ cap
      unfold tickG
      rw [if_neg hl]
      exact hg
    · show ((t + 1 : Nat) : Int) - la + tickL y.l y.g ≤ cap
      unfold tickL
      rw [if_neg hl]
      omega
    · show 1 ≤ tickL y.l y.g
      unfold tickL
      rw [if_neg hl]
      omega
/-- Behind the first tick: it has been sent, not too long ago. -/
theorem PeerAt.near {y : Way} {cap cp : Nat} {L : List Int} {e : Ent} {t la s : Nat} (h : PeerAt y cap cp L e t la s) (ht : 1 ≤ t) : 1 ≤ la ∧ la ≤ t ∧ t - la < cap := by
  rcases Nat.eq_zero_or_pos s with h0 | h0
  · have := (h.none h0).1; omega
  · obtain ⟨a1, a2, a3, a4, a5⟩ := h.some h0
    omega
/-- Behind s times cap ticks there have been s. -/
theorem PeerAt.many {y : Way} {cap cp : Nat} {L : List Int} {e : Ent} {t la s k : Nat} (h : PeerAt y cap cp L e t la s) (hk : 1 ≤ k) (hcap : 1 ≤ cap) (ht : t = k * cap) : k ≤ s := by
  have hpos : 1 ≤ t := by
    rw [ht]
    exact Nat.mul_pos hk hcap
  rcases Nat.eq_zero_or_pos s with h0 | h0
  · have := (h.none h0).1
    omega
  · obtain ⟨a1, a2, a3, a4, a5⟩ := h.some h0
    have e1 : (s - 1) * cap + cap = s * cap := by
      obtain ⟨m, rfl⟩ : ∃ m, s = m + 1 := ⟨s - 1, by omega⟩
      rw [Nat.add_sub_cancel, Nat.add_mul, Nat.one_mul]
    have e2 : t ≤ s * cap := by omega
    rw [ht] at e2
    exact Nat.le_of_mul_le_mul_right e2 hcap
/-- A message that a Tick hands out. -/
theorem msT_at (node shard : Int) (ws : Nat → Way) : ∀ (n i : Nat) (m : SMsg), (msT node shard ws n)[i]? = some m → ∃ k, k < n ∧ (k : Int) ≠ shard ∧ (ws k).fires = true ∧ m = msgOf node shard k (ws k)
  | 0, i, m, h => by simp [msT] at h
  | n + 1, i, m, h => by
    unfold msT at h
    split at h
    · rename_i hc
      rcases last_at' h with ⟨_, h⟩ | ⟨_, rfl⟩
      · obtain ⟨k, h1, h2⟩ := msT_at node shard ws n i m h
        exact ⟨k, by omega, h2⟩
      · exact ⟨n, by omega, hc.1, hc.2, rfl⟩
    · obtain ⟨k, h1, h2⟩ := msT_at node shard ws n i m h
      exact ⟨k, by omega, h2⟩
theorem msT_lt (node shard : Int) (ws : Nat → Way) (n i : Nat) (m : SMsg) (h : (msT node shard ws n)[i]? = some m) : m.peer < n := by
  obtain ⟨k, h1, _, _, rfl⟩ := msT_at node shard ws n i m h
  show (k : Int) < n
  omega
/-- The peers rise. -/
theorem msT_up (node shard : Int) (ws : Nat → Way) : ∀ (n i j : Nat) (m m' : SMsg), i < j → (msT node shard ws n)[i]? = some m → (msT node shard ws n)[j]? = some m' → m.peer < m'.peer
  | 0, i, j, m, m', hij, h, h' => by simp [msT] at h
  | n + 1, i, j, m, m', hij, h, h' => by
    unfold msT at h h'
    split at h
    · rename_i hc
      rw [if_pos hc] at h'
      rcases last_at' h' with ⟨hj, h'⟩ | ⟨hj, rfl⟩
      · rcases last_at' h with ⟨_, h⟩ | ⟨hi, _⟩
        · exact msT_up node shard ws n i j m m' hij h h'
        · omega
      · rcases last_at' h with ⟨_, h⟩ | ⟨hi, _⟩
        · exact msT_lt node shard ws n i m h
        · omega
    · rename_i hc
      rw [if_neg hc] at h'
      exact msT_up node shard ws n i j m m' hij h h'
/-- Has one of the messages this peer? -/
def told (ms : List SMsg) (k : Nat) : Bool := ms.any fun m => m.peer == (k : Int)
theorem told_msT (node shard : Int) (ws : Nat → Way) (k : Nat) : ∀ n, told (msT node shard ws n) k = (decide (k < n) && decide ((k : Int) ≠ shard) && (ws k).fires)
  | 0 => by simp [msT, told]
  | n + 1 => by
    have ih := told_msT node shard ws k n
    unfold msT
    split
    · rename_i hc
      unfold told at ih ⊢
      rw [List.any_append, ih]
      by_cases hk : k = n
      · subst hk
        simp [msgOf, hc.1, hc.2]
      · have : ((n : Int) == (k : Int)) = false := by simp; omega
        simp only [List.any_cons, List.any_nil, msgOf, this, Bool.or_false]
        congr 2
        exact decide_eq_decide.2 (by omega)
    · rename_i hc
      rw [ih]
      by_cases hk : k = n
      · subst hk
        by_cases h1 : (k : Int) = shard
        · simp [h1]
        · have : (ws k).fires = false := by
            cases h2 : (ws k).fires
            · rfl
            · exact absurd ⟨h1, h2⟩ hc
          simp [this]
      · congr 2
        exact decide_eq_decide.2 (by omega)
theorem told_take (ms : List SMsg) (i k : Nat) (m : SMsg) (h : ms[i]? = some m) : told (ms.take (i + 1)) k = (told (ms.take i) k || m.peer == (k : Int)) := by
  obtain ⟨hi, he⟩ := List.getElem?_eq_some_iff.1 h
  unfold told
  rw [List.take_add_one, h, List.any_append]
  simp
end Go.Proofs.Ytbgojhjlmlbfpaa
