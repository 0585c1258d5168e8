/- SettleSends: the plain law over all peers; how its memory lies. -/
import Derived.Test.YtbgojhjlmlbfpaaSeP
namespace Go.Proofs.Ytbgojhjlmlbfpaa
open Go.RowKit

/-- All peers, behind t ticks. -/
def Plain (n N cp cap : Nat) (sh : Int) (Q : List Ent) (t : Nat) (ws : Nat → Way) (la : Nat → Nat) (st : Nat → Nat → Bool) : Prop :=
  ∀ k, k < N → match firstE Q (k : Nat) with
    | some e => (k : Int) ≠ sh ∧ ∃ s, PeerAt (ws k) cap cp (copiesL k n cp) e t (la k) s ∧ ∀ j, j < cp → st k j = decide (j < s)
    | none => (ws k).there = false ∧ la k = 0 ∧ ∀ j, st k j = false
theorem Plain.some_ {n N cp cap t : Nat} {sh : Int} {Q : List Ent} {ws : Nat → Way} {la : Nat → Nat} {st : Nat → Nat → Bool} (h : Plain n N cp cap sh Q t ws la st) {k : Nat} (hk : k < N) {e : Ent} (he : firstE Q (k : Nat) = some e) :
    (k : Int) ≠ sh ∧ ∃ s, PeerAt (ws k) cap cp (copiesL k n cp) e t (la k) s ∧ ∀ j, j < cp → st k j = decide (j < s) := by
  have := h k hk
  rw [he] at this
  exact this
theorem Plain.none_ {n N cp cap t : Nat} {sh : Int} {Q : List Ent} {ws : Nat → Way} {la : Nat → Nat} {st : Nat → Nat → Bool} (h : Plain n N cp cap sh Q t ws la st) {k : Nat} (hk : k < N) (he : firstE Q (k : Nat) = none) :
    (ws k).there = false ∧ la k = 0 ∧ ∀ j, st k j = false := by
  have := h k hk
  rw [he] at this
  exact this
def laT (ms : List SMsg) (t : Nat) (la : Nat → Nat) (k : Nat) : Nat := if told ms k = true then t else la k
def stT (ms : List SMsg) (ws : Nat → Way) (st : Nat → Nat → Bool) (k j : Nat) : Bool := st k j || (told ms k && j == (ws k).turn)
theorem Plain.tick {n N cp cap t : Nat} {sh : Int} {Q : List Ent} {ws : Nat → Way} {la : Nat → Nat} {st : Nat → Nat → Bool} (h : Plain n N cp cap sh Q t ws la st) (hn : cp ≤ n) (node : Int) :
    Plain n N cp cap sh Q (t + 1) (wsT sh ws N) (laT (msT node sh ws N) (t + 1) la) (stT (msT node sh ws N) ws st) := by
  intro k hk
  have hw : (k : Int) ≠ sh → wsT sh ws N k = (ws k).tick := fun hs => if_pos ⟨hk, hs⟩
  have ht : told (msT node sh ws N) k = (decide ((k : Int) ≠ sh) && (ws k).fires) := by
    rw [told_msT, decide_eq_true hk, Bool.true_and]
  have hk0 := h k hk
  cases hf : firstE Q (k : Nat) with
  | some e =>
    rw [hf] at hk0
    obtain ⟨hs, s, hp, hst⟩ := hk0
    rw [decide_eq_true hs, Bool.true_and] at ht
    have hlen : (copiesL k n cp).length = cp := copiesL_length hn
    refine ⟨hs, if (ws k).fires = true then s + 1 else s, ?_, fun j hj => ?_⟩
    · unfold laT
      rw [hw hs, ht]
      exact hp.tick hlen
    · unfold stT
      rw [ht, hst j hj, hp.turn]
      cases hfi : (ws k).fires
      · simp
      · simp only [Bool.true_and, if_true]
        by_cases hjs : j < s
        · simp [hjs]
          omega
        · by_cases hsc : s < cp
          · rw [Nat.mod_eq_of_lt hsc]
            by_cases e : j = s
            · subst e
              simp
            · have h1 : ¬ j < s + 1 := by omega
              simp [hjs, e, h1]
          · omega
  | none =>
    rw [hf] at hk0
    obtain ⟨h1, h2, h3⟩ := hk0
    have hfi : (ws k).fires = false := by unfold Way.fires; rw [h1, Bool.false_and]
    rw [hfi, Bool.and_false] at ht
    refine ⟨?_, ?_, fun j => ?_⟩
    · by_cases hs : (k : Int) ≠ sh
      · rw [hw hs, tick_idle _ h1]
        exact h1
      · unfold wsT
        rw [if_neg (fun hh => hs hh.2)]
        exact h1
    · unfold laT
      rw [ht]
      simpa using h2
    · unfold stT
      rw [ht, h3 j]
      rfl
theorem look_same {y : Way} {i : Nat} {Q : List Ent} (h : match firstE Q (i : Nat) with | some e => y.there = true ∧ y.e = e | none => y.there = false) : y.look i Q = y := by
  unfold Way.look
  cases hf : firstE Q (i : Nat) with
  | some e =>
    rw [hf] at h
    obtain ⟨h1, h2⟩ := h
    simp only
    rw [if_pos ⟨h1, by rw [h2]⟩]
    cases y
    simp_all
  | none =>
    rw [hf] at h
    cases y
    simp_all
theorem Plain.look {n N cp cap t : Nat} {sh : Int} {Q : List Ent} {ws : Nat → Way} {la : Nat → Nat} {st : Nat → Nat → Bool} (h : Plain n N cp cap sh Q t ws la st) : wsL sh Q ws N = ws := by
  funext j
  unfold wsL
  split
  · rename_i hj
    refine look_same ?_
    have := h j hj.1
    cases hf : firstE Q (j : Nat) with
    | some e =>
      rw [hf] at this
      obtain ⟨_, s, hp, _⟩ := this
      exact ⟨hp.there, hp.ent⟩
    | none =>
      rw [hf] at this
      exact this.1
  · rfl
theorem firstE_peer {Q : List Ent} {p : Int} {e : Ent} (h : firstE Q p = some e) : ∃ k : Nat, Q[k]? = some e ∧ e.peer = p := by
  unfold firstE at h
  cases hf : Q.findIdx? (fun e => e.peer == p) with
  | none => rw [hf] at h; cases h
  | some k =>
    rw [hf] at h
    obtain ⟨hk, hp, _⟩ := List.findIdx?_eq_some_iff_getElem.1 hf
    have h' : Q[k]? = some e := h
    refine ⟨k, h', ?_⟩
    rw [List.getElem?_eq_getElem hk] at h'
    injection h' with h'
    rw [← h']
    simpa using hp
/-- At the start: all ways as New has laid them; what a Look lays. -/
theorem Plain.start {n N cp cap : Nat} {sh : Int} {Q : List Ent} {ws : Nat → Way} (hf : ∀ k, k < N → FreshWay (ws k) cap (copiesL k n cp)) (hQ : QOk Q N sh) (hcap : 1 ≤ cap) : Plain n N cp cap sh Q 0 (wsL sh Q ws N) (fun _ => 0) (fun _ _ => false) := by
  intro k hk
  have hfk := hf k hk
  cases he : firstE Q (k : Nat) with
  | some e =>
    obtain ⟨i, hi, hp⟩ := firstE_peer he
    obtain ⟨p, hp2, hpN, hps⟩ := hQ.peer i e hi
    have hs : (k : Int) ≠ sh := by rw [← hp, hp2]; exact hps
    have hw : wsL sh Q ws N k = (ws k).look k Q := if_pos ⟨hk, hs⟩
    have hl : (ws k).look k Q = { ws k with l := 0, g := 1, e := e, there := true } := by
      unfold Way.look
      rw [he]
      simp only
      rw [if_neg (fun h => by rw [hfk.there] at h; exact absurd h.1 (by decide))]
    refine ⟨hs, 0, ?_, fun j hj => rfl⟩
    rw [hw, hl]
    exact ⟨rfl, rfl, hfk.L, hfk.c, by show (ws k).turn = _; rw [hfk.turn, Nat.zero_mod], ⟨by show (1 : Int) ≤ 1; omega, by show (1 : Int) ≤ _; omega⟩, fun _ => ⟨rfl, by show (0 : Int) ≤ 1; omega, rfl⟩, fun h => by omega⟩
  | none =>
    refine ⟨?_, rfl, fun _ => rfl⟩
    unfold wsL
    split
    · unfold Way.look
      rw [he]
    · exact hfk.there
/-- New ways hand out nothing. -/
theorem fresh_idle {n N cp : Nat} {cap : Int} {sh node : Int} {ws : Nat → Way} (hf : ∀ k, k < N → FreshWay (ws k) cap (copiesL k n cp)) : msT node sh ws N = [] ∧ wsT sh ws N = ws := by
  constructor
  · have : ∀ i, i ≤ N → msT node sh ws i = [] := by
      intro i
      induction i with
      | zero => intro _; rfl
      | succ i ih =>
        intro hi
        unfold msT
        rw [if_neg (fun h => ?_), ih (by omega)]
        have h2 := h.2
        unfold Way.fires at h2
        rw [(hf i (by omega)).there] at h2
        cases h2
    exact this N (Nat.le_refl _)
  · funext j
    unfold wsT
    split
    · rename_i hj
      exact tick_idle _ (hf j hj.1).there
    · rfl
theorem boolz_info : (Try.prog.info? 4).map (fun i => (i.zero, i.size, i.bytes)) = some (some (.bool false), 1, 1) := by kernel_rfl
theorem bools_info : (Try.prog.info? 72).map (fun i => (i.zero, i.size, i.bytes)) = some (some (.slice none 0 0), 1, 24) := by kernel_rfl
theorem intz_info : (Try.prog.info? 3).map (fun i => (i.zero, i.size, i.bytes)) = some (some (.int .i64 0), 1, 8) := by kernel_rfl
theorem makes_one (t e : TypeId) (z : Value) (i0 : TypeInfo) (by_ : Nat) (ht : Try.prog.underlying t = some (.slice e)) (hi : Try.prog.info? e = some i0) (hz0 : i0.zero = some z) (hz1 : i0.size = 1) (hz2 : i0.bytes = by_) (hzc : z.cells = #[z]) (hby : by_ ≤ 24) (n : Nat) (hn : n ≤ 1000) (w : World) :
    (Instr.makeSlice t (.int .i64 (n : Int)) (.int .i64 (n : Int))).run Try.prog w = .ok (.slice (some ⟨w.heap.size, 0, none⟩) n n) (w.alloc (cellsObj e n (fun _ => z))) := by
  have hbb : n * i0.bytes ≤ 1000 * 24 := by rw [hz2]; exact Nat.mul_le_mul hn hby
  rw [run_make w _ _ i0 _ ht hi hz0 .i64 .i64 n n (by omega) (by omega) (by rw [← Int.natCast_mul, Nat.mul_comm]; omega) (by omega)]
  rw [hz1, hzc]
  have : (madeCells #[z] (((n : Int)).toNat * 1)) = ((List.range n).map fun _ => z).toArray := by
    apply Array.ext'
    rw [Int.toNat_natCast, Nat.mul_one]
    rw [toList_madeCells_one]
    apply List.ext_getElem?
    intro k
    by_cases hk : k < n
    · simp [hk]
    · simp [hk]
  rw [this]
  rfl
theorem makes_ints (n : Nat) (hn : n ≤ 1000) (w : World) : (Instr.makeSlice 31 (.int .i64 (n : Int)) (.int .i64 (n : Int))).run Try.prog w = .ok (.slice (some ⟨w.heap.size, 0, none⟩) n n) (w.alloc (cellsObj 3 n (fun _ => .int .i64 0))) := by
  obtain ⟨i0, hi, hz0, hz1, hz2⟩ := info_parts intz_info
  exact makes_one _ _ _ i0 _ Try.underlying31 hi hz0 hz1 hz2 rfl (by omega) n hn w
theorem makes_boolz (n : Nat) (hn : n ≤ 1000) (w : World) : (Instr.makeSlice 72 (.int .i64 (n : Int)) (.int .i64 (n : Int))).run Try.prog w = .ok (.slice (some ⟨w.heap.size, 0, none⟩) n n) (w.alloc (cellsObj 4 n (fun _ => .bool false))) := by
  obtain ⟨i0, hi, hz0, hz1, hz2⟩ := info_parts boolz_info
  exact makes_one _ _ _ i0 _ Try.underlying72 hi hz0 hz1 hz2 rfl (by omega) n hn w
theorem makes_rows (n : Nat) (hn : n ≤ 1000) (w : World) : (Instr.makeSlice 92 (.int .i64 (n : Int)) (.int .i64 (n : Int))).run Try.prog w = .ok (.slice (some ⟨w.heap.size, 0, none⟩) n n) (w.alloc (cellsObj 72 n (fun _ => .slice none 0 0))) := by
  obtain ⟨i0, hi, hz0, hz1, hz2⟩ := info_parts bools_info
  exact makes_one _ _ _ i0 _ Try.underlying92 hi hz0 hz1 hz2 rfl (by omega) n hn w
end Go.Proofs.Ytbgojhjlmlbfpaa
