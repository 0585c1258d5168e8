/- slices.Clone, IndexFunc, ContainsFunc of entries, as settle uses them. -/
import Derived.Test.YtbgojhjlmlbfpaaSeC
namespace Go.Proofs.Ytbgojhjlmlbfpaa
open Go.RowKit

/-- Entries that a slice holds. -/
def HasQ (w : World) (v : Value) (Q : List Ent) : Prop := ∃ A cp, v = .slice A Q.length cp ∧ (A = none → cp = 0) ∧ ∀ (k : Nat) (e : Ent), Q[k]? = some e → ∃ g off, A = some ⟨g, off, none⟩ ∧
  w.cell? ⟨g, off + k * 4, none⟩ = some (.int .i64 e.peer) ∧ w.cell? ⟨g, off + k * 4 + 1, none⟩ = some (.int .u64 e.num) ∧ w.cell? ⟨g, off + k * 4 + 2, none⟩ = some (.string e.name) ∧ w.cell? ⟨g, off + k * 4 + 3, none⟩ = some (.int .u64 e.amt)
theorem HasQ.below {w w' : World} {v : Value} {Q : List Ent} (h : HasQ w v Q) (hb : Below w.heap.size w w') : HasQ w' v Q := by
  obtain ⟨A, cp, e, hn, h⟩ := h
  refine ⟨A, cp, e, hn, fun k e hk => ?_⟩
  obtain ⟨g, off, h1, h2, h3, h4, h5⟩ := h k e hk
  exact ⟨g, off, h1, cellKeep hb h2, cellKeep hb h3, cellKeep hb h4, cellKeep hb h5⟩
theorem One.hasQ {w : World} {base n : Nat} {v : Value} {Q : List Ent} (h : One w base 104 4 v n (cQ Q)) (hn : Q.length = n) : HasQ w v Q := by
  rcases Nat.eq_zero_or_pos n with h0 | h0
  · rcases h with ⟨rfl, _⟩ | ⟨g, cap, cur, k1, _⟩
    · exact ⟨none, 0, by rw [hn, h0], fun _ => rfl, fun k e hk => by rw [List.getElem?_eq_none (by omega)] at hk; cases hk⟩
    · exact ⟨_, cap, by rw [k1, hn], fun h => (by cases h), fun k e hk => by rw [List.getElem?_eq_none (by omega)] at hk; cases hk⟩
  · obtain ⟨g, cap, rfl⟩ := OneN.form h h0
    refine ⟨_, cap, by rw [hn], fun h => (by cases h), fun k e hk => ⟨g, 0, rfl, ?_⟩⟩
    have hkn : k < n := by rw [← hn]; exact (List.getElem?_eq_some_iff.1 hk).1
    have c := fun j (hj : j < 4) => (h.cell (g := g) rfl (k := k * 4 + j) (by omega)).trans (by rw [cQ_at Q k j hj hk])
    rw [Nat.zero_add]
    exact ⟨c 0 (by omega), c 1 (by omega), c 2 (by omega), c 3 (by omega)⟩

set_option maxRecDepth 100000 in
theorem look11 (e : Ent) (p : Int) (b0 : Nat) (w : World) (hb : w.cell? ⟨b0, 0, none⟩ = some (.int .i64 p)) :
    Calls Try.prog 66 #[.agg #[.int .i64 e.peer, .int .u64 e.num, .string e.name, .int .u64 e.amt], .pointer (some ⟨b0, 0, none⟩)] w fun en w' => en = .returned (.bool (e.peer == p)) ∧ Below w.heap.size w w' := by
  have hb2 := cellKeep ((Below.refl _ _).alloc (Nat.le_refl _) (.cells #[.int .i64 e.peer, .int .u64 e.num, .string e.name, .int .u64 e.amt] 104)) hb
  go_enter Try.func66, Try.ntmps66
  go_wp2
  go_ret
  exact ⟨rfl, (Below.refl _ _).alloc (Nat.le_refl _) _⟩
def wantsB (p : Int) (m : Int) (e : Ent) : Bool := (e.peer == p) && decide (e.num ≤ m)
set_option maxRecDepth 100000 in
theorem wants1 (e : Ent) (p m : Int) (b0 b1 : Nat) (w : World) (hb : w.cell? ⟨b0, 0, none⟩ = some (.int .i64 p)) (hm : w.cell? ⟨b1, 0, none⟩ = some (.int .u64 m)) :
    Calls Try.prog 70 #[.agg #[.int .i64 e.peer, .int .u64 e.num, .string e.name, .int .u64 e.amt], .pointer (some ⟨b0, 0, none⟩), .pointer (some ⟨b1, 0, none⟩)] w fun en w' => en = .returned (.bool (wantsB p m e)) ∧ Below w.heap.size w w' := by
  unfold wantsB
  have hb2 := cellKeep ((Below.refl _ _).alloc (Nat.le_refl _) (.cells #[.int .i64 e.peer, .int .u64 e.num, .string e.name, .int .u64 e.amt] 104)) hb
  have hm2 := cellKeep ((Below.refl _ _).alloc (Nat.le_refl _) (.cells #[.int .i64 e.peer, .int .u64 e.num, .string e.name, .int .u64 e.amt] 104)) hm
  cases h : (e.peer == p) with
  | true =>
    go_enter Try.func70, Try.ntmps70
    go_wp2
    go_ret
    exact ⟨by simp, (Below.refl _ _).alloc (Nat.le_refl _) _⟩
  | false =>
    go_enter Try.func70, Try.ntmps70
    go_wp2
    go_ret
    exact ⟨by simp, (Below.refl _ _).alloc (Nat.le_refl _) _⟩
def idxZ (o : Option Nat) : Int := match o with | some i => (i : Nat) | none => -1
def IdxRel (w : World) (Q : List Ent) (f : Ent → Bool) (iv : Value) (wr : World) : Prop := ∃ k : Nat, iv = .int .i64 k ∧ k ≤ Q.length ∧ Below w.heap.size w wr ∧ ∀ (j : Nat) (e : Ent), j < k → Q[j]? = some e → f e = false
theorem find_none {Q : List Ent} {f : Ent → Bool} (h : ∀ (j : Nat) (e : Ent), Q[j]? = some e → f e = false) : Q.findIdx? f = none := by
  rw [List.findIdx?_eq_none_iff]
  intro x hx
  obtain ⟨j, hj⟩ := List.mem_iff_getElem?.1 hx
  exact h j x hj
theorem find_some {Q : List Ent} {f : Ent → Bool} {k : Nat} {e : Ent} (h : ∀ (j : Nat) (e : Ent), j < k → Q[j]? = some e → f e = false) (hk : Q[k]? = some e) (he : f e = true) : Q.findIdx? f = some k := by
  rw [List.findIdx?_eq_some_iff_getElem]
  obtain ⟨hlt, hke⟩ := List.getElem?_eq_some_iff.1 hk
  refine ⟨hlt, by rw [hke]; exact he, fun j hj => ?_⟩
  have := h j Q[j] hj (List.getElem?_eq_getElem (by omega))
  simp [this]
set_option maxRecDepth 100000 in
set_option maxHeartbeats 1000000 in
theorem index_look (w : World) (v : Value) (Q : List Ent) (b0 : Nat) (p : Int) (hb : w.cell? ⟨b0, 0, none⟩ = some (.int .i64 p)) (hQ : HasQ w v Q) (hn : Q.length ≤ 9223372036854775807) :
    Calls Try.prog 65 #[v, .func (.func 66) #[] #[.pointer (some ⟨b0, 0, none⟩)]] w fun en w' => en = .returned (.int .i64 (idxZ (Q.findIdx? (fun e => e.peer == p)))) ∧ Below w.heap.size w w' := by
  obtain ⟨A, cp, rfl, _, hall⟩ := hQ
  obtain ⟨N, hN⟩ : ∃ N, Q.length = N := ⟨_, rfl⟩
  rw [hN] at hn ⊢
  go_enter Try.func65, Try.ntmps65
  go_wp2
  go_loopw [8] (fun iv wr => IdxRel w Q (fun e => e.peer == p) iv wr) (fun iv _ => (N - intOf iv).toNat)
  case atStart => exact ⟨0, rfl, by omega, Below.refl _ _, fun j e hj => by omega⟩
  case round =>
    obtain ⟨k, rfl, hk, hbr, hno⟩ := hrel
    rw [hN] at hk
    by_cases hkN : k < N
    · obtain ⟨e, he⟩ : ∃ e, Q[k]? = some e := ⟨Q[k]'(by omega), List.getElem?_eq_getElem _⟩
      obtain ⟨g, off, rfl, c0, c1, c2, c3⟩ := hall k e he
      have d0 := cellKeep hbr c0
      have d1 := cellKeep hbr c1
      have d2 := cellKeep hbr c2
      have d3 := cellKeep hbr c3
      have q1 : (k : Int) < (N : Int) := by omega
      have hc := look11 e p b0 wr (cellKeep hbr hb)
      obtain ⟨fe, hfe⟩ : ∃ b, (fun e => e.peer == p) e = b := ⟨_, rfl⟩
      have hfe' : (e.peer == p) = fe := hfe
      rw [hfe'] at hc
      clear hall c0 c1 c2 c3
      cases fe with
      | true =>
        have hfs := find_some hno he hfe
        go_wp2_with (go_at_call 66; (with_reducible refine hc.mono ?_); rintro en w5 ⟨rfl, hb5⟩)
        go_ret
        rw [hfs]
        exact ⟨rfl, hbr.trans (hb5.mono hbr.size)⟩
      | false =>
        go_wp2_with (go_at_call 66; (with_reducible refine hc.mono ?_); rintro en w5 ⟨rfl, hb5⟩)
        refine ⟨⟨k + 1, by go_num, by omega, hbr.trans (hb5.mono hbr.size), fun j e' hj hje => ?_⟩, by simp [intOf]; omega⟩
        by_cases hjk : j = k
        · subst hjk
          rw [he] at hje
          injection hje with hje
          subst hje
          exact hfe
        · exact hno j e' (by omega) hje
    · obtain rfl : k = N := by omega
      have hfn : Q.findIdx? (fun e => e.peer == p) = none := find_none fun j e hj => hno j e (by have := (List.getElem?_eq_some_iff.1 hj).1; omega) hj
      clear hall
      go_wp2
      go_ret
      try rw [hfn]
      exact ⟨rfl, hbr⟩
set_option maxRecDepth 100000 in
set_option maxHeartbeats 1000000 in
theorem index_wants (w : World) (v : Value) (Q : List Ent) (b0 b1 : Nat) (p m : Int) (hb : w.cell? ⟨b0, 0, none⟩ = some (.int .i64 p)) (hm : w.cell? ⟨b1, 0, none⟩ = some (.int .u64 m)) (hQ : HasQ w v Q) (hn : Q.length ≤ 9223372036854775807) :
    Calls Try.prog 65 #[v, .func (.func 70) #[] #[.pointer (some ⟨b0, 0, none⟩), .pointer (some ⟨b1, 0, none⟩)]] w fun en w' => en = .returned (.int .i64 (idxZ (Q.findIdx? (wantsB p m)))) ∧ Below w.heap.size w w' := by
  obtain ⟨A, cp, rfl, _, hall⟩ := hQ
  obtain ⟨N, hN⟩ : ∃ N, Q.length = N := ⟨_, rfl⟩
  rw [hN] at hn ⊢
  go_enter Try.func65, Try.ntmps65
  go_wp2
  go_loopw [8] (fun iv wr => IdxRel w Q (wantsB p m) iv wr) (fun iv _ => (N - intOf iv).toNat)
  case atStart => exact ⟨0, rfl, by omega, Below.refl _ _, fun j e hj => by omega⟩
  case round =>
    obtain ⟨k, rfl, hk, hbr, hno⟩ := hrel
    rw [hN] at hk
    by_cases hkN : k < N
    · obtain ⟨e, he⟩ : ∃ e, Q[k]? = some e := ⟨Q[k]'(by omega), List.getElem?_eq_getElem _⟩
      obtain ⟨g, off, rfl, c0, c1, c2, c3⟩ := hall k e he
      have d0 := cellKeep hbr c0
      have d1 := cellKeep hbr c1
      have d2 := cellKeep hbr c2
      have d3 := cellKeep hbr c3
      have q1 : (k : Int) < (N : Int) := by omega
      have hc := wants1 e p m b0 b1 wr (cellKeep hbr hb) (cellKeep hbr hm)
      obtain ⟨fe, hfe⟩ : ∃ b, (wantsB p m) e = b := ⟨_, rfl⟩
      have hfe' : wantsB p m e = fe := hfe
      rw [hfe'] at hc
      clear hall c0 c1 c2 c3
      cases fe with
      | true =>
        have hfs := find_some hno he hfe
        go_wp2_with (go_at_call 70; (with_reducible refine hc.mono ?_); rintro en w5 ⟨rfl, hb5⟩)
        go_ret
        rw [hfs]
        exact ⟨rfl, hbr.trans (hb5.mono hbr.size)⟩
      | false =>
        go_wp2_with (go_at_call 70; (with_reducible refine hc.mono ?_); rintro en w5 ⟨rfl, hb5⟩)
        refine ⟨⟨k + 1, by go_num, by omega, hbr.trans (hb5.mono hbr.size), fun j e' hj hje => ?_⟩, by simp [intOf]; omega⟩
        by_cases hjk : j = k
        · subst hjk
          rw [he] at hje
          injection hje with hje
          subst hje
          exact hfe
        · exact hno j e' (by omega) hje
    · obtain rfl : k = N := by omega
      have hfn : Q.findIdx? (wantsB p m) = none := find_none fun j e hj => hno j e (by have := (List.getElem?_eq_some_iff.1 hj).1; omega) hj
      clear hall
      go_wp2
      go_ret
      try rw [hfn]
      exact ⟨rfl, hbr⟩
end Go.Proofs.Ytbgojhjlmlbfpaa
