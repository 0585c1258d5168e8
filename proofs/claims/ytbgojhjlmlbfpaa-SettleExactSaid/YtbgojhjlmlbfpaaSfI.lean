/- Wants, of any peer: settle's and the document's. -/
import Derived.Test.YtbgojhjlmlbfpaaSfH
namespace Go.Proofs.Ytbgojhjlmlbfpaa
open Go.RowKit

def wantsV (N : Nat) (shard : Int) (Q : List Ent) (p m : Int) : Bool := if p = shard ∨ p < 0 ∨ (N : Int) ≤ p then false else Q.any (wantsB p m)
theorem unflipI {P : Program} {f : FuncId} {args : Array Value} {w : World} {R : Ending → Prop} (h : Calls P f args w fun e w' => R e ∧ w = w') : Calls P f args w fun e w' => R e ∧ w' = w :=
  h.mono fun _ _ ⟨a, b⟩ => ⟨a, b.symm⟩
set_option maxRecDepth 100000 in
set_option maxHeartbeats 1000000 in
theorem settle_wants_any (w : World) (base r0 S N W cap : Nat) (p m : Int) (ρ : Nat → Nat) (node shard : Int) (ws : Nat → Way) (qv : Value) (Q : List Ent) (h : SetAt w base ρ r0 S node shard N ws (.slice (some ⟨W, 0, none⟩) N cap) qv Q) (hq : Q.length ≤ 3518437208780) :
    Calls Try.prog 34 #[.pointer (some ⟨S, 0, none⟩), .int .i64 p, .int .u64 m] w fun e w' => e = .returned (.bool (wantsV N shard Q p m)) ∧ Below w.heap.size w w' := by
  by_cases hs : p = shard ∨ p < 0 ∨ (N : Int) ≤ p
  · have HV := Lib.hid (show wantsV N shard Q p m = false from if_pos hs)
    obtain ⟨c0, c1, c2, c3⟩ := h.cells
    have hb : Below w.heap.size w ((w.alloc (.cells #[.int .i64 p] 3)).alloc (.cells #[.int .u64 m] 95)) := ((Below.refl _ _).alloc (Nat.le_refl _) _).alloc (by simp) _
    have d0 : ((w.alloc (.cells #[.int .i64 p] 3)).alloc (.cells #[.int .u64 m] 95)).cell? ⟨w.heap.size, 0, none⟩ = some (.int .i64 p) := by
      rw [cell_of_obj (cs := #[.int .i64 p]) (t := 3) (by rw [Below.heap_alloc _ _ _ (by simp)]; exact heap_alloc_new w _) 0]; rfl
    have b1 := cellKeep hb c1
    have b2 := cellKeep hb c2
    have hsp : ((p != shard) = false) ∨ ((p != shard) = true ∧ (p < 0 ∨ (N : Int) ≤ p)) := by
      by_cases h1 : p = shard
      · exact .inl (by simp [h1])
      · exact .inr ⟨by simp [h1], by omega⟩
    clear c0 c1 c2 c3 h hs
    rcases hsp with hne | ⟨hne, hout⟩
    · go_enter Try.func34, Try.ntmps34
      go_wp2
      generalize (w.alloc (.cells #[.int .i64 p] 3)).alloc (.cells #[.int .u64 m] 95) = w1 at hb d0 b1 b2 ⊢
      go_quiet (fail)
      go_wp2
      go_ret
      exact ⟨by rw [HV.out]; rfl, below_drewN hb _⟩
    · go_enter Try.func34, Try.ntmps34
      go_wp2
      generalize (w.alloc (.cells #[.int .i64 p] 3)).alloc (.cells #[.int .u64 m] 95) = w1 at hb d0 b1 b2 ⊢
      have hat := Lib.hid (fun W' (hc : w1.cell? ⟨S, 2, none⟩ = W'.cell? ⟨S, 2, none⟩) => unflipI (at_out W' S N cap (some ⟨W, 0, none⟩) p (hc ▸ b2) hout))
      have hnn : ∀ w, (binOp .neq 144 (.pointer none) (.pointer none)).run Try.prog w = .ok (.bool false) w := fun w => by kernel_rfl
      go_quiet ((go_at_call 68; exact Calls.quiet_of_same (hat.out _ rfl)))
      go_wp2
      go_ret
      exact ⟨by rw [HV.out]; rfl, below_drewN hb _⟩
  · obtain ⟨i, rfl⟩ : ∃ i : Nat, p = i := ⟨p.toNat, by omega⟩
    have := settle_wants w base r0 S N W cap i m ρ node shard ws qv Q h (by omega) (by omega) hq
    have e : wantsV N shard Q i m = Q.any (wantsB i m) := if_neg hs
    rw [e]
    exact this
def RWantsRel (w : World) (Q : List Ent) (p m : Int) (iv : Value) (wr : World) : Prop := ∃ k : Nat, iv = .int .i64 k ∧ k ≤ Q.length ∧ w = wr ∧ ∀ (j : Nat) (e : Ent), j < k → Q[j]? = some e → wantsB p m e = false
set_option maxRecDepth 100000 in
set_option maxHeartbeats 1000000 in
theorem ref_wants (w : World) (base r0 R W cap : Nat) (ρ : Nat → Nat) (c : Conf) (node shard p m : Int) (ps : Nat → RP) (qv : Value) (Q : List Ent) (h : RSet w base ρ r0 R c node shard ps (.slice (some ⟨W, 0, none⟩) c.N cap) qv Q) (hq : Q.length ≤ 3518437208780) :
    Calls Try.prog 113 #[.pointer (some ⟨R, 0, none⟩), .int .i64 p, .int .u64 m] w fun e w' => e = .returned (.bool (wantsV c.N shard Q p m)) ∧ w = w' := by
  have c10 : w.cell? ⟨R, 10, none⟩ = some (.int .i64 shard) := h.cell 10 (by omega)
  have c11 : w.cell? ⟨R, 11, none⟩ = some (.slice (some ⟨W, 0, none⟩) c.N cap) := h.cell 11 (by omega)
  have c12 : w.cell? ⟨R, 12, none⟩ = some qv := h.cell 12 (by omega)
  have hQ := h.que.hasQ rfl
  have hN8 := h.num.2
  clear h
  by_cases hs : p = shard ∨ p < 0 ∨ (c.N : Int) ≤ p
  · have HV := Lib.hid (show wantsV c.N shard Q p m = false from if_pos hs)
    have hsp : (p == shard) = true ∨ ((p == shard) = false ∧ p < 0) ∨ ((p == shard) = false ∧ ¬ p < 0 ∧ (c.N : Int) ≤ p) := by
      by_cases h1 : p = shard
      · exact .inl (by simp [h1])
      · by_cases h2 : p < 0
        · exact .inr (.inl ⟨by simp [h1], h2⟩)
        · exact .inr (.inr ⟨by simp [h1], h2, by omega⟩)
    clear hs hQ
    rcases hsp with h1 | ⟨h1, h2⟩ | ⟨h1, h2, h3⟩
    all_goals
      go_enter Try.func113, Try.ntmps113
      go_wp2
      go_ret
      exact ⟨by rw [HV.out]; rfl, rfl⟩
  · have HV := Lib.hid (show wantsV c.N shard Q p m = Q.any (wantsB p m) from if_neg hs)
    have h1 : (p == shard) = false := by rw [beq_eq_false_iff_ne]; omega
    have h2 : ¬ p < 0 := by omega
    have h3 : ¬ (c.N : Int) ≤ p := by omega
    obtain ⟨A, cp, rfl, _, hall⟩ := hQ
    obtain ⟨n, hn⟩ : ∃ n, Q.length = n := ⟨_, rfl⟩
    rw [hn] at c12 hq
    clear hs
    go_enter Try.func113, Try.ntmps113
    go_wp2
    go_loopw [7] (fun iv wr => RWantsRel w Q p m iv wr) (fun iv _ => (n - intOf iv).toNat)
    case atStart => exact ⟨0, rfl, by omega, rfl, fun j e hj => by omega⟩
    case round =>
      obtain ⟨k, rfl, hk, rfl, hno⟩ := hrel
      rw [hn] at hk
      by_cases hkn : k < n
      · obtain ⟨e, he⟩ : ∃ e, Q[k]? = some e := ⟨Q[k]'(by omega), List.getElem?_eq_getElem _⟩
        obtain ⟨g, off, rfl, d0, d1, d2, d3⟩ := hall k e he
        have q1 : (k : Int) < (n : Int) := by omega
        have HNO := Lib.hid hno
        clear hall hno
        have hnext : wantsB p m e = false → RWantsRel w Q p m (.int .i64 ((k : Int) + 1)) w := fun hw => ⟨k + 1, by go_num, by omega, rfl, fun j e' hj hje => by
          by_cases hjk : j = k
          · subst hjk
            rw [he] at hje
            injection hje with hje
            rw [← hje]
            exact hw
          · exact HNO.out j e' (by omega) hje⟩
        have HX := Lib.hid hnext
        have HE := Lib.hid he
        clear hnext he
        cases hpe : (e.peer == p) with
        | false =>
          have hw := Lib.hid (show wantsB p m e = false by unfold wantsB; rw [hpe]; rfl)
          go_wp2
          exact ⟨HX.out hw.out, by simp [intOf]; omega⟩
        | true =>
          cases hde : decide (e.num ≤ m) with
          | false =>
            have hw := Lib.hid (show wantsB p m e = false by unfold wantsB; rw [hde, Bool.and_false])
            go_wp2
            exact ⟨HX.out hw.out, by simp [intOf]; omega⟩
          | true =>
            have hw := Lib.hid (show wantsB p m e = true by unfold wantsB; rw [hpe, hde]; rfl)
            go_wp2
            go_ret
            refine ⟨?_, rfl⟩
            rw [HV.out, List.any_eq_true.2 ⟨e, List.mem_of_getElem? HE.out, hw.out⟩]
            rfl
      · obtain rfl : k = n := by omega
        have hany : Q.any (wantsB p m) = false := by
          rw [List.any_eq_false]
          intro e hem
          obtain ⟨j, hj⟩ := List.getElem?_of_mem hem
          rw [hno j e (by have := (List.getElem?_eq_some_iff.1 hj).1; omega) hj]
          decide
        have HA := Lib.hid hany
        clear hany hno hall
        go_wp2
        go_ret
        exact ⟨by rw [HV.out, HA.out]; rfl, rfl⟩
end Go.Proofs.Ytbgojhjlmlbfpaa
