/- Entries appended to a list of one's own; tallyref13.first. -/
import Derived.Test.YtbgojhjlmlbfpaaSfD
import Derived.Test.YtbgojhjlmlbfpaaSeM
import Derived.Maps.AppendAt
import Derived.Laws.OwnMore
namespace Go.Proofs.Ytbgojhjlmlbfpaa
open Go.RowKit

theorem grownBy_refl (w : World) (row : Option Nat) : w.grownBy w row := ⟨rfl, rfl, rfl, Nat.le_refl _, fun _ _ _ => rfl⟩
set_option maxRecDepth 100000 in
/-- Append of all entries of a queue. -/
theorem append_ents (w : World) (base ty : Nat) (v0 : Value) (n0 : Nat) (c : Nat → Value) (h0 : One w base 104 4 v0 n0 c) (v : Value) (Q : List Ent) (hQ : HasQ w v Q) (hn : n0 + Q.length ≤ 3518437208781) (hbase : base ≤ w.heap.size) (hc : ∀ k, k < Q.length * 4 → c (n0 * 4 + k) = cQ Q k) :
    ∃ v' w', (Builtin.append_ #[80, 80] ty #[v0, v]).run Try.prog w = .ok v' w' ∧ One w' base 104 4 v' (n0 + Q.length) c ∧ w.grownBy w' v0.ownBlock ∧ (v'.ownBlock = v0.ownBlock ∨ v'.ownBlock = some w.heap.size) := by
  obtain ⟨k0, hkk, kz0, kz1, kz2⟩ := info_parts ent_info
  have hQ' := hQ
  obtain ⟨A, cp, rfl, hA, hall⟩ := hQ
  cases A with
  | none =>
    have hz : Q.length = 0 := by
      rcases Nat.eq_zero_or_pos Q.length with h | h
      · exact h
      · obtain ⟨g, off, e, _⟩ := hall 0 (Q[0]'h) (List.getElem?_eq_getElem h)
        cases e
    obtain rfl := hA rfl
    refine ⟨v0, w, ?_, by rw [hz]; exact h0, grownBy_refl _ _, .inl rfl⟩
    rw [hz]
    exact run_append_owned_none (P := Try.prog) (w := w) base 80 ty 104 k0 4 Try.underlying80 hkk v0 n0 _ h0.own
  | some ad =>
    have hnews : ∀ j u, ((List.range (Q.length * 4)).map (cQ Q))[j]? = some u → w.cell? (ad.add j) = some u := fun j u hj => by
      have hjn : j < Q.length * 4 := by
        rcases Nat.lt_or_ge j (Q.length * 4) with h | h
        · exact h
        · rw [List.getElem?_eq_none (by simp; omega)] at hj; cases hj
      obtain ⟨g, off, cp', e, hcc⟩ := hQ'.form (by omega)
      injection e with e
      injection e with e
      subst e
      rw [List.getElem?_map, List.getElem?_range hjn] at hj
      simp only [Option.map_some, Option.some.injEq] at hj
      subst hj
      have := hcc j hjn
      by_cases hj0 : j = 0 <;> simpa [Addr.add, hj0] using this
    have hone : ∀ u ∈ (List.range (Q.length * 4)).map (cQ Q), u.oneCell' = true := fun u hu => by
      obtain ⟨j, _, rfl⟩ := List.mem_map.1 hu
      exact cQ_one Q j
    obtain ⟨v', w', r1, r2, r3, _, r5⟩ := run_append_own_at (P := Try.prog) (w := w) base 80 ty 104 k0 entZero 4 40 Try.underlying80 hkk kz0 kz1 kz2 rfl (by decide) v0 n0 _ h0.own ad Q.length cp ((List.range (Q.length * 4)).map (cQ Q)) (by simp) hnews hone (by unfold maxLen; omega) (by omega) hbase
    refine ⟨v', w', r1, One.of ?_, r3, r5⟩
    have hxs : (List.range (n0 * 4)).map c ++ (List.range (Q.length * 4)).map (cQ Q) = (List.range ((n0 + Q.length) * 4)).map c := by
      apply List.ext_getElem?
      intro k
      by_cases hk : k < n0 * 4
      · rw [List.getElem?_append_left (by simpa using hk)]
        simp only [List.getElem?_map, List.getElem?_range hk, List.getElem?_range (show k < (n0 + Q.length) * 4 by omega)]
      · rw [List.getElem?_append_right (by simp; omega)]
        simp only [List.length_map, List.length_range]
        by_cases hk2 : k < (n0 + Q.length) * 4
        · rw [List.getElem?_map, List.getElem?_range (show k - n0 * 4 < Q.length * 4 by omega), List.getElem?_map, List.getElem?_range hk2]
          simp only [Option.map_some]
          rw [← hc _ (by omega), show n0 * 4 + (k - n0 * 4) = k by omega]
        · rw [List.getElem?_eq_none (by simp; omega), List.getElem?_eq_none (by simp; omega)]
    rw [← hxs]
    exact r2
/-- The law at an operation's place: an append whose run is known. -/
theorem wpList_append_by {P : Program} {w : World} {ops : Array Oper} {rest : List Oper} {o : Oper} {a : Act} {Q : Exit → Act → World → Prop} (hgd : o.guard = none) (s x : Operand) (t : TypeId)
    (ho : o.op = .call { callee := .builtin .append, args := #[s, x], argTypes := #[t, t] }) {vs vx v' : Value} {w' : World} (hs : a.eval s = vs) (hx : a.eval x = vx)
    (hr : (Builtin.append_ #[t, t] o.type #[vs, vx]).run P w = .ok v' w') (h : wpList P ops Q rest (a.put o.dst v') w') : wpList P ops Q (o :: rest) a w :=
  wpList_plain hgd fun _ hK => by
    unfold Oper.wp execOp
    simp only [ho, resolve, invoke, builtin, Sem.run_bind, Sem.run_pure, Result.andThen_ok, List.map_toArray, List.map_cons, List.map_nil, hs, hx, hr]
    exact hK _ _ h
set_option maxRecDepth 100000 in
set_option maxHeartbeats 1000000 in
theorem refFirst_any (w : World) (v : Value) (Q : List Ent) (p : Int) (hQ : HasQ w v Q) (hn : Q.length ≤ 9223372036854775807) :
    Calls Try.prog 129 #[v, .int .i64 p] w fun e w' => e = .returned (.tuple #[entV ((firstE Q p).getD zeroEnt), .bool (firstE Q p).isSome]) ∧ Below w.heap.size w w' := by
  have hbz : Below w.heap.size w (w.alloc (.cells #[.int .i64 0, .int .u64 0, .string ⟨#[]⟩, .int .u64 0] 104)) := (Below.refl _ _).alloc (Nat.le_refl _) _
  have hQ1 := hQ.below hbz
  obtain ⟨A, cp, rfl, _, hall⟩ := hQ1
  obtain ⟨N, hN⟩ : ∃ N, Q.length = N := ⟨_, rfl⟩
  rw [hN] at hn ⊢
  clear hQ
  go_enter Try.func129, Try.ntmps129
  go_wp2
  go_loopw [6] (fun iv wr => FirstRel (w.alloc (.cells #[.int .i64 0, .int .u64 0, .string ⟨#[]⟩, .int .u64 0] 104)) Q p iv wr) (fun iv _ => (N - intOf iv).toNat)
  case atStart => exact ⟨0, rfl, by omega, rfl, fun j e hj => by omega⟩
  case round =>
    obtain ⟨k, rfl, hk, rfl, hno⟩ := hrel
    rw [hN] at hk
    by_cases hkN : k < N
    · obtain ⟨e, he⟩ : ∃ e, Q[k]? = some e := ⟨Q[k]'(by omega), List.getElem?_eq_getElem _⟩
      obtain ⟨g, off, rfl, c0, c1, c2, c3⟩ := hall k e he
      have q1 : (k : Int) < (N : Int) := by omega
      clear hall
      cases hfe : (e.peer == p) with
      | true =>
        have hfs := find_some hno he hfe
        have hfE : firstE Q p = some e := by unfold firstE; rw [hfs]; exact he
        have HF := Lib.hid hfE
        clear hfE hfs
        go_wp2
        refine bodyPost_ret (v := .tuple #[.agg #[.int .i64 e.peer, .int .u64 e.num, .string e.name, .int .u64 e.amt], .bool true]) (by simp [results, Try.results129, go_sem]) rfl ⟨by rw [HF.out]; rfl, (Below.refl _ _).alloc (Nat.le_refl _) _⟩
      | false =>
        go_wp2
        refine ⟨⟨k + 1, by go_num, by omega, rfl, fun j e' hj hje => ?_⟩, by simp [intOf]; omega⟩
        by_cases hjk : j = k
        · subst hjk
          rw [he] at hje
          injection hje with hje
          subst hje
          exact hfe
        · exact hno j e' (by omega) hje
    · obtain rfl : k = N := by omega
      have hfn : Q.findIdx? (fun e => e.peer == p) = none := find_none fun j e hj => hno j e (by have := (List.getElem?_eq_some_iff.1 hj).1; omega) hj
      have hfE : firstE Q p = none := by unfold firstE; rw [hfn]; rfl
      have HF := Lib.hid hfE
      clear hfE hfn
      clear hall
      go_wp2
      refine bodyPost_ret (v := .tuple #[.agg #[.int .i64 0, .int .u64 0, .string ⟨#[]⟩, .int .u64 0], .bool false]) (by simp [results, Try.results129, go_sem]) rfl ⟨by rw [HF.out]; rfl, (Below.refl _ _).alloc (Nat.le_refl _) _⟩
end Go.Proofs.Ytbgojhjlmlbfpaa
