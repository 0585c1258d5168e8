/- slices.Clone of entries; settle's Look: its closure at one peer. -/
import Derived.Test.YtbgojhjlmlbfpaaSeF
import Derived.Test.YtbgojhjlmlbfpaaSeB
import Derived.OwnWalk
namespace Go.Proofs.Ytbgojhjlmlbfpaa
open Go.RowKit

def entZero : Value := .agg #[.int .i64 0, .int .u64 0, .string ByteArray.empty, .int .u64 0]
theorem ent_info : (Try.prog.info? 104).map (fun i => (i.zero, i.size, i.bytes)) = some (some entZero, 4, 40) := by kernel_rfl
theorem HasQ.form {w : World} {v : Value} {Q : List Ent} (h : HasQ w v Q) (hn : 0 < Q.length) : ∃ g off cp, v = .slice (some ⟨g, off, none⟩) Q.length cp ∧ ∀ j, j < Q.length * 4 → w.cell? ⟨g, off + j, none⟩ = some (cQ Q j) := by
  obtain ⟨A, cp, rfl, _, hall⟩ := h
  obtain ⟨g, off, rfl, _⟩ := hall 0 (Q[0]'hn) (List.getElem?_eq_getElem _)
  refine ⟨g, off, cp, rfl, fun j hj => ?_⟩
  have hk : j / 4 < Q.length := by omega
  obtain ⟨g', off', e, c0, c1, c2, c3⟩ := hall (j / 4) (Q[j / 4]'hk) (List.getElem?_eq_getElem _)
  injection e with e
  injection e with e1 e2
  subst e1 e2
  have hq := cQ_at Q (j / 4) (j % 4) (by omega) (List.getElem?_eq_getElem hk)
  rw [show j / 4 * 4 + j % 4 = j by omega] at hq
  rw [hq]
  have hr : j % 4 < 4 := by omega
  have hj4 : off + j = off + j / 4 * 4 + j % 4 := by omega
  rw [hj4]
  generalize j % 4 = r at hr
  match r, hr with
  | 0, _ => exact c0
  | 1, _ => exact c1
  | 2, _ => exact c2
  | 3, _ => exact c3
theorem cQ_one (Q : List Ent) (j : Nat) : (cQ Q j).oneCell' = true := by
  unfold cQ
  cases h : Q[j / 4]? with
  | none => rfl
  | some e =>
    have hr : j % 4 < 4 := by omega
    simp only [Option.map_some, Option.getD_some]
    generalize j % 4 = r at hr
    match r, hr with
    | 0, _ => rfl
    | 1, _ => rfl
    | 2, _ => rfl
    | 3, _ => rfl
set_option maxRecDepth 100000 in
set_option maxHeartbeats 1000000 in
theorem clone_ents (w : World) (v : Value) (Q : List Ent) (hQ : HasQ w v Q) (hn : Q.length ≤ 3518437208780) :
    Calls Try.prog 63 #[v] w fun e w' => ∃ v', e = .returned v' ∧ One w' w.heap.size 104 4 v' Q.length (cQ Q) ∧ Below w.heap.size w w' := by
  obtain ⟨k0, hkk, kz0, kz1, kz2⟩ := info_parts ent_info
  rcases Nat.eq_zero_or_pos Q.length with h0 | h0
  · obtain ⟨A, cp, rfl, hA, _⟩ := hQ
    rw [h0]
    cases A with
    | none =>
      obtain rfl := hA rfl
      have he : ∀ w, (binOp .eql 80 (.slice none 0 0) (.slice none 0 0)).run Try.prog w = .ok (.bool true) w := fun w => by
        simp only [binOp]
        simp [run_equal_slice_nil w _ _ _ _ _ Try.underlying80]
      go_enter Try.func63, Try.ntmps63
      go_wp2
      go_ret
      exact ⟨_, rfl, .inl ⟨rfl, rfl⟩, Below.refl _ _⟩
    | some a =>
      have he : ∀ w, (binOp .eql 80 (.slice (some a) 0 cp) (.slice none 0 0)).run Try.prog w = .ok (.bool false) w := fun w => by
        simp only [binOp]
        simp [run_equal_slice_nil w _ _ _ _ _ Try.underlying80]
      go_enter Try.func63, Try.ntmps63
      go_wp2
      go_ret
      exact ⟨_, rfl, .inr ⟨w.heap.size, 0, #[], rfl, Nat.le_refl _, heap_alloc_new w _, Nat.le_refl _, by unfold maxLen; omega, rfl, fun k hk => by omega⟩, (Below.refl _ _).alloc (Nat.le_refl _) _⟩
  · obtain ⟨g, off, cp, rfl, hc⟩ := hQ.form h0
    obtain ⟨n, hn'⟩ : ∃ n, Q.length = n := ⟨_, rfl⟩
    rw [hn'] at hc hn h0 ⊢
    have he : ∀ w, (binOp .eql 80 (.slice (some ⟨g, off, none⟩) n cp) (.slice none 0 0)).run Try.prog w = .ok (.bool false) w := fun w => by
      simp only [binOp]
      simp [run_equal_slice_nil w _ _ _ _ _ Try.underlying80]
    have hb : Below w.heap.size w (w.alloc (.cells #[] 104)) := (Below.refl _ _).alloc (Nat.le_refl _) _
    have hE : One (w.alloc (.cells #[] 104)) w.heap.size 104 4 (.slice (some ⟨w.heap.size, 0, none⟩) 0 0) 0 (cQ Q) := .inr ⟨w.heap.size, 0, #[], rfl, Nat.le_refl _, heap_alloc_new w _, Nat.le_refl _, by unfold maxLen; omega, rfl, fun k hk => by omega⟩
    have hnews : ∀ j u, ((List.range (n * 4)).map (cQ Q))[j]? = some u → (w.alloc (.cells #[] 104)).cell? ((⟨g, off, none⟩ : Addr).add j) = some u := fun j u hj => by
      have hjn : j < n * 4 := by
        rcases Nat.lt_or_ge j (n * 4) with h | h
        · exact h
        · rw [List.getElem?_eq_none (by simp; omega)] at hj; cases hj
      rw [List.getElem?_map, List.getElem?_range hjn] at hj
      simp only [Option.map_some, Option.some.injEq] at hj
      subst hj
      have := cellKeep hb (hc j hjn)
      by_cases hj0 : j = 0 <;> simpa [Addr.add, hj0] using this
    have hnc : ∀ k, k < n * 4 → ((List.range (n * 4)).map (cQ Q))[k]? = some (cQ Q (0 * 4 + k)) := fun k hk => by
      rw [List.getElem?_map, List.getElem?_range hk]
      simp
    have hone : ∀ u ∈ (List.range (n * 4)).map (cQ Q), u.oneCell' = true := fun u hu => by
      obtain ⟨j, _, rfl⟩ := List.mem_map.1 hu
      exact cQ_one Q j
    have hmx : 0 + n ≤ maxLen := by unfold maxLen; omega
    have hl : ((List.range (n * 4)).map (cQ Q)).length = n * 4 := by simp
    have HE := Lib.hid hE
    have HN := Lib.hid hnews
    have HC := Lib.hid hnc
    have HO := Lib.hid hone
    have HL := Lib.hid hl
    clear hE hnews hnc hone hl hc hQ
    obtain ⟨xs, hxs⟩ : ∃ xs, (List.range (n * 4)).map (cQ Q) = xs := ⟨_, rfl⟩
    rw [hxs] at HN HC HO HL
    go_enter Try.func63, Try.ntmps63
    go_wp2_with (at_builtin; refine wpList_append_marked rfl (.tmp 5) (.tmp 6) 80 rfl w.heap.size 104 k0 entZero 4 40 Try.underlying80 hkk kz0 kz1 kz2 rfl (by decide) (.slice (some ⟨w.heap.size, 0, none⟩) 0 0) 0 (cQ Q) rfl HE.out ⟨g, off, none⟩ n cp xs rfl HL.out HC.out HN.out HO.out h0 hmx (by omega) (by simp) ?_; intro g1 cap1 w1 ho1 hgrow1 hat1 hkeep1)
    go_ret
    refine ⟨_, rfl, by simpa using ho1, hb.trans ⟨hgrow1.os, hgrow1.tape, hgrow1.output, hgrow1.size, fun k hk => hgrow1.block k (by rw [World.size_alloc]; omega) (fun e => by have e' : k = w.heap.size := (by simpa [Value.ownBlock] using e); omega)⟩⟩
end Go.Proofs.Ytbgojhjlmlbfpaa
