import Derived.Test.YtbgojhjlmlbfpaaSfI
import Derived.Test.YtbgojhjlmlbfpaaSeN
import Derived.Deep.MidRow
import Derived.OrdersHeld
import Derived.Deep.QuietTactic
import Derived.BigQuiet
import Derived.Deep.RegionHeld3
/- EqMsgs of two lists of the same messages. -/
namespace Go.Proofs.Ytbgojhjlmlbfpaa
open Go.RowKit

set_option maxRecDepth 100000 in
theorem cmp_nil (w : World) : Calls Try.prog 116 #[.slice none 0 0, .slice none 0 0] w fun e w' => e = .returned (.int .i64 0) ∧ w = w' := by
  go_enter Try.func116, Try.ntmps116
  go_wp2
  refine wp_loop_rounds 1 ?_
  rw [rounds_succ]
  go_wp2
  go_ret
  exact ⟨rfl, rfl⟩
set_option maxRecDepth 100000 in
set_option maxHeartbeats 4000000 in
theorem eqMsg_same (m : SMsg) (w : World) : Calls Try.prog 81 #[.agg m.cells, .agg m.cells] w fun e w' => e = .returned (.bool true) ∧ Below w.heap.size w w' := by
  obtain ⟨frm, to, shard, peer, num, name, amt⟩ := m
  unfold SMsg.cells
  dsimp only
  go_enter Try.func81, Try.ntmps81
  go_wp2_with (go_at_call 116; (with_reducible refine (cmp_nil _).mono ?_); rintro e w9 ⟨rfl, rfl⟩)
  go_ret
  exact ⟨rfl, ((Below.refl _ _).alloc (Nat.le_refl _) _).alloc (by simp) _⟩
end Go.Proofs.Ytbgojhjlmlbfpaa

/- EqMsgs of two lists of the same messages: the walk. -/
namespace Go.Proofs.Ytbgojhjlmlbfpaa
open Go.RowKit

theorem range_below {w w' : World} {b o : Nat} {cs : List Value} (hb : Below w.heap.size w w') (h : w.rangeAt b o cs) : w'.rangeAt b o cs := fun j v hv => cellKeep hb (h j v hv)
theorem msg_range {w : World} {base g cp n : Nat} {ms : List SMsg} (h : One w base 102 22 (.slice (some ⟨g, 0, none⟩) n cp) ms.length (cM ms)) {j : Nat} {x : SMsg} (hx : ms[j]? = some x) : w.rangeAt g (j * 22) x.cells.toList := fun q v hv => by
  have hq : q < 22 := (List.getElem?_eq_some_iff.1 hv).1
  have := h.msgCell hx q hq
  rw [Array.getElem?_toList] at hv
  rw [hv] at this
  exact this
theorem msg_size1 (m : SMsg) : (Try.prog.info? 102).map (·.size) = some m.cells.toList.length := by
  have : (Try.prog.info? 102).map (·.size) = some 22 := by kernel_rfl
  rw [this]
  rfl
theorem msg_under1 : ∃ d, Try.prog.underlying 102 = some d ∧ d.isRow = true := ⟨_, Try.underlying102, rfl⟩
def MEqRel (w : World) (n : Nat) (iv : Value) (wr : World) : Prop := ∃ i : Nat, iv = .int .i64 i ∧ i ≤ n ∧ Below w.heap.size w wr
set_option maxRecDepth 100000 in
set_option maxHeartbeats 4000000 in
theorem eqMsgs_same (w : World) (b1 b2 : Nat) (v1 v2 : Value) (ms : List SMsg) (h1 : One w b1 102 22 v1 ms.length (cM ms)) (h2 : One w b2 102 22 v2 ms.length (cM ms)) (hn : ms.length ≤ 1000) :
    Calls Try.prog 76 #[v1, v2] w fun e w' => e = .returned (.bool true) ∧ Below w.heap.size w w' := by
  obtain ⟨dm, hdm, hrow⟩ := msg_under1
  have hf1 : ∃ A1 c1, v1 = .slice A1 ms.length c1 := by
    rcases h1 with ⟨rfl, hz⟩ | ⟨g, cap, cur, k1, _⟩
    · exact ⟨none, 0, by rw [hz]⟩
    · exact ⟨_, _, k1⟩
  have hf2 : ∃ A2 c2, v2 = .slice A2 ms.length c2 := by
    rcases h2 with ⟨rfl, hz⟩ | ⟨g, cap, cur, k1, _⟩
    · exact ⟨none, 0, by rw [hz]⟩
    · exact ⟨_, _, k1⟩
  obtain ⟨A1, c1, rfl⟩ := hf1
  obtain ⟨A2, c2, rfl⟩ := hf2
  have H1 := Lib.hid h1
  have H2 := Lib.hid h2
  obtain ⟨n, hl⟩ : ∃ n, ms.length = n := ⟨_, rfl⟩
  rw [hl] at hn ⊢
  have HL := Lib.hid hl
  have hnn : ((n : Int) != (n : Int)) = false := by simp
  clear h1 h2 hl
  go_enter Try.func76, Try.ntmps76
  go_wp2_with fail
  go_loopw [5] (fun iv wr => MEqRel w n iv wr) (fun iv _ => (n - intOf iv).toNat)
  case atStart => exact ⟨0, rfl, Nat.zero_le _, Below.refl _ _⟩
  case round =>
    obtain ⟨i, rfl, hi, hb⟩ := hrel
    by_cases hlt : i < n
    · obtain ⟨m, hm⟩ : ∃ m, ms[i]? = some m := ⟨ms[i]'(by rw [HL.out]; exact hlt), List.getElem?_eq_getElem _⟩
      have hp : 0 < ms.length := by rw [HL.out]; omega
      have h1 := H1.out
      have h2 := H2.out
      obtain ⟨g1, k1, e1⟩ := OneN.form h1 hp
      injection e1 with e1 _ x1
      obtain ⟨g2, k2, e2⟩ := OneN.form h2 hp
      injection e2 with e2 _ x2
      subst e1 e2 x1 x2
      have r1 := range_below hb (msg_range h1 hm)
      have r2 := range_below hb (msg_range h2 hm)
      have hsz := msg_size1 m
      have q1 : (i : Int) < (n : Int) := by omega
      clear h1 h2 hm hp
      go_wp2_with fail
      refine wp_region_held_drew (S := fun w' => w'.rangeAt g1 (i * 22) m.cells.toList ∧ w'.rangeAt g2 (i * 22) m.cells.toList ∧ Below wr.heap.size wr w') (by kernel_rfl) ⟨range_below ((Below.refl _ _).drew) r1, range_below ((Below.refl _ _).drew) r2, (Below.refl _ _).drew⟩ (fun hHeld => ?_)
      refine wpAnyH_take (i := 0) (v := ?_) rfl (by kernel_rfl) (by kernel_rfl) (by kernel_rfl) (fun _ _ _ h => h) (Or.inl ⟨by rfl, fun w hSw => ?_⟩) hHeld ?_
      rotate_left
      · (try dsimp only at hSw); go_split_ands; go_simp <;> with_reducible rfl
      (try simp only [Act.put, List.getElem_toArray, List.getElem_cons_zero, List.setIfInBounds_toArray, List.set_cons_zero, List.set_cons_succ])
      refine wpAnyH_take (i := 1) (v := ?_) rfl (by kernel_rfl) (by kernel_rfl) (by kernel_rfl) (fun _ _ _ h => h) (Or.inl ⟨by rfl, fun w hSw => ?_⟩) hHeld ?_
      rotate_left
      · (try dsimp only at hSw); go_split_ands; go_simp <;> with_reducible rfl
      (try simp only [Act.put, List.getElem_toArray, List.getElem_cons_succ, List.getElem_cons_zero, List.setIfInBounds_toArray, List.set_cons_zero, List.set_cons_succ])
      refine wpAnyH_take (i := 2) (v := ?_) rfl (by kernel_rfl) (by kernel_rfl) (by kernel_rfl) (fun _ _ _ h => h) (Or.inl ⟨by rfl, fun w hSw => ?_⟩) hHeld ?_
      rotate_left
      · (try dsimp only at hSw); go_split_ands; go_simp <;> with_reducible rfl
      (try simp only [Act.put, List.getElem_toArray, List.getElem_cons_succ, List.getElem_cons_zero, List.setIfInBounds_toArray, List.set_cons_zero, List.set_cons_succ])
      refine wpAnyH_take (i := 3) (v := .agg m.cells.toList.toArray) rfl (by kernel_rfl) (by kernel_rfl) (by kernel_rfl) (fun _ _ _ h => h) (yieldsIf_load_mid (by rfl) 102 (.tmp 19) rfl g1 (i * 22) rfl m.cells.toList dm (fun w h => h.1) hdm hrow hsz) hHeld ?_
      (try simp only [Act.put, List.getElem_toArray, List.getElem_cons_succ, List.getElem_cons_zero, List.setIfInBounds_toArray, List.set_cons_zero, List.set_cons_succ])
      refine wpAnyH_take (i := 4) (v := ?_) rfl (by kernel_rfl) (by kernel_rfl) (by kernel_rfl) (fun _ _ _ h => h) (Or.inl ⟨by rfl, fun w hSw => ?_⟩) hHeld ?_
      rotate_left
      · (try dsimp only at hSw); go_split_ands; go_simp <;> with_reducible rfl
      (try simp only [Act.put, List.getElem_toArray, List.getElem_cons_succ, List.getElem_cons_zero, List.setIfInBounds_toArray, List.set_cons_zero, List.set_cons_succ])
      refine wpAnyH_take (i := 5) (v := ?_) rfl (by kernel_rfl) (by kernel_rfl) (by kernel_rfl) (fun _ _ _ h => h) (Or.inl ⟨by rfl, fun w hSw => ?_⟩) hHeld ?_
      rotate_left
      · (try dsimp only at hSw); go_split_ands; go_simp <;> with_reducible rfl
      (try simp only [Act.put, List.getElem_toArray, List.getElem_cons_succ, List.getElem_cons_zero, List.setIfInBounds_toArray, List.set_cons_zero, List.set_cons_succ])
      refine wpAnyH_take (i := 6) (v := ?_) rfl (by kernel_rfl) (by kernel_rfl) (by kernel_rfl) (fun _ _ _ h => h) (Or.inl ⟨by rfl, fun w hSw => ?_⟩) hHeld ?_
      rotate_left
      · (try dsimp only at hSw); go_split_ands; go_simp <;> with_reducible rfl
      (try simp only [Act.put, List.getElem_toArray, List.getElem_cons_succ, List.getElem_cons_zero, List.setIfInBounds_toArray, List.set_cons_zero, List.set_cons_succ])
      refine wpAnyH_take (i := 7) (v := .agg m.cells.toList.toArray) rfl (by kernel_rfl) (by kernel_rfl) (by kernel_rfl) (fun _ _ _ h => h) (yieldsIf_load_mid (by rfl) 102 (.tmp 23) rfl g2 (i * 22) rfl m.cells.toList dm (fun w h => h.2.1) hdm hrow hsz) hHeld ?_
      (try simp only [Act.put, List.getElem_toArray, List.getElem_cons_succ, List.getElem_cons_zero, List.setIfInBounds_toArray, List.set_cons_zero, List.set_cons_succ])
      refine wpAnyH_ready (rs := [8]) (by kernel_rfl) (by simp) (AllReadyH.cons rfl (fun K hK => ?_) AllReadyH.nil)
      go_simp
      (go_at_call 81; (with_reducible refine (eqMsg_same m _).mono ?_); rintro e' w5 ⟨rfl, hb5a⟩)
      have hb5 : Below wr.heap.size wr w5 := (Below.refl _ _).drew.trans hb5a
      refine hK.out _ _ ⟨range_below hb5 r1, range_below hb5 r2, hb5⟩ (fun hHeld => ?_)
      clear hK K
      (try simp only [Act.put, List.getElem_toArray, List.getElem_cons_succ, List.getElem_cons_zero, List.setIfInBounds_toArray, List.set_cons_zero, List.set_cons_succ])
      refine wpAnyH_take (i := 9) (v := ?_) rfl (by kernel_rfl) (by kernel_rfl) (by kernel_rfl) (fun _ _ _ h => h) (Or.inl ⟨by rfl, fun w hSw => ?_⟩) hHeld ?_
      rotate_left
      · (try dsimp only at hSw); go_split_ands; go_simp <;> with_reducible rfl
      (try simp only [Act.put, List.getElem_toArray, List.getElem_cons_succ, List.getElem_cons_zero, List.setIfInBounds_toArray, List.set_cons_zero, List.set_cons_succ])
      refine wpAnyH_done (by kernel_rfl) ?_ _
      clear r1 r2 hHeld
      go_wp2_with fail
      exact ⟨⟨i + 1, by go_num, by omega, hb.trans (hb5.mono hb.size)⟩, by simp [intOf]; omega⟩
    · obtain rfl : i = n := by omega
      go_wp2_with fail
      go_ret
      exact ⟨rfl, hb⟩
end Go.Proofs.Ytbgojhjlmlbfpaa

/- tallylaw13's lent and whole. -/
namespace Go.Proofs.Ytbgojhjlmlbfpaa
open Go.RowKit

def markE : Ent := ⟨77, 0, ⟨#[109, 97, 114, 107]⟩, 0⟩
theorem cQ_old (Q : List Ent) (e : Ent) (k : Nat) (hk : k < Q.length * 4) : cQ Q k = cQ (Q ++ [e]) k := by
  unfold cQ
  rw [List.getElem?_append_left (by omega)]
theorem cQ_new (Q : List Ent) (e : Ent) (k : Nat) (hk : k < 4) : cQ (Q ++ [e]) (Q.length * 4 + k) = e.cell k := by
  unfold cQ
  rw [show (Q.length * 4 + k) / 4 = Q.length by omega, show (Q.length * 4 + k) % 4 = k by omega]
  simp
def LentEnd (Q : List Ent) (w : World) (e : Ending) (w' : World) : Prop :=
  ∃ g cap, e = .returned (.slice (some ⟨g, 0, none⟩) Q.length cap) ∧ One w' w.heap.size 104 4 (.slice (some ⟨g, 0, none⟩) (Q.length + 1) cap) (Q.length + 1) (cQ (Q ++ [markE])) ∧ Below w.heap.size w w'
set_option maxRecDepth 100000 in
set_option maxHeartbeats 2000000 in
theorem lent_any (w : World) (v : Value) (Q : List Ent) (hQ : HasQ w v Q) (hq : Q.length ≤ 3518437208780) : Calls Try.prog 105 #[v] w (LentEnd Q w) := by
  obtain ⟨k0, hkk, kz0, kz1, kz2⟩ := info_parts ent_info
  have hb0 : Below w.heap.size w (w.alloc (.cells #[] 104)) := (Below.refl _ _).alloc (Nat.le_refl _) _
  have hE : One (w.alloc (.cells #[] 104)) w.heap.size 104 4 (.slice (some ⟨w.heap.size, 0, none⟩) 0 0) 0 (cQ Q) := .inr ⟨w.heap.size, 0, #[], rfl, Nat.le_refl _, heap_alloc_new w _, Nat.le_refl _, by unfold maxLen; omega, rfl, fun k hk => by omega⟩
  obtain ⟨v1, w1, r1, o1, g1, a1⟩ := append_ents _ w.heap.size 80 _ 0 (cQ Q) hE _ Q (hQ.below hb0) (by omega) (by simp) (fun k _ => by rw [Nat.zero_mul, Nat.zero_add])
  rw [Nat.zero_add] at o1
  have hb1 : Below w.heap.size w w1 := hb0.grown g1 (by simp) (fun q hq => by
    have e : w.heap.size = q := by simpa [Value.ownBlock] using hq
    omega)
  have hQl : ∃ A cp, v = .slice A Q.length cp := by
    obtain ⟨A, cp, e, _⟩ := hQ
    exact ⟨A, cp, e⟩
  obtain ⟨A0, cp0, rfl⟩ := hQl
  have hv1 : ∃ A c1, v1 = .slice A Q.length c1 := by
    rcases o1 with ⟨rfl, hz⟩ | ⟨g, cap, cur, k1, _⟩
    · exact ⟨none, 0, by rw [hz]⟩
    · exact ⟨_, _, k1⟩
  obtain ⟨A1, c1, rfl⟩ := hv1
  have o2 := (o1.congr (fun k hk => cQ_old Q markE k hk)).below (w1 := w1.alloc (.cells #[.int .i64 77, .int .u64 0, .string ⟨#[109, 97, 114, 107]⟩, .int .u64 0] 104)) ((Below.refl _ _).alloc (Nat.le_refl _) _)
  have hcn : ∀ k, k < 1 * 4 → [Value.int .i64 77, .int .u64 0, .string ⟨#[109, 97, 114, 107]⟩, .int .u64 0][k]? = some (cQ (Q ++ [markE]) (Q.length * 4 + k)) := fun k hk => by
    rw [cQ_new Q markE k (by omega)]
    rcases k with _ | _ | _ | _ | k <;> first | rfl | omega
  have hn4 := World.news_of_block (heap_alloc_new w1 (.cells #[.int .i64 77, .int .u64 0, .string ⟨#[109, 97, 114, 107]⟩, .int .u64 0] 104))
  have HR1 := Lib.hid r1
  have HO2 := Lib.hid o2
  have HCN := Lib.hid hcn
  have HN4 := Lib.hid hn4
  obtain ⟨n, hn⟩ : ∃ n, Q.length = n := ⟨_, rfl⟩
  rw [hn] at HR1 HO2 HCN hq
  have hvw : ∀ q, (Value.slice A1 n c1).ownBlock = some q → w.heap.size ≤ q := fun q hq => (o1.block (g := q) (by rw [hn]; exact hq)).1
  have HVW := Lib.hid hvw
  have hs1 : w.heap.size ≤ (w1.alloc (.cells #[.int .i64 77, .int .u64 0, .string ⟨#[109, 97, 114, 107]⟩, .int .u64 0] 104)).heap.size := by have := hb1.size; simp; omega
  rw [hn]
  have HNN := Lib.hid hn
  clear hb0 hE r1 o1 g1 a1 o2 hcn hn4 hQ hvw hn
  go_enter Try.func105, Try.ntmps105
  go_wp2_with (first | (at_builtin; refine wpList_append_by rfl (.tmp 4) (.tmp 5) 80 rfl rfl rfl HR1.out ?_) | (at_builtin; refine wpList_append_marked rfl (.tmp 7) (.tmp 9) 80 rfl w.heap.size 104 k0 entZero 4 40 Try.underlying80 hkk kz0 kz1 kz2 rfl (by decide) (.slice A1 n c1) n (cQ (Q ++ [markE])) rfl HO2.out ⟨w1.heap.size, 0, none⟩ 1 1 [.int .i64 77, .int .u64 0, .string ⟨#[109, 97, 114, 107]⟩, .int .u64 0] rfl rfl HCN.out HN4.out (by simp [Value.oneCell']) (by decide) (by unfold maxLen; omega) (by omega) hs1 ?_; intro g cap w2 ho2 hg2 _ _; have hcp : n + 1 ≤ cap := (by rcases ho2 with ⟨h, _⟩ | ⟨_, _, _, h, _, _, h3, _⟩; (cases h); (injection h with _ _ h; omega)); have q1 : (n : Int) ≤ (cap : Int) := (by omega)))
  go_ret
  exact ⟨g, cap, by rw [HNN.out]; rfl, by rw [HNN.out]; exact ho2, (hb1.alloc hb1.size _).grown hg2 hs1 HVW.out⟩
/-- What whole lays. -/
structure WholeAt (w : World) (B : Nat) : Prop where
  a : w.heap[B]? = some (.cells #[.string ⟨#[97]⟩, .int .u64 5, .string ⟨#[109, 97, 114, 107]⟩, .int .u64 0] 154 (0, 0))
  n : w.heap[B + 1]? = some (.cells #[.int .u64 3, .int .u64 77] 95 (0, 0))
  m : w.heap[B + 2]? = some (.cells #[.int .u64 4, .int .u64 78] 95 (0, 0))
  s : w.heap[B + 3]? = some (.cells #[.int .u64 6, .int .i64 0, .int .i64 0, .int .u64 0, .int .u64 79, .int .i64 0, .int .i64 0, .int .u64 0] 172 (0, 0))
def wholeV (sh : Int) (qv : Value) (B : Nat) : Value := .agg #[.int .i64 sh, .slice (some ⟨B, 0, none⟩) 1 2, qv, .slice (some ⟨B + 1, 0, none⟩) 1 2, .slice (some ⟨B + 2, 0, none⟩) 1 2, .slice (some ⟨B + 3, 0, none⟩) 1 2]
def WholeEnd (sh : Int) (w : World) (e : Ending) (w' : World) : Prop := e = .returned (wholeV sh (.slice none 0 0) (w.heap.size + 2)) ∧ WholeAt w' (w.heap.size + 2) ∧ Below w.heap.size w w' ∧ w'.heap.size = w.heap.size + 6
theorem six_allocs (w : World) (o0 o1 : Obj) (a b c d : Array Value) (ta tb tc td : TypeId) :
    ((((((w.alloc o0).alloc o1).alloc (.cells a ta)).alloc (.cells b tb)).alloc (.cells c tc)).alloc (.cells d td)).heap[w.heap.size + 2]? = some (.cells a ta (0, 0)) ∧
    ((((((w.alloc o0).alloc o1).alloc (.cells a ta)).alloc (.cells b tb)).alloc (.cells c tc)).alloc (.cells d td)).heap[w.heap.size + 2 + 1]? = some (.cells b tb (0, 0)) ∧
    ((((((w.alloc o0).alloc o1).alloc (.cells a ta)).alloc (.cells b tb)).alloc (.cells c tc)).alloc (.cells d td)).heap[w.heap.size + 2 + 2]? = some (.cells c tc (0, 0)) ∧
    ((((((w.alloc o0).alloc o1).alloc (.cells a ta)).alloc (.cells b tb)).alloc (.cells c tc)).alloc (.cells d td)).heap[w.heap.size + 2 + 3]? = some (.cells d td (0, 0)) := by
  refine ⟨?_, ?_, ?_, ?_⟩
  · rw [Below.heap_alloc _ _ _ (by simp), Below.heap_alloc _ _ _ (by simp), Below.heap_alloc _ _ _ (by simp)]
    have e := heap_alloc_new ((w.alloc o0).alloc o1) (.cells a ta)
    rw [World.size_alloc, World.size_alloc] at e
    exact e
  · rw [Below.heap_alloc _ _ _ (by simp), Below.heap_alloc _ _ _ (by simp)]
    have e := heap_alloc_new (((w.alloc o0).alloc o1).alloc (.cells a ta)) (.cells b tb)
    rw [World.size_alloc, World.size_alloc, World.size_alloc] at e
    exact e
  · rw [Below.heap_alloc _ _ _ (by simp)]
    have e := heap_alloc_new ((((w.alloc o0).alloc o1).alloc (.cells a ta)).alloc (.cells b tb)) (.cells c tc)
    rw [World.size_alloc, World.size_alloc, World.size_alloc, World.size_alloc] at e
    exact e
  · have e := heap_alloc_new (((((w.alloc o0).alloc o1).alloc (.cells a ta)).alloc (.cells b tb)).alloc (.cells c tc)) (.cells d td)
    rw [World.size_alloc, World.size_alloc, World.size_alloc, World.size_alloc, World.size_alloc] at e
    exact e
set_option maxRecDepth 100000 in
set_option maxHeartbeats 2000000 in
theorem whole13_any (sh : Int) (w : World) : Calls Try.prog 106 #[.int .i64 sh] w (WholeEnd sh w) := by
  go_enter Try.func106, Try.ntmps106
  go_wp2
  refine bodyPost_ret (v := wholeV sh (.slice none 0 0) (w.heap.size + 2)) (by simp [results, Try.results106, go_sem, wholeV]) rfl ⟨rfl, ?_, ?_, by simp⟩
  · obtain ⟨a, b, c, d⟩ := six_allocs w (.cells #[.int .i64 sh, .slice (some ⟨w.heap.size + 1 + 1, 0, none⟩) 1 2, .slice none 0 0, .slice (some ⟨w.heap.size + 1 + 1 + 1, 0, none⟩) 1 2, .slice (some ⟨w.heap.size + 1 + 1 + 1 + 1, 0, none⟩) 1 2, .slice (some ⟨w.heap.size + 1 + 1 + 1 + 1 + 1, 0, none⟩) 1 2] 91) (.cells #[.int .i64 sh, .slice (some ⟨w.heap.size + 1 + 1, 0, none⟩) 1 2, .slice none 0 0, .slice (some ⟨w.heap.size + 1 + 1 + 1, 0, none⟩) 1 2, .slice (some ⟨w.heap.size + 1 + 1 + 1 + 1, 0, none⟩) 1 2, .slice (some ⟨w.heap.size + 1 + 1 + 1 + 1 + 1, 0, none⟩) 1 2] 91) _ _ _ _ _ _ _ _
    exact ⟨a, b, c, d⟩
  · exact (((((((Below.refl _ _).alloc (Nat.le_refl _) _).alloc (by simp) _).alloc (by simp; omega) _).alloc (by simp; omega) _).alloc (by simp; omega) _).alloc (by simp; omega) _)
structure WholeC (w : World) (B : Nat) : Prop where
  a0 : w.cell? ⟨B, 0, none⟩ = some (.string ⟨#[97]⟩)
  a1 : w.cell? ⟨B, 1, none⟩ = some (.int .u64 5)
  a2 : w.cell? ⟨B, 2, none⟩ = some (.string ⟨#[109, 97, 114, 107]⟩)
  a3 : w.cell? ⟨B, 3, none⟩ = some (.int .u64 0)
  n0 : w.cell? ⟨B + 1, 0, none⟩ = some (.int .u64 3)
  n1 : w.cell? ⟨B + 1, 1, none⟩ = some (.int .u64 77)
  m0 : w.cell? ⟨B + 2, 0, none⟩ = some (.int .u64 4)
  m1 : w.cell? ⟨B + 2, 1, none⟩ = some (.int .u64 78)
  s0 : w.cell? ⟨B + 3, 0, none⟩ = some (.int .u64 6)
  s1 : w.cell? ⟨B + 3, 1, none⟩ = some (.int .i64 0)
  s2 : w.cell? ⟨B + 3, 2, none⟩ = some (.int .i64 0)
  s3 : w.cell? ⟨B + 3, 3, none⟩ = some (.int .u64 0)
  s4 : w.cell? ⟨B + 3, 4, none⟩ = some (.int .u64 79)
theorem WholeAt.cells {w : World} {B : Nat} (h : WholeAt w B) : WholeC w B :=
  ⟨cell_of_obj h.a 0, cell_of_obj h.a 1, cell_of_obj h.a 2, cell_of_obj h.a 3, cell_of_obj h.n 0, cell_of_obj h.n 1, cell_of_obj h.m 0, cell_of_obj h.m 1, cell_of_obj h.s 0, cell_of_obj h.s 1, cell_of_obj h.s 2, cell_of_obj h.s 3, cell_of_obj h.s 4⟩
theorem WholeAt.same {w w' : World} {B : Nat} (h : WholeAt w B) (hs : ∀ k, B ≤ k → k < B + 4 → w'.heap[k]? = w.heap[k]?) : WholeAt w' B :=
  ⟨(hs _ (by omega) (by omega)).trans h.a, (hs _ (by omega) (by omega)).trans h.n, (hs _ (by omega) (by omega)).trans h.m, (hs _ (by omega) (by omega)).trans h.s⟩
theorem WholeAt.below {w w' : World} {B : Nat} (h : WholeAt w B) (hb : Below w.heap.size w w') : WholeAt w' B :=
  h.same fun k _ hk => hb.block k (by have := lt_of_obj h.s; omega)
set_option maxRecDepth 100000 in
set_option maxHeartbeats 4000000 in
theorem kept_any (sh : Int) (A : Option Addr) (n c B : Nat) (w : World) (h : WholeAt w B) : Calls Try.prog 108 #[wholeV sh (.slice A n c) B] w fun e w' => e = .returned (.bool true) ∧ Below w.heap.size w w' := by
  have hW := Lib.hid (fun W' => whole13_any sh W')
  have H := Lib.hid h
  unfold wholeV
  clear h
  go_enter Try.func108, Try.ntmps108
  go_wp2_with (go_at_call 106; (with_reducible refine (hW.out _).mono ?_); rintro e w2 ⟨rfl, hA2, hb2, hz2⟩; clear hz2; obtain ⟨B', hB'⟩ : ∃ B', (w.alloc (.cells #[.int .i64 sh, .slice (some ⟨B, 0, none⟩) 1 2, .slice A n c, .slice (some ⟨B + 1, 0, none⟩) 1 2, .slice (some ⟨B + 2, 0, none⟩) 1 2, .slice (some ⟨B + 3, 0, none⟩) 1 2] 91)).heap.size + 2 = B' := ⟨_, rfl⟩; rw [hB'] at hA2 ⊢; clear hB'; have hbx := ((Below.refl w.heap.size w).alloc (Nat.le_refl _) (.cells #[.int .i64 sh, .slice (some ⟨B, 0, none⟩) 1 2, .slice A n c, .slice (some ⟨B + 1, 0, none⟩) 1 2, .slice (some ⟨B + 2, 0, none⟩) 1 2, .slice (some ⟨B + 3, 0, none⟩) 1 2] 91)); have hb02 := hbx.trans (hb2.mono hbx.size); unfold wholeV)
  have hb3 : Below w.heap.size w (w2.alloc (.cells #[.int .i64 sh, .slice (some ⟨B', 0, none⟩) 1 2, .slice none 0 0, .slice (some ⟨B' + 1, 0, none⟩) 1 2, .slice (some ⟨B' + 2, 0, none⟩) 1 2, .slice (some ⟨B' + 3, 0, none⟩) 1 2] 91)) := hb02.alloc hb02.size _
  have hb23 : Below w2.heap.size w2 (w2.alloc (.cells #[.int .i64 sh, .slice (some ⟨B', 0, none⟩) 1 2, .slice none 0 0, .slice (some ⟨B' + 1, 0, none⟩) 1 2, .slice (some ⟨B' + 2, 0, none⟩) 1 2, .slice (some ⟨B' + 3, 0, none⟩) 1 2] 91)) := (Below.refl _ _).alloc (Nat.le_refl _) _
  obtain ⟨a0, a1, a2, a3, n0, n1, m0, m1, s0, s1, s2, s3, s4⟩ := ((H.out.below hb02).below hb23).cells
  obtain ⟨x0, x1, _, _, _, _, _, _, y0, y1, y2, y3, _⟩ := (hA2.below hb23).cells
  have bx1 : (w2.alloc (.cells #[.int .i64 sh, .slice (some ⟨B', 0, none⟩) 1 2, .slice none 0 0, .slice (some ⟨B' + 1, 0, none⟩) 1 2, .slice (some ⟨B' + 2, 0, none⟩) 1 2, .slice (some ⟨B' + 3, 0, none⟩) 1 2] 91)).cell? ⟨w.heap.size, 1, none⟩ = some (.slice (some ⟨B, 0, none⟩) 1 2) := cellKeep hb23 (cellKeep hb2 (cell_of_obj (heap_alloc_new w _) 1))
  have bx3 : (w2.alloc (.cells #[.int .i64 sh, .slice (some ⟨B', 0, none⟩) 1 2, .slice none 0 0, .slice (some ⟨B' + 1, 0, none⟩) 1 2, .slice (some ⟨B' + 2, 0, none⟩) 1 2, .slice (some ⟨B' + 3, 0, none⟩) 1 2] 91)).cell? ⟨w.heap.size, 3, none⟩ = some (.slice (some ⟨B + 1, 0, none⟩) 1 2) := cellKeep hb23 (cellKeep hb2 (cell_of_obj (heap_alloc_new w _) 3))
  have bx4 : (w2.alloc (.cells #[.int .i64 sh, .slice (some ⟨B', 0, none⟩) 1 2, .slice none 0 0, .slice (some ⟨B' + 1, 0, none⟩) 1 2, .slice (some ⟨B' + 2, 0, none⟩) 1 2, .slice (some ⟨B' + 3, 0, none⟩) 1 2] 91)).cell? ⟨w.heap.size, 4, none⟩ = some (.slice (some ⟨B + 2, 0, none⟩) 1 2) := cellKeep hb23 (cellKeep hb2 (cell_of_obj (heap_alloc_new w _) 4))
  have bx5 : (w2.alloc (.cells #[.int .i64 sh, .slice (some ⟨B', 0, none⟩) 1 2, .slice none 0 0, .slice (some ⟨B' + 1, 0, none⟩) 1 2, .slice (some ⟨B' + 2, 0, none⟩) 1 2, .slice (some ⟨B' + 3, 0, none⟩) 1 2] 91)).cell? ⟨w.heap.size, 5, none⟩ = some (.slice (some ⟨B + 3, 0, none⟩) 1 2) := cellKeep hb23 (cellKeep hb2 (cell_of_obj (heap_alloc_new w _) 5))
  have lx1 : (w2.alloc (.cells #[.int .i64 sh, .slice (some ⟨B', 0, none⟩) 1 2, .slice none 0 0, .slice (some ⟨B' + 1, 0, none⟩) 1 2, .slice (some ⟨B' + 2, 0, none⟩) 1 2, .slice (some ⟨B' + 3, 0, none⟩) 1 2] 91)).cell? ⟨w2.heap.size, 1, none⟩ = some (.slice (some ⟨B', 0, none⟩) 1 2) := cell_of_obj (heap_alloc_new w2 _) 1
  have lx5 : (w2.alloc (.cells #[.int .i64 sh, .slice (some ⟨B', 0, none⟩) 1 2, .slice none 0 0, .slice (some ⟨B' + 1, 0, none⟩) 1 2, .slice (some ⟨B' + 2, 0, none⟩) 1 2, .slice (some ⟨B' + 3, 0, none⟩) 1 2] 91)).cell? ⟨w2.heap.size, 5, none⟩ = some (.slice (some ⟨B' + 3, 0, none⟩) 1 2) := cell_of_obj (heap_alloc_new w2 _) 5
  generalize (w2.alloc (.cells #[.int .i64 sh, .slice (some ⟨B', 0, none⟩) 1 2, .slice none 0 0, .slice (some ⟨B' + 1, 0, none⟩) 1 2, .slice (some ⟨B' + 2, 0, none⟩) 1 2, .slice (some ⟨B' + 3, 0, none⟩) 1 2] 91)) = w3 at hb3 a0 a1 a2 a3 n0 n1 m0 m1 s0 s1 s2 s3 s4 x0 x1 y0 y1 y2 y3 bx1 bx3 bx4 bx5 lx1 lx5 ⊢
  clear hb23 hA2 hbx hb02 hb2
  go_quiet (fail)
  go_wp2
  go_ret
  exact ⟨rfl, below_drewN hb3 _⟩
end Go.Proofs.Ytbgojhjlmlbfpaa

/- tallylaw13's same and intact: lists compared with what was handed in, and written over. -/
namespace Go.Proofs.Ytbgojhjlmlbfpaa
open Go.RowKit

/-- The cells of a list's block, from entry i on as they were. -/
def MRel (w : World) (g n : Nat) (cur0 : Array Value) (okv iv : Value) (wr : World) : Prop :=
  ∃ (i : Nat) (cur : Array Value), iv = .int .i64 i ∧ i ≤ n ∧ okv = .bool true ∧ OnlyB w wr g (.cells cur 104 (0, 0)) ∧ cur.size = cur0.size ∧ ∀ k, i * 4 ≤ k → cur[k]? = cur0[k]?
theorem set4 {w wr w' : World} {g i n : Nat} {cur cur0 : Array Value} {a b c d : Value} (h : OnlyB w wr g (.cells cur 104 (0, 0))) (hg : g < w.heap.size) (hs : cur.size = cur0.size) (hc : ∀ k, i * 4 ≤ k → cur[k]? = cur0[k]?) (hi : i < n) (q : Nat)
    (hw : w' = (((((wr.drewN q).setCell ⟨g, i * 4, none⟩ a).setCell ⟨g, i * 4 + 1, none⟩ b).setCell ⟨g, i * 4 + 2, none⟩ c).setCell ⟨g, i * 4 + 3, none⟩ d)) : MRel w g n cur0 (.bool true) (.int .i64 ((i : Int) + 1)) w' := by
  subst hw
  have h4 := ((((h.drewN q).set hg (i * 4) a).set hg (i * 4 + 1) b).set hg (i * 4 + 2) c).set hg (i * 4 + 3) d
  refine ⟨i + 1, _, by go_num, by omega, rfl, h4, by simpa using hs, fun k hk => ?_⟩
  simp only [Array.getElem?_setIfInBounds]
  rw [if_neg (by omega), if_neg (by omega), if_neg (by omega), if_neg (by omega)]
  exact hc k (by omega)
theorem ent_cells (Q : List Ent) (i : Nat) (e : Ent) (he : Q[i]? = some e) : cQ Q (i * 4) = .int .i64 e.peer ∧ cQ Q (i * 4 + 1) = .int .u64 e.num ∧ cQ Q (i * 4 + 2) = .string e.name ∧ cQ Q (i * 4 + 3) = .int .u64 e.amt :=
  ⟨cQ_at Q i 0 (by omega) he, cQ_at Q i 1 (by omega) he, cQ_at Q i 2 (by omega) he, cQ_at Q i 3 (by omega) he⟩
def MEnd (w : World) (g : Nat) (e : Ending) (w' : World) : Prop := e = .returned (.bool true) ∧ ∃ cur, OnlyB w w' g (.cells cur 104 (0, 0))
def MEndS (w : World) (g m : Nat) (e : Ending) (w' : World) : Prop := e = .returned (.bool true) ∧ ∃ cur, OnlyB w w' g (.cells cur 104 (0, 0)) ∧ cur.size = m
set_option maxRecDepth 100000 in
set_option maxHeartbeats 4000000 in
theorem same13_any (w : World) (g n cap cl : Nat) (Al : Option Addr) (Q : List Ent) (cur0 : Array Value) (hn : Q.length = n) (hn2 : n ≤ 3518437208780) (hobj : w.heap[g]? = some (.cells cur0 104 (0, 0))) (hcur : ∀ k, k < n * 4 → cur0[k]? = some (cQ Q k))
    (hl : HasQ w (.slice Al n cl) Q) (hlg : ∀ a, 0 < n → Al = some a → a.block ≠ g) :
    Calls Try.prog 104 #[.slice (some ⟨g, 0, none⟩) n cap, .slice Al n cl] w (MEndS w g cur0.size) := by
  have hg := lt_of_obj hobj
  have hnn : ((n : Int) == (n : Int)) = true := by simp
  obtain ⟨A', cp', e', _, hall⟩ := hl
  injection e' with e1 e2 e3
  subst e1
  clear e2 e3
  have HN := Lib.hid hn
  have HL := Lib.hid hall
  have HC := Lib.hid hcur
  have HO := Lib.hid hobj
  clear hall hcur hobj hn
  go_enter Try.func104, Try.ntmps104
  go_wp2_with fail
  go_loopw [5, 6] (fun okv iv wr => MRel w g n cur0 okv iv wr) (fun _ iv _ => (n - intOf iv).toNat)
  case atStart => exact ⟨0, cur0, rfl, Nat.zero_le _, rfl, OnlyB.refl HO.out, rfl, fun _ _ => rfl⟩
  case round =>
    obtain ⟨i, cur, rfl, hi, rfl, hB, hs, hc⟩ := hrel
    by_cases hlt : i < n
    · obtain ⟨e, he⟩ : ∃ e, Q[i]? = some e := ⟨Q[i]'(by rw [HN.out]; exact hlt), List.getElem?_eq_getElem _⟩
      obtain ⟨gl, off, rfl, d0, d1, d2, d3⟩ := HL.out i e he
      have hgl : gl ≠ g := hlg _ (by omega) rfl
      obtain ⟨k0, k1, k2, k3⟩ := ent_cells Q i e he
      have hat := hB.at_ hg
      have c0 : wr.cell? ⟨g, i * 4, none⟩ = some (.int .i64 e.peer) := by rw [cell_of_obj hat, hc _ (by omega), HC.out _ (by omega), k0]
      have c1 : wr.cell? ⟨g, i * 4 + 1, none⟩ = some (.int .u64 e.num) := by rw [cell_of_obj hat, hc _ (by omega), HC.out _ (by omega), k1]
      have c2 : wr.cell? ⟨g, i * 4 + 2, none⟩ = some (.string e.name) := by rw [cell_of_obj hat, hc _ (by omega), HC.out _ (by omega), k2]
      have c3 : wr.cell? ⟨g, i * 4 + 3, none⟩ = some (.int .u64 e.amt) := by rw [cell_of_obj hat, hc _ (by omega), HC.out _ (by omega), k3]
      have f0 := free_of_obj hat (i * 4)
      have f1 := free_of_obj hat (i * 4 + 1)
      have f2 := free_of_obj hat (i * 4 + 2)
      have f3 := free_of_obj hat (i * 4 + 3)
      have l0 := (World.cell?_of_block (a := ⟨gl, off + i * 4, none⟩) (hB.far hgl)).trans d0
      have l1 := (World.cell?_of_block (a := ⟨gl, off + i * 4 + 1, none⟩) (hB.far hgl)).trans d1
      have l2 := (World.cell?_of_block (a := ⟨gl, off + i * 4 + 2, none⟩) (hB.far hgl)).trans d2
      have l3 := (World.cell?_of_block (a := ⟨gl, off + i * 4 + 3, none⟩) (hB.far hgl)).trans d3
      have q1 : (i : Int) < (n : Int) := by omega
      have HB := Lib.hid hB
      have HS := Lib.hid hs
      have HX := Lib.hid hc
      clear d0 d1 d2 d3 k0 k1 k2 k3 hat hB hs hc he
      go_wp2_with fail
      go_quiet (fail)
      go_wp2_with fail
      exact ⟨set4 HB.out hg HS.out HX.out hlt _ rfl, by simp [intOf]; omega⟩
    · obtain rfl : i = n := by omega
      go_wp2_with fail
      go_ret
      exact ⟨rfl, cur, hB, hs⟩
set_option maxRecDepth 100000 in
set_option maxHeartbeats 4000000 in
theorem intact13_any (w : World) (g n cap cl : Nat) (Al : Option Addr) (Q : List Ent) (cur0 : Array Value) (hn : Q.length = n) (hn2 : n ≤ 3518437208780) (hobj : w.heap[g]? = some (.cells cur0 104 (0, 0))) (hcur : ∀ k, k < (n + 1) * 4 → cur0[k]? = some (cQ (Q ++ [markE]) k)) (hcap : n + 1 ≤ cap)
    (hl : HasQ w (.slice Al n cl) Q) (hlg : ∀ a, 0 < n → Al = some a → a.block ≠ g) :
    Calls Try.prog 107 #[.slice (some ⟨g, 0, none⟩) n cap, .slice Al n cl] w (MEnd w g) := by
  have hg := lt_of_obj hobj
  obtain ⟨A', cp', e', _, hall⟩ := hl
  injection e' with e1 e2 e3
  subst e1
  clear e2 e3
  have HN := Lib.hid hn
  have HL := Lib.hid hall
  have HC := Lib.hid hcur
  have HO := Lib.hid hobj
  clear hall hcur hobj hn
  go_enter Try.func107, Try.ntmps107
  go_wp2_with fail
  go_loopw [5, 6] (fun okv iv wr => MRel w g n cur0 okv iv wr) (fun _ iv _ => (n - intOf iv).toNat)
  case atStart => exact ⟨0, cur0, rfl, Nat.zero_le _, rfl, OnlyB.refl HO.out, rfl, fun _ _ => rfl⟩
  case round =>
    obtain ⟨i, cur, rfl, hi, rfl, hB, hs, hc⟩ := hrel
    by_cases hlt : i < n
    · obtain ⟨e, he⟩ : ∃ e, Q[i]? = some e := ⟨Q[i]'(by rw [HN.out]; exact hlt), List.getElem?_eq_getElem _⟩
      obtain ⟨gl, off, rfl, d0, d1, d2, d3⟩ := HL.out i e he
      have hgl : gl ≠ g := hlg _ (by omega) rfl
      obtain ⟨k0, k1, k2, k3⟩ := ent_cells (Q ++ [markE]) i e (by rw [List.getElem?_append_left (by rw [HN.out]; exact hlt)]; exact he)
      have hat := hB.at_ hg
      have c0 : wr.cell? ⟨g, i * 4, none⟩ = some (.int .i64 e.peer) := by rw [cell_of_obj hat, hc _ (by omega), HC.out _ (by omega), k0]
      have c1 : wr.cell? ⟨g, i * 4 + 1, none⟩ = some (.int .u64 e.num) := by rw [cell_of_obj hat, hc _ (by omega), HC.out _ (by omega), k1]
      have c2 : wr.cell? ⟨g, i * 4 + 2, none⟩ = some (.string e.name) := by rw [cell_of_obj hat, hc _ (by omega), HC.out _ (by omega), k2]
      have c3 : wr.cell? ⟨g, i * 4 + 3, none⟩ = some (.int .u64 e.amt) := by rw [cell_of_obj hat, hc _ (by omega), HC.out _ (by omega), k3]
      have f0 := free_of_obj hat (i * 4)
      have f1 := free_of_obj hat (i * 4 + 1)
      have f2 := free_of_obj hat (i * 4 + 2)
      have f3 := free_of_obj hat (i * 4 + 3)
      have l0 := (World.cell?_of_block (a := ⟨gl, off + i * 4, none⟩) (hB.far hgl)).trans d0
      have l1 := (World.cell?_of_block (a := ⟨gl, off + i * 4 + 1, none⟩) (hB.far hgl)).trans d1
      have l2 := (World.cell?_of_block (a := ⟨gl, off + i * 4 + 2, none⟩) (hB.far hgl)).trans d2
      have l3 := (World.cell?_of_block (a := ⟨gl, off + i * 4 + 3, none⟩) (hB.far hgl)).trans d3
      have q1 : (i : Int) < (n : Int) := by omega
      have HB := Lib.hid hB
      have HS := Lib.hid hs
      have HX := Lib.hid hc
      clear d0 d1 d2 d3 k0 k1 k2 k3 hat hB hs hc he
      go_wp2_with fail
      go_quiet (fail)
      go_wp2_with fail
      exact ⟨set4 HB.out hg HS.out HX.out hlt _ rfl, by simp [intOf]; omega⟩
    · obtain rfl : i = n := by omega
      have hm : (Q ++ [markE])[i]? = some markE := by
        rw [List.getElem?_append_right (by rw [HN.out]; exact Nat.le_refl _), HN.out, Nat.sub_self]
        rfl
      obtain ⟨k0, k1, k2, k3⟩ := ent_cells (Q ++ [markE]) i markE hm
      have hat := hB.at_ hg
      have c0 : wr.cell? ⟨g, i * 4, none⟩ = some (.int .i64 77) := by rw [cell_of_obj hat, hc _ (by omega), HC.out _ (by omega), k0]; rfl
      have c1 : wr.cell? ⟨g, i * 4 + 1, none⟩ = some (.int .u64 0) := by rw [cell_of_obj hat, hc _ (by omega), HC.out _ (by omega), k1]; rfl
      have c2 : wr.cell? ⟨g, i * 4 + 2, none⟩ = some (.string ⟨#[109, 97, 114, 107]⟩) := by rw [cell_of_obj hat, hc _ (by omega), HC.out _ (by omega), k2]; rfl
      have c3 : wr.cell? ⟨g, i * 4 + 3, none⟩ = some (.int .u64 0) := by rw [cell_of_obj hat, hc _ (by omega), HC.out _ (by omega), k3]; rfl
      have q2 : (i : Int) + 1 ≤ (cap : Int) := by omega
      have HB := Lib.hid hB
      clear k0 k1 k2 k3 hm hat hc hs hB
      go_wp2_with fail
      go_ret
      exact ⟨rfl, cur, HB.out⟩
end Go.Proofs.Ytbgojhjlmlbfpaa

/- The program's Settle beside the document's, plain. -/
namespace Go.Proofs.Ytbgojhjlmlbfpaa
open Go.RowKit

structure PW (c : Conf) (i : Nat) (y : Way) (p : RP) : Prop where
  cc : y.c = (c.cap : Nat)
  L : y.L = copiesL i c.n c.cp
  turn : y.turn = p.turn ∧ p.turn < c.cp
  goes : Goes (c.cap : Nat) y.l y.g p.n
  there : y.there = p.there
  ent : p.there = true → y.e = p.e
structure Plays (c : Conf) (shard : Int) (ws : Nat → Way) (ps : Nat → RP) (t : Nat) : Prop where
  ok : ∀ i, i < c.N → (i : Int) ≠ shard → PW c i (ws i) (ps i)
  off : ∀ i, i < c.N → (i : Int) = shard → (ps i).there = false
  all : ∀ i, i < c.N → (ps i).cap = (c.cap : Nat) ∧ (ps i).n ≤ t ∧ (ps i).turn ≤ 9
theorem Plays.new {c : Conf} {shard : Int} {ws : Nat → Way} (hc : ConfOk c.n c.N c.cp c.cap) (h : ∀ k, k < c.N → FreshWay (ws k) c.cap (copiesL k c.n c.cp)) : Plays c shard ws (fun _ => p0 c) 0 := by
  refine ⟨fun i hi _ => ?_, fun i hi _ => rfl, fun i hi => ⟨rfl, Nat.le_refl _, by show 0 ≤ 9; omega⟩⟩
  have hf := h i hi
  refine ⟨hf.c, hf.L, ⟨hf.turn, by show 0 < c.cp; have := hc.hcp.1; omega⟩, ?_, hf.there, fun h => by cases h⟩
  rw [hf.l, hf.g]
  exact Goes.start (by have := hc.hcap.1; omega) (by have := hc.hcap.2; omega)
theorem Plays.stop {c : Conf} {shard : Int} {ws : Nat → Way} {ps : Nat → RP} {t : Nat} (h : Plays c shard ws ps t) : Plays c shard (wsS shard ws c.N) (stopP ps c.N) t := by
  have e1 : ∀ i, i < c.N → stopP ps c.N i = { ps i with there := false } := fun i hi => if_pos hi
  refine ⟨fun i hi his => ?_, fun i hi his => by rw [e1 i hi], fun i hi => by rw [e1 i hi]; exact h.all i hi⟩
  have e2 : wsS shard ws c.N i = { ws i with there := false } := if_pos ⟨hi, his⟩
  rw [e1 i hi, e2]
  have := h.ok i hi his
  exact ⟨this.cc, this.L, this.turn, this.goes, rfl, fun h => by cases h⟩
theorem Plays.look {c : Conf} {shard : Int} {ws : Nat → Way} {ps : Nat → RP} {t : Nat} (h : Plays c shard ws ps t) (Q : List Ent) : Plays c shard (wsL shard Q ws c.N) (lookP shard Q ps c.N) t := by
  have e1 : ∀ i, i < c.N → lookP shard Q ps c.N i = (ps i).look shard Q i := fun i hi => if_pos hi
  refine ⟨fun i hi his => ?_, fun i hi his => ?_, fun i hi => ?_⟩
  · have e2 : wsL shard Q ws c.N i = (ws i).look i Q := if_pos ⟨hi, his⟩
    rw [e1 i hi, e2]
    have hp := h.ok i hi his
    have hsb : ((i : Int) == shard) = false := by rw [beq_eq_false_iff_ne]; exact his
    unfold Way.look RP.look thereP entP
    rw [hsb]
    cases hf : firstE Q (i : Int) with
    | none =>
      rw [if_neg (fun x => by simp at x)]
      exact ⟨hp.cc, hp.L, hp.turn, hp.goes, rfl, fun h => by simp at h⟩
    | some e =>
      dsimp only
      by_cases hr : (ps i).there = true ∧ (ps i).e.num = e.num
      · have hw : (ws i).there = true ∧ (ws i).e.num = e.num := by
          rw [hp.there, hp.ent hr.1]
          exact hr
        rw [if_pos hw, if_neg (fun x => x.2 hr)]
        exact ⟨hp.cc, hp.L, hp.turn, hp.goes, rfl, fun _ => rfl⟩
      · have hw : ¬ ((ws i).there = true ∧ (ws i).e.num = e.num) := fun x => hr (by
          rw [hp.there] at x
          rw [hp.ent x.1] at x
          exact x)
        rw [if_neg hw, if_pos ⟨rfl, hr⟩]
        exact ⟨hp.cc, hp.L, hp.turn, Goes.start hp.goes.1 hp.goes.2.1, rfl, fun _ => rfl⟩
  · rw [e1 i hi]
    have hsb : ((i : Int) == shard) = true := by simp [his]
    unfold RP.look thereP
    rw [hsb]
    split <;> simp
  · rw [e1 i hi]
    have := h.all i hi
    unfold RP.look
    split
    · exact ⟨this.1, Nat.zero_le _, this.2.2⟩
    · exact this
theorem Plays.tick {c : Conf} {shard : Int} {ws : Nat → Way} {ps : Nat → RP} {t : Nat} (hc : ConfOk c.n c.N c.cp c.cap) (h : Plays c shard ws ps t) (node : Int) : Plays c shard (wsT shard ws c.N) (tickP ps c.cp c.N) (t + 1) ∧ ∀ i, i ≤ c.N → msT node shard ws i = msR c node shard ps i := by
  have e1 : ∀ i, i < c.N → tickP ps c.cp c.N i = (ps i).tick c.cp := fun i hi => if_pos hi
  refine ⟨⟨fun i hi his => ?_, fun i hi his => ?_, fun i hi => ?_⟩, fun i => ?_⟩
  · have e2 : wsT shard ws c.N i = (ws i).tick := if_pos ⟨hi, his⟩
    rw [e1 i hi, e2]
    have hp := h.ok i hi his
    obtain ⟨hg, hb⟩ := hp.goes.tick
    have hcap := (h.all i hi).1
    have hl : (ws i).L.length = c.cp := by rw [hp.L]; exact copiesL_length hc.hcp.2.1
    unfold Way.tick RP.tick
    rw [hp.there, hcap]
    cases hth : (ps i).there with
    | false =>
      rw [if_neg (by decide), if_neg (by decide)]
      exact hp
    | true =>
      rw [if_pos rfl, if_pos rfl]
      unfold tickB at hb
      rw [← hp.cc] at hg
      by_cases hl1 : (ws i).l ≤ 1
      · rw [decide_eq_true hl1] at hb
        rw [if_pos hl1, if_pos (of_decide_eq_true hb.symm)]
        exact ⟨hp.cc, hp.L, ⟨by rw [hl, hp.turn.1], Nat.mod_lt _ (by have := hc.hcp.1; omega)⟩, by rw [← hp.cc]; exact hg, by first | rfl | (simp [hth, hp.there]), fun _ => hp.ent hth⟩
      · rw [decide_eq_false hl1] at hb
        rw [if_neg hl1, if_neg (of_decide_eq_false hb.symm)]
        exact ⟨hp.cc, hp.L, hp.turn, by rw [← hp.cc]; exact hg, by first | rfl | (simp [hth, hp.there]), fun _ => hp.ent hth⟩
  · rw [e1 i hi]
    have := h.off i hi his
    unfold RP.tick
    rw [this, if_neg (by decide)]
    exact this
  · rw [e1 i hi]
    have := h.all i hi
    have hm : ((ps i).turn + 1) % c.cp ≤ 9 := by
      have := Nat.mod_lt ((ps i).turn + 1) (show 0 < c.cp by have := hc.hcp.1; omega)
      have := hc.hcp
      omega
    unfold RP.tick
    split
    · split
      · exact ⟨this.1, by show (ps i).n + 1 ≤ t + 1; omega, hm⟩
      · exact ⟨this.1, by show (ps i).n + 1 ≤ t + 1; omega, this.2.2⟩
    · exact ⟨this.1, by omega, this.2.2⟩
  · induction i with
    | zero => intro _; rfl
    | succ i ih =>
      intro hi
      have ih := ih (by omega)
      unfold msT msR
      rw [ih]
      by_cases his : (i : Int) = shard
      · have hoff := h.off i (by omega) his
        rw [if_neg (fun x => x.1 his), if_neg (by unfold RP.fires; rw [hoff]; simp)]
      · have hp := h.ok i (by omega) his
        have hcap := (h.all i (by omega)).1
        obtain ⟨_, hb⟩ := hp.goes.tick
        unfold tickB at hb
        have hfi : (ws i).fires = (ps i).fires := by
          unfold Way.fires RP.fires
          rw [hp.there, hcap, hb]
        rw [hfi]
        by_cases hf : (ps i).fires = true
        · rw [if_pos ⟨his, hf⟩, if_pos hf]
          have hth : (ps i).there = true := by
            unfold RP.fires at hf
            rw [Bool.and_eq_true] at hf
            exact hf.1
          have hl : (copiesL i c.n c.cp).length = c.cp := copiesL_length hc.hcp.2.1
          congr 2
          unfold msgOf rmsg
          rw [hp.L, hp.ent hth, hp.turn.1, hl, Nat.mod_eq_of_lt hp.turn.2]
        · rw [if_neg (fun x => hf x.2), if_neg hf]
end Go.Proofs.Ytbgojhjlmlbfpaa

/- A Play of tallylaw13 in memory; its steps: Stop, Tick, Wants, none. -/
namespace Go.Proofs.Ytbgojhjlmlbfpaa
open Go.RowKit

def playO (S R B : Nat) (mark : Bool) (av : Value) (turn : Nat) : Obj := .cells #[.pointer (some ⟨S, 0, none⟩), .pointer (some ⟨R, 0, none⟩), .pointer (some ⟨B, 0, none⟩), .bool mark, av, .int .i64 (turn : Nat)] 158 (0, 0)
structure PlayD (w : World) (base : Nat) (ρ : Nat → Nat) (r0 P B : Nat) (mark : Bool) (t : Nat) (c : Conf) (node shard : Int) (S W c1 R V c2 : Nat) (ws : Nat → Way) (ps : Nat → RP) (qv rv : Value) (Q : List Ent) (av : Value) (an : Nat) (ca : Nat → Value) (turn : Nat) : Prop where
  obj : Objr w ρ (r0 + 50) P (playO S R B mark av turn)
  set : SetAt w base ρ r0 S node shard c.N ws (.slice (some ⟨W, 0, none⟩) c.N c1) qv Q
  ref : RSet w base ρ r0 R c node shard ps (.slice (some ⟨V, 0, none⟩) c.N c2) rv Q
  at_ : One w base 104 4 av an ca
  atr : ∀ g, av.ownBlock = some g → ρ g = r0 + 51
  pl : Plays c shard ws ps t
  conf : ConfOk c.n c.N c.cp c.cap
  q : Q.length ≤ 3518437208780
  tn : turn ≤ t
  lo : base ≤ P
/-- A Play, whatever it holds. -/
def PlayAt (w : World) (base : Nat) (ρ : Nat → Nat) (r0 P B : Nat) (mark : Bool) (t : Nat) : Prop :=
  ∃ (c : Conf) (node shard : Int) (S W c1 R V c2 : Nat) (ws : Nat → Way) (ps : Nat → RP) (qv rv : Value) (Q : List Ent) (av : Value) (an : Nat) (ca : Nat → Value) (turn : Nat), PlayD w base ρ r0 P B mark t c node shard S W c1 R V c2 ws ps qv rv Q av an ca turn
theorem PlayD.keep {R' : Nat → Prop} {w w' : World} {base r0 P B t : Nat} {ρ ρ' : Nat → Nat} {mark : Bool} {c : Conf} {node shard : Int} {S W c1 R V c2 : Nat} {ws : Nat → Way} {ps : Nat → RP} {qv rv : Value} {Q : List Ent} {av : Value} {an : Nat} {ca : Nat → Value} {turn : Nat}
    (h : PlayD w base ρ r0 P B mark t c node shard S W c1 R V c2 ws ps qv rv Q av an ca turn) (hK : Keeps R' w ρ w' ρ') (hR : ∀ r, r0 + 1 ≤ r → r < r0 + 64 → ¬ R' r) : PlayD w' base ρ' r0 P B mark t c node shard S W c1 R V c2 ws ps qv rv Q av an ca turn := by
  obtain ⟨a1, a2⟩ := OneN.keep h.at_ h.atr hK (hR _ (by omega) (by omega))
  exact ⟨h.obj.keep hK (hR _ (by omega) (by omega)), h.set.keep hK (fun r h1 h2 _ => hR r h1 (by omega)), h.ref.keep hK (fun r h1 h2 => hR r (by omega) (by omega)), a1, a2, h.pl, h.conf, h.q, h.tn, h.lo⟩
theorem PlayAt.keep {R' : Nat → Prop} {w w' : World} {base r0 P B t : Nat} {ρ ρ' : Nat → Nat} {mark : Bool} (h : PlayAt w base ρ r0 P B mark t) (hK : Keeps R' w ρ w' ρ') (hR : ∀ r, r0 + 1 ≤ r → r < r0 + 64 → ¬ R' r) : PlayAt w' base ρ' r0 P B mark t := by
  obtain ⟨c, node, shard, S, W, c1, R, V, c2, ws, ps, qv, rv, Q, av, an, ca, turn, h⟩ := h
  exact ⟨c, node, shard, S, W, c1, R, V, c2, ws, ps, qv, rv, Q, av, an, ca, turn, h.keep hK hR⟩
theorem Plays.later {c : Conf} {shard : Int} {ws : Nat → Way} {ps : Nat → RP} {t : Nat} (h : Plays c shard ws ps t) : Plays c shard ws ps (t + 1) :=
  ⟨h.ok, h.off, fun i hi => by have := h.all i hi; exact ⟨this.1, by omega, this.2.2⟩⟩
/-- What a step leaves. -/
def StepEnd (base : Nat) (ρ : Nat → Nat) (r0 P B : Nat) (mark : Bool) (t : Nat) (w : World) (e : Ending) (w' : World) : Prop :=
  e = .returned (.bool true) ∧ ∃ ρ', PlayAt w' base ρ' r0 P B mark (t + 1) ∧ Keeps (fun r => r0 + 1 ≤ r ∧ r < r0 + 64) w ρ w' ρ' ∧ Free w' ρ' ∧ Below base w w'
def opV (kind which : Int) (qa : Value) (peer num : Int) : Value := .agg #[.int .i64 kind, .int .i64 which, qa, .int .i64 peer, .int .u64 num]
set_option maxRecDepth 100000 in
set_option maxHeartbeats 2000000 in
theorem plays_none (w : World) (base r0 P B : Nat) (ρ : Nat → Nat) (mark : Bool) (t : Nat) (h : PlayAt w base ρ r0 P B mark t) (hf : Free w ρ) (kind which peer num : Int) (A : Option Addr) (n cq : Nat) (h1 : (kind == 1) = false) (h2 : (kind == 2) = false) (h3 : (kind == 3) = false) (h4 : (kind == 4) = false) :
    Calls Try.prog 72 #[.pointer (some ⟨P, 0, none⟩), opV kind which (.slice A n cq) peer num] w (StepEnd base ρ r0 P B mark t w) := by
  have hb : Below w.heap.size w (w.alloc (.cells #[.int .i64 kind, .int .i64 which, .slice A n cq, .int .i64 peer, .int .u64 num] 160)) := (Below.refl _ _).alloc (Nat.le_refl _) _
  have H := Lib.hid h
  clear h
  unfold opV
  go_enter Try.func72, Try.ntmps72
  go_wp2
  go_ret
  have K := Keeps.below (fun _ => False) ρ hb
  obtain ⟨c, node, shard, S, W, c1, R, V, c2, ws, ps, qv, rv, Q, av, an, ca, turn, h⟩ := H.out.keep K (fun _ _ _ => id)
  exact ⟨rfl, ρ, ⟨c, node, shard, S, W, c1, R, V, c2, ws, ps, qv, rv, Q, av, an, ca, turn, ⟨h.obj, h.set, h.ref, h.at_, h.atr, h.pl.later, h.conf, h.q, by have := h.tn; omega, h.lo⟩⟩, K.mono (fun _ hr => hr.elim), hf.le K.1, hb.mono (by have h' := H.out; obtain ⟨_, _, _, _, _, _, _, _, _, _, _, _, _, _, _, _, _, _, h''⟩ := h'; have := h''.lo; have := lt_of_obj h''.obj.1; omega)⟩
end Go.Proofs.Ytbgojhjlmlbfpaa

/- A Play's steps: Stop, Wants. -/
namespace Go.Proofs.Ytbgojhjlmlbfpaa
open Go.RowKit

theorem PlayD.cells {w : World} {base r0 P B t : Nat} {ρ : Nat → Nat} {mark : Bool} {c : Conf} {node shard : Int} {S W c1 R V c2 : Nat} {ws : Nat → Way} {ps : Nat → RP} {qv rv : Value} {Q : List Ent} {av : Value} {an : Nat} {ca : Nat → Value} {turn : Nat}
    (h : PlayD w base ρ r0 P B mark t c node shard S W c1 R V c2 ws ps qv rv Q av an ca turn) : w.cell? ⟨P, 0, none⟩ = some (.pointer (some ⟨S, 0, none⟩)) ∧ w.cell? ⟨P, 1, none⟩ = some (.pointer (some ⟨R, 0, none⟩)) ∧ w.cell? ⟨P, 2, none⟩ = some (.pointer (some ⟨B, 0, none⟩)) ∧ w.cell? ⟨P, 3, none⟩ = some (.bool mark) ∧ w.cell? ⟨P, 4, none⟩ = some av ∧ w.cell? ⟨P, 5, none⟩ = some (.int .i64 (turn : Nat)) :=
  ⟨cell_of_obj h.obj.1 0, cell_of_obj h.obj.1 1, cell_of_obj h.obj.1 2, cell_of_obj h.obj.1 3, cell_of_obj h.obj.1 4, cell_of_obj h.obj.1 5⟩
theorem PlayD.base_le {w : World} {base r0 P B t : Nat} {ρ : Nat → Nat} {mark : Bool} {c : Conf} {node shard : Int} {S W c1 R V c2 : Nat} {ws : Nat → Way} {ps : Nat → RP} {qv rv : Value} {Q : List Ent} {av : Value} {an : Nat} {ca : Nat → Value} {turn : Nat}
    (h : PlayD w base ρ r0 P B mark t c node shard S W c1 R V c2 ws ps qv rv Q av an ca turn) : base ≤ w.heap.size := by have := h.lo; have := lt_of_obj h.obj.1; omega
set_option maxRecDepth 100000 in
set_option maxHeartbeats 4000000 in
theorem plays_stop (w : World) (base r0 P B : Nat) (ρ : Nat → Nat) (mark : Bool) (t : Nat) (h : PlayAt w base ρ r0 P B mark t) (hf : Free w ρ) (which peer num : Int) (A : Option Addr) (n cq : Nat) :
    Calls Try.prog 72 #[.pointer (some ⟨P, 0, none⟩), opV 2 which (.slice A n cq) peer num] w (StepEnd base ρ r0 P B mark t w) := by
  obtain ⟨c, node, shard, S, W, c1, R, V, c2, ws, ps, qv, rv, Q, av, an, ca, turn, h⟩ := h
  have hbs := h.base_le
  have hb : Below w.heap.size w (w.alloc (.cells #[.int .i64 2, .int .i64 which, .slice A n cq, .int .i64 peer, .int .u64 num] 160)) := (Below.refl _ _).alloc (Nat.le_refl _) _
  have K := Keeps.below (fun _ => False) ρ hb
  have hD := h.keep K (fun _ _ _ => id)
  have F := hf.le K.1
  have HD := Lib.hid hD
  have HK := Lib.hid K
  have HB := Lib.hid (hb.mono hbs)
  obtain ⟨p0, p1, _, _, _, _⟩ := hD.cells
  unfold opV
  clear h hD K hb
  go_enter Try.func72, Try.ntmps72
  go_wp2_with (first | (go_at_call 109; (with_reducible refine (settle_stop _ base r0 S c.N W c1 ρ node shard ws qv Q HD.out.set).mono ?_); rintro e w2 ⟨rfl, hs2⟩; have HS2 := Lib.hid hs2; have p1 := cell_of_obj (HD.out.obj.keep hs2.k (by omega)).1 1; simp only [List.getElem?_toArray, List.getElem?_cons_zero, List.getElem?_cons_succ] at p1; have HR2 := Lib.hid (HD.out.ref.keep hs2.k (fun r h1 h2 => by omega)); clear hs2 p0) | (go_at_call 110; (with_reducible refine (ref_stop _ base r0 R V c2 ρ c node shard ps rv Q HR2.out).mono ?_); rintro e w3 ⟨rfl, hr3, hk3, hb3, hz3⟩; have HR3 := Lib.hid (And.intro hr3 (And.intro hk3 (And.intro hb3 hz3))); clear hr3 hk3 hb3 hz3 p1))
  go_ret
  obtain ⟨s2, k2, b2, z2⟩ := HS2.out
  obtain ⟨r3, k3, b3, z3⟩ := HR3.out
  have hD := HD.out
  have hA2 := OneN.keep hD.at_ hD.atr k2 (by omega)
  have hA3 := OneN.keep hA2.1 hA2.2 k3 (by omega)
  refine ⟨rfl, ρ, ⟨c, node, shard, S, W, c1, R, V, c2, wsS shard ws c.N, stopP ps c.N, .slice none 0 0, .slice none 0 0, [], av, an, ca, turn, ⟨(hD.obj.keep k2 (by omega)).keep k3 (by omega), s2.keep k3 (fun r h1 h2 _ => by omega), r3, hA3.1, hA3.2, hD.pl.stop.later, hD.conf, by simp, by have := hD.tn; omega, hD.lo⟩⟩,
    ((HK.out.mono (fun _ hr => hr.elim)).trans (k2.mono (fun r hr => by omega))).trans (k3.mono (fun r hr => by omega)), (F.le (Nat.le_of_eq z2.symm)).le (Nat.le_of_eq z3.symm), (HB.out.trans b2).trans b3⟩
set_option maxRecDepth 100000 in
set_option maxHeartbeats 4000000 in
theorem plays_tick (w : World) (base r0 P B : Nat) (ρ : Nat → Nat) (t : Nat) (h : PlayAt w base ρ r0 P B false t) (hf : Free w ρ) (ht : t ≤ 4000) (which peer num : Int) (A : Option Addr) (n cq : Nat) :
    Calls Try.prog 72 #[.pointer (some ⟨P, 0, none⟩), opV 3 which (.slice A n cq) peer num] w (StepEnd base ρ r0 P B false t w) := by
  obtain ⟨c, node, shard, S, W, c1, R, V, c2, ws, ps, qv, rv, Q, av, an, ca, turn, h⟩ := h
  have hbs := h.base_le
  have hb : Below w.heap.size w (w.alloc (.cells #[.int .i64 3, .int .i64 which, .slice A n cq, .int .i64 peer, .int .u64 num] 160)) := (Below.refl _ _).alloc (Nat.le_refl _) _
  have K := Keeps.below (fun _ => False) ρ hb
  have hD := h.keep K (fun _ _ _ => id)
  have F := hf.le K.1
  have hpt := h.pl.tick h.conf node
  have hms := hpt.2 c.N (Nat.le_refl _)
  have hall := h.pl.all
  have hcap := h.conf.hcap
  have hlen := msR_len c node shard ps c.N
  have hN8 := h.conf.hN.2
  have HMS := Lib.hid hms
  have HPT := Lib.hid hpt.1
  have HPS := Lib.hid (show ∀ i, i < c.N → 1 ≤ (ps i).cap ∧ (ps i).cap ≤ 64 ∧ (ps i).n ≤ 4000 ∧ (ps i).turn ≤ 9 from fun i hi => by have := hall i hi; omega)
  have HD := Lib.hid hD
  have HK := Lib.hid K
  have HB := Lib.hid (hb.mono hbs)
  obtain ⟨p0, p1, _, p3, _, _⟩ := hD.cells
  unfold opV
  clear h hD K hb hpt hms hall
  go_enter Try.func72, Try.ntmps72
  go_wp2_with (first | (go_at_call 29; (with_reducible refine (settle_tick _ base r0 S c.N W c1 ρ node shard ws qv Q HD.out.set F).mono ?_); rintro e w2 ⟨v2, ρ2, rfl, hs2, ho2, hr2, hk2, hf2, hb2⟩; obtain ⟨Av2, nv2, cv2, rfl⟩ := OneN.slice ho2; have hO2 := HD.out.obj.keep hk2 (by omega); have p1 := cell_of_obj hO2.1 1; have p3 := cell_of_obj hO2.1 3; simp only [List.getElem?_toArray, List.getElem?_cons_zero, List.getElem?_cons_succ] at p1 p3; have HR2 := Lib.hid (HD.out.ref.keep hk2 (fun r h1 h2 => by omega)); have HS2 := Lib.hid (And.intro hs2 (And.intro ho2 (And.intro hr2 (And.intro hk2 (And.intro hf2 hb2))))); clear hs2 ho2 hr2 hk2 hf2 hb2 p0) | (go_at_call 111; (with_reducible refine (ref_tick13 _ base r0 R V c2 ρ2 c node shard ps rv Q HR2.out HS2.out.2.2.2.2.1 HD.out.conf HPS.out).mono ?_); rintro e w3 ⟨v3, ρ3, rfl, hs3, ho3, hr3, hk3, hf3, hb3⟩; obtain ⟨Av3, nv3, cv3, rfl⟩ := OneN.slice ho3; have hO3 := hO2.keep hk3 (by omega); have p3 := cell_of_obj hO3.1 3; simp only [List.getElem?_toArray, List.getElem?_cons_zero, List.getElem?_cons_succ] at p3; have HS3 := Lib.hid (And.intro hs3 (And.intro ho3 (And.intro hr3 (And.intro hk3 (And.intro hf3 hb3))))); clear hs3 ho3 hr3 hk3 hf3 hb3 p1) | (go_at_call 76; (with_reducible refine (eqMsgs_same _ base base _ _ (msR c node shard ps c.N) (HMS.out ▸ (OneN.keep HS2.out.2.1 HS2.out.2.2.1 HS3.out.2.2.2.1 (by omega)).1) HS3.out.2.1 (by omega)).mono ?_); rintro e w4 ⟨rfl, hb4⟩; have p3 := cellKeep hb4 p3))
  go_ret
  obtain ⟨s2, o2, r2, k2, f2, b2⟩ := HS2.out
  obtain ⟨s3, o3, r3, k3, f3, b3⟩ := HS3.out
  have k4 := Keeps.below (fun _ => False) ρ3 hb4
  have hD := HD.out
  have hA2 := OneN.keep hD.at_ hD.atr k2 (by omega)
  have hA3 := OneN.keep hA2.1 hA2.2 k3 (by omega)
  have hA4 := OneN.keep hA3.1 hA3.2 k4 id
  have hbw3 : base ≤ w3.heap.size := by have := s3.lo; have := lt_of_obj s3.obj.1; omega
  refine ⟨rfl, ρ3, ⟨c, node, shard, S, W, c1, R, V, c2, wsT shard ws c.N, tickP ps c.cp c.N, qv, rv, Q, av, an, ca, turn, ⟨((hD.obj.keep k2 (by omega)).keep k3 (by omega)).keep k4 id, (s2.keep k3 (fun r h1 h2 _ => by omega)).keep k4 (fun _ _ _ _ => id), s3.keep k4 (fun _ _ _ => id), hA4.1, hA4.2, HPT.out, hD.conf, hD.q, by have := hD.tn; omega, hD.lo⟩⟩,
    (((HK.out.mono (fun _ hr => hr.elim)).trans (k2.mono (fun r hr => by omega))).trans (k3.mono (fun r hr => by omega))).trans (k4.mono (fun _ hr => hr.elim)), f3.le k4.1, ((HB.out.trans b2).trans b3).trans (hb4.mono hbw3)⟩
set_option maxRecDepth 100000 in
set_option maxHeartbeats 4000000 in
theorem plays_wants (w : World) (base r0 P B : Nat) (ρ : Nat → Nat) (mark : Bool) (t : Nat) (h : PlayAt w base ρ r0 P B mark t) (hf : Free w ρ) (which peer num : Int) (A : Option Addr) (n cq : Nat) :
    Calls Try.prog 72 #[.pointer (some ⟨P, 0, none⟩), opV 4 which (.slice A n cq) peer num] w (StepEnd base ρ r0 P B mark t w) := by
  obtain ⟨c, node, shard, S, W, c1, R, V, c2, ws, ps, qv, rv, Q, av, an, ca, turn, h⟩ := h
  have hbs := h.base_le
  have hb : Below w.heap.size w (w.alloc (.cells #[.int .i64 4, .int .i64 which, .slice A n cq, .int .i64 peer, .int .u64 num] 160)) := (Below.refl _ _).alloc (Nat.le_refl _) _
  have K := Keeps.below (fun _ => False) ρ hb
  have hD := h.keep K (fun _ _ _ => id)
  have F := hf.le K.1
  have HK := Lib.hid K
  have HB := Lib.hid (hb.mono hbs)
  obtain ⟨p0, p1, _, _, _, _⟩ := hD.cells
  have x3 : (w.alloc (.cells #[.int .i64 4, .int .i64 which, .slice A n cq, .int .i64 peer, .int .u64 num] 160)).cell? ⟨w.heap.size, 3, none⟩ = some (.int .i64 peer) := cell_of_obj (heap_alloc_new w _) 3
  have x4 : (w.alloc (.cells #[.int .i64 4, .int .i64 which, .slice A n cq, .int .i64 peer, .int .u64 num] 160)).cell? ⟨w.heap.size, 4, none⟩ = some (.int .u64 num) := cell_of_obj (heap_alloc_new w _) 4
  have hbase1 := hD.base_le
  unfold opV
  clear h K hb
  go_enter Try.func72, Try.ntmps72
  go_wp2
  generalize w.alloc (.cells #[.int .i64 4, .int .i64 which, .slice A n cq, .int .i64 peer, .int .u64 num] 160) = w1 at hD F HK HB p0 p1 x3 x4 hbase1 ⊢
  have HD := Lib.hid hD
  obtain ⟨bv, hbv⟩ : ∃ bv, wantsV c.N shard Q peer num = bv := ⟨_, rfl⟩
  have hW1 := fun w' (hb' : Below w1.heap.size w1 w') => settle_wants_any w' base r0 S c.N W c1 peer num ρ node shard ws qv Q (HD.out.set.keep (Keeps.below (fun _ => False) ρ hb') (fun _ _ _ _ => id)) HD.out.q
  have hW2 := fun w' (hb' : Below w1.heap.size w1 w') => ref_wants w' base r0 R V c2 ρ c node shard peer num ps rv Q (HD.out.ref.below hb') HD.out.q
  rw [hbv] at hW1 hW2
  have HW1 := Lib.hid hW1
  have HW2 := Lib.hid hW2
  have hfin : ∀ W', Below w1.heap.size w1 W' → ∃ ρ', PlayAt W' base ρ' r0 P B mark (t + 1) ∧ Keeps (fun r => r0 + 1 ≤ r ∧ r < r0 + 64) w ρ W' ρ' ∧ Free W' ρ' ∧ Below base w W' := fun W' hbx => by
    have hD := HD.out.keep (Keeps.below (fun _ => False) ρ hbx) (fun _ _ _ => id)
    exact ⟨ρ, ⟨c, node, shard, S, W, c1, R, V, c2, ws, ps, qv, rv, Q, av, an, ca, turn, ⟨hD.obj, hD.set, hD.ref, hD.at_, hD.atr, hD.pl.later, hD.conf, hD.q, by have := hD.tn; omega, hD.lo⟩⟩, (HK.out.mono (fun _ hr => hr.elim)).trans ((Keeps.below (fun _ => False) ρ hbx).mono (fun _ hr => hr.elim)), F.le (Below.size hbx), HB.out.trans (hbx.mono hbase1)⟩
  have HF := Lib.hid hfin
  clear hD hW1 hW2 hbv hfin
  go_region_held3 (fun w' => w'.cell? ⟨P, 0, none⟩ = some (.pointer (some ⟨S, 0, none⟩)) ∧ w'.cell? ⟨P, 1, none⟩ = some (.pointer (some ⟨R, 0, none⟩)) ∧ w'.cell? ⟨w.heap.size, 3, none⟩ = some (.int .i64 peer) ∧ w'.cell? ⟨w.heap.size, 4, none⟩ = some (.int .u64 num) ∧ Below w1.heap.size w1 w')
    (first | exact ⟨p0, p1, x3, x4, (Below.refl _ _).drew⟩ | (go_split_ands; exact ⟨by assumption, by assumption, by assumption, by assumption, by assumption⟩) | (go_split_ands; exact ⟨cellKeep hb5 p0, cellKeep hb5 p1, cellKeep hb5 x3, cellKeep hb5 x4, hb5⟩))
    ((first | (go_at_call 34; go_split_ands; (with_reducible refine (HW1.out _ (by assumption)).mono ?_); rintro e w5 ⟨rfl, hb5a⟩; have hb5 : Below w1.heap.size w1 w5 := Below.trans (by assumption) (hb5a.mono (Below.size (by assumption)))) | (go_at_call 113; go_split_ands; (with_reducible refine (HW2.out _ (by assumption)).mono ?_); rintro e w6 ⟨rfl, rfl⟩)))
  all_goals
    go_wp2
    go_ret
    go_split_ands
    exact ⟨by simp, HF.out _ (by assumption)⟩
end Go.Proofs.Ytbgojhjlmlbfpaa
