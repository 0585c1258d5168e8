/- settle.Settle: Tick whole. -/
import Derived.Test.YtbgojhjlmlbfpaaSeD
namespace Go.Proofs.Ytbgojhjlmlbfpaa
open Go.RowKit

set_option maxRecDepth 100000 in
set_option maxHeartbeats 1000000 in
theorem tick1_wait (w : World) (base r0 S N W cap i b1 b2 : Nat) (ρ : Nat → Nat) (node shard : Int) (ws : Nat → Way) (qv : Value) (Q : List Ent) (ms : List SMsg) (h : TickAt w base ρ r0 S node shard N ws (.slice (some ⟨W, 0, none⟩) N cap) qv Q b1 b2 ms)
    (hi : i < N) (hth : (ws i).there = true) (hl1 : ¬ (ws i).l ≤ 1) :
    Calls Try.prog 61 #[.int .i64 (i : Nat), .pointer (some ⟨W, i * 8, none⟩), .pointer (some ⟨b1, 0, none⟩), .pointer (some ⟨b2, 0, none⟩)] w fun e w' => e = .returned (.tuple #[]) ∧
      ∃ ρ', TickAt w' base ρ' r0 S node shard N (updW ws i (ws i).tick) (.slice (some ⟨W, 0, none⟩) N cap) qv Q b1 b2 ms ∧ Keeps (fun r => r0 + 1 ≤ r ∧ r < r0 + 28) w ρ w' ρ' ∧ Below base w w' := by
  have hfit := h.set.num.2.2 i hi
  have hc7 := h.set.way i 7 hi (by omega)
  have hc0 := h.set.way i 0 hi (by omega)
  have hpace := (h.set.pace i hi).1
  have hT := tick_any _ _ _ _ w hpace hfit.l1.2 hfit.g1.1 hfit.g1.2 hfit.c1.1 hfit.c1.2
  have hB : tickB (ws i).l = false := by simp [tickB]; omega
  rw [hB] at hT
  simp only [Way.cell] at hc7 hc0
  rw [Nat.add_zero] at hc0
  rw [hth] at hc7
  have hl2 : 0 ≤ tickL (ws i).l (ws i).g ∧ tickL (ws i).l (ws i).g ≤ 64 := by
    unfold tickL; rw [if_neg hl1]; have := hfit.l1; omega
  have hg2 : 1 ≤ tickG (ws i).c (ws i).l (ws i).g ∧ tickG (ws i).c (ws i).l (ws i).g ≤ 64 := by
    unfold tickG; rw [if_neg hl1]; have := hfit.g1; omega
  have hy : (ws i).tick = { ws i with l := tickL (ws i).l (ws i).g, g := tickG (ws i).c (ws i).l (ws i).g } := by
    unfold Way.tick
    rw [if_pos hth, if_neg hl1]
  have H := Lib.hid h
  have HT := Lib.hid hT
  have HY := Lib.hid hy
  clear hT hpace h hy
  go_enter Try.func61, Try.ntmps61
  go_wp2_with (go_at_call 62; (with_reducible refine (HT.out).mono ?_); rintro e w1 ⟨rfl, ht1⟩)
  refine bodyPost_ret (results_none rfl _ _ _) rfl ?_
  obtain ⟨s1, K1, L1, z1⟩ := H.out.set.turn hi ht1 hl2 hg2
  have F1 := H.out.free.le (Nat.le_of_eq z1.symm)
  have t1 := H.out.sets s1 K1 F1 (fun r h1 h2 => by omega)
  have hN8 := H.out.set.num.2.1
  rw [HY.out]
  exact ⟨rfl, ρ, t1, K1.mono (fun r hr => by omega), L1⟩
set_option maxRecDepth 100000 in
set_option maxHeartbeats 1000000 in
theorem tick1_none (w : World) (base r0 S N W cap i b1 b2 : Nat) (ρ : Nat → Nat) (node shard : Int) (ws : Nat → Way) (qv : Value) (Q : List Ent) (ms : List SMsg) (h : TickAt w base ρ r0 S node shard N ws (.slice (some ⟨W, 0, none⟩) N cap) qv Q b1 b2 ms)
    (hi : i < N) (hth : (ws i).there = false) :
    Calls Try.prog 61 #[.int .i64 (i : Nat), .pointer (some ⟨W, i * 8, none⟩), .pointer (some ⟨b1, 0, none⟩), .pointer (some ⟨b2, 0, none⟩)] w fun e w' => e = .returned (.tuple #[]) ∧ w = w' := by
  have hc7 := h.set.way i 7 hi (by omega)
  simp only [Way.cell] at hc7
  rw [hth] at hc7
  clear h
  go_enter Try.func61, Try.ntmps61
  go_wp2
  refine bodyPost_ret (results_none rfl _ _ _) rfl ?_
  exact ⟨rfl, rfl⟩

/-- The ways behind i of a tick's peers; the messages of these. -/
def wsT (shard : Int) (ws : Nat → Way) (i : Nat) : Nat → Way := fun j => if j < i ∧ (j : Int) ≠ shard then (ws j).tick else ws j
def msT (node shard : Int) (ws : Nat → Way) : Nat → List SMsg
  | 0 => []
  | i + 1 => if (i : Int) ≠ shard ∧ (ws i).fires = true then msT node shard ws i ++ [msgOf node shard i (ws i)] else msT node shard ws i
theorem msT_len (node shard : Int) (ws : Nat → Way) : ∀ i, (msT node shard ws i).length ≤ i
  | 0 => by simp [msT]
  | i + 1 => by
    have := msT_len node shard ws i
    unfold msT
    split <;> simp <;> omega
theorem wsT_at (shard : Int) (ws : Nat → Way) (i : Nat) : wsT shard ws i i = ws i := if_neg (by omega)
theorem wsT_next (shard : Int) (ws : Nat → Way) (i : Nat) (hi : (i : Int) ≠ shard) : updW (wsT shard ws i) i ((wsT shard ws i) i).tick = wsT shard ws (i + 1) := by
  funext k
  rw [wsT_at]
  unfold updW wsT
  by_cases hk : k = i
  · subst hk
    rw [if_pos rfl, if_pos ⟨by omega, hi⟩]
  · rw [if_neg hk]
    by_cases hlt : k < i ∧ (k : Int) ≠ shard
    · rw [if_pos hlt, if_pos ⟨by omega, hlt.2⟩]
    · rw [if_neg hlt, if_neg (fun h => hlt ⟨by omega, h.2⟩)]
theorem wsT_skip (shard : Int) (ws : Nat → Way) (i : Nat) (hi : (i : Int) = shard) : wsT shard ws i = wsT shard ws (i + 1) := by
  funext k
  unfold wsT
  by_cases hlt : k < i ∧ (k : Int) ≠ shard
  · rw [if_pos hlt, if_pos ⟨by omega, hlt.2⟩]
  · rw [if_neg hlt, if_neg (fun h => hlt ⟨by have h1 := h.1; have h2 := h.2; omega, h.2⟩)]
theorem tick_idle (y : Way) (h : y.there = false) : y.tick = y := by
  unfold Way.tick
  rw [if_neg (by simp [h])]
def TickI (w : World) (base : Nat) (ρ : Nat → Nat) (r0 S : Nat) (node shard : Int) (N : Nat) (ws : Nat → Way) (wv qv : Value) (Q : List Ent) (b1 b2 i : Nat) (wr : World) : Prop :=
  ∃ ρ', TickAt wr base ρ' r0 S node shard N (wsT shard ws i) wv qv Q b1 b2 (msT node shard ws i) ∧ Keeps (fun r => r0 + 1 ≤ r ∧ r < r0 + 28) w ρ wr ρ' ∧ Below base w wr
theorem tickI_step (w : World) (base r0 S N W cap i b1 b2 : Nat) (ρ : Nat → Nat) (node shard : Int) (ws : Nat → Way) (qv : Value) (Q : List Ent) (wr : World) (h : TickI w base ρ r0 S node shard N ws (.slice (some ⟨W, 0, none⟩) N cap) qv Q b1 b2 i wr) (hi : i < N) (his : (i : Int) ≠ shard) (hN : N ≤ 8) :
    Calls Try.prog 61 #[.int .i64 (i : Nat), .pointer (some ⟨W, i * 8, none⟩), .pointer (some ⟨b1, 0, none⟩), .pointer (some ⟨b2, 0, none⟩)] wr fun e w' => e = .returned (.tuple #[]) ∧ TickI w base ρ r0 S node shard N ws (.slice (some ⟨W, 0, none⟩) N cap) qv Q b1 b2 (i + 1) w' := by
  obtain ⟨ρ', ht, hK, hB⟩ := h
  have hlen := msT_len node shard ws i
  have hat := wsT_at shard ws i
  have hnx := wsT_next shard ws i his
  cases hth : (ws i).there with
  | false =>
    refine (tick1_none wr base r0 S N W cap i b1 b2 ρ' node shard _ qv Q _ ht hi (by rw [hat]; exact hth)).mono ?_
    rintro e w' ⟨rfl, rfl⟩
    have e1 : wsT shard ws (i + 1) = wsT shard ws i := by
      rw [← hnx, hat, tick_idle _ hth]
      funext k
      unfold updW
      split
      · rename_i e; rw [e, hat]
      · rfl
    have e2 : msT node shard ws (i + 1) = msT node shard ws i := by
      simp only [msT]
      rw [if_neg (fun h => by have := h.2; simp [Way.fires, hth] at this)]
    exact ⟨rfl, ρ', by rw [e1, e2]; exact ht, hK, hB⟩
  | true =>
    by_cases hl : (ws i).l ≤ 1
    · refine (tick1_fire wr base r0 S N W cap i b1 b2 ρ' node shard _ qv Q _ ht hi (by rw [hat]; exact hth) (by rw [hat]; exact hl) (by omega)).mono ?_
      rintro e w' ⟨rfl, ρ2, t2, K2, L2⟩
      rw [hnx, hat] at t2
      have e2 : msT node shard ws (i + 1) = msT node shard ws i ++ [msgOf node shard i (ws i)] := by
        simp only [msT]
        rw [if_pos ⟨his, by simp [Way.fires, hth, hl]⟩]
      exact ⟨rfl, ρ2, by rw [e2]; exact t2, hK.trans K2, hB.trans L2⟩
    · refine (tick1_wait wr base r0 S N W cap i b1 b2 ρ' node shard _ qv Q _ ht hi (by rw [hat]; exact hth) (by rw [hat]; exact hl)).mono ?_
      rintro e w' ⟨rfl, ρ2, t2, K2, L2⟩
      rw [hnx] at t2
      have e2 : msT node shard ws (i + 1) = msT node shard ws i := by
        simp only [msT]
        rw [if_neg (fun h => by have := h.2; simp [Way.fires, hth] at this; exact hl this)]
      exact ⟨rfl, ρ2, by rw [e2]; exact t2, hK.trans K2, hB.trans L2⟩
theorem tickI_skip (w : World) (base r0 S N i b1 b2 : Nat) (ρ : Nat → Nat) (node shard : Int) (ws : Nat → Way) (wv qv : Value) (Q : List Ent) (wr : World) (h : TickI w base ρ r0 S node shard N ws wv qv Q b1 b2 i wr) (his : (i : Int) = shard) : TickI w base ρ r0 S node shard N ws wv qv Q b1 b2 (i + 1) wr := by
  obtain ⟨ρ', ht, hK, hB⟩ := h
  have e2 : msT node shard ws (i + 1) = msT node shard ws i := by
    simp only [msT]
    rw [if_neg (fun h => h.1 his)]
  exact ⟨ρ', by rw [← wsT_skip shard ws i his, e2]; exact ht, hK, hB⟩

set_option maxRecDepth 100000 in
set_option maxHeartbeats 1000000 in
theorem settle_tick (w : World) (base r0 S N W cap : Nat) (ρ : Nat → Nat) (node shard : Int) (ws : Nat → Way) (qv : Value) (Q : List Ent) (h : SetAt w base ρ r0 S node shard N ws (.slice (some ⟨W, 0, none⟩) N cap) qv Q) (hf : Free w ρ) :
    Calls Try.prog 29 #[.pointer (some ⟨S, 0, none⟩)] w fun e w' => ∃ v ρ', e = .returned v ∧ SetAt w' base ρ' r0 S node shard N (wsT shard ws N) (.slice (some ⟨W, 0, none⟩) N cap) qv Q ∧
      One w' base 102 22 v (msT node shard ws N).length (cM (msT node shard ws N)) ∧ (∀ g, v.ownBlock = some g → ρ' g = r0 + 7) ∧ Keeps (fun r => r0 + 1 ≤ r ∧ r < r0 + 28) w ρ w' ρ' ∧ Free w' ρ' ∧ Below base w w' := by
  have hN := h.num.2.1
  have hbase : base ≤ w.heap.size := by have := h.lo.1; have := lt_of_obj h.obj.1; omega
  -- the two boxes
  have hb : Below w.heap.size w ((w.alloc (.cells #[.pointer (some ⟨S, 0, none⟩)] 83)).alloc (.cells #[.slice none 0 0] 85)) := ((Below.refl _ _).alloc (Nat.le_refl _) _).alloc (by simp) _
  have hK : Keeps (fun _ => False) w ρ ((w.alloc (.cells #[.pointer (some ⟨S, 0, none⟩)] 83)).alloc (.cells #[.slice none 0 0] 85)) (lab (lab ρ w.heap.size (r0 + 5)) (w.heap.size + 1) (r0 + 6)) :=
    ⟨hb.size, fun k hk => ⟨by rw [lab_ne (by omega), lab_ne (by omega)], fun _ => hb.block k hk⟩⟩
  have hz : ((w.alloc (.cells #[.pointer (some ⟨S, 0, none⟩)] 83)).alloc (.cells #[.slice none 0 0] 85)).heap.size = w.heap.size + 2 := by simp
  have ho1 : ((w.alloc (.cells #[.pointer (some ⟨S, 0, none⟩)] 83)).alloc (.cells #[.slice none 0 0] 85)).heap[w.heap.size]? = some (.cells #[.pointer (some ⟨S, 0, none⟩)] 83 (0, 0)) := by
    rw [Below.heap_alloc _ _ _ (by simp)]; exact heap_alloc_new w _
  have ho2 : ((w.alloc (.cells #[.pointer (some ⟨S, 0, none⟩)] 83)).alloc (.cells #[.slice none 0 0] 85)).heap[w.heap.size + 1]? = some (.cells #[.slice none 0 0] 85 (0, 0)) := by
    have e := heap_alloc_new (w.alloc (.cells #[.pointer (some ⟨S, 0, none⟩)] 83)) (.cells #[.slice none 0 0] 85)
    rw [World.size_alloc] at e
    exact e
  have hT : TickI w base ρ r0 S node shard N ws (.slice (some ⟨W, 0, none⟩) N cap) qv Q w.heap.size (w.heap.size + 1) 0 ((w.alloc (.cells #[.pointer (some ⟨S, 0, none⟩)] 83)).alloc (.cells #[.slice none 0 0] 85)) := by
    refine ⟨_, ⟨?_, ⟨ho1, by rw [lab_ne (by omega), lab_eq]⟩, ⟨.slice none 0 0, ⟨ho2, lab_eq⟩, .inl ⟨rfl, rfl⟩, fun g hg => by simp [Value.ownBlock] at hg⟩, fun k hk => ?_, hbase, by omega⟩, hK.mono (fun _ hr => hr.elim), hb.mono hbase⟩
    · have e : wsT shard ws 0 = ws := by funext k; unfold wsT; rw [if_neg (by omega)]
      rw [e]
      exact h.keep hK (fun _ _ _ _ => id)
    · rw [lab_ne (by omega), lab_ne (by omega)]
      exact hf k (by omega)
  have hE := each_tick _ S W N cap shard (.pointer (some ⟨w.heap.size, 0, none⟩)) (.pointer (some ⟨w.heap.size + 1, 0, none⟩)) (TickI w base ρ r0 S node shard N ws (.slice (some ⟨W, 0, none⟩) N cap) qv Q w.heap.size (w.heap.size + 1)) hN
    (fun i wr hI => by obtain ⟨ρ', ht, _⟩ := hI; exact ht.set.each) (fun i wr hI hi his => tickI_step w base r0 S N W cap i _ _ ρ node shard ws qv Q wr hI hi his hN) (fun i wr hI his => tickI_skip w base r0 S N i _ _ ρ node shard ws _ qv Q wr hI his) hT
  have hc1 := cell_of_obj ho1 0
  simp at hc1
  have HE := Lib.hid hE
  clear hE hT ho1 ho2 hK hb hz
  have hmf : ∀ (fn : Fn) (first cap : Array Value) (w : World), (Instr.makeFunc fn first cap).run Try.prog w = .ok (.func fn first cap) w := fun _ _ _ _ => rfl
  go_enter Try.func29, Try.ntmps29
  go_wp2_with (go_at_call 60; (with_reducible refine (HE.out).mono ?_); rintro e w5 ⟨rfl, hI5⟩; have hI5' := hI5; obtain ⟨ρ5, t5, K5, L5⟩ := hI5'; obtain ⟨lv, l1, l2, l3⟩ := t5.o2; have y5 := cell_of_obj l1.1 0; simp at y5)
  go_ret
  exact ⟨lv, ρ5, rfl, t5.set, l2, l3, K5, t5.free, L5⟩
end Go.Proofs.Ytbgojhjlmlbfpaa
