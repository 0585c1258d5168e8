/- tallyref13's Tick. -/
import Derived.Test.YtbgojhjlmlbfpaaSfF
import Derived.Test.YtbgojhjlmlbfpaaSeE
import Derived.Test.YtbgojhjlmlbfpaaPlN
import Derived.OrdersHeld
namespace Go.Proofs.Ytbgojhjlmlbfpaa
open Go.RowKit

def RP.fires (y : RP) : Bool := y.there && decide (sA y.cap y.n ≤ (y.n : Int) + 1)
def RP.tick (y : RP) (ln : Nat) : RP :=
  if y.there = true then (if sA y.cap y.n ≤ (y.n : Int) + 1 then { y with n := y.n + 1, turn := (y.turn + 1) % ln } else { y with n := y.n + 1 }) else y
def rmsg (node shard : Int) (L : List Int) (i : Nat) (y : RP) : SMsg := ⟨node, L.getD (y.turn % L.length) 0, shard, i, y.e.num, y.e.name, y.e.amt⟩
def tickP (ps : Nat → RP) (ln i : Nat) : Nat → RP := fun j => if j < i then (ps j).tick ln else ps j
def msR (c : Conf) (node shard : Int) (ps : Nat → RP) : Nat → List SMsg
  | 0 => []
  | i + 1 => if (ps i).fires = true then msR c node shard ps i ++ [rmsg node shard (copiesL i c.n c.cp) i (ps i)] else msR c node shard ps i
theorem msR_len (c : Conf) (node shard : Int) (ps : Nat → RP) : ∀ i, (msR c node shard ps i).length ≤ i
  | 0 => by simp [msR]
  | i + 1 => by
    have := msR_len c node shard ps i
    unfold msR
    split <;> simp <;> omega
theorem tickP_zero (ps : Nat → RP) (ln : Nat) : tickP ps ln 0 = ps := by funext j; exact if_neg (by omega)
theorem tickP_at (ps : Nat → RP) (ln i : Nat) : tickP ps ln i i = ps i := if_neg (by omega)
theorem tickP_next (ps : Nat → RP) (ln i : Nat) : updP (tickP ps ln i) i ((ps i).tick ln) = tickP ps ln (i + 1) := by
  funext j
  by_cases h : j = i
  · subst h
    rw [updP_eq]
    unfold tickP
    rw [if_pos (by omega)]
  · rw [updP_ne h]
    unfold tickP
    by_cases h2 : j < i
    · rw [if_pos h2, if_pos (by omega)]
    · rw [if_neg h2, if_neg (by omega)]
def RTickRel (w : World) (base : Nat) (ρ : Nat → Nat) (r0 R : Nat) (c : Conf) (node shard : Int) (ps : Nat → RP) (W cap : Nat) (qv : Value) (Q : List Ent) (lv iv : Value) (wr : World) : Prop :=
  ∃ (i : Nat) (ρ' : Nat → Nat), iv = .int .i64 i ∧ i ≤ c.N ∧ RSet wr base ρ' r0 R c node shard (tickP ps c.cp i) (.slice (some ⟨W, 0, none⟩) c.N cap) qv Q ∧ One wr base 102 22 lv (msR c node shard ps i).length (cM (msR c node shard ps i)) ∧ (∀ g, lv.ownBlock = some g → ρ' g = r0 + 35) ∧
    Keeps (fun r => r0 + 31 ≤ r ∧ r ≤ r0 + 35) w ρ wr ρ' ∧ Free wr ρ' ∧ Below base w wr
theorem head_build (frm to shard : Int) : Try.prog.built 94 [(0, .int .i64 8), (1, .int .i64 frm), (2, .int .i64 to), (3, .int .i64 shard)] = some #[.int .i64 8, .int .i64 frm, .int .i64 to, .int .i64 shard] := by kernel_rfl
/-- A pace's tick at its place: what becomes of the Settle. -/
theorem RSet.ticked {w w2 : World} {base r0 R W cap i a b : Nat} {ρ : Nat → Nat} {c : Conf} {node shard : Int} {ps : Nat → RP} {qv : Value} {Q : List Ent} (h : RSet w base ρ r0 R c node shard ps (.slice (some ⟨W, 0, none⟩) c.N cap) qv Q)
    (hw : ((w.drewN a).setCell ⟨W, i * 8 + 1, none⟩ (.int .i64 (((ps i).n : Int) + 1))).drewN b = w2) :
    RSet w2 base ρ r0 R c node shard (updP ps i { ps i with n := (ps i).n + 1 }) (.slice (some ⟨W, 0, none⟩) c.N cap) qv Q ∧ Keeps (fun r => r = r0 + 32) w ρ w2 ρ ∧ Below base w w2 ∧ w2.heap.size = w.heap.size := by
  subst hw
  have hb1 : Below w.heap.size w (w.drewN a) := below_drewN (Below.refl _ _) a
  obtain ⟨s, K, L, z⟩ := (h.below hb1).put (i := i) (j := 1) (v := .int .i64 (((ps i).n : Int) + 1)) (by omega) { ps i with n := (ps i).n + 1 } (cells8 rfl (by show Value.int .i64 _ = _; simp) rfl rfl rfl rfl rfl rfl)
  have hb2 : Below ((w.drewN a).setCell ⟨W, i * 8 + 1, none⟩ (.int .i64 (((ps i).n : Int) + 1))).heap.size ((w.drewN a).setCell ⟨W, i * 8 + 1, none⟩ (.int .i64 (((ps i).n : Int) + 1))) (((w.drewN a).setCell ⟨W, i * 8 + 1, none⟩ (.int .i64 (((ps i).n : Int) + 1))).drewN b) := below_drewN (Below.refl _ _) b
  have hbase : base ≤ w.heap.size := by have := h.lo; have := lt_of_obj h.obj.1; omega
  refine ⟨s.below hb2, ((Keeps.below _ ρ hb1).trans K).trans (Keeps.below _ ρ hb2), (below_drewN (Below.refl _ _) a).trans (L.trans (below_drewN (Below.refl _ _) b)), z⟩
set_option maxRecDepth 100000 in
set_option maxHeartbeats 16000000 in
theorem ref_tick13 (w : World) (base r0 R W cap : Nat) (ρ : Nat → Nat) (c : Conf) (node shard : Int) (ps : Nat → RP) (qv : Value) (Q : List Ent) (h : RSet w base ρ r0 R c node shard ps (.slice (some ⟨W, 0, none⟩) c.N cap) qv Q) (hf : Free w ρ) (hc : ConfOk c.n c.N c.cp c.cap)
    (hps : ∀ i, i < c.N → 1 ≤ (ps i).cap ∧ (ps i).cap ≤ 64 ∧ (ps i).n ≤ 4000 ∧ (ps i).turn ≤ 9) :
    Calls Try.prog 111 #[.pointer (some ⟨R, 0, none⟩)] w fun e w' => ∃ v ρ', e = .returned v ∧ RSet w' base ρ' r0 R c node shard (tickP ps c.cp c.N) (.slice (some ⟨W, 0, none⟩) c.N cap) qv Q ∧
      One w' base 102 22 v (msR c node shard ps c.N).length (cM (msR c node shard ps c.N)) ∧ (∀ g, v.ownBlock = some g → ρ' g = r0 + 35) ∧ Keeps (fun r => r0 + 31 ≤ r ∧ r ≤ r0 + 35) w ρ w' ρ' ∧ Free w' ρ' ∧ Below base w w' := by
  obtain ⟨k0, hkk, kz0, kz1, kz2⟩ := info_parts msg_info
  have hfill : ∀ m : SMsg, Instr.fill (fun i => some (i * k0.size, k0.size)) ((Array.range (1 * k0.size)).map (msgZero.cells[· % msgZero.cells.size]!)) [(0, .agg m.cells)] = some m.cells := by
    rw [kz1]
    exact msg_fill
  have HPS := Lib.hid hps
  have hN8 : c.N ≤ 8 := h.num.2
  clear hps
  go_enter Try.func111, Try.ntmps111
  go_wp2_with fail
  go_loopw [3, 4] (fun lv iv wr => RTickRel w base ρ r0 R c node shard ps W cap qv Q lv iv wr) (fun _ iv _ => (c.N - intOf iv).toNat)
  case atStart => exact ⟨0, ρ, rfl, Nat.zero_le _, by rw [tickP_zero]; exact h, .inl ⟨rfl, rfl⟩, nil_own _ _, Keeps.refl _ _ _, hf, Below.refl _ _⟩
  case round =>
    clear h hf
    obtain ⟨i, ρ1, rfl, hi, hS, hL, hLr, hK, hF, hB⟩ := hrel
    obtain ⟨Al, nl, cl, rfl⟩ := OneN.slice hL
    have c11 : wr.cell? ⟨R, 11, none⟩ = some (.slice (some ⟨W, 0, none⟩) c.N cap) := hS.cell 11 (by omega)
    by_cases hlt : i < c.N
    · obtain ⟨y, hy⟩ : ∃ y, ps i = y := ⟨_, rfl⟩
      have hyt : tickP ps c.cp i i = y := by rw [tickP_at, hy]
      obtain ⟨p1, p2, p3, p4⟩ := HPS.out i hlt
      rw [hy] at p1 p2 p3 p4
      have y7 : wr.cell? ⟨W, i * 8 + 7, none⟩ = some (.bool y.there) := hyt ▸ hS.peer i 7 hlt (by omega)
      have y0 : wr.cell? ⟨W, i * 8, none⟩ = some (.int .i64 y.cap) := hyt ▸ hS.peer i 0 hlt (by omega)
      have y1 : wr.cell? ⟨W, i * 8 + 1, none⟩ = some (.int .i64 (y.n : Nat)) := hyt ▸ hS.peer i 1 hlt (by omega)
      have f1 := hS.free (i * 8 + 1)
      have q1 : (i : Int) < (c.N : Int) := by omega
      have hnx := tickP_next ps c.cp i
      have hms : msR c node shard ps (i + 1) = if y.fires = true then msR c node shard ps i ++ [rmsg node shard (copiesL i c.n c.cp) i y] else msR c node shard ps i := by rw [← hy]; rfl
      rw [hy] at hnx
      have HNX := Lib.hid hnx
      have HMS := Lib.hid hms
      clear hnx hms
      cases hth : y.there with
      | false =>
        rw [hth] at y7
        go_wp2_with fail
        refine ⟨⟨i + 1, ρ1, by go_num, by omega, ?_, ?_, hLr, hK, hF, hB⟩, by simp [intOf]; omega⟩
        · rw [← HNX.out]
          have e : y.tick c.cp = y := by unfold RP.tick; rw [hth, if_neg (by decide)]
          rw [e, ← hyt, updP_self]
          exact hS
        · have e : y.fires = false := by unfold RP.fires; rw [hth]; rfl
          rw [HMS.out, e, if_neg (by decide)]
          exact hL
      | true =>
        rw [hth] at y7
        have hT := Lib.hid (refTick_at W (i * 8) y.cap y.n wr y0 y1 f1 p1 p2 p3)
        have HS := Lib.hid hS
        by_cases hfi : sA y.cap y.n ≤ (y.n : Int) + 1
        · have hd := Lib.hid (decide_eq_true hfi)
          have HFI := Lib.hid hfi
          clear y0 y1
          go_wp2_with (go_at_call 132; (with_reducible refine hT.out.mono ?_); rintro e w2 ⟨rfl, ia, ib, hw2⟩; rw [hd.out]; have HW2 := Lib.hid hw2; clear hw2)
          have hw2 := HW2.out
          rw [← hyt] at hw2
          obtain ⟨s2, K2, L2, z2⟩ := HS.out.ticked hw2
          have hLk := OneN.keep hL hLr K2 (by omega)
          obtain ⟨hL2, hLr2⟩ := hLk
          rw [hyt] at s2
          have F2 := hF.le (Nat.le_of_eq z2.symm)
          have K02 := hK.trans (K2.mono (R' := fun r => r0 + 31 ≤ r ∧ r ≤ r0 + 35) (fun r hr => by omega))
          have L02 := hB.trans L2
          have u0 : w2.cell? ⟨R, 0, none⟩ = some (.int .i64 (c.n : Nat)) := s2.cell 0 (by omega)
          have u2 : w2.cell? ⟨R, 2, none⟩ = some (.int .i64 (c.cp : Nat)) := s2.cell 2 (by omega)
          have S2 := Lib.hid s2
          have HL2 := Lib.hid hL2
          have HCP := Lib.hid (fun W' => refCopies_ok i c.n c.cp W' hc.hn.1 hc.hn.2 hc.hcp.1 hc.hcp.2.1 hc.hcp.2.2.1 hc.hcp.2.2.2 (by omega))
          have hbw2 : base ≤ w2.heap.size := by have := s2.lo; have := lt_of_obj s2.obj.1; omega
          clear hw2 hS hL hK hF hB K2 L2 s2 y7 f1 c11 hfi
          refine wp_region_held_drew (S := fun w' => w'.cell? ⟨R, 0, none⟩ = some (.int .i64 (c.n : Nat)) ∧ w'.cell? ⟨R, 2, none⟩ = some (.int .i64 (c.cp : Nat)) ∧ Below w2.heap.size w2 w') (by kernel_rfl) ⟨u0, u2, (Below.refl _ _).drew⟩ (fun hHeld => ?_)
          refine wpAnyH_take (i := 0) (v := ?_) rfl (by kernel_rfl) (by kernel_rfl) (by kernel_rfl) (fun _ _ _ h => h) (Or.inl ⟨by rfl, fun w hSw => ?_⟩) hHeld ?_
          rotate_left
          · (try dsimp only at hSw); go_split_ands; go_simp <;> with_reducible rfl
          (try simp only [Act.put, List.getElem_toArray, List.getElem_cons_zero, List.setIfInBounds_toArray, List.set_cons_zero, List.set_cons_succ])
          refine wpAnyH_take (i := 1) (v := ?_) rfl (by kernel_rfl) (by kernel_rfl) (by kernel_rfl) (fun _ _ _ h => h) (Or.inl ⟨by rfl, fun w hSw => ?_⟩) hHeld ?_
          rotate_left
          · (try dsimp only at hSw); go_split_ands; go_simp <;> with_reducible rfl
          (try simp only [Act.put, List.getElem_toArray, List.getElem_cons_succ, List.getElem_cons_zero, List.setIfInBounds_toArray, List.set_cons_zero, List.set_cons_succ])
          refine wpAnyH_take (i := 2) (v := ?_) rfl (by kernel_rfl) (by kernel_rfl) (by kernel_rfl) (fun _ _ _ h => h) (Or.inl ⟨by rfl, fun w hSw => ?_⟩) hHeld ?_
          rotate_left
          · (try dsimp only at hSw); go_split_ands; go_simp <;> with_reducible rfl
          (try simp only [Act.put, List.getElem_toArray, List.getElem_cons_succ, List.getElem_cons_zero, List.setIfInBounds_toArray, List.set_cons_zero, List.set_cons_succ])
          refine wpAnyH_take (i := 3) (v := ?_) rfl (by kernel_rfl) (by kernel_rfl) (by kernel_rfl) (fun _ _ _ h => h) (Or.inl ⟨by rfl, fun w hSw => ?_⟩) hHeld ?_
          rotate_left
          · (try dsimp only at hSw); go_split_ands; go_simp <;> with_reducible rfl
          (try simp only [Act.put, List.getElem_toArray, List.getElem_cons_succ, List.getElem_cons_zero, List.setIfInBounds_toArray, List.set_cons_zero, List.set_cons_succ])
          refine wpAnyH_take (i := 4) (v := ?_) rfl (by kernel_rfl) (by kernel_rfl) (by kernel_rfl) (fun _ _ _ h => h) (Or.inl ⟨by rfl, fun w hSw => ?_⟩) hHeld ?_
          rotate_left
          · (try dsimp only at hSw); go_split_ands; go_simp <;> with_reducible rfl
          (try simp only [Act.put, List.getElem_toArray, List.getElem_cons_succ, List.getElem_cons_zero, List.setIfInBounds_toArray, List.set_cons_zero, List.set_cons_succ])
          refine wpAnyH_take (i := 5) (v := ?_) rfl (by kernel_rfl) (by kernel_rfl) (by kernel_rfl) (fun _ _ _ h => h) (Or.inl ⟨by rfl, fun w hSw => ?_⟩) hHeld ?_
          rotate_left
          · (try dsimp only at hSw); go_split_ands; go_simp <;> with_reducible rfl
          (try simp only [Act.put, List.getElem_toArray, List.getElem_cons_succ, List.getElem_cons_zero, List.setIfInBounds_toArray, List.set_cons_zero, List.set_cons_succ])
          refine wpAnyH_take (i := 6) (v := ?_) rfl (by kernel_rfl) (by kernel_rfl) (by kernel_rfl) (fun _ _ _ h => h) (Or.inl ⟨by rfl, fun w hSw => ?_⟩) hHeld ?_
          rotate_left
          · (try dsimp only at hSw); go_split_ands; go_simp <;> with_reducible rfl
          (try simp only [Act.put, List.getElem_toArray, List.getElem_cons_succ, List.getElem_cons_zero, List.setIfInBounds_toArray, List.set_cons_zero, List.set_cons_succ])
          refine wpAnyH_take (i := 7) (v := ?_) rfl (by kernel_rfl) (by kernel_rfl) (by kernel_rfl) (fun _ _ _ h => h) (Or.inl ⟨by rfl, fun w hSw => ?_⟩) hHeld ?_
          rotate_left
          · (try dsimp only at hSw); go_split_ands; go_simp <;> with_reducible rfl
          (try simp only [Act.put, List.getElem_toArray, List.getElem_cons_succ, List.getElem_cons_zero, List.setIfInBounds_toArray, List.set_cons_zero, List.set_cons_succ])
          refine wpAnyH_take (i := 8) (v := ?_) rfl (by kernel_rfl) (by kernel_rfl) (by kernel_rfl) (fun _ _ _ h => h) (Or.inl ⟨by rfl, fun w hSw => ?_⟩) hHeld ?_
          rotate_left
          · (try dsimp only at hSw); go_split_ands; go_simp <;> with_reducible rfl
          (try simp only [Act.put, List.getElem_toArray, List.getElem_cons_succ, List.getElem_cons_zero, List.setIfInBounds_toArray, List.set_cons_zero, List.set_cons_succ])
          refine wpAnyH_take (i := 9) (v := ?_) rfl (by kernel_rfl) (by kernel_rfl) (by kernel_rfl) (fun _ _ _ h => h) (Or.inl ⟨by rfl, fun w hSw => ?_⟩) hHeld ?_
          rotate_left
          · (try dsimp only at hSw); go_split_ands; go_simp <;> with_reducible rfl
          (try simp only [Act.put, List.getElem_toArray, List.getElem_cons_succ, List.getElem_cons_zero, List.setIfInBounds_toArray, List.set_cons_zero, List.set_cons_succ])
          refine wpAnyH_take (i := 10) (v := ?_) rfl (by kernel_rfl) (by kernel_rfl) (by kernel_rfl) (fun _ _ _ h => h) (Or.inl ⟨by rfl, fun w hSw => ?_⟩) hHeld ?_
          rotate_left
          · (try dsimp only at hSw); go_split_ands; go_simp <;> with_reducible rfl
          (try simp only [Act.put, List.getElem_toArray, List.getElem_cons_succ, List.getElem_cons_zero, List.setIfInBounds_toArray, List.set_cons_zero, List.set_cons_succ])
          refine wpAnyH_ready (rs := [11]) (by kernel_rfl) (by simp) (AllReadyH.cons rfl (fun K hK => ?_) AllReadyH.nil)
          go_simp
          (go_at_call 50; (with_reducible refine (HCP.out _).mono ?_); rintro e w3 ⟨cv3, rfl, gg, cc3, rfl, hgg, hb3a, ho3⟩)
          have hb3 : Below w2.heap.size w2 w3 := (Below.refl _ _).drew.trans hb3a
          refine hK.out _ _ ⟨cellKeep hb3 u0, cellKeep hb3 u2, hb3⟩ (fun hHeld => ?_)
          clear hK K
          (try simp only [Act.put, List.getElem_toArray, List.getElem_cons_succ, List.getElem_cons_zero, List.setIfInBounds_toArray, List.set_cons_zero, List.set_cons_succ])
          refine wpAnyH_take (i := 12) (v := ?_) rfl (by kernel_rfl) (by kernel_rfl) (by kernel_rfl) (fun _ _ _ h => h) (Or.inl ⟨by rfl, fun w hSw => ?_⟩) hHeld ?_
          rotate_left
          · (try dsimp only at hSw); go_split_ands; go_simp <;> with_reducible rfl
          (try simp only [Act.put, List.getElem_toArray, List.getElem_cons_succ, List.getElem_cons_zero, List.setIfInBounds_toArray, List.set_cons_zero, List.set_cons_succ])
          refine wpAnyH_take (i := 13) (v := ?_) rfl (by kernel_rfl) (by kernel_rfl) (by kernel_rfl) (fun _ _ _ h => h) (Or.inl ⟨by rfl, fun w hSw => ?_⟩) hHeld ?_
          rotate_left
          · (try dsimp only at hSw); go_split_ands; go_simp <;> with_reducible rfl
          (try simp only [Act.put, List.getElem_toArray, List.getElem_cons_succ, List.getElem_cons_zero, List.setIfInBounds_toArray, List.set_cons_zero, List.set_cons_succ])
          refine wpAnyH_take (i := 14) (v := ?_) rfl (by kernel_rfl) (by kernel_rfl) (by kernel_rfl) (fun _ _ _ h => h) (Or.inl ⟨by rfl, fun w hSw => ?_⟩) hHeld ?_
          rotate_left
          · (try dsimp only at hSw); go_split_ands; go_simp <;> with_reducible rfl
          (try simp only [Act.put, List.getElem_toArray, List.getElem_cons_succ, List.getElem_cons_zero, List.setIfInBounds_toArray, List.set_cons_zero, List.set_cons_succ])
          refine wpAnyH_take (i := 15) (v := ?_) rfl (by kernel_rfl) (by kernel_rfl) (by kernel_rfl) (fun _ _ _ h => h) (Or.inl ⟨by rfl, fun w hSw => ?_⟩) hHeld ?_
          rotate_left
          · (try dsimp only at hSw); go_split_ands; go_simp <;> with_reducible rfl
          (try simp only [Act.put, List.getElem_toArray, List.getElem_cons_succ, List.getElem_cons_zero, List.setIfInBounds_toArray, List.set_cons_zero, List.set_cons_succ])
          refine wpAnyH_take (i := 16) (v := ?_) rfl (by kernel_rfl) (by kernel_rfl) (by kernel_rfl) (fun _ _ _ h => h) (Or.inl ⟨by rfl, fun w hSw => ?_⟩) hHeld ?_
          rotate_left
          · (try dsimp only at hSw); go_split_ands; go_simp <;> with_reducible rfl
          (try simp only [Act.put, List.getElem_toArray, List.getElem_cons_succ, List.getElem_cons_zero, List.setIfInBounds_toArray, List.set_cons_zero, List.set_cons_succ])
          refine wpAnyH_done (by kernel_rfl) ?_ _
          obtain ⟨_, _, hb3⟩ := hHeld
          clear u0 u2 hHeld
          have s3 := S2.out.below hb3
          have K3 := Keeps.below (fun _ => False) ρ1 hb3
          obtain ⟨hL3, hLr3⟩ := OneN.keep HL2.out hLr2 K3 id
          have F3 := F2.le K3.1
          have K03 := K02.trans (K3.mono (R' := fun r => r0 + 31 ≤ r ∧ r ≤ r0 + 35) (fun _ hr => hr.elim))
          have L03 := L02.trans (hb3.mono hbw2)
          obtain ⟨L, hLL⟩ : ∃ L, copiesL i c.n c.cp = L := ⟨_, rfl⟩
          have hlen : L.length = c.cp := by rw [← hLL]; exact copiesL_length hc.hcp.2.1
          rw [hLL] at ho3
          rw [hLL, hlen]
          rw [hlen] at ho3
          obtain ⟨tn, htn⟩ : ∃ tn, y.turn = tn := ⟨_, rfl⟩
          obtain ⟨cp, hcp⟩ : ∃ cp, c.cp = cp := ⟨_, rfl⟩
          have hcp1 := hc.hcp
          obtain ⟨t, ht⟩ : ∃ t, tn % cp = t := ⟨_, rfl⟩
          obtain ⟨r, hr⟩ : ∃ r, (tn + 1) % cp = r := ⟨_, rfl⟩
          rw [hcp] at ho3 hlen hcp1 ⊢
          rw [htn] at p4
          have htlt : t < cp := by rw [← ht]; exact Nat.mod_lt _ (by omega)
          have hrem : ((tn : Nat) : Int).tmod ((cp : Nat) : Int) = ((t : Nat) : Int) := by
            rw [Int.tmod_eq_emod_of_nonneg (by omega), ← ht]
            simp
          have hem : ((tn : Nat) : Int) % ((cp : Nat) : Int) = ((t : Nat) : Int) := by
            rw [← ht]
            simp
          have hem2 : (((tn : Nat) : Int) + 1) % ((cp : Nat) : Int) = ((r : Nat) : Int) := by
            rw [← hr]
            simp
          have hcp0 : ¬ (cp = 0) := by omega
          have hcx := (One.ofRow ho3).cell rfl (k := t) (by omega)
          obtain ⟨tx, htx⟩ : ∃ tx, L.getD t 0 = tx := ⟨_, rfl⟩
          have hx : lst (L.map (Value.int .i64)) t = .int .i64 tx := by
            rw [← htx]
            have htl : t < L.length := by omega
            simp [lst, List.getElem?_eq_getElem htl]
          rw [hx] at hcx
          have hyu : updP (tickP ps c.cp i) i { y with n := y.n + 1 } i = { y with n := y.n + 1 } := updP_eq
          rw [hcp] at hyu
          have v9 : w3.cell? ⟨R, 9, none⟩ = some (.int .i64 node) := s3.cell 9 (by omega)
          have v10 : w3.cell? ⟨R, 10, none⟩ = some (.int .i64 shard) := s3.cell 10 (by omega)
          have v2 : w3.cell? ⟨W, i * 8 + 2, none⟩ = some (.int .i64 (tn : Nat)) := (by have := s3.peer i 2 hlt (by omega); rw [hcp, hyu] at this; rw [this, ← htn]; rfl)
          obtain ⟨en, hen⟩ : ∃ x, y.e.num = x := ⟨_, rfl⟩
          obtain ⟨es, hes⟩ : ∃ x, y.e.name = x := ⟨_, rfl⟩
          obtain ⟨ea, hea⟩ : ∃ x, y.e.amt = x := ⟨_, rfl⟩
          have v4 : w3.cell? ⟨W, i * 8 + 4, none⟩ = some (.int .u64 en) := (by have := s3.peer i 4 hlt (by omega); rw [hcp, hyu] at this; rw [this, ← hen]; rfl)
          have v5 : w3.cell? ⟨W, i * 8 + 5, none⟩ = some (.string es) := (by have := s3.peer i 5 hlt (by omega); rw [hcp, hyu] at this; rw [this, ← hes]; rfl)
          have v6 : w3.cell? ⟨W, i * 8 + 6, none⟩ = some (.int .u64 ea) := (by have := s3.peer i 6 hlt (by omega); rw [hcp, hyu] at this; rw [this, ← hea]; rfl)
          have q4 : (t : Int) < (cp : Int) := by omega
          have hlm := msR_len c node shard ps i
          obtain ⟨ms, hmsE⟩ : ∃ ms, msR c node shard ps i = ms := ⟨_, rfl⟩
          rw [hmsE] at hlm hL3
          obtain ⟨m, hm⟩ : ∃ m : SMsg, m = ⟨node, tx, shard, i, en, es, ea⟩ := ⟨_, rfl⟩
          have hmr : rmsg node shard L i y = m := by
            rw [hm]
            unfold rmsg
            rw [htn, hlen, ht, htx, hen, hes, hea]
          have HM := Lib.hid hmr
          have HMSE := Lib.hid hmsE
          have HLL := Lib.hid hLL
          have HT := Lib.hid htn
          have HR := Lib.hid hr
          have HCPE := Lib.hid hcp
          have S3 := Lib.hid s3
          have HL3 := Lib.hid hL3
          clear hmr hmsE hLL htn hr hcp s3 hL3 ho3 hyu hen hes hea ht htx hx hlen S2 HL2 hb3 K3
          go_wp2_with fail
          refine wp_region_S 38 (fun w' => w'.cell? ⟨R, 9, none⟩ = some (.int .i64 node) ∧ w'.cell? ⟨R, 10, none⟩ = some (.int .i64 shard) ∧ w'.cell? ⟨W, i * 8 + 2, none⟩ = some (.int .i64 (tn : Nat)) ∧ w'.cell? ⟨W, i * 8 + 4, none⟩ = some (.int .u64 en) ∧ w'.cell? ⟨W, i * 8 + 5, none⟩ = some (.string es) ∧ w'.cell? ⟨W, i * 8 + 6, none⟩ = some (.int .u64 ea) ∧ w'.cell? ⟨gg, t, none⟩ = some (.int .i64 tx)) (by kernel_rfl) ?_
          have hSw0 := And.intro v9 (And.intro v10 (And.intro v2 (And.intro v4 (And.intro v5 (And.intro v6 hcx)))))
          refine wpAnyS_take [0, 38, 39] (i := 0) (v := ?_) rfl (by kernel_rfl) (by kernel_rfl) (by kernel_rfl) (by kernel_rfl) (by kernel_rfl) (fun _ _ _ h => h) (Or.inl ⟨by rfl, fun w hSw => ?_⟩) hSw0 ?_
          rotate_left
          · (try dsimp only at hSw); go_split_ands; go_simp <;> with_reducible rfl
          (try simp only [Act.put, List.getElem_toArray, List.getElem_cons_zero, List.setIfInBounds_toArray, List.set_cons_zero, List.set_cons_succ])
          refine wpAnyS_take [1, 2, 3, 4, 19, 36, 37, 38, 39] (i := 1) (v := ?_) rfl (by kernel_rfl) (by kernel_rfl) (by kernel_rfl) (by kernel_rfl) (by kernel_rfl) (fun _ _ _ h => h) (Or.inl ⟨by rfl, fun w hSw => ?_⟩) hSw0 ?_
          rotate_left
          · (try dsimp only at hSw); go_split_ands; go_simp <;> with_reducible rfl
          (try simp only [Act.put, List.getElem_toArray, List.getElem_cons_succ, List.getElem_cons_zero, List.setIfInBounds_toArray, List.set_cons_zero, List.set_cons_succ])
          refine wpAnyS_take [2, 3, 4, 19, 36, 37, 38, 39] (i := 2) (v := ?_) rfl (by kernel_rfl) (by kernel_rfl) (by kernel_rfl) (by kernel_rfl) (by kernel_rfl) (fun _ _ _ h => h) (Or.inl ⟨by rfl, fun w hSw => ?_⟩) hSw0 ?_
          rotate_left
          · (try dsimp only at hSw); go_split_ands; go_simp <;> with_reducible rfl
          (try simp only [Act.put, List.getElem_toArray, List.getElem_cons_succ, List.getElem_cons_zero, List.setIfInBounds_toArray, List.set_cons_zero, List.set_cons_succ])
          refine wpAnyS_take [3, 4, 19, 36, 37, 38, 39] (i := 3) (v := ?_) rfl (by kernel_rfl) (by kernel_rfl) (by kernel_rfl) (by kernel_rfl) (by kernel_rfl) (fun _ _ _ h => h) (Or.inl ⟨by rfl, fun w hSw => ?_⟩) hSw0 ?_
          rotate_left
          · (try dsimp only at hSw); go_split_ands; go_simp <;> with_reducible rfl
          (try simp only [Act.put, List.getElem_toArray, List.getElem_cons_succ, List.getElem_cons_zero, List.setIfInBounds_toArray, List.set_cons_zero, List.set_cons_succ])
          refine wpAnyS_take [4, 19, 36, 37, 38, 39] (i := 4) (v := ?_) rfl (by kernel_rfl) (by kernel_rfl) (by kernel_rfl) (by kernel_rfl) (by kernel_rfl) (fun _ _ _ h => h) (Or.inl ⟨by rfl, fun w hSw => ?_⟩) hSw0 ?_
          rotate_left
          · (try dsimp only at hSw); go_split_ands; go_simp <;> with_reducible rfl
          (try simp only [Act.put, List.getElem_toArray, List.getElem_cons_succ, List.getElem_cons_zero, List.setIfInBounds_toArray, List.set_cons_zero, List.set_cons_succ])
          refine wpAnyS_take [5, 13, 14, 19, 36, 37, 38, 39] (i := 5) (v := ?_) rfl (by kernel_rfl) (by kernel_rfl) (by kernel_rfl) (by kernel_rfl) (by kernel_rfl) (fun _ _ _ h => h) (Or.inl ⟨by rfl, fun w hSw => ?_⟩) hSw0 ?_
          rotate_left
          · (try dsimp only at hSw); go_split_ands; go_simp <;> with_reducible rfl
          (try simp only [Act.put, List.getElem_toArray, List.getElem_cons_succ, List.getElem_cons_zero, List.setIfInBounds_toArray, List.set_cons_zero, List.set_cons_succ])
          refine wpAnyS_take [6, 7, 8, 9, 12, 13, 14, 19, 36, 37, 38, 39] (i := 6) (v := ?_) rfl (by kernel_rfl) (by kernel_rfl) (by kernel_rfl) (by kernel_rfl) (by kernel_rfl) (fun _ _ _ h => h) (Or.inl ⟨by rfl, fun w hSw => ?_⟩) hSw0 ?_
          rotate_left
          · (try dsimp only at hSw); go_split_ands; go_simp <;> with_reducible rfl
          (try simp only [Act.put, List.getElem_toArray, List.getElem_cons_succ, List.getElem_cons_zero, List.setIfInBounds_toArray, List.set_cons_zero, List.set_cons_succ])
          refine wpAnyS_take [7, 8, 9, 12, 13, 14, 19, 36, 37, 38, 39] (i := 7) (v := ?_) rfl (by kernel_rfl) (by kernel_rfl) (by kernel_rfl) (by kernel_rfl) (by kernel_rfl) (fun _ _ _ h => h) (Or.inl ⟨by rfl, fun w hSw => ?_⟩) hSw0 ?_
          rotate_left
          · (try dsimp only at hSw); go_split_ands; go_simp <;> with_reducible rfl
          (try simp only [Act.put, List.getElem_toArray, List.getElem_cons_succ, List.getElem_cons_zero, List.setIfInBounds_toArray, List.set_cons_zero, List.set_cons_succ])
          refine wpAnyS_take [8, 9, 12, 13, 14, 19, 36, 37, 38, 39] (i := 8) (v := ?_) rfl (by kernel_rfl) (by kernel_rfl) (by kernel_rfl) (by kernel_rfl) (by kernel_rfl) (fun _ _ _ h => h) (Or.inl ⟨by rfl, fun w hSw => ?_⟩) hSw0 ?_
          rotate_left
          · (try dsimp only at hSw); go_split_ands; go_simp <;> with_reducible rfl
          (try simp only [Act.put, List.getElem_toArray, List.getElem_cons_succ, List.getElem_cons_zero, List.setIfInBounds_toArray, List.set_cons_zero, List.set_cons_succ])
          refine wpAnyS_take [9, 12, 13, 14, 19, 36, 37, 38, 39] (i := 9) (v := ?_) rfl (by kernel_rfl) (by kernel_rfl) (by kernel_rfl) (by kernel_rfl) (by kernel_rfl) (fun _ _ _ h => h) (Or.inl ⟨by rfl, fun w hSw => ?_⟩) hSw0 ?_
          rotate_left
          · (try dsimp only at hSw); go_split_ands; go_simp <;> with_reducible rfl
          (try simp only [Act.put, List.getElem_toArray, List.getElem_cons_succ, List.getElem_cons_zero, List.setIfInBounds_toArray, List.set_cons_zero, List.set_cons_succ])
          refine wpAnyS_take [10, 11, 12, 13, 14, 19, 36, 37, 38, 39] (i := 10) (v := ?_) rfl (by kernel_rfl) (by kernel_rfl) (by kernel_rfl) (by kernel_rfl) (by kernel_rfl) (fun _ _ _ h => h) (Or.inl ⟨by rfl, fun w hSw => ?_⟩) hSw0 ?_
          rotate_left
          · (try dsimp only at hSw); go_split_ands; go_simp <;> with_reducible rfl
          (try simp only [Act.put, List.getElem_toArray, List.getElem_cons_succ, List.getElem_cons_zero, List.setIfInBounds_toArray, List.set_cons_zero, List.set_cons_succ])
          refine wpAnyS_take [11, 12, 13, 14, 19, 36, 37, 38, 39] (i := 11) (v := ?_) rfl (by kernel_rfl) (by kernel_rfl) (by kernel_rfl) (by kernel_rfl) (by kernel_rfl) (fun _ _ _ h => h) (Or.inl ⟨by rfl, fun w hSw => ?_⟩) hSw0 ?_
          rotate_left
          · (try dsimp only at hSw); go_split_ands; go_simp <;> with_reducible rfl
          (try simp only [Act.put, List.getElem_toArray, List.getElem_cons_succ, List.getElem_cons_zero, List.setIfInBounds_toArray, List.set_cons_zero, List.set_cons_succ])
          refine wpAnyS_take [12, 13, 14, 19, 36, 37, 38, 39] (i := 12) (v := ?_) rfl (by kernel_rfl) (by kernel_rfl) (by kernel_rfl) (by kernel_rfl) (by kernel_rfl) (fun _ _ _ h => h) (Or.inl ⟨by rfl, fun w hSw => ?_⟩) hSw0 ?_
          rotate_left
          · (try dsimp only at hSw); go_split_ands; go_simp <;> with_reducible rfl
          (try simp only [Act.put, List.getElem_toArray, List.getElem_cons_succ, List.getElem_cons_zero, List.setIfInBounds_toArray, List.set_cons_zero, List.set_cons_succ])
          refine wpAnyS_take [13, 14, 19, 36, 37, 38, 39] (i := 13) (v := ?_) rfl (by kernel_rfl) (by kernel_rfl) (by kernel_rfl) (by kernel_rfl) (by kernel_rfl) (fun _ _ _ h => h) (Or.inl ⟨by rfl, fun w hSw => ?_⟩) hSw0 ?_
          rotate_left
          · (try dsimp only at hSw); go_split_ands; go_simp <;> with_reducible rfl
          (try simp only [Act.put, List.getElem_toArray, List.getElem_cons_succ, List.getElem_cons_zero, List.setIfInBounds_toArray, List.set_cons_zero, List.set_cons_succ])
          refine wpAnyS_take [14, 19, 36, 37, 38, 39] (i := 14) (v := ?_) rfl (by kernel_rfl) (by kernel_rfl) (by kernel_rfl) (by kernel_rfl) (by kernel_rfl) (fun _ _ _ h => h) (Or.inl ⟨by rfl, fun w hSw => ?_⟩) hSw0 ?_
          rotate_left
          · (try dsimp only at hSw); go_split_ands; go_simp <;> with_reducible rfl
          (try simp only [Act.put, List.getElem_toArray, List.getElem_cons_succ, List.getElem_cons_zero, List.setIfInBounds_toArray, List.set_cons_zero, List.set_cons_succ])
          refine wpAnyS_take [15, 16, 17, 18, 19, 36, 37, 38, 39] (i := 15) (v := ?_) rfl (by kernel_rfl) (by kernel_rfl) (by kernel_rfl) (by kernel_rfl) (by kernel_rfl) (fun _ _ _ h => h) (Or.inl ⟨by rfl, fun w hSw => ?_⟩) hSw0 ?_
          rotate_left
          · (try dsimp only at hSw); go_split_ands; go_simp <;> with_reducible rfl
          (try simp only [Act.put, List.getElem_toArray, List.getElem_cons_succ, List.getElem_cons_zero, List.setIfInBounds_toArray, List.set_cons_zero, List.set_cons_succ])
          refine wpAnyS_take [16, 17, 18, 19, 36, 37, 38, 39] (i := 16) (v := ?_) rfl (by kernel_rfl) (by kernel_rfl) (by kernel_rfl) (by kernel_rfl) (by kernel_rfl) (fun _ _ _ h => h) (Or.inl ⟨by rfl, fun w hSw => ?_⟩) hSw0 ?_
          rotate_left
          · (try dsimp only at hSw); go_split_ands; go_simp <;> with_reducible rfl
          (try simp only [Act.put, List.getElem_toArray, List.getElem_cons_succ, List.getElem_cons_zero, List.setIfInBounds_toArray, List.set_cons_zero, List.set_cons_succ])
          refine wpAnyS_take [17, 18, 19, 36, 37, 38, 39] (i := 17) (v := ?_) rfl (by kernel_rfl) (by kernel_rfl) (by kernel_rfl) (by kernel_rfl) (by kernel_rfl) (fun _ _ _ h => h) (Or.inl ⟨by rfl, fun w hSw => ?_⟩) hSw0 ?_
          rotate_left
          · (try dsimp only at hSw); go_split_ands; go_simp <;> with_reducible rfl
          (try simp only [Act.put, List.getElem_toArray, List.getElem_cons_succ, List.getElem_cons_zero, List.setIfInBounds_toArray, List.set_cons_zero, List.set_cons_succ])
          refine wpAnyS_take [18, 19, 36, 37, 38, 39] (i := 18) (v := ?_) rfl (by kernel_rfl) (by kernel_rfl) (by kernel_rfl) (by kernel_rfl) (by kernel_rfl) (fun _ _ _ h => h) (Or.inl ⟨by rfl, fun w hSw => ?_⟩) hSw0 ?_
          rotate_left
          · (try dsimp only at hSw); go_split_ands; go_simp <;> with_reducible rfl
          (try simp only [Act.put, List.getElem_toArray, List.getElem_cons_succ, List.getElem_cons_zero, List.setIfInBounds_toArray, List.set_cons_zero, List.set_cons_succ])
          refine wpAnyS_take [19, 36, 37, 38, 39] (i := 19) (v := .agg #[.int .i64 8, .int .i64 node, .int .i64 tx, .int .i64 shard]) rfl (by kernel_rfl) (by kernel_rfl) (by kernel_rfl) (by kernel_rfl) (by kernel_rfl) (fun _ _ _ h => h) (Or.inl ⟨by rfl, fun w hSw => ?_⟩) hSw0 ?_
          · exact exec_build w 94 #[(0, .const (.int .i64 8)), (1, .tmp 61), (2, .tmp 71), (3, .tmp 75)] rfl [(0, .int .i64 8), (1, .int .i64 node), (2, .int .i64 tx), (3, .int .i64 shard)] (by simp [Act.eval]) _ (head_build node tx shard)
          (try simp only [Act.put, List.getElem_toArray, List.getElem_cons_succ, List.getElem_cons_zero, List.setIfInBounds_toArray, List.set_cons_zero, List.set_cons_succ])
          refine wpAnyS_take [20, 36, 37, 38, 39] (i := 20) (v := ?_) rfl (by kernel_rfl) (by kernel_rfl) (by kernel_rfl) (by kernel_rfl) (by kernel_rfl) (fun _ _ _ h => h) (Or.inl ⟨by rfl, fun w hSw => ?_⟩) hSw0 ?_
          rotate_left
          · (try dsimp only at hSw); go_split_ands; go_simp <;> with_reducible rfl
          (try simp only [Act.put, List.getElem_toArray, List.getElem_cons_succ, List.getElem_cons_zero, List.setIfInBounds_toArray, List.set_cons_zero, List.set_cons_succ])
          refine wpAnyS_take [21, 22, 23, 24, 25, 36, 37, 38, 39] (i := 21) (v := ?_) rfl (by kernel_rfl) (by kernel_rfl) (by kernel_rfl) (by kernel_rfl) (by kernel_rfl) (fun _ _ _ h => h) (Or.inl ⟨by rfl, fun w hSw => ?_⟩) hSw0 ?_
          rotate_left
          · (try dsimp only at hSw); go_split_ands; go_simp <;> with_reducible rfl
          (try simp only [Act.put, List.getElem_toArray, List.getElem_cons_succ, List.getElem_cons_zero, List.setIfInBounds_toArray, List.set_cons_zero, List.set_cons_succ])
          refine wpAnyS_take [22, 23, 24, 25, 36, 37, 38, 39] (i := 22) (v := ?_) rfl (by kernel_rfl) (by kernel_rfl) (by kernel_rfl) (by kernel_rfl) (by kernel_rfl) (fun _ _ _ h => h) (Or.inl ⟨by rfl, fun w hSw => ?_⟩) hSw0 ?_
          rotate_left
          · (try dsimp only at hSw); go_split_ands; go_simp <;> with_reducible rfl
          (try simp only [Act.put, List.getElem_toArray, List.getElem_cons_succ, List.getElem_cons_zero, List.setIfInBounds_toArray, List.set_cons_zero, List.set_cons_succ])
          refine wpAnyS_take [23, 24, 25, 36, 37, 38, 39] (i := 23) (v := ?_) rfl (by kernel_rfl) (by kernel_rfl) (by kernel_rfl) (by kernel_rfl) (by kernel_rfl) (fun _ _ _ h => h) (Or.inl ⟨by rfl, fun w hSw => ?_⟩) hSw0 ?_
          rotate_left
          · (try dsimp only at hSw); go_split_ands; go_simp <;> with_reducible rfl
          (try simp only [Act.put, List.getElem_toArray, List.getElem_cons_succ, List.getElem_cons_zero, List.setIfInBounds_toArray, List.set_cons_zero, List.set_cons_succ])
          refine wpAnyS_take [24, 25, 36, 37, 38, 39] (i := 24) (v := ?_) rfl (by kernel_rfl) (by kernel_rfl) (by kernel_rfl) (by kernel_rfl) (by kernel_rfl) (fun _ _ _ h => h) (Or.inl ⟨by rfl, fun w hSw => ?_⟩) hSw0 ?_
          rotate_left
          · (try dsimp only at hSw); go_split_ands; go_simp <;> with_reducible rfl
          (try simp only [Act.put, List.getElem_toArray, List.getElem_cons_succ, List.getElem_cons_zero, List.setIfInBounds_toArray, List.set_cons_zero, List.set_cons_succ])
          refine wpAnyS_take [25, 36, 37, 38, 39] (i := 25) (v := ?_) rfl (by kernel_rfl) (by kernel_rfl) (by kernel_rfl) (by kernel_rfl) (by kernel_rfl) (fun _ _ _ h => h) (Or.inl ⟨by rfl, fun w hSw => ?_⟩) hSw0 ?_
          rotate_left
          · (try dsimp only at hSw); go_split_ands; go_simp <;> with_reducible rfl
          (try simp only [Act.put, List.getElem_toArray, List.getElem_cons_succ, List.getElem_cons_zero, List.setIfInBounds_toArray, List.set_cons_zero, List.set_cons_succ])
          refine wpAnyS_take [26, 27, 28, 29, 30, 36, 37, 38, 39] (i := 26) (v := ?_) rfl (by kernel_rfl) (by kernel_rfl) (by kernel_rfl) (by kernel_rfl) (by kernel_rfl) (fun _ _ _ h => h) (Or.inl ⟨by rfl, fun w hSw => ?_⟩) hSw0 ?_
          rotate_left
          · (try dsimp only at hSw); go_split_ands; go_simp <;> with_reducible rfl
          (try simp only [Act.put, List.getElem_toArray, List.getElem_cons_succ, List.getElem_cons_zero, List.setIfInBounds_toArray, List.set_cons_zero, List.set_cons_succ])
          refine wpAnyS_take [27, 28, 29, 30, 36, 37, 38, 39] (i := 27) (v := ?_) rfl (by kernel_rfl) (by kernel_rfl) (by kernel_rfl) (by kernel_rfl) (by kernel_rfl) (fun _ _ _ h => h) (Or.inl ⟨by rfl, fun w hSw => ?_⟩) hSw0 ?_
          rotate_left
          · (try dsimp only at hSw); go_split_ands; go_simp <;> with_reducible rfl
          (try simp only [Act.put, List.getElem_toArray, List.getElem_cons_succ, List.getElem_cons_zero, List.setIfInBounds_toArray, List.set_cons_zero, List.set_cons_succ])
          refine wpAnyS_take [28, 29, 30, 36, 37, 38, 39] (i := 28) (v := ?_) rfl (by kernel_rfl) (by kernel_rfl) (by kernel_rfl) (by kernel_rfl) (by kernel_rfl) (fun _ _ _ h => h) (Or.inl ⟨by rfl, fun w hSw => ?_⟩) hSw0 ?_
          rotate_left
          · (try dsimp only at hSw); go_split_ands; go_simp <;> with_reducible rfl
          (try simp only [Act.put, List.getElem_toArray, List.getElem_cons_succ, List.getElem_cons_zero, List.setIfInBounds_toArray, List.set_cons_zero, List.set_cons_succ])
          refine wpAnyS_take [29, 30, 36, 37, 38, 39] (i := 29) (v := ?_) rfl (by kernel_rfl) (by kernel_rfl) (by kernel_rfl) (by kernel_rfl) (by kernel_rfl) (fun _ _ _ h => h) (Or.inl ⟨by rfl, fun w hSw => ?_⟩) hSw0 ?_
          rotate_left
          · (try dsimp only at hSw); go_split_ands; go_simp <;> with_reducible rfl
          (try simp only [Act.put, List.getElem_toArray, List.getElem_cons_succ, List.getElem_cons_zero, List.setIfInBounds_toArray, List.set_cons_zero, List.set_cons_succ])
          refine wpAnyS_take [30, 36, 37, 38, 39] (i := 30) (v := ?_) rfl (by kernel_rfl) (by kernel_rfl) (by kernel_rfl) (by kernel_rfl) (by kernel_rfl) (fun _ _ _ h => h) (Or.inl ⟨by rfl, fun w hSw => ?_⟩) hSw0 ?_
          rotate_left
          · (try dsimp only at hSw); go_split_ands; go_simp <;> with_reducible rfl
          (try simp only [Act.put, List.getElem_toArray, List.getElem_cons_succ, List.getElem_cons_zero, List.setIfInBounds_toArray, List.set_cons_zero, List.set_cons_succ])
          refine wpAnyS_take [31, 32, 33, 34, 35, 36, 37, 38, 39] (i := 31) (v := ?_) rfl (by kernel_rfl) (by kernel_rfl) (by kernel_rfl) (by kernel_rfl) (by kernel_rfl) (fun _ _ _ h => h) (Or.inl ⟨by rfl, fun w hSw => ?_⟩) hSw0 ?_
          rotate_left
          · (try dsimp only at hSw); go_split_ands; go_simp <;> with_reducible rfl
          (try simp only [Act.put, List.getElem_toArray, List.getElem_cons_succ, List.getElem_cons_zero, List.setIfInBounds_toArray, List.set_cons_zero, List.set_cons_succ])
          refine wpAnyS_take [32, 33, 34, 35, 36, 37, 38, 39] (i := 32) (v := ?_) rfl (by kernel_rfl) (by kernel_rfl) (by kernel_rfl) (by kernel_rfl) (by kernel_rfl) (fun _ _ _ h => h) (Or.inl ⟨by rfl, fun w hSw => ?_⟩) hSw0 ?_
          rotate_left
          · (try dsimp only at hSw); go_split_ands; go_simp <;> with_reducible rfl
          (try simp only [Act.put, List.getElem_toArray, List.getElem_cons_succ, List.getElem_cons_zero, List.setIfInBounds_toArray, List.set_cons_zero, List.set_cons_succ])
          refine wpAnyS_take [33, 34, 35, 36, 37, 38, 39] (i := 33) (v := ?_) rfl (by kernel_rfl) (by kernel_rfl) (by kernel_rfl) (by kernel_rfl) (by kernel_rfl) (fun _ _ _ h => h) (Or.inl ⟨by rfl, fun w hSw => ?_⟩) hSw0 ?_
          rotate_left
          · (try dsimp only at hSw); go_split_ands; go_simp <;> with_reducible rfl
          (try simp only [Act.put, List.getElem_toArray, List.getElem_cons_succ, List.getElem_cons_zero, List.setIfInBounds_toArray, List.set_cons_zero, List.set_cons_succ])
          refine wpAnyS_take [34, 35, 36, 37, 38, 39] (i := 34) (v := ?_) rfl (by kernel_rfl) (by kernel_rfl) (by kernel_rfl) (by kernel_rfl) (by kernel_rfl) (fun _ _ _ h => h) (Or.inl ⟨by rfl, fun w hSw => ?_⟩) hSw0 ?_
          rotate_left
          · (try dsimp only at hSw); go_split_ands; go_simp <;> with_reducible rfl
          (try simp only [Act.put, List.getElem_toArray, List.getElem_cons_succ, List.getElem_cons_zero, List.setIfInBounds_toArray, List.set_cons_zero, List.set_cons_succ])
          refine wpAnyS_take [35, 36, 37, 38, 39] (i := 35) (v := ?_) rfl (by kernel_rfl) (by kernel_rfl) (by kernel_rfl) (by kernel_rfl) (by kernel_rfl) (fun _ _ _ h => h) (Or.inl ⟨by rfl, fun w hSw => ?_⟩) hSw0 ?_
          rotate_left
          · (try dsimp only at hSw); go_split_ands; go_simp <;> with_reducible rfl
          (try simp only [Act.put, List.getElem_toArray, List.getElem_cons_succ, List.getElem_cons_zero, List.setIfInBounds_toArray, List.set_cons_zero, List.set_cons_succ])
          refine wpAnyS_take [36, 37, 38, 39] (i := 36) (v := .agg (SMsg.cells ⟨node, tx, shard, i, en, es, ea⟩)) rfl (by kernel_rfl) (by kernel_rfl) (by kernel_rfl) (by kernel_rfl) (by kernel_rfl) (fun _ _ _ h => h) (Or.inl ⟨by rfl, fun w hSw => ?_⟩) hSw0 ?_
          · exact exec_build w 102 #[(0, .tmp 76), (7, .tmp 77), (8, .tmp 82), (9, .tmp 87), (11, .tmp 92)] rfl [(0, .agg #[.int .i64 8, .int .i64 node, .int .i64 tx, .int .i64 shard]), (7, .int .i64 (i : Nat)), (8, .int .u64 en), (9, .string es), (11, .int .u64 ea)] (by simp [Act.eval]) _ (msg_build node tx shard i en ea es)
          (try simp only [Act.put, List.getElem_toArray, List.getElem_cons_succ, List.getElem_cons_zero, List.setIfInBounds_toArray, List.set_cons_zero, List.set_cons_succ])
          subst hm
          refine wpAnyS_one (k := 37) rfl (by kernel_rfl) (by rfl) ?_
          refine wp_buildSlice 85 102 1 #[(0, .tmp 93)] rfl (SMsg.cells ⟨node, tx, shard, i, en, es, ea⟩) k0 msgZero Try.underlying85 hkk kz0 (by rw [kz1]; decide) (by rw [kz1]; decide) ?_ ?_
          · refine Eq.trans (congrArg (Instr.fill _ _) ?_) (hfill ⟨node, tx, shard, i, en, es, ea⟩)
            simp only [List.map_toArray, List.map_cons, List.map_nil, Act.eval]
            rfl
          have hbA : Below w3.drew.heap.size w3.drew (w3.drew.alloc (.cells (SMsg.cells ⟨node, tx, shard, i, en, es, ea⟩) 102)) := (Below.refl _ _).alloc (Nat.le_refl _) _
          refine ⟨fun _ => ⟨cellKeep hbA v9, cellKeep hbA v10, cellKeep hbA v2, cellKeep hbA v4, cellKeep hbA v5, cellKeep hbA v6, cellKeep hbA hcx⟩, ?_⟩
          refine wpAnyS_tail 38 (Nat.le_refl _) rfl (by kernel_rfl) ?_
          simp only [List.drop_succ_cons, List.drop_zero]
          have hbA2 : Below w3.heap.size w3 (w3.drew.alloc (.cells (SMsg.cells ⟨node, tx, shard, i, en, es, ea⟩) 102)) := ((Below.refl _ _).drew).alloc (Nat.le_refl _) _
          have K4 := Keeps.below (fun _ => False) ρ1 hbA2
          have F4 := F3.le K4.1
          have s4 := S3.out.below hbA2
          obtain ⟨hL4, hLr4⟩ := OneN.keep HL3.out hLr3 K4 id
          have hbw3 : base ≤ w3.heap.size := by have := S3.out.lo; have := lt_of_obj S3.out.obj.1; omega
          have hbw4 : base ≤ (w3.drew.alloc (.cells (SMsg.cells ⟨node, tx, shard, i, en, es, ea⟩) 102)).heap.size := Nat.le_trans hbw3 K4.1
          have K04 := K03.trans (K4.mono (R' := fun r => r0 + 31 ≤ r ∧ r ≤ r0 + 35) (fun _ hr => hr.elim))
          have L04 := L03.trans (hbA2.mono hbw3)
          have hn4 := World.news_of_block (heap_alloc_new w3.drew (.cells (SMsg.cells ⟨node, tx, shard, i, en, es, ea⟩) 102))
          have hLm := hL4.congr (fun k hk => cM_old ms ⟨node, tx, shard, i, en, es, ea⟩ k hk)
          have hcn := cM_new ms ⟨node, tx, shard, i, en, es, ea⟩
          obtain ⟨mn, hmn⟩ : ∃ mn, ms.length = mn := ⟨_, rfl⟩
          rw [hmn] at hLm hcn hlm
          have h13 : mn + 1 ≤ maxLen := by unfold maxLen; omega
          have hms2 : (mn + 1) * 208 ≤ 140737488355328 := by omega
          have HLM := Lib.hid hLm
          have HCN := Lib.hid hcn
          have HMN := Lib.hid hmn
          have HN4 := Lib.hid hn4
          have HLR4 := Lib.hid hLr4
          have HK04 := Lib.hid K04
          have HF4 := Lib.hid F4
          have HL04 := Lib.hid L04
          have S4 := Lib.hid s4
          have hvw : ∀ g, (Value.slice Al nl cl).ownBlock = some g → base ≤ g := fun g hg => (hL4.block hg).1
          have HVW := Lib.hid hvw
          clear hLm hcn hmn hn4 hLr4 K04 F4 L04 s4 hvw hL4 K4 hbA hbA2 v9 v10 v2 v4 v5 v6 hcx hSw0
          go_wp2_with (at_builtin; refine wpList_append_marked rfl (.tmp 57) (.tmp 94) 85 rfl base 102 k0 msgZero 22 208 Try.underlying85 hkk kz0 kz1 kz2 rfl (by decide) (.slice Al nl cl) mn (cM (ms ++ [⟨node, tx, shard, i, en, es, ea⟩])) rfl HLM.out ⟨w3.drew.heap.size, 0, none⟩ 1 1 (SMsg.cells ⟨node, tx, shard, i, en, es, ea⟩).toList rfl rfl HCN.out HN4.out (SMsg.one _) (by omega) h13 hms2 hbw4 ?_; intro g cap5 w5 ho5 hgrow5 hat5 _; have K5 : Keeps (fun r => r = r0 + 35) (w3.drew.alloc (.cells (SMsg.cells ⟨node, tx, shard, i, en, es, ea⟩) 102)) ρ1 w5 (lab ρ1 g (r0 + 35)) := Keeps.grown hgrow5 HLR4.out rfl hat5; have s5 := S4.out.keep K5 (by omega); have z2 : w5.cell? ⟨W, i * 8 + 2, none⟩ = some (.int .i64 (tn : Nat)) := (by have := s5.peer i 2 hlt (by omega); rw [updP_eq] at this; rw [this, ← HT.out]; rfl); have fz2 := s5.free (i * 8 + 2); have hp5 := s5.put' (j := 2) (v := .int .i64 (r : Nat)) (by omega) { y with n := y.n + 1, turn := r } (cells8 rfl rfl rfl rfl rfl rfl rfl rfl); have HP5 := Lib.hid hp5; have HK5 := Lib.hid K5; have HO5 := Lib.hid ho5; have HG5 := Lib.hid hgrow5; clear hp5 s5 K5 hgrow5 ho5)
          obtain ⟨s6, K6, L6, z6⟩ := HP5.out
          have hlab : ∀ q, (Value.slice (some ⟨g, 0, none⟩) (mn + 1) cap5).ownBlock = some q → lab ρ1 g (r0 + 35) q = r0 + 35 := fun q hq => by
            have e : g = q := by simpa [Value.ownBlock] using hq
            rw [← e, lab_eq]
          have hglt : g < w5.heap.size := (HO5.out.block rfl).2
          obtain ⟨o6, r6⟩ := OneN.keep HO5.out hlab K6 (by omega)
          have hB5 : Below base (w3.drew.alloc (.cells (SMsg.cells ⟨node, tx, shard, i, en, es, ea⟩) 102)) w5 := grown_belowN HG5.out HVW.out hbw4
          refine ⟨⟨i + 1, lab ρ1 g (r0 + 35), by go_num, by omega, ?_, ?_, r6, (HK04.out.trans (HK5.out.mono (fun r hr => by omega))).trans (K6.mono (fun r hr => by omega)), (HF4.out.lab HG5.out.size hglt _).le (Nat.le_of_eq z6.symm), (HL04.out.trans hB5).trans L6⟩, by simp [intOf]; omega⟩
          · rw [← HNX.out]
            have e : y.tick c.cp = { y with n := y.n + 1, turn := r } := by
              unfold RP.tick
              rw [hth, if_pos rfl, if_pos HFI.out, HT.out, HCPE.out, HR.out]
            rw [e]
            exact s6
          · have e : y.fires = true := by
              unfold RP.fires
              rw [hth, decide_eq_true HFI.out]
              rfl
            rw [HMS.out, e, if_pos rfl, HMSE.out, HLL.out, HM.out, List.length_append, HMN.out]
            exact o6
        · have hd := Lib.hid (decide_eq_false hfi)
          have HFI := Lib.hid hfi
          clear y0 y1 hfi
          go_wp2_with (go_at_call 132; (with_reducible refine hT.out.mono ?_); rintro e w2 ⟨rfl, ia, ib, hw2⟩; rw [hd.out]; have HW2 := Lib.hid hw2; clear hw2)
          have hw2 := HW2.out
          rw [← hyt] at hw2
          obtain ⟨s2, K2, L2, z2⟩ := HS.out.ticked hw2
          obtain ⟨hL2, hLr2⟩ := OneN.keep hL hLr K2 (by omega)
          rw [hyt] at s2
          refine ⟨⟨i + 1, ρ1, by go_num, by omega, ?_, ?_, hLr2, hK.trans (K2.mono (fun r hr => by omega)), hF.le (Nat.le_of_eq z2.symm), hB.trans L2⟩, by simp [intOf]; omega⟩
          · rw [← HNX.out]
            have e : y.tick c.cp = { y with n := y.n + 1 } := by
              unfold RP.tick
              rw [hth, if_pos rfl, if_neg (by have := HFI.out; omega)]
            rw [e]
            exact s2
          · have e : y.fires = false := by
              unfold RP.fires
              rw [decide_eq_false (by have := HFI.out; omega), Bool.and_false]
            rw [HMS.out, e, if_neg (by decide)]
            exact hL2
    · obtain rfl : i = c.N := by omega
      go_wp2_with fail
      go_ret
      exact ⟨_, ρ1, rfl, hS, hL, hLr, hK, hF, hB⟩
end Go.Proofs.Ytbgojhjlmlbfpaa
