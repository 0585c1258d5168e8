/- tallyref13.New and Stop. -/
import Derived.Test.YtbgojhjlmlbfpaaSfC
import Derived.Test.YtbgojhjlmlbfpaaSeK
import Derived.Deep.RegionLaw
namespace Go.Proofs.Ytbgojhjlmlbfpaa
open Go.RowKit

theorem nil_one (w : World) (base : Nat) (e : TypeId) (sz : Nat) (c : Nat → Value) : One w base e sz (.slice none 0 0) 0 c := .inl ⟨rfl, rfl⟩
theorem nil_own (ρ : Nat → Nat) (r : Nat) : ∀ g, (Value.slice none 0 0).ownBlock = some g → ρ g = r := fun g h => by cases h
theorem RSet.freeR {w : World} {base r0 R : Nat} {ρ : Nat → Nat} {c : Conf} {node shard : Int} {ps : Nat → RP} {pv qv : Value} {Q : List Ent} (h : RSet w base ρ r0 R c node shard ps pv qv Q) (k : Nat) : w.frozen? ⟨R, k, none⟩ = false := by
  have := h.obj.1
  unfold refSetO cellsObj at this
  exact free_of_obj this k
def stopP (ps : Nat → RP) (i : Nat) : Nat → RP := fun j => if j < i then { ps j with there := false } else ps j
theorem stopP_zero (ps : Nat → RP) : stopP ps 0 = ps := by funext j; exact if_neg (by omega)
theorem stopP_at (ps : Nat → RP) (i : Nat) : stopP ps i i = ps i := if_neg (by omega)
theorem stopP_next (ps : Nat → RP) (i : Nat) : updP (stopP ps i) i { stopP ps i i with there := false } = stopP ps (i + 1) := by
  funext j
  by_cases h : j = i
  · subst h
    rw [updP_eq, stopP_at]
    unfold stopP
    rw [if_pos (by omega)]
  · rw [updP_ne h]
    unfold stopP
    by_cases h2 : j < i
    · rw [if_pos h2, if_pos (by omega)]
    · rw [if_neg h2, if_neg (by omega)]
def StopRel (w : World) (base : Nat) (ρ : Nat → Nat) (r0 R : Nat) (c : Conf) (node shard : Int) (ps : Nat → RP) (W cap : Nat) (iv : Value) (wr : World) : Prop :=
  ∃ i : Nat, iv = .int .i64 i ∧ i ≤ c.N ∧ RSet wr base ρ r0 R c node shard (stopP ps i) (.slice (some ⟨W, 0, none⟩) c.N cap) (.slice none 0 0) [] ∧ Keeps (fun r => r0 + 31 ≤ r ∧ r ≤ r0 + 33) w ρ wr ρ ∧ Below base w wr ∧ wr.heap.size = w.heap.size
set_option maxRecDepth 100000 in
theorem ref_stop (w : World) (base r0 R W cap : Nat) (ρ : Nat → Nat) (c : Conf) (node shard : Int) (ps : Nat → RP) (qv : Value) (Q : List Ent) (h : RSet w base ρ r0 R c node shard ps (.slice (some ⟨W, 0, none⟩) c.N cap) qv Q) :
    Calls Try.prog 110 #[.pointer (some ⟨R, 0, none⟩)] w fun e w' => e = .returned (.tuple #[]) ∧ RSet w' base ρ r0 R c node shard (stopP ps c.N) (.slice (some ⟨W, 0, none⟩) c.N cap) (.slice none 0 0) [] ∧ Keeps (fun r => r0 + 31 ≤ r ∧ r ≤ r0 + 33) w ρ w' ρ ∧ Below base w w' ∧ w'.heap.size = w.heap.size := by
  have c12 : w.cell? ⟨R, 12, none⟩ = some qv := h.cell 12 (by omega)
  have f12 := h.freeR 12
  have hq := h.setQ (Q' := []) (qv' := .slice none 0 0) (Keeps.refl _ _ _) (nil_one _ _ _ _ _) (nil_own _ _)
  have HQ := Lib.hid hq
  have hcN := h.num
  clear h hq
  go_enter Try.func110, Try.ntmps110
  go_wp2_with fail
  go_loopw [2] (fun iv wr => StopRel w base ρ r0 R c node shard ps W cap iv wr) (fun iv _ => (c.N - intOf iv).toNat)
  case atStart =>
    obtain ⟨h1, h2, h3, h4⟩ := HQ.out
    exact ⟨0, rfl, by omega, by rw [stopP_zero]; exact h1, h2.mono (fun r hr => by omega), h4, h3⟩
  case round =>
    clear c12 f12
    obtain ⟨i, rfl, hi, hS, hK, hB, hz⟩ := hrel
    by_cases hlt : i < c.N
    · have c11 : wr.cell? ⟨R, 11, none⟩ = some (.slice (some ⟨W, 0, none⟩) c.N cap) := hS.cell 11 (by omega)
      have c7 : wr.cell? ⟨W, i * 8 + 7, none⟩ = some (.bool (stopP ps i i).there) := hS.peer i 7 hlt (by omega)
      have f7 := hS.free (i * 8 + 7)
      have hp := hS.put (i := i) (j := 7) (v := .bool false) (by omega) { stopP ps i i with there := false } (fun k hk => by
        rcases k with _ | _ | _ | _ | _ | _ | _ | _ | k <;> first | rfl | omega)
      rw [stopP_next] at hp
      have HP := Lib.hid hp
      have HK := Lib.hid hK
      have HB := Lib.hid hB
      have HZ := Lib.hid hz
      have q1 : (i : Int) < (c.N : Int) := by omega
      clear hp hS hK hB hz
      go_wp2_with fail
      obtain ⟨h1, h2, h3, h4⟩ := HP.out
      exact ⟨⟨i + 1, by go_num, by omega, h1, HK.out.trans (h2.mono (fun r hr => by omega)), HB.out.trans h3, h4.trans HZ.out⟩, by simp [intOf]; omega⟩
    · obtain rfl : i = c.N := by omega
      have c11 : wr.cell? ⟨R, 11, none⟩ = some (.slice (some ⟨W, 0, none⟩) c.N cap) := hS.cell 11 (by omega)
      go_wp2_with fail
      go_end0
      exact ⟨rfl, hS, hK, hB, hz⟩
def p0 (c : Conf) : RP := ⟨(c.cap : Nat), 0, 0, zeroEnt, false⟩
structure RNewAt (w wr : World) (base : Nat) (ρ : Nat → Nat) (r0 R C : Nat) (c : Conf) (node shard : Int) (i : Nat) (pv : Value) : Prop where
  obj : Objr wr ρ (r0 + 31) R (refSetO c node shard pv (.slice none 0 0))
  row : One wr base 185 8 pv i (cP (fun _ => p0 c))
  rowr : ∀ g, pv.ownBlock = some g → ρ g = r0 + 32
  conf : Objr wr ρ (r0 + 34) C (cellsObj 79 9 (refCell c 0 0 (.slice none 0 0) (.slice none 0 0)))
  free : Free wr ρ
  lo : base ≤ R
  bel : Below base w wr
def RNewRel (w : World) (base : Nat) (ρ : Nat → Nat) (r0 R C : Nat) (c : Conf) (node shard : Int) (iv : Value) (wr : World) : Prop :=
  ∃ (i : Nat) (ρ' : Nat → Nat) (pv : Value), iv = .int .i64 i ∧ i ≤ c.N ∧ RNewAt w wr base ρ' r0 R C c node shard i pv ∧ Keeps (fun r => r0 + 31 ≤ r ∧ r ≤ r0 + 34) w ρ wr ρ'
def zeroPeer : Value := .agg #[.int .i64 0, .int .i64 0, .int .i64 0, .int .i64 0, .int .u64 0, .string ByteArray.empty, .int .u64 0, .bool false]
theorem peer_info : (Try.prog.info? 185).map (fun i => (i.zero, i.size, i.bytes)) = some (some zeroPeer, 8, 72) := by kernel_rfl
theorem p0_cells (c : Conf) : ∀ k, k < 8 → [Value.int .i64 (c.cap : Nat), .int .i64 0, .int .i64 0, .int .i64 0, .int .u64 0, .string ⟨#[]⟩, .int .u64 0, .bool false][k]? = some ((p0 c).cell k) := by
  intro k hk
  rcases k with _ | _ | _ | _ | _ | _ | _ | _ | k <;> first | rfl | omega
theorem RNewAt.add {w wa w7 : World} {base r0 R C i g cap7 : Nat} {ρ : Nat → Nat} {c : Conf} {node shard : Int} {pv : Value} (h : RNewAt w wa base ρ r0 R C c node shard i pv) (hg : wa.grownBy w7 pv.ownBlock) (hat : pv.ownBlock = some g ∨ g = wa.heap.size)
    (hone : One w7 base 185 8 (.slice (some ⟨g, 0, none⟩) (i + 1) cap7) (i + 1) (cP (fun _ => p0 c))) (hbase : base ≤ wa.heap.size) :
    w7.heap[R]? = some (refSetO c node shard pv (.slice none 0 0)) ∧ RNewAt w (w7.setCell ⟨R, 11, none⟩ (.slice (some ⟨g, 0, none⟩) (i + 1) cap7)) base (lab ρ g (r0 + 32)) r0 R C c node shard (i + 1) (.slice (some ⟨g, 0, none⟩) (i + 1) cap7) ∧
      Keeps (fun r => r = r0 + 31 ∨ r = r0 + 32) wa ρ (w7.setCell ⟨R, 11, none⟩ (.slice (some ⟨g, 0, none⟩) (i + 1) cap7)) (lab ρ g (r0 + 32)) := by
  have K : Keeps (fun r => r = r0 + 32) wa ρ w7 (lab ρ g (r0 + 32)) := Keeps.grown hg h.rowr rfl hat
  have ho := h.obj.keep K (by omega)
  have hO := OnlyB.objSet ho.1 11 (.slice (some ⟨g, 0, none⟩) (i + 1) cap7)
  have K2 : Keeps (fun r => r = r0 + 31) w7 (lab ρ g (r0 + 32)) (w7.setCell ⟨R, 11, none⟩ (.slice (some ⟨g, 0, none⟩) (i + 1) cap7)) (lab ρ g (r0 + 32)) := Keeps.only _ hO ho.2
  have hgr : ∀ q, (Value.slice (some ⟨g, 0, none⟩) (i + 1) cap7).ownBlock = some q → lab ρ g (r0 + 32) q = r0 + 32 := fun q hq => by
    have : g = q := by simpa [Value.ownBlock] using hq
    rw [← this, lab_eq]
  obtain ⟨a1, a2⟩ := OneN.keep hone hgr K2 (by omega)
  have hlt : g < w7.heap.size := (hone.block rfl).2
  refine ⟨ho.1, ⟨⟨?_, ho.2⟩, a1, a2, (h.conf.keep K (by omega)).keep K2 (by omega), (h.free.lab hg.size hlt _).le (Nat.le_of_eq hO.size.symm), h.lo, h.bel.trans ((grown_belowN hg (fun q hq => (h.row.block hq).1) hbase).trans (hO.below h.lo))⟩, (K.mono fun r hr => .inr hr).trans (K2.mono fun r hr => .inl hr)⟩
  rw [hO.at_ (lt_of_obj ho.1)]
  rfl
set_option maxRecDepth 100000 in
set_option maxHeartbeats 2000000 in
theorem ref_new (w : World) (base r0 : Nat) (ρ : Nat → Nat) (c : Conf) (a : Option Addr) (na ca : Nat) (hav : c.av = .slice a na ca) (node shard : Int) (hN : 1 ≤ c.N ∧ c.N ≤ 8) (hf : Free w ρ) (hbase : base ≤ w.heap.size) :
    Calls Try.prog 71 #[.agg #[.int .i64 (c.n : Nat), .int .i64 (c.N : Nat), .int .i64 (c.cp : Nat), .int .i64 1, .int .i64 16, .int .i64 (c.cap : Nat), .int .i64 64, .int .i64 100, .slice a na ca], .int .i64 node, .int .i64 shard] w fun e w' =>
      ∃ R W cp ρ', e = .returned (.pointer (some ⟨R, 0, none⟩)) ∧ RSet w' base ρ' r0 R c node shard (fun _ => p0 c) (.slice (some ⟨W, 0, none⟩) c.N cp) (.slice none 0 0) [] ∧ Keeps (fun r => r0 + 31 ≤ r ∧ r ≤ r0 + 34) w ρ w' ρ' ∧ Free w' ρ' ∧ Below base w w' := by
  obtain ⟨n, N, cp, cap, av⟩ := c
  dsimp only at hav hN
  subst hav
  obtain ⟨k0', hkk, kz0, kz1, kz2⟩ := info_parts peer_info
  obtain ⟨c, hc⟩ : ∃ c : Conf, c = ⟨n, N, cp, cap, .slice a na ca⟩ := ⟨_, rfl⟩
  go_enter Try.func71, Try.ntmps71
  go_wp2_with fail
  go_loopw [8] (fun iv wr => RNewRel w base ρ r0 (w.heap.size + 1) w.heap.size c node shard iv wr) (fun iv _ => (N - intOf iv).toNat)
  case atStart =>
    have hb : Below w.heap.size w ((w.alloc (cellsObj 79 9 (refCell c 0 0 (.slice none 0 0) (.slice none 0 0)))).alloc (refSetO c node shard (.slice none 0 0) (.slice none 0 0))) := ((Below.refl _ _).alloc (Nat.le_refl _) _).alloc (by simp) _
    have ho1 : ((w.alloc (cellsObj 79 9 (refCell c 0 0 (.slice none 0 0) (.slice none 0 0)))).alloc (refSetO c node shard (.slice none 0 0) (.slice none 0 0))).heap[w.heap.size]? = some (cellsObj 79 9 (refCell c 0 0 (.slice none 0 0) (.slice none 0 0))) := by
      rw [Below.heap_alloc _ _ _ (by simp)]; exact heap_alloc_new w _
    have ho2 : ((w.alloc (cellsObj 79 9 (refCell c 0 0 (.slice none 0 0) (.slice none 0 0)))).alloc (refSetO c node shard (.slice none 0 0) (.slice none 0 0))).heap[w.heap.size + 1]? = some (refSetO c node shard (.slice none 0 0) (.slice none 0 0)) := by
      have e := heap_alloc_new (w.alloc (cellsObj 79 9 (refCell c 0 0 (.slice none 0 0) (.slice none 0 0)))) (refSetO c node shard (.slice none 0 0) (.slice none 0 0))
      rw [World.size_alloc] at e
      exact e
    have hz : ((w.alloc (cellsObj 79 9 (refCell c 0 0 (.slice none 0 0) (.slice none 0 0)))).alloc (refSetO c node shard (.slice none 0 0) (.slice none 0 0))).heap.size = w.heap.size + 2 := by simp
    have hw : (w.alloc (cellsObj 79 9 (refCell c 0 0 (.slice none 0 0) (.slice none 0 0)))).alloc (refSetO c node shard (.slice none 0 0) (.slice none 0 0)) = (w.alloc (.cells #[.int .i64 (n : Nat), .int .i64 (N : Nat), .int .i64 (cp : Nat), .int .i64 1, .int .i64 16, .int .i64 (cap : Nat), .int .i64 64, .int .i64 100, .slice a na ca] 79)).alloc (.cells #[.int .i64 (n : Nat), .int .i64 (N : Nat), .int .i64 (cp : Nat), .int .i64 1, .int .i64 16, .int .i64 (cap : Nat), .int .i64 64, .int .i64 100, .slice a na ca, .int .i64 node, .int .i64 shard, .slice none 0 0, .slice none 0 0] 181) := by
      rw [hc]
      rfl
    rw [hw] at hb ho1 ho2 hz
    refine ⟨0, lab (lab ρ w.heap.size (r0 + 34)) (w.heap.size + 1) (r0 + 31), .slice none 0 0, rfl, by omega, ⟨⟨ho2, lab_eq⟩, .inl ⟨rfl, rfl⟩, fun g hg => (by cases hg), ⟨ho1, by rw [lab_ne (by omega), lab_eq]⟩, fun k hk => ?_, by omega, hb.mono hbase⟩, hb.size, fun k hk => ⟨by rw [lab_ne (by omega), lab_ne (by omega)], fun _ => hb.block k hk⟩⟩
    have hk2 := Nat.le_trans (Nat.le_of_eq hz.symm) hk
    rw [lab_ne (by omega), lab_ne (by omega)]
    exact hf k (by omega)
  case round =>
    obtain ⟨i, ρ1, pv, rfl, hi, hA, hK⟩ := hrel
    have hcN : c.N = N := by rw [hc]
    have hcc : (c.cap : Int) = (cap : Int) := by rw [hc]
    rw [hcN] at hi
    by_cases hiN : i < N
    · have k1 : wr.cell? ⟨w.heap.size, 1, none⟩ = some (.int .i64 (N : Nat)) := by rw [obj_cell hA.conf.1 1 (by omega), hc]; rfl
      have k5 : wr.cell? ⟨w.heap.size, 5, none⟩ = some (.int .i64 (cap : Nat)) := by rw [obj_cell hA.conf.1 5 (by omega), hc]; rfl
      have k11 : wr.cell? ⟨w.heap.size + 1, 11, none⟩ = some pv := obj_cell hA.obj.1 11 (by omega)
      have q1 : (i : Int) < (N : Int) := by omega
      have hbr : base ≤ wr.heap.size := by have := hA.lo; have := lt_of_obj hA.obj.1; omega
      have hbA : Below wr.heap.size wr (wr.drew.alloc (.cells #[.int .i64 (cap : Nat), .int .i64 0, .int .i64 0, .int .i64 0, .int .u64 0, .string ⟨#[]⟩, .int .u64 0, .bool false] 185)) := ((Below.refl _ _).drew).alloc (Nat.le_refl _) _
      have KA := Keeps.below (fun _ => False) ρ1 hbA
      have A1 : RNewAt w (wr.drew.alloc (.cells #[.int .i64 (cap : Nat), .int .i64 0, .int .i64 0, .int .i64 0, .int .u64 0, .string ⟨#[]⟩, .int .u64 0, .bool false] 185)) base ρ1 r0 (w.heap.size + 1) w.heap.size c node shard i pv := by
        obtain ⟨a1, a2⟩ := OneN.keep hA.row hA.rowr KA id
        exact ⟨hA.obj.keep KA id, a1, a2, hA.conf.keep KA id, hA.free.le KA.1, hA.lo, hA.bel.trans (hbA.mono hbr)⟩
      have K01 := hK.trans (KA.mono (R' := fun r => r0 + 31 ≤ r ∧ r ≤ r0 + 34) (fun _ hr => hr.elim))
      have n6 := World.news_of_block (heap_alloc_new wr.drew (.cells #[.int .i64 (cap : Nat), .int .i64 0, .int .i64 0, .int .i64 0, .int .u64 0, .string ⟨#[]⟩, .int .u64 0, .bool false] 185))
      have hnc : ∀ k, k < 1 * 8 → [Value.int .i64 (cap : Nat), .int .i64 0, .int .i64 0, .int .i64 0, .int .u64 0, .string ⟨#[]⟩, .int .u64 0, .bool false][k]? = some (cP (fun _ => p0 c) (i * 8 + k)) := fun k hk => by
        rw [cP_at _ _ _ (by omega), ← p0_cells c k (by omega), hcc]
      have hb6w : base ≤ (wr.drew.alloc (.cells #[.int .i64 (cap : Nat), .int .i64 0, .int .i64 0, .int .i64 0, .int .u64 0, .string ⟨#[]⟩, .int .u64 0, .bool false] 185)).heap.size := Nat.le_trans hbr KA.1
      have c6 : (wr.alloc (.cells #[.int .i64 (cap : Nat), .int .i64 0, .int .i64 0, .int .i64 0, .int .u64 0, .string ⟨#[]⟩, .int .u64 0, .bool false] 185)).cell? ⟨w.heap.size + 1, 11, none⟩ = some pv := cellKeep ((Below.refl _ _).alloc (Nat.le_refl _) _) k11
      obtain ⟨A, m, cq, rfl⟩ := OneN.slice A1.row
      have HA := Lib.hid A1
      have HN := Lib.hid hnc
      have HN6 := Lib.hid n6
      clear hA hK A1 hnc n6 KA hbA
      go_wp2_with fail
      go_region_law ((first | (refine step_append_marked _ (by rfl) (.tmp 24) (.tmp 29) 179 (by rfl) base 185 k0' zeroPeer 8 72 Try.underlying179 hkk kz0 kz1 kz2 rfl (by decide) (.slice A m cq) i (cP (fun _ => p0 c)) (by rfl) HA.out.row ⟨wr.drew.heap.size, 0, none⟩ 1 1 [.int .i64 (cap : Nat), .int .i64 0, .int .i64 0, .int .i64 0, .int .u64 0, .string ⟨#[]⟩, .int .u64 0, .bool false] (by rfl) (by rfl) HN.out HN6.out (by simp [Value.oneCell']) (by omega) (by unfold maxLen; omega) (by omega) hb6w ?_; intro g7 cap7 w7 ho7 hgrow7 hat7; have q7 := HA.out.add hgrow7 (by simpa using hat7) ho7 hb6w; have hblk7 := q7.1; have y7 : w7.cell? ⟨w.heap.size + 1, 11, none⟩ = some (.slice A m cq) := obj_cell hblk7 11 (by omega); have fr7 : w7.frozen? ⟨w.heap.size + 1, 11, none⟩ = false := (by unfold refSetO cellsObj at hblk7; exact free_of_obj hblk7 11)) | fail))
      all_goals
        go_wp2_with fail
        obtain ⟨_, n7, K7⟩ := q7
        exact ⟨⟨i + 1, _, _, by go_num, by omega, n7, K01.trans (K7.mono (fun r hr => by omega))⟩, by simp [intOf]; omega⟩
    · obtain rfl : i = N := by omega
      have k1 : wr.cell? ⟨w.heap.size, 1, none⟩ = some (.int .i64 (i : Nat)) := by rw [obj_cell hA.conf.1 1 (by omega), hc]; rfl
      go_wp2_with fail
      go_ret
      obtain ⟨g, cpx, hpv⟩ := OneN.form hA.row (by omega)
      subst hpv
      refine ⟨_, g, cpx, ρ1, rfl, ?_, hK, hA.free, hA.bel⟩
      rw [← hc]
      have : RSet wr base ρ1 r0 (w.heap.size + 1) c node shard (fun _ => p0 c) (.slice (some ⟨g, 0, none⟩) i cpx) (.slice none 0 0) [] :=
        ⟨hA.obj, by rw [hcN]; exact hA.row, hA.rowr, .inl ⟨rfl, rfl⟩, fun g hg => (by cases hg), hA.lo, by rw [hcN]; exact hN⟩
      exact this
end Go.Proofs.Ytbgojhjlmlbfpaa
