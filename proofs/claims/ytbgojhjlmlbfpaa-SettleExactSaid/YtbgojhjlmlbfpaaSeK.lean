/- settle.New. -/
import Derived.Test.YtbgojhjlmlbfpaaSeI
import Derived.Test.YtbgojhjlmlbfpaaPlN
import Derived.Deep.RegionLaw
namespace Go.Proofs.Ytbgojhjlmlbfpaa
open Go.RowKit

def zeroEnt : Ent := ⟨0, 0, ByteArray.empty, 0⟩
def zeroWay : Value := .agg #[.pointer none, .slice none 0 0, .int .i64 0, .int .i64 0, .int .u64 0, .string ByteArray.empty, .int .u64 0, .bool false]
theorem way_info : (Try.prog.info? 140).map (fun i => (i.zero, i.size, i.bytes)) = some (some zeroWay, 8, 88) := by kernel_rfl
/-- A way as New lays it. -/
structure FreshWay (y : Way) (cap : Int) (L : List Int) : Prop where
  c : y.c = cap
  l : y.l = 0
  g : y.g = 1
  L : y.L = L
  turn : y.turn = 0
  e : y.e = zeroEnt
  there : y.there = false
/-- New, with i ways laid. -/
structure NewAt (w wr : World) (base : Nat) (ρ : Nat → Nat) (r0 S C : Nat) (confO : Obj) (node shard cap : Int) (L : Nat → List Int) (i : Nat) (ws : Nat → Way) (wv : Value) : Prop where
  obj : Objr wr ρ (r0 + 1) S (setObj node shard wv (.slice none 0 0))
  row : One wr base 140 8 wv i (cW ws)
  rowr : ∀ g, wv.ownBlock = some g → ρ g = r0 + 2
  pace : ∀ k, k < i → Objr wr ρ (r0 + 20 + k) (ws k).pb (ws k).pace
  cop : ∀ k, k < i → Lst wr base ρ (r0 + 3) 3 (ws k).cv (ws k).L.length (lst (intsL (ws k).L))
  lo : base ≤ S ∧ ∀ k, k < i → base ≤ (ws k).pb
  fresh : ∀ k, k < i → FreshWay (ws k) cap (L k)
  conf : Objr wr ρ (r0 + 8) C confO
  free : Free wr ρ
  bel : Below base w wr
theorem NewAt.keep {R : Nat → Prop} {w wr w' : World} {base r0 S C i : Nat} {ρ ρ' : Nat → Nat} {confO : Obj} {node shard cap : Int} {L : Nat → List Int} {ws : Nat → Way} {wv : Value} (h : NewAt w wr base ρ r0 S C confO node shard cap L i ws wv) (hK : Keeps R wr ρ w' ρ') (hf : Free w' ρ') (hb : Below base wr w')
    (h1 : ¬ R (r0 + 1)) (h2 : ¬ R (r0 + 2)) (h3 : ¬ R (r0 + 3)) (h8 : ¬ R (r0 + 8)) (h20 : ∀ r, r0 + 20 ≤ r → ¬ R r) : NewAt w w' base ρ' r0 S C confO node shard cap L i ws wv := by
  obtain ⟨a1, a2⟩ := OneN.keep h.row h.rowr hK h2
  exact ⟨h.obj.keep hK h1, a1, a2, fun k hk => (h.pace k hk).keep hK (h20 _ (by omega)), fun k hk => (h.cop k hk).keep hK h3, h.lo, h.fresh, h.conf.keep hK h8, hf, h.bel.trans hb⟩
theorem grown_belowN {W w1 : World} {base : Nat} {v : Value} (hg : W.grownBy w1 v.ownBlock) (hv : ∀ g, v.ownBlock = some g → base ≤ g) (hbase : base ≤ W.heap.size) : Below base W w1 :=
  ⟨hg.os, hg.tape, hg.output, hg.size, fun k hk => hg.block k (by omega) (fun e => by have := hv k e.symm; omega)⟩
theorem NewAt.add {w wa w7 : World} {base r0 S C i g cap7 : Nat} {ρ : Nat → Nat} {confO : Obj} {node shard cap : Int} {L : Nat → List Int} {ws : Nat → Way} {wv : Value} (h : NewAt w wa base ρ r0 S C confO node shard cap L i ws wv) (y : Way) (hy : FreshWay y cap (L i)) (hpb : base ≤ y.pb)
    (hp : Objr wa ρ (r0 + 20 + i) y.pb y.pace) (hc : Lst wa base ρ (r0 + 3) 3 y.cv y.L.length (lst (intsL y.L))) (hg : wa.grownBy w7 wv.ownBlock) (hat : wv.ownBlock = some g ∨ g = wa.heap.size)
    (hone : One w7 base 140 8 (.slice (some ⟨g, 0, none⟩) (i + 1) cap7) (i + 1) (cW (updW ws i y))) :
    w7.heap[S]? = some (setObj node shard wv (.slice none 0 0)) ∧ NewAt w (w7.setCell ⟨S, 2, none⟩ (.slice (some ⟨g, 0, none⟩) (i + 1) cap7)) base (lab ρ g (r0 + 2)) r0 S C confO node shard cap L (i + 1) (updW ws i y) (.slice (some ⟨g, 0, none⟩) (i + 1) cap7) ∧
      Keeps (fun r => r = r0 + 1 ∨ r = r0 + 2) wa ρ (w7.setCell ⟨S, 2, none⟩ (.slice (some ⟨g, 0, none⟩) (i + 1) cap7)) (lab ρ g (r0 + 2)) := by
  have hlt := (hone.block (g := g) rfl).2
  have hK : Keeps (fun r => r = r0 + 2) wa ρ w7 (lab ρ g (r0 + 2)) := Keeps.grown hg h.rowr rfl hat
  have hS := h.obj.keep hK (by omega)
  have ho : OnlyB w7 (w7.setCell ⟨S, 2, none⟩ (.slice (some ⟨g, 0, none⟩) (i + 1) cap7)) S (setObj node shard (.slice (some ⟨g, 0, none⟩) (i + 1) cap7) (.slice none 0 0)) := OnlyB.set (OnlyB.refl hS.1) (lt_of_obj hS.1) 2 _
  have hK2 : Keeps (fun r => r = r0 + 1) w7 (lab ρ g (r0 + 2)) (w7.setCell ⟨S, 2, none⟩ (.slice (some ⟨g, 0, none⟩) (i + 1) cap7)) (lab ρ g (r0 + 2)) := Keeps.only _ ho hS.2
  have hK3 := (hK.mono (R' := fun r => r = r0 + 1 ∨ r = r0 + 2) (fun r hr => .inr hr)).trans (hK2.mono (fun r hr => .inl hr))
  obtain ⟨a1, a2⟩ := OneN.keep (r := r0 + 2) hone (fun g' hg' => by simp [Value.ownBlock] at hg'; subst hg'; exact lab_eq) hK2 (by omega)
  have hbw : base ≤ wa.heap.size := by have := h.lo.1; have := lt_of_obj h.obj.1; omega
  have hsel : ∀ k, k < i + 1 → k = i ∨ k < i := fun k hk => by omega
  refine ⟨hS.1, ⟨⟨ho.at_ (lt_of_obj hS.1), hS.2⟩, a1, a2, fun k hk => ?_, fun k hk => ?_, ⟨h.lo.1, fun k hk => ?_⟩, fun k hk => ?_, h.conf.keep hK3 (by omega), (h.free.lab hg.size hlt _).le (Nat.le_of_eq ho.size.symm), (h.bel.trans (grown_belowN hg (fun g' hg' => (h.row.block hg').1) hbw)).trans (ho.below h.lo.1)⟩, hK3⟩
  · rcases hsel k hk with rfl | hk
    · rw [updW_eq]
      exact hp.keep hK3 (by omega)
    · rw [updW_ne (by omega)]
      exact (h.pace k hk).keep hK3 (by omega)
  · rcases hsel k hk with rfl | hk
    · rw [updW_eq]
      exact hc.keep hK3 (by omega)
    · rw [updW_ne (by omega)]
      exact (h.cop k hk).keep hK3 (by omega)
  · rcases hsel k hk with rfl | hk
    · rw [updW_eq]
      exact hpb
    · rw [updW_ne (by omega)]
      exact h.lo.2 k hk
  · rcases hsel k hk with rfl | hk
    · rw [updW_eq]
      exact hy
    · rw [updW_ne (by omega)]
      exact h.fresh k hk
theorem step_append_marked {P : Program} {ops : Array Oper} {o : Oper} {a : Act} {K : Act → World → Prop} {Q : Exit → Act → World → Prop} {E : Prop} (w : World) (hgd : o.guard = none) (s x : Operand) (t : TypeId)
    (ho : o.op = .call { callee := .builtin .append, args := #[s, x], argTypes := #[t, t] })
    (base : Nat) (e : TypeId) (i : TypeInfo) (z : Value) (size bytes : Nat) (ht : P.underlying t = some (.slice e)) (hi : P.info? e = some i) (hz : i.zero = some z)
    (hsize : i.size = size) (hby : i.bytes = bytes) (hzs : z.cells.size = size) (hsz : 0 < size)
    (v : Value) (n : Nat) (c : Nat → Value) (hs : a.eval s = v) (hv : One w base e size v n c)
    (ad : Addr) (m cp : Nat) (news : List Value) (hx : a.eval x = .slice (some ad) m cp) (hl : news.length = m * size) (hnc : ∀ k, k < m * size → news[k]? = some (c (n * size + k))) (hnews : ∀ j u, news[j]? = some u → w.cell? (ad.add j) = some u) (h1 : ∀ u ∈ news, u.oneCell' = true)
    (hm : 0 < m) (h63 : n + m ≤ maxLen) (hbytes : (n + m) * bytes ≤ 140737488355328) (hbase : base ≤ w.heap.size)
    (h : ∀ g cap w', One w' base e size (.slice (some ⟨g, 0, none⟩) (n + m) cap) (n + m) c → w.grownBy w' v.ownBlock → (v.ownBlock = some g ∨ g = w.heap.size) → K (a.put o.dst (.slice (some ⟨g, 0, none⟩) (n + m) cap)) w') :
    if Region.wanted o (yielded ops a.tmps) = true then Oper.wp P o a w K Q else E := by
  have hw : Region.wanted o (yielded ops a.tmps) = true := by simp [Region.wanted, hgd]
  rw [if_pos hw]
  obtain ⟨g, cap, w', hr, h2, h3, h4, _⟩ := run_append_marked (P := P) w base t o.type e i z size bytes ht hi hz hsize hby hzs hsz v n c hv ad m cp news hl hnc hnews h1 hm h63 hbytes hbase
  unfold Oper.wp execOp
  simp only [ho, resolve, invoke, builtin, Sem.run_bind, Sem.run_pure, Result.andThen_ok, List.map_toArray, List.map_cons, List.map_nil, hs, hx, hr]
  exact h g cap w' h2 h3 h4
def confObj (nodes sh copies cl qn cap pat fl : Int) (a : Option Addr) (n c : Nat) : Obj := .cells #[.int .i64 nodes, .int .i64 sh, .int .i64 copies, .int .i64 cl, .int .i64 qn, .int .i64 cap, .int .i64 pat, .int .i64 fl, .slice a n c] 79 (0, 0)
def NewRel (w : World) (base : Nat) (ρ : Nat → Nat) (r0 S C : Nat) (confO : Obj) (node shard cap : Int) (L : Nat → List Int) (N : Nat) (iv : Value) (wr : World) : Prop :=
  ∃ (i : Nat) (ρ' : Nat → Nat) (ws : Nat → Way) (wv : Value), iv = .int .i64 i ∧ i ≤ N ∧ NewAt w wr base ρ' r0 S C confO node shard cap L i ws wv ∧ Keeps (fun r => r0 + 1 ≤ r ∧ r < r0 + 28) w ρ wr ρ'
set_option maxRecDepth 100000 in
set_option maxHeartbeats 2000000 in
theorem settle_new (w : World) (base r0 : Nat) (ρ : Nat → Nat) (node shard cl qn pat fl : Int) (nodes N copies cap : Nat) (a : Option Addr) (na ca : Nat) (hN : 1 ≤ N ∧ N ≤ 8) (hcap : 1 ≤ cap ∧ cap ≤ 64) (hn : 1 ≤ nodes ∧ nodes ≤ 9) (hc : 1 ≤ copies ∧ copies ≤ nodes ∧ copies ≤ 7 ∧ copies % 2 = 1)
    (hf : Free w ρ) (hbase : base ≤ w.heap.size) :
    Calls Try.prog 27 #[.agg #[.int .i64 (nodes : Nat), .int .i64 (N : Nat), .int .i64 (copies : Nat), .int .i64 cl, .int .i64 qn, .int .i64 (cap : Nat), .int .i64 pat, .int .i64 fl, .slice a na ca], .int .i64 node, .int .i64 shard] w fun e w' =>
      ∃ S W cp ρ' ws, e = .returned (.pointer (some ⟨S, 0, none⟩)) ∧ SetAt w' base ρ' r0 S node shard N ws (.slice (some ⟨W, 0, none⟩) N cp) (.slice none 0 0) [] ∧ (∀ k, k < N → FreshWay (ws k) cap (copiesL k nodes copies)) ∧ Keeps (fun r => r0 + 1 ≤ r ∧ r < r0 + 28) w ρ w' ρ' ∧ Free w' ρ' ∧ Below base w w' := by
  obtain ⟨k0', hkk, kz0, kz1, kz2⟩ := info_parts way_info
  go_enter Try.func27, Try.ntmps27
  go_wp2
  go_loopw [16] (fun iv wr => NewRel w base ρ r0 (w.heap.size + 1) w.heap.size (confObj nodes N copies cl qn cap pat fl a na ca) node shard cap (fun k => copiesL k nodes copies) N iv wr) (fun iv _ => (N - intOf iv).toNat)
  case atStart =>
    have hb : Below w.heap.size w ((w.alloc (confObj nodes N copies cl qn cap pat fl a na ca)).alloc (setObj node shard (.slice none 0 0) (.slice none 0 0))) := ((Below.refl _ _).alloc (Nat.le_refl _) _).alloc (by simp) _
    have ho1 : ((w.alloc (confObj nodes N copies cl qn cap pat fl a na ca)).alloc (setObj node shard (.slice none 0 0) (.slice none 0 0))).heap[w.heap.size]? = some (confObj nodes N copies cl qn cap pat fl a na ca) := by
      rw [Below.heap_alloc _ _ _ (by simp)]; exact heap_alloc_new w _
    have ho2 : ((w.alloc (confObj nodes N copies cl qn cap pat fl a na ca)).alloc (setObj node shard (.slice none 0 0) (.slice none 0 0))).heap[w.heap.size + 1]? = some (setObj node shard (.slice none 0 0) (.slice none 0 0)) := by
      have e := heap_alloc_new (w.alloc (confObj nodes N copies cl qn cap pat fl a na ca)) (setObj node shard (.slice none 0 0) (.slice none 0 0))
      rw [World.size_alloc] at e
      exact e
    have hz : ((w.alloc (confObj nodes N copies cl qn cap pat fl a na ca)).alloc (setObj node shard (.slice none 0 0) (.slice none 0 0))).heap.size = w.heap.size + 2 := by simp
    refine ⟨0, lab (lab ρ w.heap.size (r0 + 8)) (w.heap.size + 1) (r0 + 1), fun _ => ⟨0, 0, 0, 0, .slice none 0 0, [], 0, zeroEnt, false⟩, .slice none 0 0, rfl, by omega, ⟨⟨ho2, lab_eq⟩, .inl ⟨rfl, rfl⟩, fun g hg => by simp [Value.ownBlock] at hg, fun k hk => by omega, fun k hk => by omega, ⟨by omega, fun k hk => by omega⟩, fun k hk => by omega, ⟨ho1, by rw [lab_ne (by omega), lab_eq]⟩, fun k hk => ?_, hb.mono hbase⟩, hb.size, fun k hk => ⟨by rw [lab_ne (by omega), lab_ne (by omega)], fun _ => hb.block k hk⟩⟩
    have hk2 := Nat.le_trans (Nat.le_of_eq hz.symm) hk
    rw [lab_ne (by omega), lab_ne (by omega)]
    exact hf k (by omega)
  case round =>
    obtain ⟨i, ρ1, ws, wv, rfl, hi, hA, hK⟩ := hrel
    by_cases hiN : i < N
    · have k0 := cell_of_obj hA.conf.1 0
      have k2 := cell_of_obj hA.conf.1 2
      have k5 := cell_of_obj hA.conf.1 5
      simp only [List.getElem?_toArray, List.getElem?_cons_zero, List.getElem?_cons_succ] at k0 k2 k5
      have q1 : (i : Int) < (N : Int) := by omega
      have hbr : base ≤ wr.heap.size := by have := hA.lo.1; have := lt_of_obj hA.obj.1; omega
      have hbA : Below wr.heap.size wr (wr.alloc (.cells #[.pointer none, .slice none 0 0, .int .i64 0, .int .i64 0, .int .u64 0, .string ⟨#[]⟩, .int .u64 0, .bool false] 140)) := (Below.refl _ _).alloc (Nat.le_refl _) _
      have KA : Keeps (fun _ => False) wr ρ1 (wr.alloc (.cells #[.pointer none, .slice none 0 0, .int .i64 0, .int .i64 0, .int .u64 0, .string ⟨#[]⟩, .int .u64 0, .bool false] 140)) (lab ρ1 wr.heap.size (r0 + 9)) := ⟨hbA.size, fun k hk => ⟨lab_ne (by omega), fun _ => hbA.block k hk⟩⟩
      have FA : Free (wr.alloc (.cells #[.pointer none, .slice none 0 0, .int .i64 0, .int .i64 0, .int .u64 0, .string ⟨#[]⟩, .int .u64 0, .bool false] 140)) (lab ρ1 wr.heap.size (r0 + 9)) := hA.free.lab hbA.size (by simp) _
      have A1 := hA.keep KA FA (hbA.mono hbr) id id id id (fun _ _ => id)
      have T1 : Objr (wr.alloc (.cells #[.pointer none, .slice none 0 0, .int .i64 0, .int .i64 0, .int .u64 0, .string ⟨#[]⟩, .int .u64 0, .bool false] 140)) (lab ρ1 wr.heap.size (r0 + 9)) (r0 + 9) wr.heap.size (.cells #[.pointer none, .slice none 0 0, .int .i64 0, .int .i64 0, .int .u64 0, .string ⟨#[]⟩, .int .u64 0, .bool false] 140 (0, 0)) := ⟨heap_alloc_new wr _, lab_eq⟩
      have m5 := cellKeep hbA k5
      have z1 : (wr.alloc (.cells #[.pointer none, .slice none 0 0, .int .i64 0, .int .i64 0, .int .u64 0, .string ⟨#[]⟩, .int .u64 0, .bool false] 140)).heap.size = wr.heap.size + 1 := by simp
      have K01 := hK.trans (KA.mono (fun _ hr => hr.elim))
      go_wp2_with fail
      generalize wr.alloc (.cells #[.pointer none, .slice none 0 0, .int .i64 0, .int .i64 0, .int .u64 0, .string ⟨#[]⟩, .int .u64 0, .bool false] 140) = w1 at A1 T1 FA m5 z1 K01 ⊢
      generalize lab ρ1 wr.heap.size (r0 + 9) = ρA at A1 T1 FA K01
      obtain ⟨T, hT⟩ : ∃ T, wr.heap.size = T := ⟨_, rfl⟩
      rw [hT] at T1 z1 ⊢
      clear hbA KA k0 k2 k5 hA hK
      refine (pace_new cap w1 (by omega) (by omega)).mono ?_
      rintro e w2 ⟨rfl, hp2, hb2, z2⟩
      obtain ⟨P, hP⟩ : ∃ P, w1.heap.size = P := ⟨_, rfl⟩
      have K2 : Keeps (fun _ => False) w1 ρA w2 (lab ρA P (r0 + 20 + i)) := ⟨hb2.size, fun k hk => ⟨lab_ne (by omega), fun _ => hb2.block k hk⟩⟩
      have F2 : Free w2 (lab ρA P (r0 + 20 + i)) := FA.lab hb2.size (by omega) _
      have hb1w : base ≤ w1.heap.size := by omega
      have A2 := A1.keep K2 F2 (hb2.mono hb1w) id id id id (fun _ _ => id)
      have T2 := T1.keep K2 id
      rw [hP] at hp2 hb1w ⊢
      have P2 : Objr w2 (lab ρA P (r0 + 20 + i)) (r0 + 20 + i) P (paceObj P cap 0 1 (decide ((0 : Int) ≤ 1))) := ⟨hp2, lab_eq⟩
      have K02 := K01.trans (K2.mono (fun _ hr => hr.elim))
      generalize lab ρA P (r0 + 20 + i) = ρB at A2 T2 F2 P2 K02
      have t20 := cell_of_obj T2.1 0
      simp only [List.getElem?_toArray, List.getElem?_cons_zero] at t20
      have tf0 := free_of_obj T2.1 0
      have o2 : OnlyB w2 (w2.setCell ⟨T, 0, none⟩ (.pointer (some ⟨P, 0, none⟩))) T (.cells #[.pointer (some ⟨P, 0, none⟩), .slice none 0 0, .int .i64 0, .int .i64 0, .int .u64 0, .string ⟨#[]⟩, .int .u64 0, .bool false] 140 (0, 0)) := OnlyB.set (OnlyB.refl T2.1) (lt_of_obj T2.1) 0 _
      have K3 : Keeps (fun r => r = r0 + 9) w2 ρB (w2.setCell ⟨T, 0, none⟩ (.pointer (some ⟨P, 0, none⟩))) ρB := Keeps.only ρB o2 T2.2
      have hbT : base ≤ T := by omega
      have F3 := F2.le (Nat.le_of_eq o2.size.symm)
      have A3 := A2.keep K3 F3 (o2.below hbT) (by omega) (by omega) (by omega) (by omega) (fun r hr => by omega)
      have P3 := P2.keep K3 (by omega)
      have T3 : Objr _ ρB (r0 + 9) T _ := ⟨o2.at_ (lt_of_obj T2.1), T2.2⟩
      have K03 := K02.trans (K3.mono (R' := fun r => r0 + 1 ≤ r ∧ r < r0 + 28) (fun r hr => by omega))
      have k0 := cell_of_obj A3.conf.1 0
      have k2 := cell_of_obj A3.conf.1 2
      simp only [List.getElem?_toArray, List.getElem?_cons_zero, List.getElem?_cons_succ] at k0 k2
      go_wp2_with fail
      generalize w2.setCell ⟨T, 0, none⟩ (.pointer (some ⟨P, 0, none⟩)) = w3 at A3 T3 P3 F3 K03 k0 k2 ⊢
      clear K3 o2
      have hlen := copiesL_length (s := i) hc.2.1
      refine (copies_ok i nodes copies w3 hn.1 hn.2 hc.1 hc.2.1 hc.2.2.1 hc.2.2.2 (by omega)).mono ?_
      rintro e w4 ⟨v4, rfl, hv4⟩
      have hb4 := hv4.below
      obtain ⟨gv, cpv, rfl, hg4, hb4', ho4⟩ := hv4
      obtain ⟨L4, hL4⟩ : ∃ L, copiesL i nodes copies = L := ⟨_, rfl⟩
      rw [hL4] at ho4 hlen ⊢
      rw [hlen] at ho4 ⊢
      have HLN := Lib.hid hlen
      clear hlen
      have hbase3 : base ≤ w3.heap.size := by have := A3.lo.1; have := lt_of_obj A3.obj.1; omega
      obtain ⟨ρC, K4, F4, q4, r4⟩ := label_new (r := r0 + 3) hb4 (One.ofRow ho4) hbase3 F3
      have A4 := A3.keep K4 F4 (hb4.mono hbase3) id id id id (fun _ _ => id)
      have T4 := T3.keep K4 id
      have P4 := P3.keep K4 id
      have C4 : Lst w4 base ρC (r0 + 3) 3 (.slice (some ⟨gv, 0, none⟩) copies cpv) copies (lst (intsL L4)) := ⟨q4, r4⟩
      have K04 := K03.trans (K4.mono (fun _ hr => hr.elim))
      have t41 := cell_of_obj T4.1 1
      simp only [List.getElem?_toArray, List.getElem?_cons_zero, List.getElem?_cons_succ] at t41
      have tf1 := free_of_obj T4.1 1
      have o5 : OnlyB w4 (w4.setCell ⟨T, 1, none⟩ (.slice (some ⟨gv, 0, none⟩) copies cpv)) T (.cells #[.pointer (some ⟨P, 0, none⟩), .slice (some ⟨gv, 0, none⟩) copies cpv, .int .i64 0, .int .i64 0, .int .u64 0, .string ⟨#[]⟩, .int .u64 0, .bool false] 140 (0, 0)) := OnlyB.set (OnlyB.refl T4.1) (lt_of_obj T4.1) 1 _
      have K5 : Keeps (fun r => r = r0 + 9) w4 ρC (w4.setCell ⟨T, 1, none⟩ (.slice (some ⟨gv, 0, none⟩) copies cpv)) ρC := Keeps.only ρC o5 T4.2
      have F5 := F4.le (Nat.le_of_eq o5.size.symm)
      have A5 := A4.keep K5 F5 (o5.below hbT) (by omega) (by omega) (by omega) (by omega) (fun r hr => by omega)
      have P5 := P4.keep K5 (by omega)
      have C5 := C4.keep K5 (by omega)
      have T5 : Objr _ ρC (r0 + 9) T _ := ⟨o5.at_ (lt_of_obj T4.1), T4.2⟩
      have K05 := K04.trans (K5.mono (R' := fun r => r0 + 1 ≤ r ∧ r < r0 + 28) (fun r hr => by omega))
      go_wp2_with fail
      generalize w4.setCell ⟨T, 1, none⟩ (.slice (some ⟨gv, 0, none⟩) copies cpv) = w5 at A5 T5 P5 C5 F5 K05 ⊢
      have c5 := cell_of_obj A5.obj.1 2
      simp only [List.getElem?_toArray, List.getElem?_cons_zero, List.getElem?_cons_succ] at c5
      have t50 := cell_of_obj T5.1 0
      have t51 := cell_of_obj T5.1 1
      have t52 := cell_of_obj T5.1 2
      have t53 := cell_of_obj T5.1 3
      have t54 := cell_of_obj T5.1 4
      have t55 := cell_of_obj T5.1 5
      have t56 := cell_of_obj T5.1 6
      have t57 := cell_of_obj T5.1 7
      simp only [List.getElem?_toArray, List.getElem?_cons_zero, List.getElem?_cons_succ] at t50 t51 t52 t53 t54 t55 t56 t57
      -- the new way
      obtain ⟨y, hy⟩ : ∃ y : Way, y = ⟨P, cap, 0, 1, .slice (some ⟨gv, 0, none⟩) copies cpv, L4, 0, zeroEnt, false⟩ := ⟨_, rfl⟩
      have hyc : ∀ k, k < 8 → [Value.pointer (some ⟨P, 0, none⟩), .slice (some ⟨gv, 0, none⟩) copies cpv, .int .i64 0, .int .i64 0, .int .u64 0, .string ⟨#[]⟩, .int .u64 0, .bool false][k]? = some (y.cell k) := by
        intro k hk
        subst hy
        match k, hk with
        | 0, _ => rfl
        | 1, _ => rfl
        | 2, _ => rfl
        | 3, _ => rfl
        | 4, _ => rfl
        | 5, _ => rfl
        | 6, _ => rfl
        | 7, _ => rfl
      have hcw : One w5 base 140 8 wv i (cW (updW ws i y)) := A5.row.congr fun k hk => by
        unfold cW
        rw [updW_ne (by omega)]
      have hnc : ∀ k, k < 1 * 8 → [Value.pointer (some ⟨P, 0, none⟩), .slice (some ⟨gv, 0, none⟩) copies cpv, .int .i64 0, .int .i64 0, .int .u64 0, .string ⟨#[]⟩, .int .u64 0, .bool false][k]? = some (cW (updW ws i y) (i * 8 + k)) := fun k hk => by
        rw [hyc k (by omega), cW_at _ _ _ (by omega), updW_eq]
      have hb6 : Below w5.heap.size w5 (w5.drew.alloc (.cells #[.pointer (some ⟨P, 0, none⟩), .slice (some ⟨gv, 0, none⟩) copies cpv, .int .i64 0, .int .i64 0, .int .u64 0, .string ⟨#[]⟩, .int .u64 0, .bool false] 140)) := ((Below.refl _ _).drew).alloc (Nat.le_refl _) _
      have hbase5 : base ≤ w5.heap.size := by have := A5.lo.1; have := lt_of_obj A5.obj.1; omega
      obtain ⟨A, m, cq, rfl⟩ := OneN.slice A5.row
      have h6 := hcw.below hb6
      have n6 := World.news_of_block (heap_alloc_new w5.drew (.cells #[.pointer (some ⟨P, 0, none⟩), .slice (some ⟨gv, 0, none⟩) copies cpv, .int .i64 0, .int .i64 0, .int .u64 0, .string ⟨#[]⟩, .int .u64 0, .bool false] 140))
      have c6 : (w5.alloc (.cells #[.pointer (some ⟨P, 0, none⟩), .slice (some ⟨gv, 0, none⟩) copies cpv, .int .i64 0, .int .i64 0, .int .u64 0, .string ⟨#[]⟩, .int .u64 0, .bool false] 140)).cell? ⟨w.heap.size + 1, 2, none⟩ = some (.slice A m cq) := cellKeep ((Below.refl _ _).alloc (Nat.le_refl _) _) c5
      have K6 := Keeps.below (fun _ => False) ρC hb6
      have F6 := F5.le K6.1
      have A6 := A5.keep K6 F6 (hb6.mono hbase5) id id id id (fun _ _ => id)
      have P6 := P5.keep K6 id
      have C6 := C5.keep K6 id
      have K06 := K05.trans (K6.mono (fun _ hr => hr.elim))
      have hb6w : base ≤ (w5.drew.alloc (.cells #[.pointer (some ⟨P, 0, none⟩), .slice (some ⟨gv, 0, none⟩) copies cpv, .int .i64 0, .int .i64 0, .int .u64 0, .string ⟨#[]⟩, .int .u64 0, .bool false] 140)).heap.size := Nat.le_trans hbase5 K6.1
      have hyF : FreshWay y cap (copiesL i nodes copies) := by
        rw [hL4]
        subst hy
        exact ⟨rfl, rfl, rfl, rfl, rfl, rfl, rfl⟩
      have hyP : base ≤ y.pb := by subst hy; exact hb1w
      have P6y : Objr (w5.drew.alloc (.cells #[.pointer (some ⟨P, 0, none⟩), .slice (some ⟨gv, 0, none⟩) copies cpv, .int .i64 0, .int .i64 0, .int .u64 0, .string ⟨#[]⟩, .int .u64 0, .bool false] 140)) ρC (r0 + 20 + i) y.pb y.pace := by subst hy; exact P6
      have C6y : Lst (w5.drew.alloc (.cells #[.pointer (some ⟨P, 0, none⟩), .slice (some ⟨gv, 0, none⟩) copies cpv, .int .i64 0, .int .i64 0, .int .u64 0, .string ⟨#[]⟩, .int .u64 0, .bool false] 140)) base ρC (r0 + 3) 3 y.cv y.L.length (lst (intsL y.L)) := by
        subst hy
        show Lst _ base ρC (r0 + 3) 3 (.slice (some ⟨gv, 0, none⟩) copies cpv) L4.length (lst (intsL L4))
        rw [HLN.out]
        exact C6
      go_region_law ((first | (refine step_append_marked _ (by rfl) (.tmp 42) (.tmp 44) 133 (by rfl) base 140 k0' zeroWay 8 88 Try.underlying133 hkk kz0 kz1 kz2 rfl (by decide) (.slice A m cq) i (cW (updW ws i y)) (by rfl) h6 ⟨w5.drew.heap.size, 0, none⟩ 1 1 [.pointer (some ⟨P, 0, none⟩), .slice (some ⟨gv, 0, none⟩) copies cpv, .int .i64 0, .int .i64 0, .int .u64 0, .string ⟨#[]⟩, .int .u64 0, .bool false] (by rfl) (by rfl) hnc n6 (by simp [Value.oneCell']) (by omega) (by unfold maxLen; omega) (by omega) hb6w ?_; intro g7 cap7 w7 ho7 hgrow7 hat7; have q7 := A6.add y hyF hyP P6y C6y hgrow7 (by simpa using hat7) ho7; have hblk7 := q7.1; have fr7 := free_of_obj hblk7 2; have y7 := cell_of_obj hblk7 2; simp only [List.getElem?_toArray, List.getElem?_cons_zero, List.getElem?_cons_succ] at y7) | fail))
      all_goals
        go_wp2
        obtain ⟨_, n7, K7⟩ := q7
        exact ⟨⟨i + 1, _, _, _, by go_num, by omega, n7, K06.trans (K7.mono (fun r hr => by omega))⟩, by simp [intOf]; omega⟩
    · obtain rfl : i = N := by omega
      go_wp2
      go_ret
      obtain ⟨g, cp, hwv⟩ := OneN.form hA.row (by omega)
      subst hwv
      have hlenk : ∀ k, (copiesL k nodes copies).length = copies := fun k => copiesL_length hc.2.1
      refine ⟨_, g, cp, ρ1, ws, rfl, ⟨hA.obj, hA.row, hA.rowr, .inl ⟨rfl, rfl⟩, fun g hg => by simp [Value.ownBlock] at hg, hA.pace, hA.cop, hA.lo, hN.1, hN.2, fun k hk => ?_⟩, hA.fresh, hK, hA.free, hA.bel⟩
      have hf := hA.fresh k hk
      exact ⟨by rw [hf.c]; omega, by rw [hf.l]; omega, by rw [hf.g]; omega, by rw [hf.turn, hf.L, hlenk]; omega⟩
end Go.Proofs.Ytbgojhjlmlbfpaa
