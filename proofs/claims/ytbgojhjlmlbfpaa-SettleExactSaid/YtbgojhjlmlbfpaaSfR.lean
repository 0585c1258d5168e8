/- A Play's Look, in an even turn: the entries lie where the last ones lay. -/
import Derived.Test.YtbgojhjlmlbfpaaSfQ
namespace Go.Proofs.Ytbgojhjlmlbfpaa
open Go.RowKit

theorem oper_append_by {P : Program} {w : World} {o : Oper} {a : Act} {K : Act → World → Prop} {Q : Exit → Act → World → Prop} (s x : Operand) (t : TypeId)
    (ho : o.op = .call { callee := .builtin .append, args := #[s, x], argTypes := #[t, t] }) {vs vx v' : Value} {w' : World} (hs : a.eval s = vs) (hx : a.eval x = vx)
    (hr : (Builtin.append_ #[t, t] o.type #[vs, vx]).run P w = .ok v' w') (h : K (a.put o.dst v') w') : o.wp P a w K Q := by
  unfold Oper.wp execOp
  simp only [ho, resolve, invoke, builtin, Sem.run_bind, Sem.run_pure, Result.andThen_ok, List.map_toArray, List.map_cons, List.map_nil, hs, hx, hr]
  exact h
theorem grown_lab {w w' : World} {v0 v' : Value} {ρ : Nat → Nat} {r : Nat} (hg : w.grownBy w' v0.ownBlock) (hv : ∀ g, v0.ownBlock = some g → ρ g = r) (hat : v'.ownBlock = v0.ownBlock ∨ v'.ownBlock = some w.heap.size) (hlt : ∀ g, v'.ownBlock = some g → g < w'.heap.size) (hF : Free w ρ) :
    ∃ ρ', Keeps (fun x => x = r) w ρ w' ρ' ∧ Free w' ρ' ∧ ∀ g, v'.ownBlock = some g → ρ' g = r := by
  cases h : v'.ownBlock with
  | none =>
    rcases hat with hat | hat
    · rw [h] at hat
      refine ⟨ρ, ⟨hg.size, fun k hk => ⟨rfl, fun _ => hg.block k hk (by rw [← hat]; simp)⟩⟩, hF.le hg.size, fun g hh => by cases hh⟩
    · rw [h] at hat; cases hat
  | some g =>
    have hat' : v0.ownBlock = some g ∨ g = w.heap.size := by
      rcases hat with hat | hat
      · left; rw [← hat, h]
      · right; rw [h] at hat; injection hat
    exact ⟨lab ρ g r, Keeps.grown hg hv rfl hat', hF.lab hg.size (hlt g h) r, fun g' hh => by injection hh with hh; subst hh; exact lab_eq⟩
theorem One.none_of {w : World} {base sz n : Nat} {e : TypeId} {A : Option Addr} {cap : Nat} {c c' : Nat → Value} (h : One w base e sz (.slice A n cap) n c) : One w base e sz (.slice A 0 cap) 0 c' := by
  rcases h with ⟨h, _⟩ | ⟨g, cap', cur, k1, k2, k3, k4, k5, k6, _⟩
  · injection h with h1 _ h3
    exact .inl ⟨by rw [h1, h3], rfl⟩
  · injection k1 with k1 _ k7
    subst k1 k7
    exact .inr ⟨g, cap, cur, rfl, k2, k3, Nat.zero_le _, k5, k6, fun k hk => by omega⟩
theorem One.hasQn {w : World} {base n cap : Nat} {A : Option Addr} {Q : List Ent} (h : One w base 104 4 (.slice A n cap) n (cQ Q)) (hn : Q.length = n) : HasQ w (.slice A n cap) Q := by
  refine ⟨A, cap, by rw [hn], ?_, fun k e hk => ?_⟩
  · intro hA
    rcases h with ⟨h, _⟩ | ⟨g, cap', cur, k1, _⟩
    · injection h
    · injection k1 with k1 _ _
      rw [hA] at k1; cases k1
  · have hkn : k < n := by rw [← hn]; exact (List.getElem?_eq_some_iff.1 hk).1
    obtain ⟨g, rfl⟩ : ∃ g, A = some ⟨g, 0, none⟩ := by
      rcases h with ⟨h, hz⟩ | ⟨g, cap', cur, k1, _⟩
      · omega
      · injection k1 with k1 _ _
        exact ⟨g, k1⟩
    have c := fun j (hj : j < 4) => (h.cell (g := g) rfl (k := k * 4 + j) (by omega)).trans (by rw [cQ_at Q k j hj hk])
    refine ⟨g, 0, rfl, ?_⟩
    rw [Nat.zero_add]
    exact ⟨c 0 (by omega), c 1 (by omega), c 2 (by omega), c 3 (by omega)⟩
def SameEnd (base : Nat) (ρ : Nat → Nat) (r : Nat) (v : Value) (n : Nat) (w : World) (e : Ending) (w' : World) : Prop :=
  e = .returned (.bool true) ∧ (∃ ca, One w' base 104 4 v n ca) ∧ Keeps (fun x => x = r) w ρ w' ρ ∧ Below base w w'
set_option maxRecDepth 100000 in
set_option maxHeartbeats 1000000 in
theorem same13_nil (w : World) (cl : Nat) (Al : Option Addr) : Calls Try.prog 104 #[.slice none 0 0, .slice Al 0 cl] w fun e w' => e = .returned (.bool true) ∧ Below w.heap.size w w' := by
  go_enter Try.func104, Try.ntmps104
  go_wp2
  repeat (refine wp_loop_rounds 1 ?_; rw [rounds_succ]; go_wp2)
  go_ret
  first | exact ⟨rfl, Below.refl _ _⟩ | exact ⟨rfl, (Below.refl _ _).drew⟩
theorem same_any (w : World) (base r : Nat) (ρ : Nat → Nat) (A : Option Addr) (n cap cl : Nat) (Al : Option Addr) (Q : List Ent) (hn : Q.length = n) (hn2 : n ≤ 3518437208780) (hO : One w base 104 4 (.slice A n cap) n (cQ Q)) (hr : ∀ g, (Value.slice A n cap).ownBlock = some g → ρ g = r)
    (hl : HasQ w (.slice Al n cl) Q) (hA : ∀ a, 0 < n → Al = some a → a.block < base) (hbase : base ≤ w.heap.size) :
    Calls Try.prog 104 #[.slice A n cap, .slice Al n cl] w (SameEnd base ρ r (.slice A n cap) n w) := by
  rcases hO with ⟨h, h0⟩ | ⟨g, cap', cur, k1, k2, k3, k4, k5, k6, k7⟩
  · injection h with h1 h2 h3
    subst h1 h2 h3
    refine (same13_nil w cl Al).mono fun e w' hh => ?_
    exact ⟨hh.1, ⟨cQ Q, .inl ⟨rfl, rfl⟩⟩, Keeps.below _ _ hh.2, hh.2.mono hbase⟩
  · injection k1 with e1 e2 e3
    subst e1 e3
    refine (same13_any w g n cap cl Al Q cur hn hn2 k3 (fun k hk => k7 k hk) hl (fun a hz ha => by have := hA a hz ha; omega)).mono fun e w' hh => ?_
    obtain ⟨he, cur', hB, hs⟩ := hh
    refine ⟨he, ⟨fun k => (cur'[k]?).getD (.int .i64 0), .inr ⟨g, cap, cur', rfl, k2, hB.at_ (lt_of_obj k3), k4, k5, by omega, fun k hk => ?_⟩⟩, Keeps.only ρ hB (hr g rfl), hB.below k2⟩
    have : k < cur'.size := by
      rw [hs, k6]
      exact Nat.lt_of_lt_of_le hk (Nat.mul_le_mul_right 4 k4)
    simp only [Array.getElem?_eq_getElem this, Option.getD_some]
set_option maxRecDepth 100000 in
set_option maxHeartbeats 16000000 in
theorem plays_look2 (w : World) (base r0 P B : Nat) (ρ : Nat → Nat) (mark : Bool) (t : Nat) (c : Conf) (node shard : Int) (S W c1 R V c2 : Nat) (ws : Nat → Way) (ps : Nat → RP) (qv rv : Value) (Q0 : List Ent) (av : Value) (an : Nat) (ca : Nat → Value) (turn : Nat)
    (h : PlayD w base ρ r0 P B mark t c node shard S W c1 R V c2 ws ps qv rv Q0 av an ca turn) (hf : Free w ρ) (ht : t ≤ 4000) (which peer num : Int) (A : Option Addr) (n cq : Nat) (Q : List Ent) (hn : Q.length = n) (hq : Q.length ≤ 3518437208780) (hQ : ∀ W', Below base w W' → HasQ W' (.slice A n cq) Q) (hA : ∀ a, 0 < n → A = some a → a.block < base) (heven : (turn + 1) % 2 = 0) :
    Calls Try.prog 72 #[.pointer (some ⟨P, 0, none⟩), opV 1 which (.slice A n cq) peer num] w (StepEnd base ρ r0 P B mark t w) := by
  have hbs := h.base_le
  have hb : Below w.heap.size w (w.alloc (.cells #[.int .i64 1, .int .i64 which, .slice A n cq, .int .i64 peer, .int .u64 num] 160)) := (Below.refl _ _).alloc (Nat.le_refl _) _
  have K1 := Keeps.below (fun _ => False) ρ hb
  have hD1 := h.keep K1 (fun _ _ _ => id)
  have F1 := hf.le K1.1
  have B1 := hb.mono hbs
  have hO := turn_obj hD1
  have K2 : Keeps (fun r => r = r0 + 50) _ ρ _ ρ := Keeps.only ρ hO hD1.obj.2
  have hsz2 := hO.size
  have B2 := hO.below hD1.lo
  have hX : Objr _ ρ (r0 + 50) P (playO S R B mark av (turn + 1)) := ⟨hO.at_ (lt_of_obj hD1.obj.1), hD1.obj.2⟩
  have hS2 := hD1.set.keep K2 (fun r h1 h2 _ => by omega)
  have hR2 := hD1.ref.keep K2 (fun r h1 h2 => by omega)
  have hA2 := OneN.keep hD1.at_ hD1.atr K2 (by omega)
  obtain ⟨p0, p1, _, _, _, p5⟩ := hD1.cells
  have pf5 := free_of_obj hD1.obj.1 5
  have hbx : ∀ j, (w.alloc (.cells #[.int .i64 1, .int .i64 which, .slice A n cq, .int .i64 peer, .int .u64 num] 160)).cell? ⟨w.heap.size, j, none⟩ = #[Value.int .i64 1, .int .i64 which, .slice A n cq, .int .i64 peer, .int .u64 num][j]? := fun j => cell_of_obj (heap_alloc_new w _) j
  have hPw : w.heap.size ≠ P := by have := lt_of_obj h.obj.1; omega
  have x0 : (w.alloc (.cells #[.int .i64 1, .int .i64 which, .slice A n cq, .int .i64 peer, .int .u64 num] 160)).cell? ⟨w.heap.size, 0, none⟩ = some (.int .i64 1) := hbx 0
  have hbx2 := (far_cell (j := 2) (rfl : ((w.alloc (.cells #[.int .i64 1, .int .i64 which, .slice A n cq, .int .i64 peer, .int .u64 num] 160)).setCell ⟨P, 5, none⟩ (.int .i64 ((turn : Int) + 1))) = _) hPw).trans (hbx 2)
  have hbo : Objr (w.alloc (.cells #[.int .i64 1, .int .i64 which, .slice A n cq, .int .i64 peer, .int .u64 num] 160)) ρ 0 w.heap.size (.cells #[.int .i64 1, .int .i64 which, .slice A n cq, .int .i64 peer, .int .u64 num] 160 (0, 0)) := ⟨heap_alloc_new w _, hf _ (Nat.le_refl _)⟩
  have HBX2 := Lib.hid (hbo.keep K2 (by omega))
  have q9 : ((turn : Int) + 1) % 2 = 0 := by omega
  have htn : turn ≤ 4000 := by have := h.tn; omega
  have B12 := B1.trans B2
  have F2 := F1.le (Nat.le_of_eq hsz2.symm)
  have K12 := (K1.mono (R' := fun r => r0 + 1 ≤ r ∧ r < r0 + 64) (fun _ hr => hr.elim)).trans (K2.mono (fun r hr => by omega))
  have hn6 : n ≤ 3518437208780 := by omega
  have HQ := Lib.hid hQ
  have HD := Lib.hid h
  have HX := Lib.hid hX
  have HS2 := Lib.hid hS2
  have HR2 := Lib.hid hR2
  have HB12 := Lib.hid B12
  have HF2 := Lib.hid F2
  have HK12 := Lib.hid K12
  obtain ⟨Av, cv, rfl⟩ : ∃ Av cv, av = .slice Av an cv := by
    rcases hA2.1 with ⟨h, h0⟩ | ⟨g, cap', cur, k1, _⟩
    · exact ⟨none, 0, by rw [h, h0]⟩
    · exact ⟨_, _, k1⟩
  have hanc : an ≤ cv ∨ True := .inr trivial
  have HA2 := Lib.hid hA2
  have p02 := cell_of_obj hX.1 0
  have p12 := cell_of_obj hX.1 1
  have p42 := cell_of_obj hX.1 4
  simp only [List.getElem?_toArray, List.getElem?_cons_zero, List.getElem?_cons_succ] at p02 p12 p42
  have hbs2 : base ≤ ((w.alloc (.cells #[.int .i64 1, .int .i64 which, .slice A n cq, .int .i64 peer, .int .u64 num] 160)).setCell ⟨P, 5, none⟩ (.int .i64 ((turn : Int) + 1))).heap.size := by rw [hsz2]; exact hD1.base_le
  have HNN := Lib.hid hn
  unfold opV
  clear hbo h hD1 hO K1 K2 hX hS2 hR2 hA2 B1 B2 B12 F1 F2 K12 hb hbx hQ hn hsz2 hanc
  go_enter Try.func72, Try.ntmps72
  go_wp2_with fail
  have HX2 := HX
  generalize ((w.alloc (.cells #[.int .i64 1, .int .i64 which, .slice A n cq, .int .i64 peer, .int .u64 num] 160)).setCell ⟨P, 5, none⟩ (.int .i64 ((turn : Int) + 1))) = w2 at p02 p12 p42 HX2 HX HS2 HR2 HA2 HB12 HF2 HK12 HBX2 hbx2 hbs2 ⊢
  clear HX p0 p1 p5 pf5 x0
  obtain ⟨v', w3, r3, o3, g3, a3⟩ := append_ents w2.drew base 80 (.slice Av 0 cv) 0 (cQ Q) ((One.none_of HA2.out.1).below ((Below.refl w2.heap.size w2).drew)) (.slice A n cq) Q (HQ.out _ (HB12.out.trans (((Below.refl w2.heap.size w2).drew).mono hbs2))) (by omega) hbs2 (fun k _ => by rw [Nat.zero_mul, Nat.zero_add])
  rw [Nat.zero_add, HNN.out] at o3
  obtain ⟨A3, c3, rfl⟩ : ∃ A3 c3, v' = .slice A3 n c3 := by
    rcases o3 with ⟨h, h0⟩ | ⟨g, cap', cur, k1, _⟩
    · exact ⟨none, 0, by rw [h, h0]⟩
    · exact ⟨_, _, k1⟩
  have hov : (Value.slice Av 0 cv).ownBlock = (Value.slice Av an cv).ownBlock := by cases Av <;> rfl
  have KD2 := Keeps.below (fun _ => False) ρ ((Below.refl w2.heap.size w2).drew)
  obtain ⟨ρ3, K3, F3, ρg3⟩ := grown_lab (r := r0 + 51) g3 (by rw [hov]; exact HA2.out.2) a3 (fun g hg => (o3.block hg).2) (HF2.out.le KD2.1)
  have B23 : Below base w2.drew w3 := ⟨g3.os, g3.tape, g3.output, g3.size, fun k hk => g3.block k (by have := hbs2; simp; omega) (fun e => by
    rw [hov] at e
    have := (HA2.out.1.block e.symm).1
    omega)⟩
  have hsz3 := g3.size
  have K23 := (KD2.mono (R' := fun x => x = r0 + 51) (fun _ hr => hr.elim)).trans K3
  have B23' := ((Below.refl w2.heap.size w2).drew.mono hbs2).trans B23
  have HX3 := Lib.hid (HX2.out.keep K23 (by omega))
  have HBX3 := Lib.hid (HBX2.out.keep K23 (by omega))
  have HS3 := Lib.hid (HS2.out.keep K23 (fun r h1 h2 _ => by omega))
  have HR3 := Lib.hid (HR2.out.keep K23 (fun r h1 h2 => by omega))
  have HA3 := Lib.hid (And.intro o3 ρg3)
  have HB3 := Lib.hid (HB12.out.trans B23')
  have HK3 := Lib.hid (HK12.out.trans (K23.mono (R' := fun r => r0 + 1 ≤ r ∧ r < r0 + 64) (fun r hr => by omega)))
  have HF3 := Lib.hid F3
  have HR33 := Lib.hid r3
  have hbs3 : base ≤ w3.heap.size := by have := HR3.out.lo; have := lt_of_obj HR3.out.obj.1; omega
  have p03 := cell_of_obj HX3.out.1 0
  have p43 := cell_of_obj HX3.out.1 4
  have x23 := cell_of_obj HBX3.out.1 2
  simp only [List.getElem?_toArray, List.getElem?_cons_zero, List.getElem?_cons_succ] at p03 p43 x23
  have pf43 := free_of_obj HX3.out.1 4
  clear r3 o3 g3 a3 K3 F3 ρg3 KD2 K23 B23 B23' hsz3
  go_outline
  refine wp_region_S 9 (fun w' => w'.cell? ⟨P, 4, none⟩ = some (.slice Av an cv) ∧ w'.cell? ⟨w.heap.size, 2, none⟩ = some (.slice A n cq)) (by kernel_rfl) ?_
  have hSw0 := And.intro p42 hbx2
  refine wpAnyS_take [0, 9, 10, 11] (i := 0) (v := ?_) rfl (by kernel_rfl) (by kernel_rfl) (by kernel_rfl) (by kernel_rfl) (by kernel_rfl) (fun _ _ _ h => h) (Or.inl ⟨by rfl, fun w hSw => ?_⟩) hSw0 ?_
  rotate_left
  · (try dsimp only at hSw); go_split_ands; go_simp <;> with_reducible rfl
  (try simp only [Act.put, List.getElem_toArray, List.getElem_cons_zero, List.setIfInBounds_toArray, List.set_cons_zero, List.set_cons_succ])
  refine wpAnyS_take [1, 2, 3, 4, 5, 8, 9, 10, 11] (i := 1) (v := ?_) rfl (by kernel_rfl) (by kernel_rfl) (by kernel_rfl) (by kernel_rfl) (by kernel_rfl) (fun _ _ _ h => h) (Or.inl ⟨by rfl, fun w hSw => ?_⟩) hSw0 ?_
  rotate_left
  · (try dsimp only at hSw); go_split_ands; go_simp <;> with_reducible rfl
  (try simp only [Act.put, List.getElem_toArray, List.getElem_cons_succ, List.getElem_cons_zero, List.setIfInBounds_toArray, List.set_cons_zero, List.set_cons_succ])
  refine wpAnyS_take [2, 3, 4, 5, 8, 9, 10, 11] (i := 2) (v := ?_) rfl (by kernel_rfl) (by kernel_rfl) (by kernel_rfl) (by kernel_rfl) (by kernel_rfl) (fun _ _ _ h => h) (Or.inl ⟨by rfl, fun w hSw => ?_⟩) hSw0 ?_
  rotate_left
  · (try dsimp only at hSw); go_split_ands; go_simp <;> with_reducible rfl
  (try simp only [Act.put, List.getElem_toArray, List.getElem_cons_succ, List.getElem_cons_zero, List.setIfInBounds_toArray, List.set_cons_zero, List.set_cons_succ])
  refine wpAnyS_take [3, 4, 5, 8, 9, 10, 11] (i := 3) (v := ?_) rfl (by kernel_rfl) (by kernel_rfl) (by kernel_rfl) (by kernel_rfl) (by kernel_rfl) (fun _ _ _ h => h) (Or.inl ⟨by rfl, fun w hSw => ?_⟩) hSw0 ?_
  rotate_left
  · (try dsimp only at hSw); go_split_ands; go_simp <;> with_reducible rfl
  (try simp only [Act.put, List.getElem_toArray, List.getElem_cons_succ, List.getElem_cons_zero, List.setIfInBounds_toArray, List.set_cons_zero, List.set_cons_succ])
  refine wpAnyS_take [4, 5, 8, 9, 10, 11] (i := 4) (v := ?_) rfl (by kernel_rfl) (by kernel_rfl) (by kernel_rfl) (by kernel_rfl) (by kernel_rfl) (fun _ _ _ h => h) (Or.inl ⟨by rfl, fun w hSw => ?_⟩) hSw0 ?_
  rotate_left
  · (try dsimp only at hSw); go_split_ands; go_simp <;> with_reducible rfl
  (try simp only [Act.put, List.getElem_toArray, List.getElem_cons_succ, List.getElem_cons_zero, List.setIfInBounds_toArray, List.set_cons_zero, List.set_cons_succ])
  refine wpAnyS_take [5, 8, 9, 10, 11] (i := 5) (v := ?_) rfl (by kernel_rfl) (by kernel_rfl) (by kernel_rfl) (by kernel_rfl) (by kernel_rfl) (fun _ _ _ h => h) (Or.inl ⟨by rfl, fun w hSw => ?_⟩) hSw0 ?_
  rotate_left
  · (try dsimp only at hSw); go_split_ands; go_simp <;> with_reducible rfl
  (try simp only [Act.put, List.getElem_toArray, List.getElem_cons_succ, List.getElem_cons_zero, List.setIfInBounds_toArray, List.set_cons_zero, List.set_cons_succ])
  refine wpAnyS_take [6, 7, 8, 9, 10, 11] (i := 6) (v := ?_) rfl (by kernel_rfl) (by kernel_rfl) (by kernel_rfl) (by kernel_rfl) (by kernel_rfl) (fun _ _ _ h => h) (Or.inl ⟨by rfl, fun w hSw => ?_⟩) hSw0 ?_
  rotate_left
  · (try dsimp only at hSw); go_split_ands; go_simp <;> with_reducible rfl
  (try simp only [Act.put, List.getElem_toArray, List.getElem_cons_succ, List.getElem_cons_zero, List.setIfInBounds_toArray, List.set_cons_zero, List.set_cons_succ])
  refine wpAnyS_take [7, 8, 9, 10, 11] (i := 7) (v := ?_) rfl (by kernel_rfl) (by kernel_rfl) (by kernel_rfl) (by kernel_rfl) (by kernel_rfl) (fun _ _ _ h => h) (Or.inl ⟨by rfl, fun w hSw => ?_⟩) hSw0 ?_
  rotate_left
  · (try dsimp only at hSw); go_split_ands; go_simp <;> with_reducible rfl
  (try simp only [Act.put, List.getElem_toArray, List.getElem_cons_succ, List.getElem_cons_zero, List.setIfInBounds_toArray, List.set_cons_zero, List.set_cons_succ])
  refine wpAnyS_one (k := 8) rfl (by kernel_rfl) (by rfl) ?_
  refine oper_append_by (.tmp 31) (.tmp 33) 80 rfl rfl rfl HR33.out ?_
  refine ⟨fun _ => ⟨p43, x23⟩, ?_⟩
  (try simp only [Act.put, List.getElem_toArray, List.getElem_cons_succ, List.getElem_cons_zero, List.setIfInBounds_toArray, List.set_cons_zero, List.set_cons_succ])
  refine wpAnyS_tail 9 (Nat.le_refl _) rfl (by kernel_rfl) ?_
  simp only [List.drop_succ_cons, List.drop_zero]
  have hO4 : OnlyB w3 (w3.setCell ⟨P, 4, none⟩ (.slice A3 n c3)) P (playO S R B mark (.slice A3 n c3) (turn + 1)) := OnlyB.set (OnlyB.refl HX3.out.1) (lt_of_obj HX3.out.1) 4 _
  have K34 : Keeps (fun r => r = r0 + 50) _ ρ3 _ ρ3 := Keeps.only ρ3 hO4 HX3.out.2
  have HX4 := Lib.hid (show Objr (w3.setCell ⟨P, 4, none⟩ (.slice A3 n c3)) ρ3 (r0 + 50) P (playO S R B mark (.slice A3 n c3) (turn + 1)) from ⟨hO4.at_ (lt_of_obj HX3.out.1), HX3.out.2⟩)
  have HS4 := Lib.hid (HS3.out.keep K34 (fun r h1 h2 _ => by omega))
  have HR4 := Lib.hid (HR3.out.keep K34 (fun r h1 h2 => by omega))
  have HA4 := Lib.hid (OneN.keep HA3.out.1 HA3.out.2 K34 (by omega))
  have HBX4 := Lib.hid (HBX3.out.keep K34 (by omega))
  have HB4 := Lib.hid (HB3.out.trans (hO4.below HD.out.lo))
  have HK4 := Lib.hid (HK3.out.trans (K34.mono (R' := fun r => r0 + 1 ≤ r ∧ r < r0 + 64) (fun r hr => by omega)))
  have HF4 := Lib.hid (HF3.out.le (Nat.le_of_eq hO4.size.symm))
  have hbs4 : base ≤ (w3.setCell ⟨P, 4, none⟩ (.slice A3 n c3)).heap.size := by rw [hO4.size]; exact hbs3
  have p04 := cell_of_obj HX4.out.1 0
  have p14 := cell_of_obj HX4.out.1 1
  have p44 := cell_of_obj HX4.out.1 4
  have c104 : (w3.setCell ⟨P, 4, none⟩ (.slice A3 n c3)).cell? ⟨R, 10, none⟩ = some (.int .i64 shard) := HR4.out.cell 10 (by omega)
  simp only [List.getElem?_toArray, List.getElem?_cons_zero, List.getElem?_cons_succ] at p04 p14 p44
  have HX5 := HX4
  clear hSw0 p02 p12 p42 hbx2 hO4 K34 p03 x23
  go_wp2_with fail
  generalize w3.setCell ⟨P, 4, none⟩ (.slice A3 n c3) = w5 at HX4 HX5 HS4 HR4 HA4 HBX4 HB4 HK4 HF4 hbs4 p04 p14 p44 c104 ⊢
  clear HX4 pf43 p43
  have KD := Keeps.below (fun _ => False) ρ3 ((Below.refl w5.heap.size w5).drew)
  have SD := HS4.out.keep KD (fun _ _ _ _ => id)
  have FD := HF4.out.le KD.1
  have hLQ := One.hasQn ((HA4.out.1).below ((Below.refl w5.heap.size w5).drew)) HNN.out
  (try go_outline)
  refine wp_region_S 16 (fun w' => w'.cell? ⟨P, 0, none⟩ = some (.pointer (some ⟨S, 0, none⟩)) ∧ w'.cell? ⟨P, 1, none⟩ = some (.pointer (some ⟨R, 0, none⟩)) ∧ w'.cell? ⟨P, 4, none⟩ = some (.slice A3 n c3) ∧ w'.cell? ⟨R, 10, none⟩ = some (.int .i64 shard)) (by kernel_rfl) ?_
  have hSw0 := And.intro p04 (And.intro p14 (And.intro p44 c104))
  refine wpAnyS_take [0, 1, 2, 3, 16] (i := 0) (v := ?_) rfl (by kernel_rfl) (by kernel_rfl) (by kernel_rfl) (by kernel_rfl) (by kernel_rfl) (fun _ _ _ h => h) (Or.inl ⟨by rfl, fun w hSw => ?_⟩) hSw0 ?_
  rotate_left
  · (try dsimp only at hSw); go_split_ands; go_simp <;> with_reducible rfl
  (try simp only [Act.put, List.getElem_toArray, List.getElem_cons_zero, List.setIfInBounds_toArray, List.set_cons_zero, List.set_cons_succ])
  refine wpAnyS_take [1, 2, 3, 16] (i := 1) (v := ?_) rfl (by kernel_rfl) (by kernel_rfl) (by kernel_rfl) (by kernel_rfl) (by kernel_rfl) (fun _ _ _ h => h) (Or.inl ⟨by rfl, fun w hSw => ?_⟩) hSw0 ?_
  rotate_left
  · (try dsimp only at hSw); go_split_ands; go_simp <;> with_reducible rfl
  (try simp only [Act.put, List.getElem_toArray, List.getElem_cons_succ, List.getElem_cons_zero, List.setIfInBounds_toArray, List.set_cons_zero, List.set_cons_succ])
  refine wpAnyS_take [2, 3, 16] (i := 2) (v := ?_) rfl (by kernel_rfl) (by kernel_rfl) (by kernel_rfl) (by kernel_rfl) (by kernel_rfl) (fun _ _ _ h => h) (Or.inl ⟨by rfl, fun w hSw => ?_⟩) hSw0 ?_
  rotate_left
  · (try dsimp only at hSw); go_split_ands; go_simp <;> with_reducible rfl
  (try simp only [Act.put, List.getElem_toArray, List.getElem_cons_succ, List.getElem_cons_zero, List.setIfInBounds_toArray, List.set_cons_zero, List.set_cons_succ])
  refine wpAnyS_take [3, 16] (i := 3) (v := ?_) rfl (by kernel_rfl) (by kernel_rfl) (by kernel_rfl) (by kernel_rfl) (by kernel_rfl) (fun _ _ _ h => h) (Or.inl ⟨by rfl, fun w hSw => ?_⟩) hSw0 ?_
  rotate_left
  · (try dsimp only at hSw); go_split_ands; go_simp <;> with_reducible rfl
  (try simp only [Act.put, List.getElem_toArray, List.getElem_cons_succ, List.getElem_cons_zero, List.setIfInBounds_toArray, List.set_cons_zero, List.set_cons_succ])
  refine wpAnyS_take [4, 5, 6, 7, 8, 9, 10, 15, 16] (i := 4) (v := ?_) rfl (by kernel_rfl) (by kernel_rfl) (by kernel_rfl) (by kernel_rfl) (by kernel_rfl) (fun _ _ _ h => h) (Or.inl ⟨by rfl, fun w hSw => ?_⟩) hSw0 ?_
  rotate_left
  · (try dsimp only at hSw); go_split_ands; go_simp <;> with_reducible rfl
  (try simp only [Act.put, List.getElem_toArray, List.getElem_cons_succ, List.getElem_cons_zero, List.setIfInBounds_toArray, List.set_cons_zero, List.set_cons_succ])
  refine wpAnyS_take [5, 6, 7, 8, 9, 10, 15, 16] (i := 5) (v := ?_) rfl (by kernel_rfl) (by kernel_rfl) (by kernel_rfl) (by kernel_rfl) (by kernel_rfl) (fun _ _ _ h => h) (Or.inl ⟨by rfl, fun w hSw => ?_⟩) hSw0 ?_
  rotate_left
  · (try dsimp only at hSw); go_split_ands; go_simp <;> with_reducible rfl
  (try simp only [Act.put, List.getElem_toArray, List.getElem_cons_succ, List.getElem_cons_zero, List.setIfInBounds_toArray, List.set_cons_zero, List.set_cons_succ])
  refine wpAnyS_take [6, 7, 8, 9, 10, 15, 16] (i := 6) (v := ?_) rfl (by kernel_rfl) (by kernel_rfl) (by kernel_rfl) (by kernel_rfl) (by kernel_rfl) (fun _ _ _ h => h) (Or.inl ⟨by rfl, fun w hSw => ?_⟩) hSw0 ?_
  rotate_left
  · (try dsimp only at hSw); go_split_ands; go_simp <;> with_reducible rfl
  (try simp only [Act.put, List.getElem_toArray, List.getElem_cons_succ, List.getElem_cons_zero, List.setIfInBounds_toArray, List.set_cons_zero, List.set_cons_succ])
  refine wpAnyS_take [7, 8, 9, 10, 15, 16] (i := 7) (v := ?_) rfl (by kernel_rfl) (by kernel_rfl) (by kernel_rfl) (by kernel_rfl) (by kernel_rfl) (fun _ _ _ h => h) (Or.inl ⟨by rfl, fun w hSw => ?_⟩) hSw0 ?_
  rotate_left
  · (try dsimp only at hSw); go_split_ands; go_simp <;> with_reducible rfl
  (try simp only [Act.put, List.getElem_toArray, List.getElem_cons_succ, List.getElem_cons_zero, List.setIfInBounds_toArray, List.set_cons_zero, List.set_cons_succ])
  refine wpAnyS_take [8, 9, 10, 15, 16] (i := 8) (v := ?_) rfl (by kernel_rfl) (by kernel_rfl) (by kernel_rfl) (by kernel_rfl) (by kernel_rfl) (fun _ _ _ h => h) (Or.inl ⟨by rfl, fun w hSw => ?_⟩) hSw0 ?_
  rotate_left
  · (try dsimp only at hSw); go_split_ands; go_simp <;> with_reducible rfl
  (try simp only [Act.put, List.getElem_toArray, List.getElem_cons_succ, List.getElem_cons_zero, List.setIfInBounds_toArray, List.set_cons_zero, List.set_cons_succ])
  refine wpAnyS_take [9, 10, 15, 16] (i := 9) (v := ?_) rfl (by kernel_rfl) (by kernel_rfl) (by kernel_rfl) (by kernel_rfl) (by kernel_rfl) (fun _ _ _ h => h) (Or.inl ⟨by rfl, fun w hSw => ?_⟩) hSw0 ?_
  rotate_left
  · (try dsimp only at hSw); go_split_ands; go_simp <;> with_reducible rfl
  (try simp only [Act.put, List.getElem_toArray, List.getElem_cons_succ, List.getElem_cons_zero, List.setIfInBounds_toArray, List.set_cons_zero, List.set_cons_succ])
  refine wpAnyS_take [10, 15, 16] (i := 10) (v := ?_) rfl (by kernel_rfl) (by kernel_rfl) (by kernel_rfl) (by kernel_rfl) (by kernel_rfl) (fun _ _ _ h => h) (Or.inl ⟨by rfl, fun w hSw => ?_⟩) hSw0 ?_
  rotate_left
  · (try dsimp only at hSw); go_split_ands; go_simp <;> with_reducible rfl
  (try simp only [Act.put, List.getElem_toArray, List.getElem_cons_succ, List.getElem_cons_zero, List.setIfInBounds_toArray, List.set_cons_zero, List.set_cons_succ])
  refine wpAnyS_take [11, 12, 13, 14, 15, 16] (i := 11) (v := ?_) rfl (by kernel_rfl) (by kernel_rfl) (by kernel_rfl) (by kernel_rfl) (by kernel_rfl) (fun _ _ _ h => h) (Or.inl ⟨by rfl, fun w hSw => ?_⟩) hSw0 ?_
  rotate_left
  · (try dsimp only at hSw); go_split_ands; go_simp <;> with_reducible rfl
  (try simp only [Act.put, List.getElem_toArray, List.getElem_cons_succ, List.getElem_cons_zero, List.setIfInBounds_toArray, List.set_cons_zero, List.set_cons_succ])
  refine wpAnyS_take [12, 13, 14, 15, 16] (i := 12) (v := ?_) rfl (by kernel_rfl) (by kernel_rfl) (by kernel_rfl) (by kernel_rfl) (by kernel_rfl) (fun _ _ _ h => h) (Or.inl ⟨by rfl, fun w hSw => ?_⟩) hSw0 ?_
  rotate_left
  · (try dsimp only at hSw); go_split_ands; go_simp <;> with_reducible rfl
  (try simp only [Act.put, List.getElem_toArray, List.getElem_cons_succ, List.getElem_cons_zero, List.setIfInBounds_toArray, List.set_cons_zero, List.set_cons_succ])
  refine wpAnyS_take [13, 14, 15, 16] (i := 13) (v := ?_) rfl (by kernel_rfl) (by kernel_rfl) (by kernel_rfl) (by kernel_rfl) (by kernel_rfl) (fun _ _ _ h => h) (Or.inl ⟨by rfl, fun w hSw => ?_⟩) hSw0 ?_
  rotate_left
  · (try dsimp only at hSw); go_split_ands; go_simp <;> with_reducible rfl
  (try simp only [Act.put, List.getElem_toArray, List.getElem_cons_succ, List.getElem_cons_zero, List.setIfInBounds_toArray, List.set_cons_zero, List.set_cons_succ])
  refine wpAnyS_take [14, 15, 16] (i := 14) (v := ?_) rfl (by kernel_rfl) (by kernel_rfl) (by kernel_rfl) (by kernel_rfl) (by kernel_rfl) (fun _ _ _ h => h) (Or.inl ⟨by rfl, fun w hSw => ?_⟩) hSw0 ?_
  rotate_left
  · (try dsimp only at hSw); go_split_ands; go_simp <;> with_reducible rfl
  (try simp only [Act.put, List.getElem_toArray, List.getElem_cons_succ, List.getElem_cons_zero, List.setIfInBounds_toArray, List.set_cons_zero, List.set_cons_succ])
  refine wpAnyS_take [15, 16] (i := 15) (v := ?_) rfl (by kernel_rfl) (by kernel_rfl) (by kernel_rfl) (by kernel_rfl) (by kernel_rfl) (fun _ _ _ h => h) (Or.inl ⟨by rfl, fun w hSw => ?_⟩) hSw0 ?_
  rotate_left
  · (try dsimp only at hSw); go_split_ands; go_simp <;> with_reducible rfl
  (try simp only [Act.put, List.getElem_toArray, List.getElem_cons_succ, List.getElem_cons_zero, List.setIfInBounds_toArray, List.set_cons_zero, List.set_cons_succ])
  refine wpAnyS_tail 16 (Nat.le_refl _) rfl (by kernel_rfl) ?_
  simp only [List.drop_succ_cons, List.drop_zero]
  clear hSw0 p04 p14 p44 c104
  go_wp2_with (go_at_call 30; (with_reducible refine (settle_look _ base r0 S c.N W c1 ρ3 node shard shard ws qv Q0 SD FD _ n c3 Q hLQ hq _ _ _ _ _ _ _ _ _ _ _ _).mono ?_); rintro e w6 ⟨rfl, ρ6, qv6, s6, k6, f6, b6⟩; have K56 := Lib.hid ((KD.mono (R' := fun r => r0 + 1 ≤ r ∧ r < r0 + 28) (fun _ hr => hr.elim)).trans k6); have S6 := Lib.hid s6; have F6 := Lib.hid f6; have B6 := Lib.hid (((Below.refl w5.heap.size w5).drew.mono hbs4).trans b6); clear s6 k6 f6 b6 SD KD FD)
  have HX6 := Lib.hid (HX5.out.keep K56.out (by omega))
  have HBX6 := Lib.hid (HBX4.out.keep K56.out (by omega))
  have HR6 := Lib.hid (HR4.out.keep K56.out (fun r h1 h2 => by omega))
  have HA6 := Lib.hid (OneN.keep HA4.out.1 HA4.out.2 K56.out (by omega))
  have HB06 := Lib.hid (HB4.out.trans B6.out)
  have HK06 := Lib.hid (HK4.out.trans (K56.out.mono (R' := fun r => r0 + 1 ≤ r ∧ r < r0 + 64) (fun r hr => by omega)))
  have p1 := cell_of_obj HX6.out.1 1
  have x2 := cell_of_obj HBX6.out.1 2
  have c10 : w6.cell? ⟨R, 10, none⟩ = some (.int .i64 shard) := HR6.out.cell 10 (by omega)
  have hbs6 : base ≤ w6.heap.size := by have := HR6.out.lo; have := lt_of_obj HR6.out.obj.1; omega
  simp only [List.getElem?_toArray, List.getElem?_cons_zero, List.getElem?_cons_succ] at p1 x2
  have KD := Keeps.below (fun _ => False) ρ6 ((Below.refl w6.heap.size w6).drew)
  have RD := HR6.out.keep KD (fun _ _ _ => id)
  have FD := F6.out.le KD.1
  have hLQ2 := HQ.out _ (HB06.out.trans ((Below.refl w6.heap.size w6).drew.mono hbs6))
  (try go_outline)
  refine wp_region_S 14 (fun w' => w'.cell? ⟨P, 1, none⟩ = some (.pointer (some ⟨R, 0, none⟩)) ∧ w'.cell? ⟨R, 10, none⟩ = some (.int .i64 shard) ∧ w'.cell? ⟨w.heap.size, 2, none⟩ = some (.slice A n cq)) (by kernel_rfl) ?_
  have hSw0 := And.intro p1 (And.intro c10 x2)
  refine wpAnyS_take [0, 1, 2, 3, 14] (i := 0) (v := ?_) rfl (by kernel_rfl) (by kernel_rfl) (by kernel_rfl) (by kernel_rfl) (by kernel_rfl) (fun _ _ _ h => h) (Or.inl ⟨by rfl, fun w hSw => ?_⟩) hSw0 ?_
  rotate_left
  · (try dsimp only at hSw); go_split_ands; go_simp <;> with_reducible rfl
  (try simp only [Act.put, List.getElem_toArray, List.getElem_cons_zero, List.setIfInBounds_toArray, List.set_cons_zero, List.set_cons_succ])
  refine wpAnyS_take [1, 2, 3, 14] (i := 1) (v := ?_) rfl (by kernel_rfl) (by kernel_rfl) (by kernel_rfl) (by kernel_rfl) (by kernel_rfl) (fun _ _ _ h => h) (Or.inl ⟨by rfl, fun w hSw => ?_⟩) hSw0 ?_
  rotate_left
  · (try dsimp only at hSw); go_split_ands; go_simp <;> with_reducible rfl
  (try simp only [Act.put, List.getElem_toArray, List.getElem_cons_succ, List.getElem_cons_zero, List.setIfInBounds_toArray, List.set_cons_zero, List.set_cons_succ])
  refine wpAnyS_take [2, 3, 14] (i := 2) (v := ?_) rfl (by kernel_rfl) (by kernel_rfl) (by kernel_rfl) (by kernel_rfl) (by kernel_rfl) (fun _ _ _ h => h) (Or.inl ⟨by rfl, fun w hSw => ?_⟩) hSw0 ?_
  rotate_left
  · (try dsimp only at hSw); go_split_ands; go_simp <;> with_reducible rfl
  (try simp only [Act.put, List.getElem_toArray, List.getElem_cons_succ, List.getElem_cons_zero, List.setIfInBounds_toArray, List.set_cons_zero, List.set_cons_succ])
  refine wpAnyS_take [3, 14] (i := 3) (v := ?_) rfl (by kernel_rfl) (by kernel_rfl) (by kernel_rfl) (by kernel_rfl) (by kernel_rfl) (fun _ _ _ h => h) (Or.inl ⟨by rfl, fun w hSw => ?_⟩) hSw0 ?_
  rotate_left
  · (try dsimp only at hSw); go_split_ands; go_simp <;> with_reducible rfl
  (try simp only [Act.put, List.getElem_toArray, List.getElem_cons_succ, List.getElem_cons_zero, List.setIfInBounds_toArray, List.set_cons_zero, List.set_cons_succ])
  refine wpAnyS_take [4, 5, 6, 7, 8, 9, 10, 13, 14] (i := 4) (v := ?_) rfl (by kernel_rfl) (by kernel_rfl) (by kernel_rfl) (by kernel_rfl) (by kernel_rfl) (fun _ _ _ h => h) (Or.inl ⟨by rfl, fun w hSw => ?_⟩) hSw0 ?_
  rotate_left
  · (try dsimp only at hSw); go_split_ands; go_simp <;> with_reducible rfl
  (try simp only [Act.put, List.getElem_toArray, List.getElem_cons_succ, List.getElem_cons_zero, List.setIfInBounds_toArray, List.set_cons_zero, List.set_cons_succ])
  refine wpAnyS_take [5, 6, 7, 8, 9, 10, 13, 14] (i := 5) (v := ?_) rfl (by kernel_rfl) (by kernel_rfl) (by kernel_rfl) (by kernel_rfl) (by kernel_rfl) (fun _ _ _ h => h) (Or.inl ⟨by rfl, fun w hSw => ?_⟩) hSw0 ?_
  rotate_left
  · (try dsimp only at hSw); go_split_ands; go_simp <;> with_reducible rfl
  (try simp only [Act.put, List.getElem_toArray, List.getElem_cons_succ, List.getElem_cons_zero, List.setIfInBounds_toArray, List.set_cons_zero, List.set_cons_succ])
  refine wpAnyS_take [6, 7, 8, 9, 10, 13, 14] (i := 6) (v := ?_) rfl (by kernel_rfl) (by kernel_rfl) (by kernel_rfl) (by kernel_rfl) (by kernel_rfl) (fun _ _ _ h => h) (Or.inl ⟨by rfl, fun w hSw => ?_⟩) hSw0 ?_
  rotate_left
  · (try dsimp only at hSw); go_split_ands; go_simp <;> with_reducible rfl
  (try simp only [Act.put, List.getElem_toArray, List.getElem_cons_succ, List.getElem_cons_zero, List.setIfInBounds_toArray, List.set_cons_zero, List.set_cons_succ])
  refine wpAnyS_take [7, 8, 9, 10, 13, 14] (i := 7) (v := ?_) rfl (by kernel_rfl) (by kernel_rfl) (by kernel_rfl) (by kernel_rfl) (by kernel_rfl) (fun _ _ _ h => h) (Or.inl ⟨by rfl, fun w hSw => ?_⟩) hSw0 ?_
  rotate_left
  · (try dsimp only at hSw); go_split_ands; go_simp <;> with_reducible rfl
  (try simp only [Act.put, List.getElem_toArray, List.getElem_cons_succ, List.getElem_cons_zero, List.setIfInBounds_toArray, List.set_cons_zero, List.set_cons_succ])
  refine wpAnyS_take [8, 9, 10, 13, 14] (i := 8) (v := ?_) rfl (by kernel_rfl) (by kernel_rfl) (by kernel_rfl) (by kernel_rfl) (by kernel_rfl) (fun _ _ _ h => h) (Or.inl ⟨by rfl, fun w hSw => ?_⟩) hSw0 ?_
  rotate_left
  · (try dsimp only at hSw); go_split_ands; go_simp <;> with_reducible rfl
  (try simp only [Act.put, List.getElem_toArray, List.getElem_cons_succ, List.getElem_cons_zero, List.setIfInBounds_toArray, List.set_cons_zero, List.set_cons_succ])
  refine wpAnyS_take [9, 10, 13, 14] (i := 9) (v := ?_) rfl (by kernel_rfl) (by kernel_rfl) (by kernel_rfl) (by kernel_rfl) (by kernel_rfl) (fun _ _ _ h => h) (Or.inl ⟨by rfl, fun w hSw => ?_⟩) hSw0 ?_
  rotate_left
  · (try dsimp only at hSw); go_split_ands; go_simp <;> with_reducible rfl
  (try simp only [Act.put, List.getElem_toArray, List.getElem_cons_succ, List.getElem_cons_zero, List.setIfInBounds_toArray, List.set_cons_zero, List.set_cons_succ])
  refine wpAnyS_take [10, 13, 14] (i := 10) (v := ?_) rfl (by kernel_rfl) (by kernel_rfl) (by kernel_rfl) (by kernel_rfl) (by kernel_rfl) (fun _ _ _ h => h) (Or.inl ⟨by rfl, fun w hSw => ?_⟩) hSw0 ?_
  rotate_left
  · (try dsimp only at hSw); go_split_ands; go_simp <;> with_reducible rfl
  (try simp only [Act.put, List.getElem_toArray, List.getElem_cons_succ, List.getElem_cons_zero, List.setIfInBounds_toArray, List.set_cons_zero, List.set_cons_succ])
  refine wpAnyS_take [11, 12, 13, 14] (i := 11) (v := ?_) rfl (by kernel_rfl) (by kernel_rfl) (by kernel_rfl) (by kernel_rfl) (by kernel_rfl) (fun _ _ _ h => h) (Or.inl ⟨by rfl, fun w hSw => ?_⟩) hSw0 ?_
  rotate_left
  · (try dsimp only at hSw); go_split_ands; go_simp <;> with_reducible rfl
  (try simp only [Act.put, List.getElem_toArray, List.getElem_cons_succ, List.getElem_cons_zero, List.setIfInBounds_toArray, List.set_cons_zero, List.set_cons_succ])
  refine wpAnyS_take [12, 13, 14] (i := 12) (v := ?_) rfl (by kernel_rfl) (by kernel_rfl) (by kernel_rfl) (by kernel_rfl) (by kernel_rfl) (fun _ _ _ h => h) (Or.inl ⟨by rfl, fun w hSw => ?_⟩) hSw0 ?_
  rotate_left
  · (try dsimp only at hSw); go_split_ands; go_simp <;> with_reducible rfl
  (try simp only [Act.put, List.getElem_toArray, List.getElem_cons_succ, List.getElem_cons_zero, List.setIfInBounds_toArray, List.set_cons_zero, List.set_cons_succ])
  refine wpAnyS_take [13, 14] (i := 13) (v := ?_) rfl (by kernel_rfl) (by kernel_rfl) (by kernel_rfl) (by kernel_rfl) (by kernel_rfl) (fun _ _ _ h => h) (Or.inl ⟨by rfl, fun w hSw => ?_⟩) hSw0 ?_
  rotate_left
  · (try dsimp only at hSw); go_split_ands; go_simp <;> with_reducible rfl
  (try simp only [Act.put, List.getElem_toArray, List.getElem_cons_succ, List.getElem_cons_zero, List.setIfInBounds_toArray, List.set_cons_zero, List.set_cons_succ])
  refine wpAnyS_tail 14 (Nat.le_refl _) rfl (by kernel_rfl) ?_
  simp only [List.drop_succ_cons, List.drop_zero]
  clear hSw0 p1 c10 x2
  go_wp2_with (go_at_call 103; (with_reducible refine (ref_look _ base r0 R V c2 ρ6 c node shard shard ps rv Q0 RD FD _ n cq Q hLQ2 hq _ _ _ _ _ _ _ _ _ _ _ _).mono ?_); rintro e w7 ⟨rfl, ρ7, rv7, r7, k7, f7, b7⟩; have K67 := Lib.hid ((KD.mono (R' := fun r => r0 + 31 ≤ r ∧ r ≤ r0 + 33) (fun _ hr => hr.elim)).trans k7); have R7 := Lib.hid r7; have F7 := Lib.hid f7; have B7 := Lib.hid (((Below.refl w6.heap.size w6).drew.mono hbs6).trans b7); clear r7 k7 f7 b7 RD KD FD hLQ2)
  have HX7 := Lib.hid (HX6.out.keep K67.out (by omega))
  have HBX7 := Lib.hid (HBX6.out.keep K67.out (by omega))
  have HS7 := Lib.hid (S6.out.keep K67.out (fun r h1 h2 _ => by omega))
  have HA7 := Lib.hid (OneN.keep HA6.out.1 HA6.out.2 K67.out (by omega))
  have HB07 := Lib.hid (HB06.out.trans B7.out)
  have HK07 := Lib.hid (HK06.out.trans (K67.out.mono (R' := fun r => r0 + 1 ≤ r ∧ r < r0 + 64) (fun r hr => by omega)))
  have p4 := cell_of_obj HX7.out.1 4
  have x2 := cell_of_obj HBX7.out.1 2
  have hbs7 : base ≤ w7.heap.size := by have := R7.out.lo; have := lt_of_obj R7.out.obj.1; omega
  simp only [List.getElem?_toArray, List.getElem?_cons_zero, List.getElem?_cons_succ] at p4 x2
  have HSame := Lib.hid (same_any w7.drew base (r0 + 51) ρ7 A3 n c3 cq A Q HNN.out hn6 (HA7.out.1.below ((Below.refl w7.heap.size w7).drew)) HA7.out.2 (HQ.out _ (HB07.out.trans ((Below.refl w7.heap.size w7).drew.mono hbs7))) hA hbs7)
  (try go_outline)
  refine wp_region_S 6 (fun w' => w'.cell? ⟨P, 4, none⟩ = some (.slice A3 n c3) ∧ w'.cell? ⟨w.heap.size, 2, none⟩ = some (.slice A n cq)) (by kernel_rfl) ?_
  have hSw0 := And.intro p4 x2
  refine wpAnyS_take [0, 1, 2, 3, 6, 7] (i := 0) (v := ?_) rfl (by kernel_rfl) (by kernel_rfl) (by kernel_rfl) (by kernel_rfl) (by kernel_rfl) (fun _ _ _ h => h) (Or.inl ⟨by rfl, fun w hSw => ?_⟩) hSw0 ?_
  rotate_left
  · (try dsimp only at hSw); go_split_ands; go_simp <;> with_reducible rfl
  (try simp only [Act.put, List.getElem_toArray, List.getElem_cons_zero, List.setIfInBounds_toArray, List.set_cons_zero, List.set_cons_succ])
  refine wpAnyS_take [1, 2, 3, 6, 7] (i := 1) (v := ?_) rfl (by kernel_rfl) (by kernel_rfl) (by kernel_rfl) (by kernel_rfl) (by kernel_rfl) (fun _ _ _ h => h) (Or.inl ⟨by rfl, fun w hSw => ?_⟩) hSw0 ?_
  rotate_left
  · (try dsimp only at hSw); go_split_ands; go_simp <;> with_reducible rfl
  (try simp only [Act.put, List.getElem_toArray, List.getElem_cons_succ, List.getElem_cons_zero, List.setIfInBounds_toArray, List.set_cons_zero, List.set_cons_succ])
  refine wpAnyS_take [2, 3, 6, 7] (i := 2) (v := ?_) rfl (by kernel_rfl) (by kernel_rfl) (by kernel_rfl) (by kernel_rfl) (by kernel_rfl) (fun _ _ _ h => h) (Or.inl ⟨by rfl, fun w hSw => ?_⟩) hSw0 ?_
  rotate_left
  · (try dsimp only at hSw); go_split_ands; go_simp <;> with_reducible rfl
  (try simp only [Act.put, List.getElem_toArray, List.getElem_cons_succ, List.getElem_cons_zero, List.setIfInBounds_toArray, List.set_cons_zero, List.set_cons_succ])
  refine wpAnyS_take [3, 6, 7] (i := 3) (v := ?_) rfl (by kernel_rfl) (by kernel_rfl) (by kernel_rfl) (by kernel_rfl) (by kernel_rfl) (fun _ _ _ h => h) (Or.inl ⟨by rfl, fun w hSw => ?_⟩) hSw0 ?_
  rotate_left
  · (try dsimp only at hSw); go_split_ands; go_simp <;> with_reducible rfl
  (try simp only [Act.put, List.getElem_toArray, List.getElem_cons_succ, List.getElem_cons_zero, List.setIfInBounds_toArray, List.set_cons_zero, List.set_cons_succ])
  refine wpAnyS_take [4, 5, 6, 7] (i := 4) (v := ?_) rfl (by kernel_rfl) (by kernel_rfl) (by kernel_rfl) (by kernel_rfl) (by kernel_rfl) (fun _ _ _ h => h) (Or.inl ⟨by rfl, fun w hSw => ?_⟩) hSw0 ?_
  rotate_left
  · (try dsimp only at hSw); go_split_ands; go_simp <;> with_reducible rfl
  (try simp only [Act.put, List.getElem_toArray, List.getElem_cons_succ, List.getElem_cons_zero, List.setIfInBounds_toArray, List.set_cons_zero, List.set_cons_succ])
  refine wpAnyS_take [5, 6, 7] (i := 5) (v := ?_) rfl (by kernel_rfl) (by kernel_rfl) (by kernel_rfl) (by kernel_rfl) (by kernel_rfl) (fun _ _ _ h => h) (Or.inl ⟨by rfl, fun w hSw => ?_⟩) hSw0 ?_
  rotate_left
  · (try dsimp only at hSw); go_split_ands; go_simp <;> with_reducible rfl
  (try simp only [Act.put, List.getElem_toArray, List.getElem_cons_succ, List.getElem_cons_zero, List.setIfInBounds_toArray, List.set_cons_zero, List.set_cons_succ])
  refine wpAnyS_tail 6 (Nat.le_refl _) rfl (by kernel_rfl) ?_
  simp only [List.drop_succ_cons, List.drop_zero]
  clear hSw0 p4 x2
  go_wp2_with (go_at_call 104; (with_reducible refine HSame.out.mono ?_); rintro e w8 ⟨rfl, ⟨ca8, o8⟩, k8, b8⟩; have O8 := Lib.hid o8; have K8 := Lib.hid k8; have B8 := Lib.hid b8; clear o8 k8 b8)
  go_ret
  have hD := HD.out
  have K78 := ((Keeps.below (fun _ => False) ρ7 ((Below.refl w7.heap.size w7).drew)).mono (R' := fun x => x = r0 + 51) (fun _ hr => hr.elim)).trans K8.out
  have hS8 := HS7.out.keep K78 (fun r h1 h2 _ => by omega)
  have hR8 := R7.out.keep K78 (fun r h1 h2 => by omega)
  have hX8 := HX7.out.keep K78 (by omega)
  refine ⟨rfl, ρ7, ⟨c, node, shard, S, W, c1, R, V, c2, wsL shard Q ws c.N, lookP shard Q ps c.N, qv6, rv7, Q, .slice A3 n c3, n, ca8, turn + 1, ⟨hX8, hS8, hR8, O8.out, HA7.out.2, (hD.pl.look Q).later, hD.conf, hq, by have := hD.tn; omega, hD.lo⟩⟩,
    HK07.out.trans (K78.mono (fun r hr => by omega)), F7.out.le K78.1, (HB07.out.trans ((Below.refl w7.heap.size w7).drew.mono hbs7)).trans B8.out⟩
end Go.Proofs.Ytbgojhjlmlbfpaa
