/- A Play's Look, in an odd turn: what is lent is as it was. -/
import Derived.Test.YtbgojhjlmlbfpaaSfJP
import Derived.Test.YtbgojhjlmlbfpaaRegS
namespace Go.Proofs.Ytbgojhjlmlbfpaa
open Go.RowKit

theorem One.lentQ {w : World} {base n cap g : Nat} {Q : List Ent} (h : One w base 104 4 (.slice (some ⟨g, 0, none⟩) (n + 1) cap) (n + 1) (cQ (Q ++ [markE]))) (hn : Q.length = n) : HasQ w (.slice (some ⟨g, 0, none⟩) n cap) Q := by
  refine ⟨some ⟨g, 0, none⟩, cap, by rw [hn], fun h => (by cases h), fun k e hk => ⟨g, 0, rfl, ?_⟩⟩
  have hkn : k < n := by rw [← hn]; exact (List.getElem?_eq_some_iff.1 hk).1
  have hk' : (Q ++ [markE])[k]? = some e := by rw [List.getElem?_append_left (by omega)]; exact hk
  have c := fun j (hj : j < 4) => (h.cell (g := g) rfl (k := k * 4 + j) (by omega)).trans (by rw [cQ_at (Q ++ [markE]) k j hj hk'])
  rw [Nat.zero_add]
  exact ⟨c 0 (by omega), c 1 (by omega), c 2 (by omega), c 3 (by omega)⟩
theorem WholeAt.keep {R : Nat → Prop} {w w' : World} {B : Nat} {ρ ρ' : Nat → Nat} (h : WholeAt w B) (hz : ∀ k, B ≤ k → k < B + 4 → ρ k = 0) (hK : Keeps R w ρ w' ρ') (h0 : ¬ R 0) : WholeAt w' B ∧ ∀ k, B ≤ k → k < B + 4 → ρ' k = 0 := by
  have hlt := lt_of_obj h.s
  refine ⟨h.same fun k h1 h2 => (hK.2 k (by omega)).2 (by rw [hz k h1 h2]; exact h0), fun k h1 h2 => ((hK.2 k (by omega)).1).trans (hz k h1 h2)⟩
theorem One.curOf {w : World} {base n cap g : Nat} {c : Nat → Value} (h : One w base 104 4 (.slice (some ⟨g, 0, none⟩) (n + 1) cap) (n + 1) c) : ∃ cur0, w.heap[g]? = some (.cells cur0 104 (0, 0)) ∧ ((∀ k, k < (n + 1) * 4 → cur0[k]? = some (c k)) ∧ n + 1 ≤ cap) ∧ base ≤ g := by
  rcases h with ⟨h, _⟩ | ⟨g', cap', cur, k1, k2, k3, k4, _, _, k7⟩
  · cases h
  · injection k1 with e1 e2 e3
    injection e1 with e1
    injection e1 with e1
    subst e1
    exact ⟨cur, k3, ⟨k7, by omega⟩, k2⟩
theorem turn_obj {w : World} {base r0 P B t : Nat} {ρ : Nat → Nat} {mark : Bool} {c : Conf} {node shard : Int} {S W c1 R V c2 : Nat} {ws : Nat → Way} {ps : Nat → RP} {qv rv : Value} {Q : List Ent} {av : Value} {an : Nat} {ca : Nat → Value} {turn : Nat}
    (h : PlayD w base ρ r0 P B mark t c node shard S W c1 R V c2 ws ps qv rv Q av an ca turn) : OnlyB w (w.setCell ⟨P, 5, none⟩ (.int .i64 ((turn : Int) + 1))) P (playO S R B mark av (turn + 1)) := OnlyB.set (OnlyB.refl h.obj.1) (lt_of_obj h.obj.1) 5 _
set_option maxRecDepth 100000 in
set_option maxHeartbeats 16000000 in
theorem plays_look1 (w : World) (base r0 P B : Nat) (ρ : Nat → Nat) (mark : Bool) (t : Nat) (c : Conf) (node shard : Int) (S W c1 R V c2 : Nat) (ws : Nat → Way) (ps : Nat → RP) (qv rv : Value) (Q0 : List Ent) (av : Value) (an : Nat) (ca : Nat → Value) (turn : Nat)
    (h : PlayD w base ρ r0 P B mark t c node shard S W c1 R V c2 ws ps qv rv Q0 av an ca turn) (hf : Free w ρ) (ht : t ≤ 4000) (which peer num : Int) (A : Option Addr) (n cq : Nat) (Q : List Ent) (hn : Q.length = n) (hq : Q.length ≤ 3518437208780) (hQ : ∀ W', Below base w W' → HasQ W' (.slice A n cq) Q) (hA : ∀ a, 0 < n → A = some a → a.block < base) (hodd : (turn + 1) % 2 = 1) :
    Calls Try.prog 72 #[.pointer (some ⟨P, 0, none⟩), opV 1 which (.slice A n cq) peer num] w (StepEnd base ρ r0 P B mark t w) := by
  have hbs := h.base_le
  have hb : Below w.heap.size w (w.alloc (.cells #[.int .i64 1, .int .i64 which, .slice A n cq, .int .i64 peer, .int .u64 num] 160)) := (Below.refl _ _).alloc (Nat.le_refl _) _
  have K1 := Keeps.below (fun _ => False) ρ hb
  have hD1 := h.keep K1 (fun _ _ _ => id)
  have F1 := hf.le K1.1
  have B1 := hb.mono hbs
  have hO := turn_obj hD1
  have K2 : Keeps (fun r => r = r0 + 50) _ ρ _ ρ := Keeps.only ρ hO hD1.obj.2
  have hsz2 := hO.size
  have B2 := hO.below hD1.lo
  have hX : Objr _ ρ (r0 + 50) P (playO S R B mark av (turn + 1)) := ⟨hO.at_ (lt_of_obj hD1.obj.1), hD1.obj.2⟩
  have hS2 := hD1.set.keep K2 (fun r h1 h2 _ => by omega)
  have hR2 := hD1.ref.keep K2 (fun r h1 h2 => by omega)
  have hA2 := OneN.keep hD1.at_ hD1.atr K2 (by omega)
  obtain ⟨p0, p1, _, _, _, p5⟩ := hD1.cells
  have pf5 := free_of_obj hD1.obj.1 5
  have hbx : ∀ j, (w.alloc (.cells #[.int .i64 1, .int .i64 which, .slice A n cq, .int .i64 peer, .int .u64 num] 160)).cell? ⟨w.heap.size, j, none⟩ = #[Value.int .i64 1, .int .i64 which, .slice A n cq, .int .i64 peer, .int .u64 num][j]? := fun j => cell_of_obj (heap_alloc_new w _) j
  have hPw : w.heap.size ≠ P := by have := lt_of_obj h.obj.1; omega
  have x0 : (w.alloc (.cells #[.int .i64 1, .int .i64 which, .slice A n cq, .int .i64 peer, .int .u64 num] 160)).cell? ⟨w.heap.size, 0, none⟩ = some (.int .i64 1) := hbx 0
  have hbx2 := (far_cell (j := 2) (rfl : (w.alloc (.cells #[.int .i64 1, .int .i64 which, .slice A n cq, .int .i64 peer, .int .u64 num] 160)).setCell ⟨P, 5, none⟩ (.int .i64 ((turn : Int) + 1)) = _) hPw).trans (hbx 2)
  have hbo : Objr (w.alloc (.cells #[.int .i64 1, .int .i64 which, .slice A n cq, .int .i64 peer, .int .u64 num] 160)) ρ 0 w.heap.size (.cells #[.int .i64 1, .int .i64 which, .slice A n cq, .int .i64 peer, .int .u64 num] 160 (0, 0)) := ⟨heap_alloc_new w _, hf _ (Nat.le_refl _)⟩
  have HBX2 := Lib.hid (hbo.keep K2 (by omega))
  have q9 : ((turn : Int) + 1) % 2 = 1 := by omega
  have htn : turn ≤ 4000 := by have := h.tn; omega
  have B12 := B1.trans B2
  have F2 := F1.le (Nat.le_of_eq hsz2.symm)
  have K12 := (K1.mono (R' := fun r => r0 + 1 ≤ r ∧ r < r0 + 64) (fun _ hr => hr.elim)).trans (K2.mono (fun r hr => by omega))
  have HQ := Lib.hid hQ
  have HD := Lib.hid h
  have HX := Lib.hid hX
  have HS2 := Lib.hid hS2
  have HR2 := Lib.hid hR2
  have HA2 := Lib.hid hA2
  have hL := lent_any _ (.slice A n cq) Q (hQ _ B12) hq
  have HL := Lib.hid hL
  have HB12 := Lib.hid B12
  have HF2 := Lib.hid F2
  have HK12 := Lib.hid K12
  have p12 := cell_of_obj hX.1 1
  simp only [List.getElem?_toArray, List.getElem?_cons_zero, List.getElem?_cons_succ] at p12
  have hbs2 : base ≤ ((w.alloc (.cells #[.int .i64 1, .int .i64 which, .slice A n cq, .int .i64 peer, .int .u64 num] 160)).setCell ⟨P, 5, none⟩ (.int .i64 ((turn : Int) + 1))).heap.size := by rw [hsz2]; exact hD1.base_le
  have HNN := Lib.hid hn
  unfold opV
  clear hbo h hD1 hO K1 K2 hX hS2 hR2 hA2 hL B1 B2 B12 F1 F2 K12 hb hbx hQ hn hsz2
  go_enter Try.func72, Try.ntmps72
  go_wp2_with (first | (go_at_call 105; (with_reducible refine HL.out.mono ?_); rintro e w3 ⟨g, cap, rfl, ho3, hb3⟩; rw [HNN.out] at ho3 ⊢; obtain ⟨ρ3, K3, F3, o3, r3⟩ := label_new (r := r0 + 52) hb3 ho3 hbs2 HF2.out; have HX3 := Lib.hid (HX.out.keep K3 id); have HBX3 := Lib.hid (HBX2.out.keep K3 id); have HS3 := Lib.hid (HS2.out.keep K3 (fun _ _ _ _ => id)); have HR3 := Lib.hid (HR2.out.keep K3 (fun _ _ _ => id)); have HA3 := Lib.hid (OneN.keep HA2.out.1 HA2.out.2 K3 id); have HO3 := Lib.hid (And.intro o3 r3); have HK3 := Lib.hid (HK12.out.trans (K3.mono (R' := fun r => r0 + 1 ≤ r ∧ r < r0 + 64) (fun _ hr => hr.elim))); have HF3 := Lib.hid F3; have HB3 := Lib.hid (HB12.out.trans (hb3.mono hbs2)); have p13 := cellKeep hb3 p12; have x23 := cellKeep hb3 hbx2; have c10 : w3.cell? ⟨R, 10, none⟩ = some (.int .i64 shard) := HR3.out.cell 10 (by omega); clear ho3 K3 F3 o3 r3 p12 hbx2 p0 p1 p5 pf5 x0) | (go_at_call 106; (with_reducible refine (whole13_any shard w3).mono ?_); rintro e w4 ⟨rfl, hA4, hb4, hz4⟩; clear hz4; obtain ⟨B', hB'⟩ : ∃ B', w3.heap.size + 2 = B' := ⟨_, rfl⟩; rw [hB'] at hA4 ⊢; have HBB := Lib.hid (show w3.heap.size ≤ B' by omega); clear hB'; unfold wholeV))
  have hb34 : Below w3.heap.size w3 (w4.alloc (.cells #[.int .i64 shard, .slice (some ⟨B', 0, none⟩) 1 2, .slice (some ⟨g, 0, none⟩) n cap, .slice (some ⟨B' + 1, 0, none⟩) 1 2, .slice (some ⟨B' + 2, 0, none⟩) 1 2, .slice (some ⟨B' + 3, 0, none⟩) 1 2] 91)) := hb4.trans (((Below.refl _ _).alloc (Nat.le_refl _) _).mono hb4.size)
  have k0 : (w4.alloc (.cells #[.int .i64 shard, .slice (some ⟨B', 0, none⟩) 1 2, .slice (some ⟨g, 0, none⟩) n cap, .slice (some ⟨B' + 1, 0, none⟩) 1 2, .slice (some ⟨B' + 2, 0, none⟩) 1 2, .slice (some ⟨B' + 3, 0, none⟩) 1 2] 91)).cell? ⟨w4.heap.size, 0, none⟩ = some (.int .i64 shard) := cell_of_obj (heap_alloc_new w4 _) 0
  have k1 : (w4.alloc (.cells #[.int .i64 shard, .slice (some ⟨B', 0, none⟩) 1 2, .slice (some ⟨g, 0, none⟩) n cap, .slice (some ⟨B' + 1, 0, none⟩) 1 2, .slice (some ⟨B' + 2, 0, none⟩) 1 2, .slice (some ⟨B' + 3, 0, none⟩) 1 2] 91)).cell? ⟨w4.heap.size, 1, none⟩ = some (.slice (some ⟨B', 0, none⟩) 1 2) := cell_of_obj (heap_alloc_new w4 _) 1
  have k2 : (w4.alloc (.cells #[.int .i64 shard, .slice (some ⟨B', 0, none⟩) 1 2, .slice (some ⟨g, 0, none⟩) n cap, .slice (some ⟨B' + 1, 0, none⟩) 1 2, .slice (some ⟨B' + 2, 0, none⟩) 1 2, .slice (some ⟨B' + 3, 0, none⟩) 1 2] 91)).cell? ⟨w4.heap.size, 2, none⟩ = some (.slice (some ⟨g, 0, none⟩) n cap) := cell_of_obj (heap_alloc_new w4 _) 2
  have k3 : (w4.alloc (.cells #[.int .i64 shard, .slice (some ⟨B', 0, none⟩) 1 2, .slice (some ⟨g, 0, none⟩) n cap, .slice (some ⟨B' + 1, 0, none⟩) 1 2, .slice (some ⟨B' + 2, 0, none⟩) 1 2, .slice (some ⟨B' + 3, 0, none⟩) 1 2] 91)).cell? ⟨w4.heap.size, 3, none⟩ = some (.slice (some ⟨B' + 1, 0, none⟩) 1 2) := cell_of_obj (heap_alloc_new w4 _) 3
  have k4 : (w4.alloc (.cells #[.int .i64 shard, .slice (some ⟨B', 0, none⟩) 1 2, .slice (some ⟨g, 0, none⟩) n cap, .slice (some ⟨B' + 1, 0, none⟩) 1 2, .slice (some ⟨B' + 2, 0, none⟩) 1 2, .slice (some ⟨B' + 3, 0, none⟩) 1 2] 91)).cell? ⟨w4.heap.size, 4, none⟩ = some (.slice (some ⟨B' + 2, 0, none⟩) 1 2) := cell_of_obj (heap_alloc_new w4 _) 4
  have k5 : (w4.alloc (.cells #[.int .i64 shard, .slice (some ⟨B', 0, none⟩) 1 2, .slice (some ⟨g, 0, none⟩) n cap, .slice (some ⟨B' + 1, 0, none⟩) 1 2, .slice (some ⟨B' + 2, 0, none⟩) 1 2, .slice (some ⟨B' + 3, 0, none⟩) 1 2] 91)).cell? ⟨w4.heap.size, 5, none⟩ = some (.slice (some ⟨B' + 3, 0, none⟩) 1 2) := cell_of_obj (heap_alloc_new w4 _) 5
  have hbw3 : base ≤ w3.heap.size := by have := HS3.out.lo.1; have := lt_of_obj HS3.out.obj.1; omega
  have K5 := Keeps.below (fun _ => False) ρ3 hb34
  have HX5 := Lib.hid (HX3.out.keep K5 id)
  have HBX5 := Lib.hid (HBX3.out.keep K5 id)
  have HS5 := Lib.hid (HS3.out.keep K5 (fun _ _ _ _ => id))
  have HR5 := Lib.hid (HR3.out.keep K5 (fun _ _ _ => id))
  have HA5 := Lib.hid (OneN.keep HA3.out.1 HA3.out.2 K5 id)
  have HO5 := Lib.hid (OneN.keep HO3.out.1 HO3.out.2 K5 id)
  have HF5 := Lib.hid (HF3.out.le K5.1)
  have HB5 := Lib.hid (HB3.out.trans (hb34.mono hbw3))
  have HK5 := Lib.hid (HK3.out.trans (K5.mono (R' := fun r => r0 + 1 ≤ r ∧ r < r0 + 64) (fun _ hr => hr.elim)))
  have HW5 := Lib.hid (hA4.below ((Below.refl w4.heap.size w4).alloc (Nat.le_refl _) (.cells #[.int .i64 shard, .slice (some ⟨B', 0, none⟩) 1 2, .slice (some ⟨g, 0, none⟩) n cap, .slice (some ⟨B' + 1, 0, none⟩) 1 2, .slice (some ⟨B' + 2, 0, none⟩) 1 2, .slice (some ⟨B' + 3, 0, none⟩) 1 2] 91)))
  have HZ0 := Lib.hid (show ∀ k, B' ≤ k → k < B' + 4 → ρ3 k = 0 from fun k hk _ => HF3.out k (Nat.le_trans HBB.out hk))
  have HBK5 := Lib.hid (show Objr (w4.alloc (.cells #[.int .i64 shard, .slice (some ⟨B', 0, none⟩) 1 2, .slice (some ⟨g, 0, none⟩) n cap, .slice (some ⟨B' + 1, 0, none⟩) 1 2, .slice (some ⟨B' + 2, 0, none⟩) 1 2, .slice (some ⟨B' + 3, 0, none⟩) 1 2] 91)) ρ3 0 w4.heap.size (.cells #[.int .i64 shard, .slice (some ⟨B', 0, none⟩) 1 2, .slice (some ⟨g, 0, none⟩) n cap, .slice (some ⟨B' + 1, 0, none⟩) 1 2, .slice (some ⟨B' + 2, 0, none⟩) 1 2, .slice (some ⟨B' + 3, 0, none⟩) 1 2] 91 (0, 0)) from ⟨heap_alloc_new w4 _, HF3.out _ hb4.size⟩)
  have p05 : (w4.alloc (.cells #[.int .i64 shard, .slice (some ⟨B', 0, none⟩) 1 2, .slice (some ⟨g, 0, none⟩) n cap, .slice (some ⟨B' + 1, 0, none⟩) 1 2, .slice (some ⟨B' + 2, 0, none⟩) 1 2, .slice (some ⟨B' + 3, 0, none⟩) 1 2] 91)).cell? ⟨P, 0, none⟩ = some (.pointer (some ⟨S, 0, none⟩)) := cell_of_obj HX5.out.1 0
  generalize hbk : w4.heap.size = bk at k0 k1 k2 k3 k4 k5 HBK5 ⊢
  generalize (w4.alloc (.cells #[.int .i64 shard, .slice (some ⟨B', 0, none⟩) 1 2, .slice (some ⟨g, 0, none⟩) n cap, .slice (some ⟨B' + 1, 0, none⟩) 1 2, .slice (some ⟨B' + 2, 0, none⟩) 1 2, .slice (some ⟨B' + 3, 0, none⟩) 1 2] 91)) = w5 at k0 k1 k2 k3 k4 k5 HX5 HBX5 HS5 HR5 HA5 HO5 HF5 HB5 HK5 HW5 HBK5 p05 ⊢
  clear hbk hb34 hb4 hA4 K5 hb3 p13 x23 c10
  go_outline
  have KD := Keeps.below (fun _ => False) ρ3 ((Below.refl w5.heap.size w5).drew)
  have SD := HS5.out.keep KD (fun _ _ _ _ => id)
  have FD := HF5.out.le KD.1
  have hLQ := One.lentQ ((HO5.out.1).below ((Below.refl w5.heap.size w5).drew)) HNN.out
  refine wp_region_S 5 (fun w' => w'.cell? ⟨P, 0, none⟩ = some (.pointer (some ⟨S, 0, none⟩)) ∧ w'.cell? ⟨bk, 0, none⟩ = some (.int .i64 shard) ∧ w'.cell? ⟨bk, 1, none⟩ = some (.slice (some ⟨B', 0, none⟩) 1 2) ∧ w'.cell? ⟨bk, 2, none⟩ = some (.slice (some ⟨g, 0, none⟩) n cap) ∧ w'.cell? ⟨bk, 3, none⟩ = some (.slice (some ⟨B' + 1, 0, none⟩) 1 2) ∧ w'.cell? ⟨bk, 4, none⟩ = some (.slice (some ⟨B' + 2, 0, none⟩) 1 2) ∧ w'.cell? ⟨bk, 5, none⟩ = some (.slice (some ⟨B' + 3, 0, none⟩) 1 2)) (by kernel_rfl) ?_
  have hSw0 := And.intro p05 (And.intro k0 (And.intro k1 (And.intro k2 (And.intro k3 (And.intro k4 k5)))))
  refine wpAnyS_take [0, 1, 2, 3, 5] (i := 0) (v := ?_) rfl (by kernel_rfl) (by kernel_rfl) (by kernel_rfl) (by kernel_rfl) (by kernel_rfl) (fun _ _ _ h => h) (Or.inl ⟨by rfl, fun w hSw => ?_⟩) hSw0 ?_
  rotate_left
  · (try dsimp only at hSw); go_split_ands; go_simp <;> with_reducible rfl
  (try simp only [Act.put, List.getElem_toArray, List.getElem_cons_zero, List.setIfInBounds_toArray, List.set_cons_zero, List.set_cons_succ])
  refine wpAnyS_take [1, 2, 3, 5] (i := 1) (v := ?_) rfl (by kernel_rfl) (by kernel_rfl) (by kernel_rfl) (by kernel_rfl) (by kernel_rfl) (fun _ _ _ h => h) (Or.inl ⟨by rfl, fun w hSw => ?_⟩) hSw0 ?_
  rotate_left
  · (try dsimp only at hSw); go_split_ands; go_simp <;> with_reducible rfl
  (try simp only [Act.put, List.getElem_toArray, List.getElem_cons_succ, List.getElem_cons_zero, List.setIfInBounds_toArray, List.set_cons_zero, List.set_cons_succ])
  refine wpAnyS_take [2, 3, 5] (i := 2) (v := ?_) rfl (by kernel_rfl) (by kernel_rfl) (by kernel_rfl) (by kernel_rfl) (by kernel_rfl) (fun _ _ _ h => h) (Or.inl ⟨by rfl, fun w hSw => ?_⟩) hSw0 ?_
  rotate_left
  · (try dsimp only at hSw); go_split_ands; go_simp <;> with_reducible rfl
  (try simp only [Act.put, List.getElem_toArray, List.getElem_cons_succ, List.getElem_cons_zero, List.setIfInBounds_toArray, List.set_cons_zero, List.set_cons_succ])
  refine wpAnyS_take [3, 5] (i := 3) (v := ?_) rfl (by kernel_rfl) (by kernel_rfl) (by kernel_rfl) (by kernel_rfl) (by kernel_rfl) (fun _ _ _ h => h) (Or.inl ⟨by rfl, fun w hSw => ?_⟩) hSw0 ?_
  rotate_left
  · (try dsimp only at hSw); go_split_ands; go_simp <;> with_reducible rfl
  (try simp only [Act.put, List.getElem_toArray, List.getElem_cons_succ, List.getElem_cons_zero, List.setIfInBounds_toArray, List.set_cons_zero, List.set_cons_succ])
  refine wpAnyS_take [4, 5] (i := 4) (v := ?_) rfl (by kernel_rfl) (by kernel_rfl) (by kernel_rfl) (by kernel_rfl) (by kernel_rfl) (fun _ _ _ h => h) (Or.inl ⟨by rfl, fun w hSw => ?_⟩) hSw0 ?_
  rotate_left
  · (try dsimp only at hSw); go_split_ands; go_simp <;> with_reducible rfl
  (try simp only [Act.put, List.getElem_toArray, List.getElem_cons_succ, List.getElem_cons_zero, List.setIfInBounds_toArray, List.set_cons_zero, List.set_cons_succ])
  refine wpAnyS_tail 5 (Nat.le_refl _) rfl (by kernel_rfl) ?_
  simp only [List.drop_succ_cons, List.drop_zero]
  have hbs5 : base ≤ w5.heap.size := by have := HS5.out.lo.1; have := lt_of_obj HS5.out.obj.1; omega
  clear hSw0 p05 k0 k1 k2 k3 k4 k5
  go_wp2_with (go_at_call 30; (with_reducible refine (settle_look _ base r0 S c.N W c1 ρ3 node shard shard ws qv Q0 SD FD _ n cap Q hLQ hq _ _ _ _ _ _ _ _ _ _ _ _).mono ?_); rintro e w6 ⟨rfl, ρ6, qv6, s6, k6, f6, b6⟩; have K56 := Lib.hid ((KD.mono (R' := fun r => r0 + 1 ≤ r ∧ r < r0 + 28) (fun _ hr => hr.elim)).trans k6); have S6 := Lib.hid s6; have F6 := Lib.hid f6; have B6 := Lib.hid (((Below.refl w5.heap.size w5).drew.mono hbs5).trans b6); clear s6 k6 f6 b6 SD KD FD)
  have HX6 := Lib.hid (HX5.out.keep K56.out (by omega))
  have HBX6 := Lib.hid (HBX5.out.keep K56.out (by omega))
  have HR6 := Lib.hid (HR5.out.keep K56.out (fun r h1 h2 => by omega))
  have HA6 := Lib.hid (OneN.keep HA5.out.1 HA5.out.2 K56.out (by omega))
  have HO6 := Lib.hid (OneN.keep HO5.out.1 HO5.out.2 K56.out (by omega))
  have HB06 := Lib.hid (HB5.out.trans B6.out)
  have HK06 := Lib.hid (HK5.out.trans (K56.out.mono (R' := fun r => r0 + 1 ≤ r ∧ r < r0 + 64) (fun r hr => by omega)))
  have HW6 := Lib.hid (HW5.out.keep HZ0.out K56.out (by omega))
  have HBK6 := Lib.hid (HBK5.out.keep K56.out (by omega))
  have p1 := cell_of_obj HX6.out.1 1
  have x2 := cell_of_obj HBX6.out.1 2
  have c10 : w6.cell? ⟨R, 10, none⟩ = some (.int .i64 shard) := HR6.out.cell 10 (by omega)
  have hbs6 : base ≤ w6.heap.size := by have := HR6.out.lo; have := lt_of_obj HR6.out.obj.1; omega
  simp only [List.getElem?_toArray, List.getElem?_cons_zero, List.getElem?_cons_succ] at p1 x2
  have KD := Keeps.below (fun _ => False) ρ6 ((Below.refl w6.heap.size w6).drew)
  have RD := HR6.out.keep KD (fun _ _ _ => id)
  have FD := F6.out.le KD.1
  have hLQ2 := HQ.out _ (HB06.out.trans ((Below.refl w6.heap.size w6).drew.mono hbs6))
  go_outline
  refine wp_region_S 14 (fun w' => w'.cell? ⟨P, 1, none⟩ = some (.pointer (some ⟨R, 0, none⟩)) ∧ w'.cell? ⟨R, 10, none⟩ = some (.int .i64 shard) ∧ w'.cell? ⟨w.heap.size, 2, none⟩ = some (.slice A n cq)) (by kernel_rfl) ?_
  have hSw0 := And.intro p1 (And.intro c10 x2)
  refine wpAnyS_take [0, 1, 2, 3, 14] (i := 0) (v := ?_) rfl (by kernel_rfl) (by kernel_rfl) (by kernel_rfl) (by kernel_rfl) (by kernel_rfl) (fun _ _ _ h => h) (Or.inl ⟨by rfl, fun w hSw => ?_⟩) hSw0 ?_
  rotate_left
  · (try dsimp only at hSw); go_split_ands; go_simp <;> with_reducible rfl
  (try simp only [Act.put, List.getElem_toArray, List.getElem_cons_zero, List.setIfInBounds_toArray, List.set_cons_zero, List.set_cons_succ])
  refine wpAnyS_take [1, 2, 3, 14] (i := 1) (v := ?_) rfl (by kernel_rfl) (by kernel_rfl) (by kernel_rfl) (by kernel_rfl) (by kernel_rfl) (fun _ _ _ h => h) (Or.inl ⟨by rfl, fun w hSw => ?_⟩) hSw0 ?_
  rotate_left
  · (try dsimp only at hSw); go_split_ands; go_simp <;> with_reducible rfl
  (try simp only [Act.put, List.getElem_toArray, List.getElem_cons_succ, List.getElem_cons_zero, List.setIfInBounds_toArray, List.set_cons_zero, List.set_cons_succ])
  refine wpAnyS_take [2, 3, 14] (i := 2) (v := ?_) rfl (by kernel_rfl) (by kernel_rfl) (by kernel_rfl) (by kernel_rfl) (by kernel_rfl) (fun _ _ _ h => h) (Or.inl ⟨by rfl, fun w hSw => ?_⟩) hSw0 ?_
  rotate_left
  · (try dsimp only at hSw); go_split_ands; go_simp <;> with_reducible rfl
  (try simp only [Act.put, List.getElem_toArray, List.getElem_cons_succ, List.getElem_cons_zero, List.setIfInBounds_toArray, List.set_cons_zero, List.set_cons_succ])
  refine wpAnyS_take [3, 14] (i := 3) (v := ?_) rfl (by kernel_rfl) (by kernel_rfl) (by kernel_rfl) (by kernel_rfl) (by kernel_rfl) (fun _ _ _ h => h) (Or.inl ⟨by rfl, fun w hSw => ?_⟩) hSw0 ?_
  rotate_left
  · (try dsimp only at hSw); go_split_ands; go_simp <;> with_reducible rfl
  (try simp only [Act.put, List.getElem_toArray, List.getElem_cons_succ, List.getElem_cons_zero, List.setIfInBounds_toArray, List.set_cons_zero, List.set_cons_succ])
  refine wpAnyS_take [4, 5, 6, 7, 8, 9, 10, 13, 14] (i := 4) (v := ?_) rfl (by kernel_rfl) (by kernel_rfl) (by kernel_rfl) (by kernel_rfl) (by kernel_rfl) (fun _ _ _ h => h) (Or.inl ⟨by rfl, fun w hSw => ?_⟩) hSw0 ?_
  rotate_left
  · (try dsimp only at hSw); go_split_ands; go_simp <;> with_reducible rfl
  (try simp only [Act.put, List.getElem_toArray, List.getElem_cons_succ, List.getElem_cons_zero, List.setIfInBounds_toArray, List.set_cons_zero, List.set_cons_succ])
  refine wpAnyS_take [5, 6, 7, 8, 9, 10, 13, 14] (i := 5) (v := ?_) rfl (by kernel_rfl) (by kernel_rfl) (by kernel_rfl) (by kernel_rfl) (by kernel_rfl) (fun _ _ _ h => h) (Or.inl ⟨by rfl, fun w hSw => ?_⟩) hSw0 ?_
  rotate_left
  · (try dsimp only at hSw); go_split_ands; go_simp <;> with_reducible rfl
  (try simp only [Act.put, List.getElem_toArray, List.getElem_cons_succ, List.getElem_cons_zero, List.setIfInBounds_toArray, List.set_cons_zero, List.set_cons_succ])
  refine wpAnyS_take [6, 7, 8, 9, 10, 13, 14] (i := 6) (v := ?_) rfl (by kernel_rfl) (by kernel_rfl) (by kernel_rfl) (by kernel_rfl) (by kernel_rfl) (fun _ _ _ h => h) (Or.inl ⟨by rfl, fun w hSw => ?_⟩) hSw0 ?_
  rotate_left
  · (try dsimp only at hSw); go_split_ands; go_simp <;> with_reducible rfl
  (try simp only [Act.put, List.getElem_toArray, List.getElem_cons_succ, List.getElem_cons_zero, List.setIfInBounds_toArray, List.set_cons_zero, List.set_cons_succ])
  refine wpAnyS_take [7, 8, 9, 10, 13, 14] (i := 7) (v := ?_) rfl (by kernel_rfl) (by kernel_rfl) (by kernel_rfl) (by kernel_rfl) (by kernel_rfl) (fun _ _ _ h => h) (Or.inl ⟨by rfl, fun w hSw => ?_⟩) hSw0 ?_
  rotate_left
  · (try dsimp only at hSw); go_split_ands; go_simp <;> with_reducible rfl
  (try simp only [Act.put, List.getElem_toArray, List.getElem_cons_succ, List.getElem_cons_zero, List.setIfInBounds_toArray, List.set_cons_zero, List.set_cons_succ])
  refine wpAnyS_take [8, 9, 10, 13, 14] (i := 8) (v := ?_) rfl (by kernel_rfl) (by kernel_rfl) (by kernel_rfl) (by kernel_rfl) (by kernel_rfl) (fun _ _ _ h => h) (Or.inl ⟨by rfl, fun w hSw => ?_⟩) hSw0 ?_
  rotate_left
  · (try dsimp only at hSw); go_split_ands; go_simp <;> with_reducible rfl
  (try simp only [Act.put, List.getElem_toArray, List.getElem_cons_succ, List.getElem_cons_zero, List.setIfInBounds_toArray, List.set_cons_zero, List.set_cons_succ])
  refine wpAnyS_take [9, 10, 13, 14] (i := 9) (v := ?_) rfl (by kernel_rfl) (by kernel_rfl) (by kernel_rfl) (by kernel_rfl) (by kernel_rfl) (fun _ _ _ h => h) (Or.inl ⟨by rfl, fun w hSw => ?_⟩) hSw0 ?_
  rotate_left
  · (try dsimp only at hSw); go_split_ands; go_simp <;> with_reducible rfl
  (try simp only [Act.put, List.getElem_toArray, List.getElem_cons_succ, List.getElem_cons_zero, List.setIfInBounds_toArray, List.set_cons_zero, List.set_cons_succ])
  refine wpAnyS_take [10, 13, 14] (i := 10) (v := ?_) rfl (by kernel_rfl) (by kernel_rfl) (by kernel_rfl) (by kernel_rfl) (by kernel_rfl) (fun _ _ _ h => h) (Or.inl ⟨by rfl, fun w hSw => ?_⟩) hSw0 ?_
  rotate_left
  · (try dsimp only at hSw); go_split_ands; go_simp <;> with_reducible rfl
  (try simp only [Act.put, List.getElem_toArray, List.getElem_cons_succ, List.getElem_cons_zero, List.setIfInBounds_toArray, List.set_cons_zero, List.set_cons_succ])
  refine wpAnyS_take [11, 12, 13, 14] (i := 11) (v := ?_) rfl (by kernel_rfl) (by kernel_rfl) (by kernel_rfl) (by kernel_rfl) (by kernel_rfl) (fun _ _ _ h => h) (Or.inl ⟨by rfl, fun w hSw => ?_⟩) hSw0 ?_
  rotate_left
  · (try dsimp only at hSw); go_split_ands; go_simp <;> with_reducible rfl
  (try simp only [Act.put, List.getElem_toArray, List.getElem_cons_succ, List.getElem_cons_zero, List.setIfInBounds_toArray, List.set_cons_zero, List.set_cons_succ])
  refine wpAnyS_take [12, 13, 14] (i := 12) (v := ?_) rfl (by kernel_rfl) (by kernel_rfl) (by kernel_rfl) (by kernel_rfl) (by kernel_rfl) (fun _ _ _ h => h) (Or.inl ⟨by rfl, fun w hSw => ?_⟩) hSw0 ?_
  rotate_left
  · (try dsimp only at hSw); go_split_ands; go_simp <;> with_reducible rfl
  (try simp only [Act.put, List.getElem_toArray, List.getElem_cons_succ, List.getElem_cons_zero, List.setIfInBounds_toArray, List.set_cons_zero, List.set_cons_succ])
  refine wpAnyS_take [13, 14] (i := 13) (v := ?_) rfl (by kernel_rfl) (by kernel_rfl) (by kernel_rfl) (by kernel_rfl) (by kernel_rfl) (fun _ _ _ h => h) (Or.inl ⟨by rfl, fun w hSw => ?_⟩) hSw0 ?_
  rotate_left
  · (try dsimp only at hSw); go_split_ands; go_simp <;> with_reducible rfl
  (try simp only [Act.put, List.getElem_toArray, List.getElem_cons_succ, List.getElem_cons_zero, List.setIfInBounds_toArray, List.set_cons_zero, List.set_cons_succ])
  refine wpAnyS_tail 14 (Nat.le_refl _) rfl (by kernel_rfl) ?_
  simp only [List.drop_succ_cons, List.drop_zero]
  clear hSw0 p1 c10 x2
  go_wp2_with (first | (go_at_call 103; (with_reducible refine (ref_look _ base r0 R V c2 ρ6 c node shard shard ps rv Q0 RD FD _ n cq Q hLQ2 hq _ _ _ _ _ _ _ _ _ _ _ _).mono ?_); rintro e w7 ⟨rfl, ρ7, rv7, r7, k7, f7, b7⟩; have K67 := Lib.hid ((KD.mono (R' := fun r => r0 + 31 ≤ r ∧ r ≤ r0 + 33) (fun _ hr => hr.elim)).trans k7); have R7 := Lib.hid r7; have F7 := Lib.hid f7; have B7 := Lib.hid (((Below.refl w6.heap.size w6).drew.mono hbs6).trans b7); clear r7 k7 f7 b7 RD KD FD hLQ2; have HX7 := Lib.hid (HX6.out.keep K67.out (by omega)); have HBX7 := Lib.hid (HBX6.out.keep K67.out (by omega)); have x2 := cell_of_obj HBX7.out.1 2; simp only [List.getElem?_toArray, List.getElem?_cons_zero, List.getElem?_cons_succ] at x2; have HS7 := Lib.hid (S6.out.keep K67.out (fun r h1 h2 _ => by omega)); have HA7 := Lib.hid (OneN.keep HA6.out.1 HA6.out.2 K67.out (by omega)); have HO7 := Lib.hid (OneN.keep HO6.out.1 HO6.out.2 K67.out (by omega)); have HB07 := Lib.hid (HB06.out.trans B7.out); have HK07 := Lib.hid (HK06.out.trans (K67.out.mono (R' := fun r => r0 + 1 ≤ r ∧ r < r0 + 64) (fun r hr => by omega))); have HW7 := Lib.hid (HW6.out.1.keep HW6.out.2 K67.out (by omega)); have HBK7 := Lib.hid (HBK6.out.keep K67.out (by omega)); have hog := HO7.out.1; obtain ⟨cur0, hob, hcu, hgb⟩ := One.curOf hog; have hint := intact13_any w7 g n cap cq A Q cur0 HNN.out (by rw [← HNN.out]; exact hq) hob hcu.1 hcu.2 (HQ.out _ HB07.out) (fun a hz ha => by have := hA a hz ha; omega); have HINT := Lib.hid hint; have HOB := Lib.hid hob; have HGB := Lib.hid hgb; clear hint hob hcu hog hgb) | (go_at_call 107; (with_reducible refine HINT.out.mono ?_); rintro e w8 ⟨rfl, cur8, hB8⟩; have K78 := Lib.hid (Keeps.only (R := fun r => r = r0 + 52) ρ7 hB8 (HO7.out.2 g rfl)); have BB8 := Lib.hid (hB8.below HGB.out); have Z8 := Lib.hid hB8.size; have hw8 := (HW7.out.1.keep HW7.out.2 K78.out (by omega)).1; have hkp := kept_any shard (some ⟨g, 0, none⟩) n cap B' w8 hw8; unfold wholeV at hkp; have HKP := Lib.hid hkp; have hbk8 := (HBK7.out.keep K78.out (by omega)).1; have k0 := cell_of_obj hbk8 0; have k1 := cell_of_obj hbk8 1; have k2 := cell_of_obj hbk8 2; have k3 := cell_of_obj hbk8 3; have k4 := cell_of_obj hbk8 4; have k5 := cell_of_obj hbk8 5; simp only [List.getElem?_toArray, List.getElem?_cons_zero, List.getElem?_cons_succ] at k0 k1 k2 k3 k4 k5; clear hw8 hkp hbk8 hB8 x2) | (go_at_call 108; (with_reducible refine HKP.out.mono ?_); rintro e w9 ⟨rfl, hB9⟩; have BB9 := Lib.hid hB9; clear hB9 k0 k1 k2 k3 k4 k5))
  go_ret
  have hD := HD.out
  have K89 := Keeps.below (fun _ => False) ρ7 BB9.out
  have hS8 := HS7.out.keep K78.out (fun r h1 h2 _ => by omega)
  have hR8 := R7.out.keep K78.out (fun r h1 h2 => by omega)
  have hA8 := OneN.keep HA7.out.1 HA7.out.2 K78.out (by omega)
  have hX8 := HX7.out.keep K78.out (by omega)
  have hA9 := OneN.keep hA8.1 hA8.2 K89 id
  have hbs8 : base ≤ w8.heap.size := by have := hR8.lo; have := lt_of_obj hR8.obj.1; omega
  refine ⟨rfl, ρ7, ⟨c, node, shard, S, W, c1, R, V, c2, wsL shard Q ws c.N, lookP shard Q ps c.N, qv6, rv7, Q, av, an, ca, turn + 1, ⟨?_, hS8.keep K89 (fun _ _ _ _ => id), hR8.keep K89 (fun _ _ _ => id), hA9.1, hA9.2, (hD.pl.look Q).later, hD.conf, hq, by have := hD.tn; omega, hD.lo⟩⟩,
    (HK07.out.trans (K78.out.mono (fun r hr => by omega))).trans (K89.mono (fun _ hr => hr.elim)), (F7.out.le (Nat.le_of_eq Z8.out.symm)).le K89.1, (HB07.out.trans BB8.out).trans (BB9.out.mono hbs8)⟩
  exact hX8.keep K89 id
end Go.Proofs.Ytbgojhjlmlbfpaa
