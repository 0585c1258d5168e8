/- SettleExact: the walk of tallylaw13.exact: eight Plays are made, the steps are played. -/
import Derived.Test.YtbgojhjlmlbfpaaSfS
import Derived.Test.YtbgojhjlmlbfpaaSeN
import Derived.Deep.RegionWith
import Derived.Deep.CutRange
import Derived.Deep.MidRow
namespace Go.Proofs.Ytbgojhjlmlbfpaa
open Go.RowKit

/-- The steps as they came in. -/
def OpsAt (w : World) (A : Option Addr) (n : Nat) : Prop := ∀ k, k < n → ∃ (b off : Nat) (kd wh pe nu : Int) (Aq : Option Addr) (nq cq : Nat) (Q : List Ent), A = some ⟨b, off, none⟩ ∧ b < w.heap.size ∧
  w.cell? ⟨b, off + k * 5, none⟩ = some (.int .i64 kd) ∧ w.cell? ⟨b, off + k * 5 + 1, none⟩ = some (.int .i64 wh) ∧ w.cell? ⟨b, off + k * 5 + 2, none⟩ = some (.slice Aq nq cq) ∧ w.cell? ⟨b, off + k * 5 + 3, none⟩ = some (.int .i64 pe) ∧ w.cell? ⟨b, off + k * 5 + 4, none⟩ = some (.int .u64 nu) ∧
  Q.length = nq ∧ Q.length ≤ 3518437208780 ∧ HasQ w (.slice Aq nq cq) Q ∧ ∀ a, 0 < nq → Aq = some a → a.block < w.heap.size
def bookCells : Array Value := #[.slice none 0 0, .slice none 0 0, .int .i64 0, .slice none 0 0, .slice none 0 0, .int .i64 0, .slice none 0 0, .slice none 0 0, .int .i64 0, .slice none 0 0, .slice none 0 0, .int .i64 0, .slice none 0 0, .slice none 0 0, .int .i64 0, .slice none 0 0, .slice none 0 0, .int .i64 0, .slice none 0 0, .slice none 0 0, .int .i64 0, .slice none 0 0, .slice none 0 0, .int .i64 0, .slice none 0 0, .slice none 0 0, .int .i64 0, .slice none 0 0, .slice none 0 0, .int .i64 0, .slice none 0 0, .slice none 0 0, .int .i64 0, .slice none 0 0, .slice none 0 0, .int .i64 0, .int .i64 0, .int .i64 0, .int .i64 0]
set_option maxRecDepth 100000 in
theorem book_built {o : Oper} {a : Act} {w : World} {K : Act → World → Prop} {Q : Exit → Act → World → Prop} (ho : o.op = .build 52 #[]) (h : K (a.put o.dst (.agg bookCells)) w) : o.wp Try.prog a w K Q := by
  have e : Try.prog.built 52 [] = some bookCells := by kernel_rfl
  refine wp_build 52 #[] ho (by simp [e]) ?_
  simpa [e] using h
theorem below_setCellsT (b : Nat) : ∀ (vs : List Value) (o : Nat) {B : Nat} {a w : World}, B ≤ b → Below B a w → Below B a (w.setCells b o vs)
  | [], _, _, _, _, _, h => h
  | v :: r, o, _, _, _, hb, h => below_setCellsT b r (o + 1) hb (h.setCell (p := ⟨b, o, none⟩) hb v)
theorem there_after {w0 w5 : World} {b n : Nat} {zs : Array Value} {t : TypeId} (hz : zs.size = n) (hb : Below w0.heap.size w0 w5) (h0 : w0.heap[b]? = some (.cells zs t (0, 0))) : w5.heap[b]? = some (.cells zs t (0, 0)) ∧ w5.there b 0 n := by
  have ho : w5.heap[b]? = some (.cells zs t (0, 0)) := (hb.block _ (lt_of_obj h0)).trans h0
  refine ⟨ho, fun j hj => ⟨?_, ?_⟩⟩
  · rw [Nat.zero_add, cell_of_obj ho j, Array.getElem?_eq_getElem (by omega)]
    rfl
  · rw [Nat.zero_add]
    exact free_of_obj ho j
theorem set9 {w : World} {b : Nat} {t : TypeId} {z0 z1 z2 z3 z4 z5 z6 z7 z8 : Value} (h : w.heap[b]? = some (.cells #[z0, z1, z2, z3, z4, z5, z6, z7, z8] t (0, 0))) (v0 v1 v2 v3 v4 v5 v6 v7 v8 : Value) :
    OnlyB w (w.setCells b 0 [v0, v1, v2, v3, v4, v5, v6, v7, v8]) b (.cells #[v0, v1, v2, v3, v4, v5, v6, v7, v8] t (0, 0)) := by
  have hb := lt_of_obj h
  have := (((((((((OnlyB.refl h).set hb 0 v0).set hb 1 v1).set hb 2 v2).set hb 3 v3).set hb 4 v4).set hb 5 v5).set hb 6 v6).set hb 7 v7).set hb 8 v8
  simpa [World.setCells] using this
def confO (n N cp cap : Nat) (v : Value) : Obj := .cells #[.int .i64 (n : Nat), .int .i64 (N : Nat), .int .i64 (cp : Nat), .int .i64 1, .int .i64 16, .int .i64 (cap : Nat), .int .i64 64, .int .i64 100, v] 79 (0, 0)
def acctO : Obj := .cells #[.string ⟨#[97]⟩, .int .u64 5, .string ⟨#[109, 97, 114, 107]⟩, .int .u64 0] 154 (0, 0)
theorem Eight.add {w w6 w7 w8 : World} {so : Obj} {i : Nat} {ρ ρ7 ρ8 : Nat → Nat} {P : Nat → Nat} {arr : Array Value} {c : Conf} {node shard : Int} {S W c1 R V c2 : Nat} {ws : Nat → Way} (hE : Eight w w6 so i 0 ρ P arr) (hi : i < 8)
    (hs : SetAt w7 (w.heap.size + 3) ρ7 (64 * i) S node shard c.N ws (.slice (some ⟨W, 0, none⟩) c.N c1) (.slice none 0 0) []) (hF : ∀ k, k < c.N → FreshWay (ws k) c.cap (copiesL k c.n c.cp))
    (K7 : Keeps (fun r => 64 * i + 1 ≤ r ∧ r < 64 * i + 28) w6 ρ w7 ρ7) (B7 : Below (w.heap.size + 3) w6 w7)
    (hr : RSet w8 (w.heap.size + 3) ρ8 (64 * i) R c node shard (fun _ => p0 c) (.slice (some ⟨V, 0, none⟩) c.N c2) (.slice none 0 0) []) (K8 : Keeps (fun r => 64 * i + 31 ≤ r ∧ r ≤ 64 * i + 34) w7 ρ7 w8 ρ8) (F8 : Free w8 ρ8) (B8 : Below (w.heap.size + 3) w7 w8) (hc : ConfOk c.n c.N c.cp c.cap) :
    ∃ ρ', Eight w ((w8.alloc (playO S R (w.heap.size + 1) false (.slice none 0 0) 0)).setCell ⟨w.heap.size + 2, i, none⟩ (.pointer (some ⟨w8.heap.size, 0, none⟩))) so (i + 1) 0 ρ' (fun k => if k = i then w8.heap.size else P k) (arr.setIfInBounds i (.pointer (some ⟨w8.heap.size, 0, none⟩))) ∧
      (∀ k, k < w6.heap.size → ρ k = 0 → k ≠ w.heap.size + 2 → ((w8.alloc (playO S R (w.heap.size + 1) false (.slice none 0 0) 0)).setCell ⟨w.heap.size + 2, i, none⟩ (.pointer (some ⟨w8.heap.size, 0, none⟩))).heap[k]? = w6.heap[k]? ∧ ρ' k = 0) := by
  have hlo8 : w.heap.size + 3 ≤ w8.heap.size := Nat.le_trans hE.lo (Nat.le_trans K7.1 K8.1)
  have K68 := (K7.mono (R' := fun r => 64 * i + 1 ≤ r ∧ r < 64 * i + 64) (fun r hr => by omega)).trans (K8.mono (fun r hr => by omega))
  have hE8 := hE.go K68 (fun j r hj h1 h2 h3 => by omega) F8 (B7.trans B8)
  have hal : Below w8.heap.size w8 (w8.alloc (playO S R (w.heap.size + 1) false (.slice none 0 0) 0)) := (Below.refl _ _).alloc (Nat.le_refl _) _
  have K9 : Keeps (fun _ => False) w8 ρ8 (w8.alloc (playO S R (w.heap.size + 1) false (.slice none 0 0) 0)) (lab ρ8 w8.heap.size (64 * i + 50)) := ⟨hal.size, fun k hk => ⟨lab_ne (by omega), fun _ => hal.block k hk⟩⟩
  have F9 : Free (w8.alloc (playO S R (w.heap.size + 1) false (.slice none 0 0) 0)) (lab ρ8 w8.heap.size (64 * i + 50)) := F8.lab hal.size (by simp) _
  have hE9 := hE8.go K9 (fun _ _ _ _ _ => id) F9 (hal.mono hlo8)
  have hP : PlayAt (w8.alloc (playO S R (w.heap.size + 1) false (.slice none 0 0) 0)) (w.heap.size + 3) (lab ρ8 w8.heap.size (64 * i + 50)) (64 * i) w8.heap.size (w.heap.size + 1) false 0 :=
    ⟨c, node, shard, S, W, c1, R, V, c2, ws, fun _ => p0 c, .slice none 0 0, .slice none 0 0, [], .slice none 0 0, 0, fun _ => .int .i64 0, 0,
      ⟨⟨heap_alloc_new w8 _, lab_eq⟩, (hs.keep K8 (fun r h1 h2 h3 h4 => by omega)).keep K9 (fun _ _ _ _ => id), hr.keep K9 (fun _ _ _ => id), .inl ⟨rfl, rfl⟩, fun g hg => by simp [Value.ownBlock] at hg, Plays.new hc hF, hc, by simp, Nat.le_refl _, hlo8⟩⟩
  refine ⟨_, hE9.put hi hP, fun k hk hz hne => ⟨?_, ?_⟩⟩
  · have hk8 : k < w8.heap.size := Nat.lt_of_lt_of_le hk (Nat.le_trans K7.1 K8.1)
    have e1 := (K68.2 k hk).2 (by rw [hz]; omega)
    have e2 := hal.block k hk8
    rw [← e1, ← e2]
    exact (OnlyB.set (OnlyB.refl hE9.ao) (lt_of_obj hE9.ao) i _).far hne
  · have hk8 : k < w8.heap.size := Nat.lt_of_lt_of_le hk (Nat.le_trans K7.1 K8.1)
    rw [lab_ne (by omega), (K68.2 k hk).1, hz]
def FillRel8 (w : World) (so : Obj) (iv : Value) (wr : World) : Prop := ∃ (i : Nat) (ρ P : Nat → Nat) (arr : Array Value), iv = .int .i64 i ∧ i ≤ 8 ∧ Eight w wr so i 0 ρ P arr
def StepRel8 (w : World) (so : Obj) (n : Nat) (iv : Value) (wr : World) : Prop := ∃ (i : Nat) (ρ P : Nat → Nat) (arr : Array Value), iv = .int .i64 i ∧ i ≤ n ∧ i ≤ 600 ∧ Eight w wr so 8 i ρ P arr
set_option maxRecDepth 100000 in
set_option maxHeartbeats 8000000 in
theorem exact_walk (x0 x1 x2 x3 x4 x5 x6 x7 x8 x9 x10 x11 : Int) (A : Option Addr) (n cap : Nat) (w : World) (hA : OpsAt w A n) (hn : n ≤ 9223372036854775807) :
    Calls Try.prog 37 #[.agg (scriptV x0 x1 x2 x3 x4 x5 x6 x7 x8 x9 x10 x11 A n cap), .bool false] w fun e w' => e = .returned (.bool true) ∧ Below w.heap.size w w' := by
  unfold scriptV
  go_enter Try.func37, Try.ntmps37
  go_wp2
  refine book_built rfl ?_
  go_wp2
  go_loopw [7] (fun iv wr => FillRel8 w (.cells (scriptV x0 x1 x2 x3 x4 x5 x6 x7 x8 x9 x10 x11 A n cap) 115 (0, 0)) iv wr) (fun iv _ => (8 - intOf iv).toNat)
  case atStart => exact ⟨0, _, _, _, rfl, by omega, eight_start w _ _ _ rfl⟩
  case round =>
    obtain ⟨i, ρ, P, arr, rfl, hi, hE⟩ := hrel
    by_cases hi8 : i < 8
    · obtain ⟨k, hk⟩ : ∃ k : Nat, i % 2 = k := ⟨_, rfl⟩
      have hk2 : k < 2 := by omega
      have hbx := cell_of_obj hE.box
      have q1 : (i : Int) < 8 := by omega
      have q2 : (i : Int) % 2 = (k : Int) := by omega
      have q3 : (0 : Int) ≤ (k : Int) := by omega
      have q4 : (k : Int) < 2 := by omega
      have hcv : ∀ f, f < 6 → ∃ cv : Int, wr.cell? ⟨w.heap.size, f * 2 + k, none⟩ = some (.int .i64 cv) := fun f hf => by
        rw [hbx]
        obtain rfl | rfl : k = 0 ∨ k = 1 := by omega
        all_goals
          rcases f with _ | _ | _ | _ | _ | _ | f <;> first | exact ⟨_, rfl⟩ | omega
      obtain ⟨y0, c0⟩ := hcv 0 (by omega)
      obtain ⟨y1, c1⟩ := hcv 1 (by omega)
      obtain ⟨y2, c2⟩ := hcv 2 (by omega)
      obtain ⟨y3, c3⟩ := hcv 3 (by omega)
      obtain ⟨y4, c4⟩ := hcv 4 (by omega)
      obtain ⟨y5, c5⟩ := hcv 5 (by omega)
      simp only [Nat.zero_mul, Nat.zero_add, Nat.one_mul, Nat.reduceMul] at c0 c1 c2 c3 c4 c5
      have HWLO := Lib.hid hE.lo
      have HE := Lib.hid hE
      clear hbx hcv hE
      go_wp2_with fail
      rw [q2]
      go_cut [9] from 15 to 98 (fun c9 wx => ∃ (bc n' N cp cp' : Nat), c9 = .pointer (some ⟨bc, 0, none⟩) ∧ ConfOk n' N cp cp' ∧ wr.heap.size ≤ bc ∧ wx.heap[bc]? = some (confO n' N cp cp' (.slice none 0 0)) ∧ Below wr.heap.size wr wx)
      case first =>
        refine wp_region_held_drew (S := fun w' => w'.cell? ⟨w.heap.size, k, none⟩ = some (.int .i64 y0) ∧ w'.cell? ⟨w.heap.size, 2 + k, none⟩ = some (.int .i64 y1) ∧ w'.cell? ⟨w.heap.size, 4 + k, none⟩ = some (.int .i64 y2) ∧ w'.cell? ⟨w.heap.size, 6 + k, none⟩ = some (.int .i64 y3) ∧ Below wr.heap.size wr w') (by kernel_rfl) ⟨c0, c1, c2, c3, (Below.refl _ _).drew⟩ (fun hHeld => ?_)
        refine wpAnyH_take (i := 0) (v := ?_) rfl (by kernel_rfl) (by kernel_rfl) (by kernel_rfl) (fun _ _ _ h => h) (Or.inl ⟨by rfl, fun w hSw => ?_⟩) hHeld ?_
        rotate_left
        · (try dsimp only at hSw); go_split_ands; go_simp <;> with_reducible rfl
        (try simp only [Act.put, List.getElem_toArray, List.getElem_cons_zero, List.setIfInBounds_toArray, List.set_cons_zero, List.set_cons_succ])
        refine wpAnyH_take (i := 1) (v := ?_) rfl (by kernel_rfl) (by kernel_rfl) (by kernel_rfl) (fun _ _ _ h => h) (Or.inl ⟨by rfl, fun w hSw => ?_⟩) hHeld ?_
        rotate_left
        · (try dsimp only at hSw); go_split_ands; go_simp <;> with_reducible rfl
        (try simp only [Act.put, List.getElem_toArray, List.getElem_cons_succ, List.getElem_cons_zero, List.setIfInBounds_toArray, List.set_cons_zero, List.set_cons_succ])
        refine wpAnyH_take (i := 2) (v := ?_) rfl (by kernel_rfl) (by kernel_rfl) (by kernel_rfl) (fun _ _ _ h => h) (Or.inl ⟨by rfl, fun w hSw => ?_⟩) hHeld ?_
        rotate_left
        · (try dsimp only at hSw); go_split_ands; go_simp <;> with_reducible rfl
        (try simp only [Act.put, List.getElem_toArray, List.getElem_cons_succ, List.getElem_cons_zero, List.setIfInBounds_toArray, List.set_cons_zero, List.set_cons_succ])
        refine wpAnyH_take (i := 3) (v := ?_) rfl (by kernel_rfl) (by kernel_rfl) (by kernel_rfl) (fun _ _ _ h => h) (Or.inl ⟨by rfl, fun w hSw => ?_⟩) hHeld ?_
        rotate_left
        · (try dsimp only at hSw); go_split_ands; go_simp <;> with_reducible rfl
        (try simp only [Act.put, List.getElem_toArray, List.getElem_cons_succ, List.getElem_cons_zero, List.setIfInBounds_toArray, List.set_cons_zero, List.set_cons_succ])
        refine wpAnyH_take (i := 4) (v := ?_) rfl (by kernel_rfl) (by kernel_rfl) (by kernel_rfl) (fun _ _ _ h => h) (Or.inl ⟨by rfl, fun w hSw => ?_⟩) hHeld ?_
        rotate_left
        · (try dsimp only at hSw); go_split_ands; go_simp <;> with_reducible rfl
        (try simp only [Act.put, List.getElem_toArray, List.getElem_cons_succ, List.getElem_cons_zero, List.setIfInBounds_toArray, List.set_cons_zero, List.set_cons_succ])
        refine wpAnyH_take (i := 5) (v := ?_) rfl (by kernel_rfl) (by kernel_rfl) (by kernel_rfl) (fun _ _ _ h => h) (Or.inl ⟨by rfl, fun w hSw => ?_⟩) hHeld ?_
        rotate_left
        · (try dsimp only at hSw); go_split_ands; go_simp <;> with_reducible rfl
        (try simp only [Act.put, List.getElem_toArray, List.getElem_cons_succ, List.getElem_cons_zero, List.setIfInBounds_toArray, List.set_cons_zero, List.set_cons_succ])
        refine wpAnyH_take (i := 6) (v := ?_) rfl (by kernel_rfl) (by kernel_rfl) (by kernel_rfl) (fun _ _ _ h => h) (Or.inl ⟨by rfl, fun w hSw => ?_⟩) hHeld ?_
        rotate_left
        · (try dsimp only at hSw); go_split_ands; go_simp <;> with_reducible rfl
        (try simp only [Act.put, List.getElem_toArray, List.getElem_cons_succ, List.getElem_cons_zero, List.setIfInBounds_toArray, List.set_cons_zero, List.set_cons_succ])
        refine wpAnyH_take (i := 7) (v := ?_) rfl (by kernel_rfl) (by kernel_rfl) (by kernel_rfl) (fun _ _ _ h => h) (Or.inl ⟨by rfl, fun w hSw => ?_⟩) hHeld ?_
        rotate_left
        · (try dsimp only at hSw); go_split_ands; go_simp <;> with_reducible rfl
        (try simp only [Act.put, List.getElem_toArray, List.getElem_cons_succ, List.getElem_cons_zero, List.setIfInBounds_toArray, List.set_cons_zero, List.set_cons_succ])
        refine wpAnyH_take (i := 8) (v := ?_) rfl (by kernel_rfl) (by kernel_rfl) (by kernel_rfl) (fun _ _ _ h => h) (Or.inl ⟨by rfl, fun w hSw => ?_⟩) hHeld ?_
        rotate_left
        · (try dsimp only at hSw); go_split_ands; go_simp <;> with_reducible rfl
        (try simp only [Act.put, List.getElem_toArray, List.getElem_cons_succ, List.getElem_cons_zero, List.setIfInBounds_toArray, List.set_cons_zero, List.set_cons_succ])
        refine wpAnyH_take (i := 9) (v := ?_) rfl (by kernel_rfl) (by kernel_rfl) (by kernel_rfl) (fun _ _ _ h => h) (Or.inl ⟨by rfl, fun w hSw => ?_⟩) hHeld ?_
        rotate_left
        · (try dsimp only at hSw); go_split_ands; go_simp <;> with_reducible rfl
        (try simp only [Act.put, List.getElem_toArray, List.getElem_cons_succ, List.getElem_cons_zero, List.setIfInBounds_toArray, List.set_cons_zero, List.set_cons_succ])
        refine wpAnyH_take (i := 10) (v := ?_) rfl (by kernel_rfl) (by kernel_rfl) (by kernel_rfl) (fun _ _ _ h => h) (Or.inl ⟨by rfl, fun w hSw => ?_⟩) hHeld ?_
        rotate_left
        · (try dsimp only at hSw); go_split_ands; go_simp <;> with_reducible rfl
        (try simp only [Act.put, List.getElem_toArray, List.getElem_cons_succ, List.getElem_cons_zero, List.setIfInBounds_toArray, List.set_cons_zero, List.set_cons_succ])
        refine wpAnyH_take (i := 11) (v := ?_) rfl (by kernel_rfl) (by kernel_rfl) (by kernel_rfl) (fun _ _ _ h => h) (Or.inl ⟨by rfl, fun w hSw => ?_⟩) hHeld ?_
        rotate_left
        · (try dsimp only at hSw); go_split_ands; go_simp <;> with_reducible rfl
        (try simp only [Act.put, List.getElem_toArray, List.getElem_cons_succ, List.getElem_cons_zero, List.setIfInBounds_toArray, List.set_cons_zero, List.set_cons_succ])
        refine wpAnyH_take (i := 12) (v := ?_) rfl (by kernel_rfl) (by kernel_rfl) (by kernel_rfl) (fun _ _ _ h => h) (Or.inl ⟨by rfl, fun w hSw => ?_⟩) hHeld ?_
        rotate_left
        · (try dsimp only at hSw); go_split_ands; go_simp <;> with_reducible rfl
        (try simp only [Act.put, List.getElem_toArray, List.getElem_cons_succ, List.getElem_cons_zero, List.setIfInBounds_toArray, List.set_cons_zero, List.set_cons_succ])
        refine wpAnyH_take (i := 13) (v := ?_) rfl (by kernel_rfl) (by kernel_rfl) (by kernel_rfl) (fun _ _ _ h => h) (Or.inl ⟨by rfl, fun w hSw => ?_⟩) hHeld ?_
        rotate_left
        · (try dsimp only at hSw); go_split_ands; go_simp <;> with_reducible rfl
        (try simp only [Act.put, List.getElem_toArray, List.getElem_cons_succ, List.getElem_cons_zero, List.setIfInBounds_toArray, List.set_cons_zero, List.set_cons_succ])
        refine wpAnyH_take (i := 14) (v := ?_) rfl (by kernel_rfl) (by kernel_rfl) (by kernel_rfl) (fun _ _ _ h => h) (Or.inl ⟨by rfl, fun w hSw => ?_⟩) hHeld ?_
        rotate_left
        · (try dsimp only at hSw); go_split_ands; go_simp <;> with_reducible rfl
        (try simp only [Act.put, List.getElem_toArray, List.getElem_cons_succ, List.getElem_cons_zero, List.setIfInBounds_toArray, List.set_cons_zero, List.set_cons_succ])
        refine wpAnyH_take (i := 15) (v := ?_) rfl (by kernel_rfl) (by kernel_rfl) (by kernel_rfl) (fun _ _ _ h => h) (Or.inl ⟨by rfl, fun w hSw => ?_⟩) hHeld ?_
        rotate_left
        · (try dsimp only at hSw); go_split_ands; go_simp <;> with_reducible rfl
        (try simp only [Act.put, List.getElem_toArray, List.getElem_cons_succ, List.getElem_cons_zero, List.setIfInBounds_toArray, List.set_cons_zero, List.set_cons_succ])
        refine wpAnyH_ready (rs := [16, 17]) (by kernel_rfl) (by simp) (AllReadyH.cons rfl (fun K hK => ?_) (AllReadyH.cons rfl (fun K hK => ?_) AllReadyH.nil))
        · go_simp
          go_at_call 58
          (with_reducible refine (config_any y0 y1 y2 y3 _).mono ?_); rintro e w5 ⟨n', N, cp, cp', rfl, hc5, -, hb5a⟩
          unfold confV
          have hb5 : Below wr.heap.size wr w5 := ((Below.refl wr.heap.size wr).drew).trans (hb5a.mono (Nat.le_refl _))
          refine hK.out _ _ ⟨cellKeep hb5 c0, cellKeep hb5 c1, cellKeep hb5 c2, cellKeep hb5 c3, hb5⟩ (fun hHeld => ?_)
          clear hK K
          (try simp only [Act.put, List.getElem_toArray, List.getElem_cons_succ, List.getElem_cons_zero, List.setIfInBounds_toArray, List.set_cons_zero, List.set_cons_succ])
          refine wpAnyH_ready (rs := [17]) (by kernel_rfl) (by simp) (AllReadyH.cons rfl (fun K hK => ?_) AllReadyH.nil)
          go_simp
          have hb6 := hb5.alloc hb5.size (.cells #[.int .i64 0, .int .i64 0, .int .i64 0, .int .i64 0, .int .i64 0, .int .i64 0, .int .i64 0, .int .i64 0, .slice none 0 0] 79 (0, 0))
          refine hK.out _ _ ⟨cellKeep hb6 c0, cellKeep hb6 c1, cellKeep hb6 c2, cellKeep hb6 c3, hb6⟩ (fun hHeld => ?_)
          clear hK K
          (try simp only [Act.put, List.getElem_toArray, List.getElem_cons_succ, List.getElem_cons_zero, List.setIfInBounds_toArray, List.set_cons_zero, List.set_cons_succ])
          refine wpAnyH_ready (rs := [18]) (by kernel_rfl) (by simp) (AllReadyH.cons rfl (fun K hK => ?_) AllReadyH.nil)
          go_simp
          have hb7 := hb5.alloc hb5.size (confO n' N cp cp' (.slice none 0 0))
          refine hK.out _ _ ⟨cellKeep hb7 c0, cellKeep hb7 c1, cellKeep hb7 c2, cellKeep hb7 c3, hb7⟩ (fun hHeld => ?_)
          clear hK K
          (try simp only [Act.put, List.getElem_toArray, List.getElem_cons_succ, List.getElem_cons_zero, List.setIfInBounds_toArray, List.set_cons_zero, List.set_cons_succ])
          refine wpAnyH_done (by kernel_rfl) ?_ _
          go_wp2_with fail
          go_meet
          exact ⟨_, n', N, cp, cp', rfl, hc5, hb5.size, heap_alloc_new w5 _, hb7⟩
        · go_simp
          have hb4 := ((Below.refl wr.heap.size wr).alloc (Nat.le_refl _) (.cells #[.int .i64 0, .int .i64 0, .int .i64 0, .int .i64 0, .int .i64 0, .int .i64 0, .int .i64 0, .int .i64 0, .slice none 0 0] 79 (0, 0))).drew
          refine hK.out _ _ ⟨cellKeep hb4 c0, cellKeep hb4 c1, cellKeep hb4 c2, cellKeep hb4 c3, hb4⟩ (fun hHeld => ?_)
          clear hK K
          (try simp only [Act.put, List.getElem_toArray, List.getElem_cons_succ, List.getElem_cons_zero, List.setIfInBounds_toArray, List.set_cons_zero, List.set_cons_succ])
          refine wpAnyH_ready (rs := [16]) (by kernel_rfl) (by simp) (AllReadyH.cons rfl (fun K hK => ?_) AllReadyH.nil)
          go_simp
          go_at_call 58
          (with_reducible refine (config_any y0 y1 y2 y3 _).mono ?_); rintro e w5 ⟨n', N, cp, cp', rfl, hc5, -, hb5a⟩
          unfold confV
          have hb5 : Below wr.heap.size wr w5 := hb4.trans (hb5a.mono hb4.size)
          obtain ⟨ho5, ht5⟩ := there_after (n := 9) (zs := #[.int .i64 0, .int .i64 0, .int .i64 0, .int .i64 0, .int .i64 0, .int .i64 0, .int .i64 0, .int .i64 0, .slice none 0 0]) rfl hb5a (heap_alloc_new wr _)
          refine hK.out _ _ ⟨cellKeep hb5 c0, cellKeep hb5 c1, cellKeep hb5 c2, cellKeep hb5 c3, hb5⟩ (fun hHeld => ?_)
          clear hK K
          (try simp only [Act.put, List.getElem_toArray, List.getElem_cons_succ, List.getElem_cons_zero, List.setIfInBounds_toArray, List.set_cons_zero, List.set_cons_succ])
          refine wpAnyH_ready (rs := [18]) (by kernel_rfl) (by simp) (AllReadyH.cons rfl (fun K hK => ?_) AllReadyH.nil)
          refine wp_store_mid 79 (.tmp 9) (.tmp 37) rfl wr.heap.size 0 _ rfl rfl ht5 (by kernel_rfl) (by simp [Value.oneCell']) ?_
          have hO7 := set9 ho5 (.int .i64 (n' : Nat)) (.int .i64 (N : Nat)) (.int .i64 (cp : Nat)) (.int .i64 1) (.int .i64 16) (.int .i64 (cp' : Nat)) (.int .i64 64) (.int .i64 100) (.slice none 0 0)
          have hb7 : Below wr.heap.size wr _ := hb5.trans (hO7.below (Nat.le_refl _))
          refine hK.out _ _ ⟨cellKeep hb7 c0, cellKeep hb7 c1, cellKeep hb7 c2, cellKeep hb7 c3, hb7⟩ (fun hHeld => ?_)
          clear hK K
          (try simp only [Act.put, List.getElem_toArray, List.getElem_cons_succ, List.getElem_cons_zero])
          refine wpAnyH_done (by kernel_rfl) ?_ _
          go_wp2_with fail
          go_meet
          exact ⟨_, n', N, cp, cp', rfl, hc5, Nat.le_refl _, hO7.at_ (lt_of_obj ho5), hb7⟩
      case rest =>
      obtain ⟨bc, n', N, cp, cp', rfl, hc5, hbc, hob, hbW⟩ := hcut
      have hE1 := HE.out.below hbW
      have d4 := cellKeep hbW c4
      have d5 := cellKeep hbW c5
      have hbn := hc5.hn
      have hbN := hc5.hN
      have o0 := cell_of_obj hob 0
      have o1 := cell_of_obj hob 1
      simp only [List.getElem?_toArray, List.getElem?_cons_zero, List.getElem?_cons_succ] at o0 o1
      have r0 := HE.out.free bc hbc
      have hbd := fun q => below_drewN (Below.refl wc.heap.size wc) q
      have HBD := Lib.hid hbd
      have HE1 := Lib.hid hE1
      have HOB := Lib.hid hob
      have HBW := Lib.hid hbW
      have HC5 := Lib.hid hc5
      clear hE1 c0 c1 c2 c3 c4 c5 hob hbW hc5 HE hbd
      go_wp2_with fail
      go_quiet ((go_at_call 33; exact Calls.quiet_of_same (unflipI (into13 _ _ _ (by omega) (by omega)))))
      go_wp2_with fail
      generalize hwd : wc.drewN _ = wd
      have hb1 : Below wc.heap.size wc wd := hwd ▸ HBD.out _
      have d5 := cellKeep hb1 d5
      have o1 := cellKeep hb1 o1
      have hbd := fun q => below_drewN (Below.refl wd.heap.size wd) q
      have HBD := Lib.hid hbd
      clear hbd hwd d4 o0
      go_quiet ((go_at_call 33; exact Calls.quiet_of_same (unflipI (into13 _ _ _ (by omega) (by omega)))))
      generalize hwe : wd.drewN _ = we
      have hb2 : Below wc.heap.size wc we := hb1.trans ((show Below wd.heap.size wd we from hwe ▸ HBD.out _).mono hb1.size)
      have hE2 := HE1.out.below hb2
      have ob2 : we.heap[bc]? = some (confO n' N cp cp' (.slice none 0 0)) := (hb2.block _ (lt_of_obj HOB.out)).trans HOB.out
      have hba : Below we.heap.size we (we.alloc (.cells #[.string ⟨#[97]⟩, .int .u64 5, .string ⟨#[109, 97, 114, 107]⟩, .int .u64 0] 154)) := (Below.refl _ _).alloc (Nat.le_refl _) _
      have ob3 : (we.alloc (.cells #[.string ⟨#[97]⟩, .int .u64 5, .string ⟨#[109, 97, 114, 107]⟩, .int .u64 0] 154)).heap[bc]? = some (confO n' N cp cp' (.slice none 0 0)) := (hba.block _ (lt_of_obj ob2)).trans ob2
      have o8 : (we.alloc (.cells #[.string ⟨#[97]⟩, .int .u64 5, .string ⟨#[109, 97, 114, 107]⟩, .int .u64 0] 154)).cell? ⟨bc, 8, none⟩ = some (.slice none 0 0) := cell_of_obj ob3 8
      have f8 := free_of_obj ob3 8
      have hE3 := hE2.below hba
      have oa3 : (we.alloc (.cells #[.string ⟨#[97]⟩, .int .u64 5, .string ⟨#[109, 97, 114, 107]⟩, .int .u64 0] 154)).heap[we.heap.size]? = some acctO := heap_alloc_new we _
      have ra : ρ we.heap.size = 0 := hE2.free _ (Nat.le_refl _)
      have hO4 := OnlyB.set (OnlyB.refl ob3) (lt_of_obj ob3) 8 (.slice (some ⟨we.heap.size, 0, none⟩) 1 2)
      have K4 : Keeps (fun r => r = 0) _ ρ _ ρ := Keeps.only ρ hO4 r0
      have hlo := hE2.lo
      have hlc := hE2.bel.size
      have hwlo : w.heap.size + 3 ≤ wr.heap.size := HWLO.out
      have hE4 := hE3.go K4 (fun j r hj h1 h2 h3 => by omega) (hE3.free.le (Nat.le_of_eq hO4.size.symm)) (hO4.below (by omega))
      have ob4 : ((we.alloc (.cells #[.string ⟨#[97]⟩, .int .u64 5, .string ⟨#[109, 97, 114, 107]⟩, .int .u64 0] 154)).setCell ⟨bc, 8, none⟩ (.slice (some ⟨we.heap.size, 0, none⟩) 1 2)).heap[bc]? = some (confO n' N cp cp' (.slice (some ⟨we.heap.size, 0, none⟩) 1 2)) := hO4.at_ (lt_of_obj ob3)
      have oa4 := (hO4.far (show we.heap.size ≠ bc by have := lt_of_obj ob2; omega)).trans oa3
      have HE4 := Lib.hid hE4
      have HOB4 := Lib.hid ob4
      have HOA4 := Lib.hid oa4
      clear hE2 hE3 hE4 ob2 ob3 oa3 ob4 oa4 hba hO4 K4 hwe o1 d5 hb1 hb2
      go_wp2_with fail
      obtain ⟨ac, hac⟩ : ∃ ac, we.heap.size = ac := ⟨_, rfl⟩
      rw [hac] at HE4 HOB4 HOA4 ra hlo ⊢
      generalize (we.alloc (.cells #[.string ⟨#[97]⟩, .int .u64 5, .string ⟨#[109, 97, 114, 107]⟩, .int .u64 0] 154)).setCell ⟨bc, 8, none⟩ (.slice (some ⟨ac, 0, none⟩) 1 2) = w6 at HE4 HOB4 HOA4 ⊢
      clear o8 f8 hac hlc
      obtain ⟨nd, hnd⟩ : ∃ nd, y4 % (n' : Int) = nd := ⟨_, rfl⟩
      obtain ⟨sh, hsh⟩ : ∃ sh, y5 % (N : Int) = sh := ⟨_, rfl⟩
      rw [hnd, hsh]
      clear hnd hsh
      have j0 := cell_of_obj HOB4.out 0
      have j1 := cell_of_obj HOB4.out 1
      have j2 := cell_of_obj HOB4.out 2
      have j3 := cell_of_obj HOB4.out 3
      have j4 := cell_of_obj HOB4.out 4
      have j5 := cell_of_obj HOB4.out 5
      have j6 := cell_of_obj HOB4.out 6
      have j7 := cell_of_obj HOB4.out 7
      have j8 := cell_of_obj HOB4.out 8
      simp only [List.getElem?_toArray, List.getElem?_cons_zero, List.getElem?_cons_succ] at j0 j1 j2 j3 j4 j5 j6 j7 j8
      have HNEW := Lib.hid (settle_new w6.drew (w.heap.size + 3) (64 * i) ρ nd sh 1 16 64 100 n' N cp cp' (some ⟨ac, 0, none⟩) 1 2 hbN HC5.out.hcap hbn HC5.out.hcp HE4.out.free HE4.out.lo)
      go_cut [] from 57 to 98 (fun wx => ∃ (ρ' : Nat → Nat) (P' : Nat → Nat) (arr' : Array Value) (p S : Nat), Eight w wx (.cells (scriptV x0 x1 x2 x3 x4 x5 x6 x7 x8 x9 x10 x11 A n cap) 115 (0, 0)) (i + 1) 0 ρ' P' arr' ∧ arr'[i]? = some (.pointer (some ⟨p, 0, none⟩)) ∧ wx.cell? ⟨p, 0, none⟩ = some (.pointer (some ⟨S, 0, none⟩)) ∧ wx.heap[bc]? = some (confO n' N cp cp' (.slice (some ⟨ac, 0, none⟩) 1 2)) ∧ wx.heap[ac]? = some acctO ∧ ρ' ac = 0)
      case first =>
        refine wp_region_held_drew (S := fun w' => w'.cell? ⟨bc, 0, none⟩ = some (.int .i64 (n' : Nat)) ∧ w'.cell? ⟨bc, 1, none⟩ = some (.int .i64 (N : Nat)) ∧ w'.cell? ⟨bc, 2, none⟩ = some (.int .i64 (cp : Nat)) ∧ w'.cell? ⟨bc, 3, none⟩ = some (.int .i64 1) ∧ w'.cell? ⟨bc, 4, none⟩ = some (.int .i64 16) ∧ w'.cell? ⟨bc, 5, none⟩ = some (.int .i64 (cp' : Nat)) ∧ w'.cell? ⟨bc, 6, none⟩ = some (.int .i64 64) ∧ w'.cell? ⟨bc, 7, none⟩ = some (.int .i64 100) ∧ w'.cell? ⟨bc, 8, none⟩ = some (.slice (some ⟨ac, 0, none⟩) 1 2)) (by kernel_rfl) ⟨j0, j1, j2, j3, j4, j5, j6, j7, j8⟩ (fun hHeld => ?_)
        refine wpAnyH_take (i := 0) (v := ?_) rfl (by kernel_rfl) (by kernel_rfl) (by kernel_rfl) (fun _ _ _ h => h) (Or.inl ⟨by rfl, fun w hSw => ?_⟩) hHeld ?_
        rotate_left
        · (try dsimp only at hSw); go_split_ands; go_simp <;> with_reducible rfl
        (try simp only [Act.put, List.getElem_toArray, List.getElem_cons_zero, List.setIfInBounds_toArray, List.set_cons_zero, List.set_cons_succ])
        refine wpAnyH_take (i := 1) (v := ?_) rfl (by kernel_rfl) (by kernel_rfl) (by kernel_rfl) (fun _ _ _ h => h) (Or.inl ⟨by rfl, fun w hSw => ?_⟩) hHeld ?_
        rotate_left
        · (try dsimp only at hSw); go_split_ands; go_simp <;> with_reducible rfl
        (try simp only [Act.put, List.getElem_toArray, List.getElem_cons_succ, List.getElem_cons_zero, List.setIfInBounds_toArray, List.set_cons_zero, List.set_cons_succ])
        refine wpAnyH_take (i := 2) (v := ?_) rfl (by kernel_rfl) (by kernel_rfl) (by kernel_rfl) (fun _ _ _ h => h) (Or.inl ⟨by rfl, fun w hSw => ?_⟩) hHeld ?_
        rotate_left
        · (try dsimp only at hSw); go_split_ands; go_simp <;> with_reducible rfl
        (try simp only [Act.put, List.getElem_toArray, List.getElem_cons_succ, List.getElem_cons_zero, List.setIfInBounds_toArray, List.set_cons_zero, List.set_cons_succ])
        refine wpAnyH_take (i := 3) (v := ?_) rfl (by kernel_rfl) (by kernel_rfl) (by kernel_rfl) (fun _ _ _ h => h) (Or.inl ⟨by rfl, fun w hSw => ?_⟩) hHeld ?_
        rotate_left
        · (try dsimp only at hSw); go_split_ands; go_simp <;> with_reducible rfl
        (try simp only [Act.put, List.getElem_toArray, List.getElem_cons_succ, List.getElem_cons_zero, List.setIfInBounds_toArray, List.set_cons_zero, List.set_cons_succ])
        refine wpAnyH_take (i := 5) (v := ?_) rfl (by kernel_rfl) (by kernel_rfl) (by kernel_rfl) (fun _ _ _ h => h) (Or.inl ⟨by rfl, fun w hSw => ?_⟩) hHeld ?_
        rotate_left
        · (try dsimp only at hSw); go_split_ands; go_simp <;> with_reducible rfl
        (try simp only [Act.put, List.getElem_toArray, List.getElem_cons_succ, List.getElem_cons_zero, List.setIfInBounds_toArray, List.set_cons_zero, List.set_cons_succ])
        refine wpAnyH_take (i := 6) (v := ?_) rfl (by kernel_rfl) (by kernel_rfl) (by kernel_rfl) (fun _ _ _ h => h) (Or.inl ⟨by rfl, fun w hSw => ?_⟩) hHeld ?_
        rotate_left
        · (try dsimp only at hSw); go_split_ands; go_simp <;> with_reducible rfl
        (try simp only [Act.put, List.getElem_toArray, List.getElem_cons_succ, List.getElem_cons_zero, List.setIfInBounds_toArray, List.set_cons_zero, List.set_cons_succ])
        refine wpAnyH_take (i := 7) (v := ?_) rfl (by kernel_rfl) (by kernel_rfl) (by kernel_rfl) (fun _ _ _ h => h) (Or.inl ⟨by rfl, fun w hSw => ?_⟩) hHeld ?_
        rotate_left
        · (try dsimp only at hSw); go_split_ands; go_simp <;> with_reducible rfl
        (try simp only [Act.put, List.getElem_toArray, List.getElem_cons_succ, List.getElem_cons_zero, List.setIfInBounds_toArray, List.set_cons_zero, List.set_cons_succ])
        refine wpAnyH_take (i := 9) (v := ?_) rfl (by kernel_rfl) (by kernel_rfl) (by kernel_rfl) (fun _ _ _ h => h) (Or.inl ⟨by rfl, fun w hSw => ?_⟩) hHeld ?_
        rotate_left
        · (try dsimp only at hSw); go_split_ands; go_simp <;> with_reducible rfl
        (try simp only [Act.put, List.getElem_toArray, List.getElem_cons_succ, List.getElem_cons_zero, List.setIfInBounds_toArray, List.set_cons_zero, List.set_cons_succ])
        refine wpAnyH_take (i := 10) (v := ?_) rfl (by kernel_rfl) (by kernel_rfl) (by kernel_rfl) (fun _ _ _ h => h) (Or.inl ⟨by rfl, fun w hSw => ?_⟩) hHeld ?_
        rotate_left
        · (try dsimp only at hSw); go_split_ands; go_simp <;> with_reducible rfl
        (try simp only [Act.put, List.getElem_toArray, List.getElem_cons_succ, List.getElem_cons_zero, List.setIfInBounds_toArray, List.set_cons_zero, List.set_cons_succ])
        refine wpAnyH_ready (rs := [4]) (by kernel_rfl) (by simp) (AllReadyH.cons rfl (fun K hK => ?_) AllReadyH.nil)
        go_simp
        go_at_call 27
        (with_reducible refine HNEW.out.mono ?_); rintro e w7 ⟨S, W, c1, ρ7, ws, rfl, hs7, hF7, k7, f7, b7⟩
        have k7' : Keeps (fun r => 64 * i + 1 ≤ r ∧ r < 64 * i + 28) w6 ρ w7 ρ7 := k7
        have ob7 := ((k7'.2 bc (lt_of_obj HOB4.out)).2 (by rw [r0]; omega)).trans HOB4.out
        have hbw7 := Nat.le_trans HE4.out.lo k7'.1
        refine hK.out _ _ ⟨cell_of_obj ob7 0, cell_of_obj ob7 1, cell_of_obj ob7 2, cell_of_obj ob7 3, cell_of_obj ob7 4, cell_of_obj ob7 5, cell_of_obj ob7 6, cell_of_obj ob7 7, cell_of_obj ob7 8⟩ (fun hHeld => ?_)
        clear hK K
        (try simp only [Act.put, List.getElem_toArray, List.getElem_cons_succ, List.getElem_cons_zero, List.setIfInBounds_toArray, List.set_cons_zero, List.set_cons_succ])
        refine wpAnyH_ready (rs := [8]) (by kernel_rfl) (by simp) (AllReadyH.cons rfl (fun K hK => ?_) AllReadyH.nil)
        go_simp
        go_at_call 71
        (with_reducible refine (ref_new w7 (w.heap.size + 3) (64 * i) ρ7 ⟨n', N, cp, cp', .slice (some ⟨ac, 0, none⟩) 1 2⟩ (some ⟨ac, 0, none⟩) 1 2 rfl nd sh hbN f7 hbw7).mono ?_); rintro e w8 ⟨R, V, c2, ρ8, rfl, hr8, k8, f8, b8⟩
        have r07 := ((k7'.2 bc (lt_of_obj HOB4.out)).1).trans r0
        have ob8 := ((k8.2 bc (lt_of_obj ob7)).2 (by rw [r07]; omega)).trans ob7
        refine hK.out _ _ ⟨cell_of_obj ob8 0, cell_of_obj ob8 1, cell_of_obj ob8 2, cell_of_obj ob8 3, cell_of_obj ob8 4, cell_of_obj ob8 5, cell_of_obj ob8 6, cell_of_obj ob8 7, cell_of_obj ob8 8⟩ (fun hHeld => ?_)
        clear hK K
        (try simp only [Act.put, List.getElem_toArray, List.getElem_cons_succ, List.getElem_cons_zero, List.setIfInBounds_toArray, List.set_cons_zero, List.set_cons_succ])
        refine wpAnyH_take (i := 11) (v := ?_) rfl (by kernel_rfl) (by kernel_rfl) (by kernel_rfl) (fun _ _ _ h => h) (Or.inl ⟨by rfl, fun w hSw => ?_⟩) hHeld ?_
        rotate_left
        · (try dsimp only at hSw); go_split_ands; go_simp <;> with_reducible rfl
        (try simp only [Act.put, List.getElem_toArray, List.getElem_cons_succ, List.getElem_cons_zero, List.setIfInBounds_toArray, List.set_cons_zero, List.set_cons_succ])
        refine wpAnyH_ready (rs := [12]) (by kernel_rfl) (by simp) (AllReadyH.cons rfl (fun K hK => ?_) AllReadyH.nil)
        go_simp
        have hlo8 : w.heap.size + 3 ≤ w8.heap.size := Nat.le_trans HE4.out.lo (Nat.le_trans k7'.1 k8.1)
        obtain ⟨ρ9, hE9, hrest9⟩ := HE4.out.add hi8 hs7 hF7 k7' (((Below.refl w6.heap.size w6).drew.mono HE4.out.lo).trans b7) hr8 k8 f8 b8 HC5.out
        have HE9 := Lib.hid hE9
        have HR9 := Lib.hid hrest9
        have hal : Below w8.heap.size w8 (w8.alloc (.cells #[.pointer (some ⟨S, 0, none⟩), .pointer (some ⟨R, 0, none⟩), .pointer (some ⟨w.heap.size + 1, 0, none⟩), .bool false, .slice none 0 0, .int .i64 0] 158)) := (Below.refl _ _).alloc (Nat.le_refl _) _
        have ob9 := (hal.block bc (lt_of_obj ob8)).trans ob8
        have hK2 := k8.1
        have oarr8 : (w8.alloc (.cells #[.pointer (some ⟨S, 0, none⟩), .pointer (some ⟨R, 0, none⟩), .pointer (some ⟨w.heap.size + 1, 0, none⟩), .bool false, .slice none 0 0, .int .i64 0] 158)).heap[w.heap.size + 1 + 1]? = some (.cells arr 152 (0, 0)) := (hal.block _ (by omega)).trans ((b8.block _ (by omega)).trans ((b7.block _ (by omega)).trans HE4.out.ao))
        have f14 := free_of_obj oarr8 i
        have hsz8 := HE4.out.sz
        obtain ⟨v14, g14⟩ : ∃ v, (w8.alloc (.cells #[.pointer (some ⟨S, 0, none⟩), .pointer (some ⟨R, 0, none⟩), .pointer (some ⟨w.heap.size + 1, 0, none⟩), .bool false, .slice none 0 0, .int .i64 0] 158)).cell? ⟨w.heap.size + 1 + 1, i, none⟩ = some v := ⟨arr[i]'(by omega), by rw [cell_of_obj oarr8 i]; exact Array.getElem?_eq_getElem _⟩
        refine hK.out _ _ ⟨cell_of_obj ob9 0, cell_of_obj ob9 1, cell_of_obj ob9 2, cell_of_obj ob9 3, cell_of_obj ob9 4, cell_of_obj ob9 5, cell_of_obj ob9 6, cell_of_obj ob9 7, cell_of_obj ob9 8⟩ (fun hHeld => ?_)
        clear hK K hE9 hrest9
        (try simp only [Act.put, List.getElem_toArray, List.getElem_cons_succ, List.getElem_cons_zero, List.setIfInBounds_toArray, List.set_cons_zero, List.set_cons_succ])
        refine wpAnyH_take (i := 13) (v := ?_) rfl (by kernel_rfl) (by kernel_rfl) (by kernel_rfl) (fun _ _ _ h => h) (Or.inl ⟨by rfl, fun w hSw => ?_⟩) hHeld ?_
        rotate_left
        · (try dsimp only at hSw); go_split_ands; go_simp <;> with_reducible rfl
        (try simp only [Act.put, List.getElem_toArray, List.getElem_cons_succ, List.getElem_cons_zero, List.setIfInBounds_toArray, List.set_cons_zero, List.set_cons_succ])
        refine wpAnyH_ready (rs := [14]) (by kernel_rfl) (by simp) (AllReadyH.cons rfl (fun K hK => ?_) AllReadyH.nil)
        go_simp
        have ob10 := (HR9.out bc (lt_of_obj HOB4.out) r0 (by omega)).1.trans HOB4.out
        refine hK.out _ _ ⟨cell_of_obj ob10 0, cell_of_obj ob10 1, cell_of_obj ob10 2, cell_of_obj ob10 3, cell_of_obj ob10 4, cell_of_obj ob10 5, cell_of_obj ob10 6, cell_of_obj ob10 7, cell_of_obj ob10 8⟩ (fun hHeld => ?_)
        clear hK K
        (try simp only [Act.put, List.getElem_toArray, List.getElem_cons_succ, List.getElem_cons_zero, List.setIfInBounds_toArray, List.set_cons_zero, List.set_cons_succ])
        refine wpAnyH_done (by kernel_rfl) ?_ _
        go_wp2_with fail
        go_meet
        refine ⟨_, _, _, w8.heap.size, S, HE9.out, ?_, ?_, ob10, (HR9.out ac (lt_of_obj HOA4.out) ra (by omega)).1.trans HOA4.out, (HR9.out ac (lt_of_obj HOA4.out) ra (by omega)).2⟩
        · have := HE9.out.ptr i (by omega)
          rw [if_pos rfl] at this
          exact this
        · exact (far_cell (j := 0) rfl (show w8.heap.size ≠ w.heap.size + 1 + 1 by omega)).trans (cell_of_obj (heap_alloc_new w8 _) 0)
      case rest =>
      clear j0 j1 j2 j3 j4 j5 j6 j7 j8 HNEW
      obtain ⟨ρ1, P1, arr1, p1, S1, hE1, ha1, hp1, hc1, ho1, hr1⟩ := hcut
      have g6 := (cell_of_obj hE1.ao i).trans ha1
      have k8 := cell_of_obj hc1 8
      have m0 := cell_of_obj ho1 0
      have m1 := cell_of_obj ho1 1
      have m2 := cell_of_obj ho1 2
      have n0 := free_of_obj ho1 0
      have n1 := free_of_obj ho1 1
      simp only [List.getElem?_toArray, List.getElem?_cons_zero, List.getElem?_cons_succ] at k8 m0 m1 m2
      have hO2 := (OnlyB.set (OnlyB.refl ho1) (lt_of_obj ho1) 0 (.string ⟨#[111, 118, 101, 114]⟩)).set (lt_of_obj ho1) 1 (.int .u64 0)
      have K2 : Keeps (fun r => r = 0) wc ρ1 _ ρ1 := Keeps.only ρ1 hO2 hr1
      have hE2 := hE1.go K2 (fun j r hj h1 h2 h3 => by omega) (hE1.free.le (Nat.le_of_eq hO2.size.symm)) (hO2.below hlo)
      have HE2 := Lib.hid hE2
      have q5 : (0 : Int) ≤ (i : Int) := by omega
      clear hE1 ha1 hc1 ho1 hO2 K2 hE2
      go_wp2_with fail
      exact ⟨⟨i + 1, ρ1, P1, arr1, by go_num, by omega, HE2.out⟩, by simp [intOf]; omega⟩
    · have e8 : (i : Int) = 8 := by omega
      rw [e8]
      obtain rfl : i = 8 := by omega
      have HE := Lib.hid hE
      clear hE e8
      go_wp2_with fail
      go_loopw [12] (fun iv wr => StepRel8 w (.cells (scriptV x0 x1 x2 x3 x4 x5 x6 x7 x8 x9 x10 x11 A n cap) 115 (0, 0)) n iv wr) (fun iv _ => (n - intOf iv).toNat)
      case atStart => exact ⟨0, ρ, P, arr, rfl, by omega, by omega, HE.out⟩
      case round =>
        clear HE hi hi8
        obtain ⟨i, ρ, P, arr, rfl, hi, hi6, hE⟩ := hrel
        have hs12 := cell_of_obj hE.box 12
        simp only [scriptV, List.getElem?_toArray, List.getElem?_cons_zero, List.getElem?_cons_succ] at hs12
        have hlo := hE.lo
        by_cases hin : i < n ∧ i < 600
        · obtain ⟨b, off, kd, wh, pe, nu, Aq, nq, cq, Q, rfl, hbb, c0, c1, c2, c3, c4, hQn, hQl, hQ, hQA⟩ := hA i hin.1
          have e0 := cellKeep hE.bel c0
          have e1 := cellKeep hE.bel c1
          have e2 := cellKeep hE.bel c2
          have e3 := cellKeep hE.bel c3
          have e4 := cellKeep hE.bel c4
          obtain ⟨j, hj⟩ : ∃ j : Nat, wh % 8 = (j : Int) := ⟨(wh % 8).toNat, by omega⟩
          have hj8 : j < 8 := by omega
          have hjp := hE.ptr j hj8
          have ea := (cell_of_obj hE.ao j).trans hjp
          have q1 : (i : Int) < (n : Int) := by omega
          have q2 : (i : Int) < 600 := by omega
          have q3 : (0 : Int) ≤ (j : Int) := by omega
          have q4 : (j : Int) < 8 := by omega
          have q5 : (0 : Int) ≤ (i : Int) := by omega
          have hlow := hE.lo
          have hPL := plays_any wr.drew (w.heap.size + 3) (64 * j) (P j) (w.heap.size + 1) ρ i ((hE.below (Below.refl wr.heap.size wr).drew).play j hj8) hE.free (by omega) kd wh pe nu Aq nq cq Q hQn hQl (fun W' hW => hQ.below (hE.bel.trans (((Below.refl w.heap.size wr).drew).trans (hW.mono (by omega))))) (fun a h0 ha => by have := hQA a h0 ha; omega)
          unfold opV at hPL
          have HPL := Lib.hid hPL
          have HE := Lib.hid (hE.below (Below.refl wr.heap.size wr).drew)
          have hin1 := hin.1
          have hin2 := hin.2
          have HB0 := Lib.hid ((Below.refl w.heap.size wr).drew)
          clear hE hPL hA c0 c1 c2 c3 c4 hQ hQA hin hQn hQl hjp
          go_wp2_with fail
          refine wp_region_held_drew (S := fun w' => w'.cell? ⟨w.heap.size, 12, none⟩ = some (.slice (some ⟨b, off, none⟩) n cap) ∧ w'.cell? ⟨b, off + i * 5, none⟩ = some (.int .i64 kd) ∧ w'.cell? ⟨b, off + i * 5 + 1, none⟩ = some (.int .i64 wh) ∧ w'.cell? ⟨b, off + i * 5 + 2, none⟩ = some (.slice Aq nq cq) ∧ w'.cell? ⟨b, off + i * 5 + 3, none⟩ = some (.int .i64 pe) ∧ w'.cell? ⟨b, off + i * 5 + 4, none⟩ = some (.int .u64 nu) ∧ w'.cell? ⟨w.heap.size + 1 + 1, j, none⟩ = some (.pointer (some ⟨P j, 0, none⟩))) (by kernel_rfl) ⟨hs12, e0, e1, e2, e3, e4, ea⟩ (fun hHeld => ?_)
          refine wpAnyH_take (i := 0) (v := ?_) rfl (by kernel_rfl) (by kernel_rfl) (by kernel_rfl) (fun _ _ _ h => h) (Or.inl ⟨by rfl, fun w hSw => ?_⟩) hHeld ?_
          rotate_left
          · (try dsimp only at hSw); go_split_ands; go_simp <;> with_reducible rfl
          (try simp only [Act.put, List.getElem_toArray, List.getElem_cons_zero, List.setIfInBounds_toArray, List.set_cons_zero, List.set_cons_succ])
          refine wpAnyH_take (i := 1) (v := ?_) rfl (by kernel_rfl) (by kernel_rfl) (by kernel_rfl) (fun _ _ _ h => h) (Or.inl ⟨by rfl, fun w hSw => ?_⟩) hHeld ?_
          rotate_left
          · (try dsimp only at hSw); go_split_ands; go_simp <;> with_reducible rfl
          (try simp only [Act.put, List.getElem_toArray, List.getElem_cons_succ, List.getElem_cons_zero, List.setIfInBounds_toArray, List.set_cons_zero, List.set_cons_succ])
          refine wpAnyH_take (i := 2) (v := ?_) rfl (by kernel_rfl) (by kernel_rfl) (by kernel_rfl) (fun _ _ _ h => h) (Or.inl ⟨by rfl, fun w hSw => ?_⟩) hHeld ?_
          rotate_left
          · (try dsimp only at hSw); go_split_ands; go_simp <;> with_reducible rfl
          (try simp only [Act.put, List.getElem_toArray, List.getElem_cons_succ, List.getElem_cons_zero, List.setIfInBounds_toArray, List.set_cons_zero, List.set_cons_succ])
          refine wpAnyH_take (i := 3) (v := ?_) rfl (by kernel_rfl) (by kernel_rfl) (by kernel_rfl) (fun _ _ _ h => h) (Or.inl ⟨by rfl, fun w hSw => ?_⟩) hHeld ?_
          rotate_left
          · (try dsimp only at hSw); go_split_ands; go_simp <;> with_reducible rfl
          (try simp only [Act.put, List.getElem_toArray, List.getElem_cons_succ, List.getElem_cons_zero, List.setIfInBounds_toArray, List.set_cons_zero, List.set_cons_succ])
          refine wpAnyH_take (i := 4) (v := ?_) rfl (by kernel_rfl) (by kernel_rfl) (by kernel_rfl) (fun _ _ _ h => h) (Or.inl ⟨by rfl, fun w hSw => ?_⟩) hHeld ?_
          rotate_left
          · (try dsimp only at hSw); go_split_ands; go_simp <;> with_reducible rfl
          (try simp only [Act.put, List.getElem_toArray, List.getElem_cons_succ, List.getElem_cons_zero, List.setIfInBounds_toArray, List.set_cons_zero, List.set_cons_succ])
          refine wpAnyH_take (i := 5) (v := ?_) rfl (by kernel_rfl) (by kernel_rfl) (by kernel_rfl) (fun _ _ _ h => h) (Or.inl ⟨by rfl, fun w hSw => ?_⟩) hHeld ?_
          rotate_left
          · (try dsimp only at hSw); go_split_ands; go_simp <;> with_reducible rfl
          (try simp only [Act.put, List.getElem_toArray, List.getElem_cons_succ, List.getElem_cons_zero, List.setIfInBounds_toArray, List.set_cons_zero, List.set_cons_succ])
          refine wpAnyH_take (i := 9) (v := ?_) rfl (by kernel_rfl) (by kernel_rfl) (by kernel_rfl) (fun _ _ _ h => h) (Or.inl ⟨by rfl, fun w hSw => ?_⟩) hHeld ?_
          rotate_left
          · (try dsimp only at hSw); go_split_ands; go_simp <;> with_reducible rfl
          (try simp only [Act.put, List.getElem_toArray, List.getElem_cons_succ, List.getElem_cons_zero, List.setIfInBounds_toArray, List.set_cons_zero, List.set_cons_succ])
          refine wpAnyH_take (i := 10) (v := ?_) rfl (by kernel_rfl) (by kernel_rfl) (by kernel_rfl) (fun _ _ _ h => h) (Or.inl ⟨by rfl, fun w hSw => ?_⟩) hHeld ?_
          rotate_left
          · (try dsimp only at hSw); go_split_ands; go_simp <;> with_reducible rfl
          (try simp only [Act.put, List.getElem_toArray, List.getElem_cons_succ, List.getElem_cons_zero, List.setIfInBounds_toArray, List.set_cons_zero, List.set_cons_succ])
          refine wpAnyH_take (i := 11) (v := ?_) rfl (by kernel_rfl) (by kernel_rfl) (by kernel_rfl) (fun _ _ _ h => h) (Or.inl ⟨by rfl, fun w hSw => ?_⟩) hHeld ?_
          rotate_left
          · (try dsimp only at hSw); go_split_ands; go_simp <;> with_reducible rfl
          (try simp only [Act.put, List.getElem_toArray, List.getElem_cons_succ, List.getElem_cons_zero, List.setIfInBounds_toArray, List.set_cons_zero, List.set_cons_succ])
          refine wpAnyH_take (i := 12) (v := ?_) rfl (by kernel_rfl) (by kernel_rfl) (by kernel_rfl) (fun _ _ _ h => h) (Or.inl ⟨by rfl, fun w hSw => ?_⟩) hHeld ?_
          rotate_left
          · (try dsimp only at hSw); go_split_ands; go_simp <;> with_reducible rfl
          (try simp only [Act.put, List.getElem_toArray, List.getElem_cons_succ, List.getElem_cons_zero, List.setIfInBounds_toArray, List.set_cons_zero, List.set_cons_succ])
          refine wpAnyH_take (i := 13) (v := ?_) rfl (by kernel_rfl) (by kernel_rfl) (by kernel_rfl) (fun _ _ _ h => h) (Or.inl ⟨by rfl, fun w hSw => ?_⟩) hHeld ?_
          rotate_left
          · (try dsimp only at hSw); go_split_ands; go_simp <;> with_reducible rfl
          (try simp only [Act.put, List.getElem_toArray, List.getElem_cons_succ, List.getElem_cons_zero, List.setIfInBounds_toArray, List.set_cons_zero, List.set_cons_succ])
          refine wpAnyH_ready (rs := [6]) (by kernel_rfl) (by simp) (AllReadyH.cons rfl (fun K hK => ?_) AllReadyH.nil)
          go_simp
          go_at_call 33
          (with_reducible refine (into13 wh 8 _ (by omega) (by omega)).mono ?_); rintro e w5 ⟨rfl, rfl⟩
          rw [hj]
          refine hK.out _ _ ⟨hs12, e0, e1, e2, e3, e4, ea⟩ (fun hHeld => ?_)
          clear hK K
          (try simp only [Act.put, List.getElem_toArray, List.getElem_cons_succ, List.getElem_cons_zero, List.setIfInBounds_toArray, List.set_cons_zero, List.set_cons_succ])
          refine wpAnyH_take (i := 7) (v := ?_) rfl (by kernel_rfl) (by kernel_rfl) (by kernel_rfl) (fun _ _ _ h => h) (Or.inl ⟨by rfl, fun w hSw => ?_⟩) hHeld ?_
          rotate_left
          · (try dsimp only at hSw); go_split_ands; go_simp <;> with_reducible rfl
          (try simp only [Act.put, List.getElem_toArray, List.getElem_cons_succ, List.getElem_cons_zero, List.setIfInBounds_toArray, List.set_cons_zero, List.set_cons_succ])
          refine wpAnyH_take (i := 8) (v := ?_) rfl (by kernel_rfl) (by kernel_rfl) (by kernel_rfl) (fun _ _ _ h => h) (Or.inl ⟨by rfl, fun w hSw => ?_⟩) hHeld ?_
          rotate_left
          · (try dsimp only at hSw); go_split_ands; go_simp <;> with_reducible rfl
          (try simp only [Act.put, List.getElem_toArray, List.getElem_cons_succ, List.getElem_cons_zero, List.setIfInBounds_toArray, List.set_cons_zero, List.set_cons_succ])
          refine wpAnyH_ready (rs := [14]) (by kernel_rfl) (by simp) (AllReadyH.cons rfl (fun K hK => ?_) AllReadyH.nil)
          go_simp
          go_at_call 72
          (with_reducible refine HPL.out.mono ?_); rintro e w5 hst; obtain ⟨rfl, hb5, ρ5, hE5⟩ := HE.out.step hj8 hst
          refine hK.out _ _ ⟨cell_of_obj hE5.box 12, (hb5.cell (p := ⟨b, off + i * 5, none⟩) hbb).trans e0, (hb5.cell (p := ⟨b, off + i * 5 + 1, none⟩) hbb).trans e1, (hb5.cell (p := ⟨b, off + i * 5 + 2, none⟩) hbb).trans e2, (hb5.cell (p := ⟨b, off + i * 5 + 3, none⟩) hbb).trans e3, (hb5.cell (p := ⟨b, off + i * 5 + 4, none⟩) hbb).trans e4, (cell_of_obj hE5.ao j).trans (hE5.ptr j hj8)⟩ (fun hHeld => ?_)
          clear hK K hst
          (try simp only [Act.put, List.getElem_toArray, List.getElem_cons_succ, List.getElem_cons_zero, List.setIfInBounds_toArray, List.set_cons_zero, List.set_cons_succ])
          refine wpAnyH_take (i := 15) (v := ?_) rfl (by kernel_rfl) (by kernel_rfl) (by kernel_rfl) (fun _ _ _ h => h) (Or.inl ⟨by rfl, fun w hSw => ?_⟩) hHeld ?_
          rotate_left
          · (try dsimp only at hSw); go_split_ands; go_simp <;> with_reducible rfl
          (try simp only [Act.put, List.getElem_toArray, List.getElem_cons_succ, List.getElem_cons_zero, List.setIfInBounds_toArray, List.set_cons_zero, List.set_cons_succ])
          refine wpAnyH_take (i := 16) (v := ?_) rfl (by kernel_rfl) (by kernel_rfl) (by kernel_rfl) (fun _ _ _ h => h) (Or.inl ⟨by rfl, fun w hSw => ?_⟩) hHeld ?_
          rotate_left
          · (try dsimp only at hSw); go_split_ands; go_simp <;> with_reducible rfl
          (try simp only [Act.put, List.getElem_toArray, List.getElem_cons_succ, List.getElem_cons_zero, List.setIfInBounds_toArray, List.set_cons_zero, List.set_cons_succ])
          refine wpAnyH_take (i := 17) (v := ?_) rfl (by kernel_rfl) (by kernel_rfl) (by kernel_rfl) (fun _ _ _ h => h) (Or.inl ⟨by rfl, fun w hSw => ?_⟩) hHeld ?_
          rotate_left
          · (try dsimp only at hSw); go_split_ands; go_simp <;> with_reducible rfl
          (try simp only [Act.put, List.getElem_toArray, List.getElem_cons_succ, List.getElem_cons_zero, List.setIfInBounds_toArray, List.set_cons_zero, List.set_cons_succ])
          refine wpAnyH_ready (rs := [18]) (by kernel_rfl) (by simp) (AllReadyH.cons rfl (fun K hK => ?_) AllReadyH.nil)
          go_simp
          go_at_call 17
          (with_reducible refine (look_none _ _ hE5.book).mono ?_); rintro e w6 ⟨rfl, hb6⟩; have hE6 := hE5.below hb6; have HE6 := Lib.hid hE6
          refine hK.out _ _ ⟨cell_of_obj hE6.box 12, ((hb5.trans (hb6.mono hE5.bel.size)).cell (p := ⟨b, off + i * 5, none⟩) hbb).trans e0, ((hb5.trans (hb6.mono hE5.bel.size)).cell (p := ⟨b, off + i * 5 + 1, none⟩) hbb).trans e1, ((hb5.trans (hb6.mono hE5.bel.size)).cell (p := ⟨b, off + i * 5 + 2, none⟩) hbb).trans e2, ((hb5.trans (hb6.mono hE5.bel.size)).cell (p := ⟨b, off + i * 5 + 3, none⟩) hbb).trans e3, ((hb5.trans (hb6.mono hE5.bel.size)).cell (p := ⟨b, off + i * 5 + 4, none⟩) hbb).trans e4, (cell_of_obj hE6.ao j).trans (hE6.ptr j hj8)⟩ (fun hHeld => ?_)
          clear hK K
          (try simp only [Act.put, List.getElem_toArray, List.getElem_cons_succ, List.getElem_cons_zero, List.setIfInBounds_toArray, List.set_cons_zero, List.set_cons_succ])
          refine wpAnyH_take (i := 19) (v := ?_) rfl (by kernel_rfl) (by kernel_rfl) (by kernel_rfl) (fun _ _ _ h => h) (Or.inl ⟨by rfl, fun w hSw => ?_⟩) hHeld ?_
          rotate_left
          · (try dsimp only at hSw); go_split_ands; go_simp <;> with_reducible rfl
          (try simp only [Act.put, List.getElem_toArray, List.getElem_cons_succ, List.getElem_cons_zero, List.setIfInBounds_toArray, List.set_cons_zero, List.set_cons_succ])
          refine wpAnyH_take (i := 20) (v := ?_) rfl (by kernel_rfl) (by kernel_rfl) (by kernel_rfl) (fun _ _ _ h => h) (Or.inl ⟨by rfl, fun w hSw => ?_⟩) hHeld ?_
          rotate_left
          · (try dsimp only at hSw); go_split_ands; go_simp <;> with_reducible rfl
          (try simp only [Act.put, List.getElem_toArray, List.getElem_cons_succ, List.getElem_cons_zero, List.setIfInBounds_toArray, List.set_cons_zero, List.set_cons_succ])
          refine wpAnyH_done (by kernel_rfl) ?_ _
          clear hE5 hE6 hb5 hb6
          go_wp2_with fail
          exact ⟨⟨i + 1, ρ5, P, arr, by go_num, by omega, by omega, HE6.out⟩, by simp [intOf]; omega⟩
        · have HE := Lib.hid hE
          have hor : ¬ ((i : Int) < (n : Int)) ∨ (((i : Int) < (n : Int)) ∧ ¬ ((i : Int) < 600)) := by omega
          clear hE hin
          rcases hor with hc | ⟨hc, hc2⟩
          all_goals
            go_wp2_with (first | (go_at_call 28; (with_reducible refine (wakes13 _).mono ?_); rintro e w7 ⟨rfl, hb7⟩; have hE7 := HE.out.below hb7) | (go_at_call 17; (with_reducible refine (look_none _ _ hE7.book).mono ?_); rintro e w8 ⟨rfl, hb8⟩; have hE8 := hE7.below hb8))
            go_ret
            exact ⟨rfl, hE8.bel⟩
end Go.Proofs.Ytbgojhjlmlbfpaa
