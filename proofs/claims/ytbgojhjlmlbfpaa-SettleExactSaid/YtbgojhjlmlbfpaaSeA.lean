/- settle.Settle: how it lies in memory ('SetAt'), what keeps it; at, each. -/
import Derived.Test.YtbgojhjlmlbfpaaKeep
import Derived.Test.YtbgojhjlmlbfpaaPacC
namespace Go.Proofs.Ytbgojhjlmlbfpaa
open Go.RowKit

def intsL (L : List Int) : List Value := L.map (Value.int .i64)
/-- A payment on its way. -/
structure Ent where
  peer : Int
  num : Int
  name : ByteArray
  amt : Int
def Ent.cell (e : Ent) : Nat → Value
  | 0 => .int .i64 e.peer
  | 1 => .int .u64 e.num
  | 2 => .string e.name
  | 3 => .int .u64 e.amt
  | _ => .int .i64 0
/-- How far it is with a peer: its pace, its copies, the turn, the first entry. -/
structure Way where
  pb : Nat
  c : Int
  l : Int
  g : Int
  cv : Value
  L : List Int
  turn : Nat
  e : Ent
  there : Bool
def Way.cell (y : Way) : Nat → Value
  | 0 => .pointer (some ⟨y.pb, 0, none⟩)
  | 1 => y.cv
  | 2 => .int .i64 (y.turn : Nat)
  | 3 => y.e.cell 0
  | 4 => y.e.cell 1
  | 5 => y.e.cell 2
  | 6 => y.e.cell 3
  | 7 => .bool y.there
  | _ => .int .i64 0
def cW (ws : Nat → Way) (k : Nat) : Value := (ws (k / 8)).cell (k % 8)
def cQ (Q : List Ent) (k : Nat) : Value := ((Q[k / 4]?).map fun e => e.cell (k % 4)).getD (.int .i64 0)
theorem cW_at (ws : Nat → Way) (i j : Nat) (hj : j < 8) : cW ws (i * 8 + j) = (ws i).cell j := by
  unfold cW
  rw [show (i * 8 + j) / 8 = i by omega, show (i * 8 + j) % 8 = j by omega]
theorem cQ_at (Q : List Ent) (i j : Nat) (hj : j < 4) {e : Ent} (h : Q[i]? = some e) : cQ Q (i * 4 + j) = e.cell j := by
  unfold cQ
  rw [show (i * 4 + j) / 4 = i by omega, show (i * 4 + j) % 4 = j by omega, h]
  rfl
def Way.pace (y : Way) : Obj := paceObj y.pb y.c y.l y.g (decide (y.l ≤ 1))
structure Way.Fit (y : Way) : Prop where
  c1 : 1 ≤ y.c ∧ y.c ≤ 64
  l1 : 0 ≤ y.l ∧ y.l ≤ 64
  g1 : 1 ≤ y.g ∧ y.g ≤ 64
  t1 : y.turn < y.L.length ∧ y.L.length ≤ 9

theorem OneN.keep {R : Nat → Prop} {w w' : World} {base sz r n : Nat} {ρ ρ' : Nat → Nat} {e : TypeId} {v : Value} {c : Nat → Value} (h : One w base e sz v n c) (hr0 : ∀ g, v.ownBlock = some g → ρ g = r) (k : Keeps R w ρ w' ρ') (hr : ¬ R r) : One w' base e sz v n c ∧ ∀ g, v.ownBlock = some g → ρ' g = r :=
  ⟨h.same fun g hg => (k.2 g (h.block hg).2).2 (by rw [hr0 g hg]; exact hr), fun g hg => ((k.2 g (h.block hg).2).1).trans (hr0 g hg)⟩
theorem OneN.get {w : World} {b sz n : Nat} {e : TypeId} {A : Option Addr} {m cap : Nat} {c : Nat → Value} (h : One w b e sz (.slice A m cap) n c) {k : Nat} (hn : 0 < n) (hk : k < n * sz) : ∃ g, A = some ⟨g, 0, none⟩ ∧ w.cell? ⟨g, k, none⟩ = some (c k) := by
  have h' := h
  rcases h with ⟨k1, rfl⟩ | ⟨g, cap, cur, k1, _⟩
  · omega
  · injection k1 with k1 _ _
    subst k1
    exact ⟨g, rfl, h'.cell rfl hk⟩
theorem OneN.form {w : World} {base sz n : Nat} {e : TypeId} {v : Value} {c : Nat → Value} (h : One w base e sz v n c) (hn : 0 < n) : ∃ g cap, v = .slice (some ⟨g, 0, none⟩) n cap := by
  rcases h with ⟨_, rfl⟩ | ⟨g, cap, cur, k1, _⟩
  · omega
  · exact ⟨_, _, k1⟩
theorem OneN.free {w : World} {base sz n g m cap : Nat} {e : TypeId} {c : Nat → Value} (h : One w base e sz (.slice (some ⟨g, 0, none⟩) m cap) n c) (k : Nat) : w.frozen? ⟨g, k, none⟩ = false := by
  rcases h with ⟨h, _⟩ | ⟨g', cap', cur, h1, h2, h3, h4, h5, h6, h7⟩
  · cases h
  · injection h1 with h1 _ _
    injection h1 with h1
    injection h1 with h1
    subst h1
    exact free_of_obj h3 k
theorem OneN.put {w : World} {base sz n g cap k : Nat} {e : TypeId} {c : Nat → Value} (h : One w base e sz (.slice (some ⟨g, 0, none⟩) n cap) n c) (v : Value) :
    One (w.setCell ⟨g, k, none⟩ v) base e sz (.slice (some ⟨g, 0, none⟩) n cap) n (setc c k v) ∧ ∃ o, OnlyB w (w.setCell ⟨g, k, none⟩ v) g o := by
  rcases h with ⟨h, _⟩ | ⟨g', cap', cur, h1, h2, h3, h4, h5, h6, h7⟩
  · cases h
  · injection h1 with h1 _ h9
    injection h1 with h1
    injection h1 with h1
    subst h1 h9
    have ho := OnlyB.set (OnlyB.refl h3) (lt_of_obj h3) k v
    refine ⟨.inr ⟨g, cap, _, rfl, h2, ho.at_ (lt_of_obj h3), h4, h5, by simpa using h6, fun j hj => ?_⟩, _, ho⟩
    have hjs : j < cur.size := by rw [h6]; exact Nat.lt_of_lt_of_le hj (Nat.mul_le_mul_right _ h4)
    rw [Array.getElem?_setIfInBounds]
    by_cases hjk : k = j
    · subst hjk
      rw [if_pos rfl, if_pos hjs, setc_eq]
    · rw [if_neg hjk, setc_ne (fun e => hjk e.symm)]
      exact h7 j hj

def setObj (node shard : Int) (wv qv : Value) : Obj := .cells #[.int .i64 node, .int .i64 shard, wv, qv] 137 (0, 0)
/-- A Settle in memory: its block, the row of ways, each peer's pace and copies, the queue; r0: its roles begin there. -/
structure SetAt (w : World) (base : Nat) (ρ : Nat → Nat) (r0 S : Nat) (node shard : Int) (N : Nat) (ws : Nat → Way) (wv qv : Value) (Q : List Ent) : Prop where
  obj : Objr w ρ (r0 + 1) S (setObj node shard wv qv)
  row : One w base 140 8 wv N (cW ws)
  rowr : ∀ g, wv.ownBlock = some g → ρ g = r0 + 2
  que : One w base 104 4 qv Q.length (cQ Q)
  quer : ∀ g, qv.ownBlock = some g → ρ g = r0 + 4
  pace : ∀ i, i < N → Objr w ρ (r0 + 20 + i) (ws i).pb (ws i).pace
  cop : ∀ i, i < N → Lst w base ρ (r0 + 3) 3 (ws i).cv (ws i).L.length (lst (intsL (ws i).L))
  lo : base ≤ S ∧ ∀ i, i < N → base ≤ (ws i).pb
  num : 1 ≤ N ∧ N ≤ 8 ∧ ∀ i, i < N → (ws i).Fit
theorem SetAt.keep {R : Nat → Prop} {w w' : World} {base r0 S N : Nat} {ρ ρ' : Nat → Nat} {node shard : Int} {ws : Nat → Way} {wv qv : Value} {Q : List Ent} (h : SetAt w base ρ r0 S node shard N ws wv qv Q) (hK : Keeps R w ρ w' ρ') (hR : ∀ r, r0 + 1 ≤ r → r < r0 + 28 → r ≤ r0 + 4 ∨ r0 + 20 ≤ r → ¬ R r) :
    SetAt w' base ρ' r0 S node shard N ws wv qv Q := by
  obtain ⟨a1, a2⟩ := OneN.keep h.row h.rowr hK (hR _ (by omega) (by omega) (by omega))
  obtain ⟨b1, b2⟩ := OneN.keep h.que h.quer hK (hR _ (by omega) (by omega) (by omega))
  exact ⟨h.obj.keep hK (hR _ (by omega) (by omega) (by omega)), a1, a2, b1, b2, fun i hi => (h.pace i hi).keep hK (hR _ (by omega) (by have := h.num.2.1; omega) (by omega)), fun i hi => (h.cop i hi).keep hK (hR _ (by omega) (by omega) (by omega)), h.lo, h.num⟩
def updW (ws : Nat → Way) (i : Nat) (y : Way) : Nat → Way := fun j => if j = i then y else ws j
theorem updW_eq {ws : Nat → Way} {i : Nat} {y : Way} : updW ws i y i = y := if_pos rfl
theorem updW_ne {ws : Nat → Way} {i j : Nat} {y : Way} (h : j ≠ i) : updW ws i y j = ws j := if_neg h
/-- A field of a way put anew. -/
theorem SetAt.put {w : World} {base r0 S N W cap i j : Nat} {ρ : Nat → Nat} {node shard : Int} {ws : Nat → Way} {qv v : Value} {Q : List Ent} (h : SetAt w base ρ r0 S node shard N ws (.slice (some ⟨W, 0, none⟩) N cap) qv Q) (hj : j < 8) (y : Way)
    (hy : ∀ k, k < 8 → y.cell k = if k = j then v else (ws i).cell k) (h1 : y.pb = (ws i).pb ∧ y.c = (ws i).c ∧ y.l = (ws i).l ∧ y.g = (ws i).g ∧ y.cv = (ws i).cv ∧ y.L = (ws i).L) (hf : i < N → y.Fit) :
    SetAt (w.setCell ⟨W, i * 8 + j, none⟩ v) base ρ r0 S node shard N (updW ws i y) (.slice (some ⟨W, 0, none⟩) N cap) qv Q ∧ Keeps (fun r => r = r0 + 2) w ρ (w.setCell ⟨W, i * 8 + j, none⟩ v) ρ ∧ Below base w (w.setCell ⟨W, i * 8 + j, none⟩ v) ∧ (w.setCell ⟨W, i * 8 + j, none⟩ v).heap.size = w.heap.size := by
  obtain ⟨hp, o, ho⟩ := OneN.put (k := i * 8 + j) h.row v
  have hK : Keeps (fun r => r = r0 + 2) w ρ (w.setCell ⟨W, i * 8 + j, none⟩ v) ρ := Keeps.only ρ ho (h.rowr W rfl)
  obtain ⟨b1, b2⟩ := OneN.keep h.que h.quer hK (by omega)
  obtain ⟨e1, e2, e3, e4, e5, e6⟩ := h1
  have hsame : ∀ k, (updW ws i y k).pb = (ws k).pb ∧ (updW ws i y k).pace = (ws k).pace ∧ (updW ws i y k).cv = (ws k).cv ∧ (updW ws i y k).L = (ws k).L := fun k => by
    by_cases hk : k = i
    · subst hk
      rw [updW_eq]
      exact ⟨e1, by unfold Way.pace; rw [e1, e2, e3, e4], e5, e6⟩
    · rw [updW_ne hk]
      exact ⟨rfl, rfl, rfl, rfl⟩
  refine ⟨⟨h.obj.keep hK (by omega), hp.congr fun k hk => ?_, h.rowr, b1, b2, fun k hk => ?_, fun k hk => ?_, ⟨h.lo.1, fun k hk => ?_⟩, h.num.1, h.num.2.1, fun k hk => ?_⟩, hK, ho.below (h.row.block rfl).1, ho.size⟩
  · unfold cW
    by_cases hki : k / 8 = i
    · rw [hki, updW_eq, hy _ (by omega)]
      by_cases hkj : k % 8 = j
      · rw [if_pos hkj, show k = i * 8 + j by omega, setc_eq]
      · rw [if_neg hkj, setc_ne (by omega), ← hki]
    · rw [updW_ne hki, setc_ne (by omega)]
  · obtain ⟨a, b, _⟩ := hsame k
    rw [a, b]
    exact (h.pace k hk).keep hK (by omega)
  · obtain ⟨_, _, a, b⟩ := hsame k
    rw [a, b]
    exact (h.cop k hk).keep hK (by omega)
  · rw [(hsame k).1]
    exact h.lo.2 k hk
  · by_cases hk2 : k = i
    · subst hk2
      rw [updW_eq]
      exact hf hk
    · rw [updW_ne hk2]
      exact h.num.2.2 k hk
/-- A pace put anew. -/
theorem SetAt.turn {w w' : World} {base r0 S N i : Nat} {ρ : Nat → Nat} {node shard l g : Int} {ws : Nat → Way} {wv qv : Value} {Q : List Ent} (h : SetAt w base ρ r0 S node shard N ws wv qv Q) (hi : i < N) (ht : Turned w w' (ws i).pb (ws i).c l g) (hl : 0 ≤ l ∧ l ≤ 64) (hg : 1 ≤ g ∧ g ≤ 64) :
    SetAt w' base ρ r0 S node shard N (updW ws i { ws i with l := l, g := g }) wv qv Q ∧ Keeps (fun r => r = r0 + 20 + i) w ρ w' ρ ∧ Below base w w' ∧ w'.heap.size = w.heap.size := by
  have hK : Keeps (fun r => r = r0 + 20 + i) w ρ w' ρ := Keeps.only ρ ht (h.pace i hi).2
  obtain ⟨a1, a2⟩ := OneN.keep h.row h.rowr hK (by omega)
  obtain ⟨b1, b2⟩ := OneN.keep h.que h.quer hK (by omega)
  refine ⟨⟨h.obj.keep hK (by omega), a1.congr fun k hk => ?_, a2, b1, b2, fun k hk => ?_, fun k hk => ?_, ⟨h.lo.1, fun k hk => ?_⟩, h.num.1, h.num.2.1, fun k hk => ?_⟩, hK, ht.below (h.lo.2 i hi), ht.size⟩
  · unfold cW
    by_cases hki : k / 8 = i
    · rw [hki, updW_eq]
      have : k % 8 < 8 := by omega
      generalize k % 8 = m at this
      match m, this with
      | 0, _ => rfl
      | 1, _ => rfl
      | 2, _ => rfl
      | 3, _ => rfl
      | 4, _ => rfl
      | 5, _ => rfl
      | 6, _ => rfl
      | 7, _ => rfl
    · rw [updW_ne hki]
  · by_cases hki : k = i
    · subst hki
      rw [updW_eq]
      exact ⟨ht.at_ (lt_of_obj (h.pace k hk).1), (h.pace k hk).2⟩
    · rw [updW_ne hki]
      exact (h.pace k hk).keep hK (by omega)
  · by_cases hki : k = i
    · subst hki
      rw [updW_eq]
      exact (h.cop k hk).keep hK (by omega)
    · rw [updW_ne hki]
      exact (h.cop k hk).keep hK (by omega)
  · by_cases hki : k = i
    · subst hki
      rw [updW_eq]
      exact h.lo.2 k hk
    · rw [updW_ne hki]
      exact h.lo.2 k hk
  · by_cases hki : k = i
    · subst hki
      rw [updW_eq]
      have := h.num.2.2 k hk
      exact ⟨this.c1, hl, hg, this.t1⟩
    · rw [updW_ne hki]
      exact h.num.2.2 k hk
/-- The cells that each reads. -/
theorem SetAt.cells {w : World} {base r0 S N : Nat} {ρ : Nat → Nat} {node shard : Int} {ws : Nat → Way} {wv qv : Value} {Q : List Ent} (h : SetAt w base ρ r0 S node shard N ws wv qv Q) :
    w.cell? ⟨S, 0, none⟩ = some (.int .i64 node) ∧ w.cell? ⟨S, 1, none⟩ = some (.int .i64 shard) ∧ w.cell? ⟨S, 2, none⟩ = some wv ∧ w.cell? ⟨S, 3, none⟩ = some qv :=
  ⟨cell_of_obj h.obj.1 0, cell_of_obj h.obj.1 1, cell_of_obj h.obj.1 2, cell_of_obj h.obj.1 3⟩
theorem SetAt.way {w : World} {base r0 S N W cap : Nat} {ρ : Nat → Nat} {node shard : Int} {ws : Nat → Way} {qv : Value} {Q : List Ent} (h : SetAt w base ρ r0 S node shard N ws (.slice (some ⟨W, 0, none⟩) N cap) qv Q) (i j : Nat) (hi : i < N) (hj : j < 8) :
    w.cell? ⟨W, i * 8 + j, none⟩ = some ((ws i).cell j) := by
  rw [h.row.cell rfl (k := i * 8 + j) (by omega), cW_at ws i j hj]
end Go.Proofs.Ytbgojhjlmlbfpaa
