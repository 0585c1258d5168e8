/- The document's Settle (tallyref13) in memory: its block, the row of peers, the queue. -/
import Derived.Test.YtbgojhjlmlbfpaaSfA
import Derived.Test.YtbgojhjlmlbfpaaSeA
namespace Go.Proofs.Ytbgojhjlmlbfpaa
open Go.RowKit

theorem cellsObj_congr {t : TypeId} {n : Nat} {f g : Nat → Value} (h : ∀ k, k < n → f k = g k) : cellsObj t n f = cellsObj t n g := by
  unfold cellsObj
  congr 2
  exact List.map_congr_left fun k hk => h k (List.mem_range.1 hk)
/-- A peer of the document's: its pace (cap, ticks), its turn, the first entry, whether it is there. -/
structure RP where
  cap : Int
  n : Nat
  turn : Nat
  e : Ent
  there : Bool
def RP.cell (y : RP) : Nat → Value
  | 0 => .int .i64 y.cap
  | 1 => .int .i64 (y.n : Nat)
  | 2 => .int .i64 (y.turn : Nat)
  | 3 => y.e.cell 0
  | 4 => y.e.cell 1
  | 5 => y.e.cell 2
  | 6 => y.e.cell 3
  | 7 => .bool y.there
  | _ => .int .i64 0
def cP (ps : Nat → RP) (k : Nat) : Value := (ps (k / 8)).cell (k % 8)
theorem cP_at (ps : Nat → RP) (i j : Nat) (hj : j < 8) : cP ps (i * 8 + j) = (ps i).cell j := by
  unfold cP
  rw [show (i * 8 + j) / 8 = i by omega, show (i * 8 + j) % 8 = j by omega]
def updP (ps : Nat → RP) (i : Nat) (y : RP) : Nat → RP := fun j => if j = i then y else ps j
theorem updP_eq {ps : Nat → RP} {i : Nat} {y : RP} : updP ps i y i = y := if_pos rfl
theorem updP_ne {ps : Nat → RP} {i j : Nat} {y : RP} (h : j ≠ i) : updP ps i y j = ps j := if_neg h
theorem updP_twice {ps : Nat → RP} {i : Nat} {y z : RP} : updP (updP ps i y) i z = updP ps i z := by
  funext j
  by_cases h : j = i
  · rw [h, updP_eq, updP_eq]
  · rw [updP_ne h, updP_ne h, updP_ne h]
/-- The numbers of a configuration, what it holds of accounts. -/
structure Conf where
  n : Nat
  N : Nat
  cp : Nat
  cap : Nat
  av : Value
def refCell (c : Conf) (node shard : Int) (pv qv : Value) : Nat → Value
  | 0 => .int .i64 (c.n : Nat)
  | 1 => .int .i64 (c.N : Nat)
  | 2 => .int .i64 (c.cp : Nat)
  | 3 => .int .i64 1
  | 4 => .int .i64 16
  | 5 => .int .i64 (c.cap : Nat)
  | 6 => .int .i64 64
  | 7 => .int .i64 100
  | 8 => c.av
  | 9 => .int .i64 node
  | 10 => .int .i64 shard
  | 11 => pv
  | 12 => qv
  | _ => .int .i64 0
def refSetO (c : Conf) (node shard : Int) (pv qv : Value) : Obj := cellsObj 181 13 (refCell c node shard pv qv)
structure RSet (w : World) (base : Nat) (ρ : Nat → Nat) (r0 R : Nat) (c : Conf) (node shard : Int) (ps : Nat → RP) (pv qv : Value) (Q : List Ent) : Prop where
  obj : Objr w ρ (r0 + 31) R (refSetO c node shard pv qv)
  row : One w base 185 8 pv c.N (cP ps)
  rowr : ∀ g, pv.ownBlock = some g → ρ g = r0 + 32
  que : One w base 104 4 qv Q.length (cQ Q)
  quer : ∀ g, qv.ownBlock = some g → ρ g = r0 + 33
  lo : base ≤ R
  num : 1 ≤ c.N ∧ c.N ≤ 8
theorem RSet.keep {R' : Nat → Prop} {w w' : World} {base r0 R : Nat} {ρ ρ' : Nat → Nat} {c : Conf} {node shard : Int} {ps : Nat → RP} {pv qv : Value} {Q : List Ent} (h : RSet w base ρ r0 R c node shard ps pv qv Q) (hK : Keeps R' w ρ w' ρ') (hR : ∀ r, r0 + 31 ≤ r → r ≤ r0 + 33 → ¬ R' r) :
    RSet w' base ρ' r0 R c node shard ps pv qv Q := by
  obtain ⟨a1, a2⟩ := OneN.keep h.row h.rowr hK (hR _ (by omega) (by omega))
  obtain ⟨b1, b2⟩ := OneN.keep h.que h.quer hK (hR _ (by omega) (by omega))
  exact ⟨h.obj.keep hK (hR _ (by omega) (by omega)), a1, a2, b1, b2, h.lo, h.num⟩
theorem RSet.below {w w' : World} {base r0 R : Nat} {ρ : Nat → Nat} {c : Conf} {node shard : Int} {ps : Nat → RP} {pv qv : Value} {Q : List Ent} (h : RSet w base ρ r0 R c node shard ps pv qv Q) (hb : Below w.heap.size w w') : RSet w' base ρ r0 R c node shard ps pv qv Q :=
  h.keep (Keeps.below (fun _ => False) ρ hb) (fun _ _ _ h => h)
theorem RSet.form {w : World} {base r0 R : Nat} {ρ : Nat → Nat} {c : Conf} {node shard : Int} {ps : Nat → RP} {pv qv : Value} {Q : List Ent} (h : RSet w base ρ r0 R c node shard ps pv qv Q) : ∃ W cap, pv = .slice (some ⟨W, 0, none⟩) c.N cap := OneN.form h.row (by have := h.num.1; omega)
theorem RSet.peer {w : World} {base r0 R W cap : Nat} {ρ : Nat → Nat} {c : Conf} {node shard : Int} {ps : Nat → RP} {qv : Value} {Q : List Ent} (h : RSet w base ρ r0 R c node shard ps (.slice (some ⟨W, 0, none⟩) c.N cap) qv Q) (i j : Nat) (hi : i < c.N) (hj : j < 8) :
    w.cell? ⟨W, i * 8 + j, none⟩ = some ((ps i).cell j) := by
  obtain ⟨g, e, hc⟩ := OneN.get h.row (k := i * 8 + j) (by omega) (by omega)
  injection e with e
  injection e with e
  rw [e, hc, cP_at ps i j hj]
/-- A field of a peer put anew. -/
theorem RSet.put {w : World} {base r0 R W cap i j : Nat} {ρ : Nat → Nat} {c : Conf} {node shard : Int} {ps : Nat → RP} {qv v : Value} {Q : List Ent} (h : RSet w base ρ r0 R c node shard ps (.slice (some ⟨W, 0, none⟩) c.N cap) qv Q) (hj : j < 8) (y : RP)
    (hy : ∀ k, k < 8 → y.cell k = if k = j then v else (ps i).cell k) :
    RSet (w.setCell ⟨W, i * 8 + j, none⟩ v) base ρ r0 R c node shard (updP ps i y) (.slice (some ⟨W, 0, none⟩) c.N cap) qv Q ∧ Keeps (fun r => r = r0 + 32) w ρ (w.setCell ⟨W, i * 8 + j, none⟩ v) ρ ∧ Below base w (w.setCell ⟨W, i * 8 + j, none⟩ v) ∧ (w.setCell ⟨W, i * 8 + j, none⟩ v).heap.size = w.heap.size := by
  obtain ⟨hp, o, ho⟩ := OneN.put (k := i * 8 + j) h.row v
  have hK : Keeps (fun r => r = r0 + 32) w ρ (w.setCell ⟨W, i * 8 + j, none⟩ v) ρ := Keeps.only ρ ho (h.rowr W rfl)
  obtain ⟨b1, b2⟩ := OneN.keep h.que h.quer hK (by omega)
  refine ⟨⟨h.obj.keep hK (by omega), hp.congr fun k hk => ?_, h.rowr, b1, b2, h.lo, h.num⟩, hK, ho.below (h.row.block rfl).1, ho.size⟩
  unfold cP
  by_cases hki : k / 8 = i
  · rw [hki, updP_eq, hy _ (by omega)]
    by_cases hkj : k % 8 = j
    · rw [if_pos hkj, show k = i * 8 + j by omega, setc_eq]
    · rw [if_neg hkj, setc_ne (by omega), ← hki]
  · rw [updP_ne hki, setc_ne (by omega)]
theorem RSet.free {w : World} {base r0 R W cap : Nat} {ρ : Nat → Nat} {c : Conf} {node shard : Int} {ps : Nat → RP} {qv : Value} {Q : List Ent} (h : RSet w base ρ r0 R c node shard ps (.slice (some ⟨W, 0, none⟩) c.N cap) qv Q) (k : Nat) : w.frozen? ⟨W, k, none⟩ = false := OneN.free h.row k
theorem RSet.cell {w : World} {base r0 R : Nat} {ρ : Nat → Nat} {c : Conf} {node shard : Int} {ps : Nat → RP} {pv qv : Value} {Q : List Ent} (h : RSet w base ρ r0 R c node shard ps pv qv Q) (k : Nat) (hk : k < 13) : w.cell? ⟨R, k, none⟩ = some (refCell c node shard pv qv k) := obj_cell h.obj.1 k hk
/-- The queue put anew. -/
theorem RSet.setQ {w w' : World} {base r0 R : Nat} {ρ ρ' : Nat → Nat} {c : Conf} {node shard : Int} {ps : Nat → RP} {pv qv qv' : Value} {Q Q' : List Ent} (h : RSet w base ρ r0 R c node shard ps pv qv Q) (hK : Keeps (fun r => r = r0 + 33) w ρ w' ρ') (hq : One w' base 104 4 qv' Q'.length (cQ Q')) (hqr : ∀ g, qv'.ownBlock = some g → ρ' g = r0 + 33) :
    RSet (w'.setCell ⟨R, 12, none⟩ qv') base ρ' r0 R c node shard ps pv qv' Q' ∧ Keeps (fun r => r = r0 + 31 ∨ r = r0 + 33) w ρ (w'.setCell ⟨R, 12, none⟩ qv') ρ' ∧ (w'.setCell ⟨R, 12, none⟩ qv').heap.size = w'.heap.size ∧ Below base w' (w'.setCell ⟨R, 12, none⟩ qv') := by
  have ho := h.obj.keep hK (by omega)
  have hO := OnlyB.objSet ho.1 12 qv'
  have hR := ho.2
  have K2 : Keeps (fun r => r = r0 + 31) w' ρ' (w'.setCell ⟨R, 12, none⟩ qv') ρ' := Keeps.only ρ' hO hR
  obtain ⟨a1, a2⟩ := OneN.keep h.row h.rowr hK (by omega)
  obtain ⟨a3, a4⟩ := OneN.keep a1 a2 K2 (by omega)
  obtain ⟨b1, b2⟩ := OneN.keep hq hqr K2 (by omega)
  refine ⟨⟨⟨?_, hR⟩, a3, a4, b1, b2, h.lo, h.num⟩, (hK.mono fun r h => .inr h).trans (K2.mono fun r h => .inl h), hO.size, hO.below h.lo⟩
  rw [hO.at_ (lt_of_obj ho.1)]
  rfl
end Go.Proofs.Ytbgojhjlmlbfpaa
