/- settle.Settle: a settle message in memory, what a way does at a tick, Tick's state. -/
import Derived.Test.YtbgojhjlmlbfpaaSeB
import Derived.Test.YtbgojhjlmlbfpaaRegS
import Derived.Laws.Tables
import Derived.Great.BuildSlice
namespace Go.Proofs.Ytbgojhjlmlbfpaa
open Go.RowKit

/-- A settle message. -/
structure SMsg where
  frm : Int
  to : Int
  shard : Int
  peer : Int
  num : Int
  name : ByteArray
  amt : Int
def SMsg.cells (m : SMsg) : Array Value := #[.int .i64 8, .int .i64 m.frm, .int .i64 m.to, .int .i64 m.shard, .int .u64 0, .int .u64 0, .int .u64 0, .int .u64 0, .int .i64 0, .int .u64 0, .slice none 0 0, .int .i64 m.peer, .int .u64 m.num, .string m.name, .string ByteArray.empty, .int .u64 m.amt, .int .u64 0, .int .u64 0, .int .i64 0, .int .i64 0, .int .i64 0, .int .i64 0]
def cM (ms : List SMsg) (k : Nat) : Value := ((ms[k / 22]?).map fun m => (m.cells[k % 22]?).getD (.int .i64 0)).getD (.int .i64 0)
theorem cM_at (ms : List SMsg) (i j : Nat) (hj : j < 22) {m : SMsg} (h : ms[i]? = some m) : cM ms (i * 22 + j) = (m.cells[j]?).getD (.int .i64 0) := by
  unfold cM
  rw [show (i * 22 + j) / 22 = i by omega, show (i * 22 + j) % 22 = j by omega, h]
  rfl
theorem msg_build (frm to shard peer num amt : Int) (name : ByteArray) :
    Try.prog.built 102 [(0, .agg #[.int .i64 8, .int .i64 frm, .int .i64 to, .int .i64 shard]), (7, .int .i64 peer), (8, .int .u64 num), (9, .string name), (11, .int .u64 amt)] = some (SMsg.cells ⟨frm, to, shard, peer, num, name, amt⟩) := by kernel_rfl
theorem cM_old (ms : List SMsg) (m : SMsg) (k : Nat) (hk : k < ms.length * 22) : cM ms k = cM (ms ++ [m]) k := by
  unfold cM
  rw [List.getElem?_append_left (by omega)]
theorem cM_new (ms : List SMsg) (m : SMsg) (k : Nat) (hk : k < 1 * 22) : m.cells.toList[k]? = some (cM (ms ++ [m]) (ms.length * 22 + k)) := by
  rw [cM_at (ms ++ [m]) ms.length k (by omega) (m := m) (by simp)]
  have hs : m.cells.size = 22 := rfl
  rw [Array.getElem?_toList, Array.getElem?_eq_getElem (by omega)]
  rfl
theorem SMsg.one (m : SMsg) : ∀ u ∈ m.cells.toList, u.oneCell' = true := by
  simp [SMsg.cells, Value.oneCell']
theorem wrap_small (z : Int) (h0 : 0 ≤ z) (h1 : z < 9223372036854775808) : IntKind.i64.wrap z = z := by
  simp [IntKind.wrap, IntKind.bits, IntKind.signed]
  omega
def msgZero : Value := .agg #[.int .i64 0, .int .i64 0, .int .i64 0, .int .i64 0, .int .u64 0, .int .u64 0, .int .u64 0, .int .u64 0, .int .i64 0, .int .u64 0, .slice none 0 0, .int .i64 0, .int .u64 0, .string ByteArray.empty, .string ByteArray.empty, .int .u64 0, .int .u64 0, .int .u64 0, .int .i64 0, .int .i64 0, .int .i64 0, .int .i64 0]
theorem msg_info : (Try.prog.info? 102).map (fun i => (i.zero, i.size, i.bytes)) = some (some msgZero, 22, 208) := by kernel_rfl
theorem msg_fill (m : SMsg) : Instr.fill (fun i => some (i * 22, 22)) ((Array.range (1 * 22)).map (msgZero.cells[· % msgZero.cells.size]!)) [(0, .agg m.cells)] = some m.cells := by kernel_rfl
theorem exec_build {P : Program} {a : Act} {o : Oper} (w : World) (t : TypeId) (parts : Array (Nat × Operand)) (ho : o.op = .build t parts) (vals : List (Nat × Value)) (hv : (parts.map fun (i, x) => (i, a.eval x)).toList = vals) (cells : Array Value) (h : P.built t vals = some cells) :
    (execOp a.eval o).run P w = .ok (.value (.agg cells)) w := by
  subst hv
  unfold execOp
  simp only [ho, Sem.run_bind, run_build w t _ cells h, Result.andThen_ok]
  rfl
def Way.tick (y : Way) : Way :=
  if y.there = true then (if y.l ≤ 1 then { y with l := tickL y.l y.g, g := tickG y.c y.l y.g, turn := (y.turn + 1) % y.L.length } else { y with l := tickL y.l y.g, g := tickG y.c y.l y.g }) else y
def Way.fires (y : Way) : Bool := y.there && decide (y.l ≤ 1)
def msgOf (node shard : Int) (i : Nat) (y : Way) : SMsg := ⟨node, y.L.getD y.turn 0, shard, i, y.e.num, y.e.name, y.e.amt⟩
structure TickAt (w : World) (base : Nat) (ρ : Nat → Nat) (r0 S : Nat) (node shard : Int) (N : Nat) (ws : Nat → Way) (wv qv : Value) (Q : List Ent) (b1 b2 : Nat) (ms : List SMsg) : Prop where
  set : SetAt w base ρ r0 S node shard N ws wv qv Q
  o1 : Objr w ρ (r0 + 5) b1 (.cells #[.pointer (some ⟨S, 0, none⟩)] 83 (0, 0))
  o2 : ∃ lv, Objr w ρ (r0 + 6) b2 (.cells #[lv] 85 (0, 0)) ∧ One w base 102 22 lv ms.length (cM ms) ∧ ∀ g, lv.ownBlock = some g → ρ g = r0 + 7
  free : Free w ρ
  lo : base ≤ b1 ∧ base ≤ b2
end Go.Proofs.Ytbgojhjlmlbfpaa
