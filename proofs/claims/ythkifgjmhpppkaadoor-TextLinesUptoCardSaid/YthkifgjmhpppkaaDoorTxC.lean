/- What the library's variables hold ('Tabs'); Amount's plain law. -/
import Derived.Test.YthkifgjmhpppkaaDoorTxB
import Derived.Below
namespace Go.Proofs.YthkifgjmhpppkaaDoor
open Go.RowKit

/-- MaxLen holds some number; UTF-8's tables, and the capitals', are as they are laid. -/
structure Tabs (w : World) : Prop where
  max : ∃ m : Int, w.cell? ⟨3, 0, none⟩ = some (.int .i64 m)
  utf : Lib.Utf8Tabs 0 1 w
  caps : ∀ k v, [65, 90, 192, 214, 216, 222][k]? = some v → w.cell? ⟨2, k, none⟩ = some (.int .i32 v)
theorem Tabs.below {w w' : World} (h : Tabs w) (hb : Below w.heap.size w w') : Tabs w' := by
  obtain ⟨⟨m, hm⟩, hu, hc⟩ := h
  exact ⟨⟨m, (hb.cell (World.block_lt_of_cell? w _ hm)).trans hm⟩, Utf8Tabs_below hu hb, fun k v hv => (hb.cell (World.block_lt_of_cell? w _ (hc k v hv))).trans (hc k v hv)⟩
/-- The groups of a whole. -/
def grps (s : ByteArray) : List ByteArray := Lib.splitB ⟨#[39]⟩ 0 (Lib.countB s ⟨#[39]⟩) s
def grpOk (n i : Nat) (g : ByteArray) : Bool := figsL g.data.toList && (decide (n ≤ 1) || (decide (g.size ≤ 3) && (decide (i = 0) || decide (g.size = 3))))
def grpsOk (G : List ByteArray) : Bool := (List.range G.length).all fun i => grpOk G.length i (G.getD i ⟨#[]⟩)
def amtC : Nat := 90071992547409920
def amtN (l : List UInt8) : Nat := l.foldl (fun n d => min (10 * n + (d.toNat - 48)) amtC) 0
def amtD (b1 b2 : ByteArray) (dot : Bool) : List UInt8 := ((grps b1).map (·.data.toList)).flatten ++ if dot = true then b2.data.toList else [48, 48]
/-- Amount, behind its Cut. -/
def amtB (b1 b2 : ByteArray) (dot : Bool) : Nat × Nat :=
  if dot = true ∧ (b2.size ≠ 2 ∨ figsL b2.data.toList = false) then (0, 21)
  else if grpsOk (grps b1) = false then (0, 21)
  else if b1.data.toList.head? = some 48 ∧ b1.data.toList ≠ [48] then (0, 21)
  else if 9007199254740992 < amtN (amtD b1 b2 dot) then (0, 22) else (amtN (amtD b1 b2 dot), 0)
def amtP (s : ByteArray) : Nat × Nat := amtB ⟨(Lib.cut s.data.toList [46]).1.toArray⟩ ⟨(Lib.cut s.data.toList [46]).2.1.toArray⟩ (Lib.cut s.data.toList [46]).2.2
end Go.Proofs.YthkifgjmhpppkaaDoor
