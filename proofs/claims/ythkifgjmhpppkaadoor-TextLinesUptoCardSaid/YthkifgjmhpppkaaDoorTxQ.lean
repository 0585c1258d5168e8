/- The rows' common part: what the listed variables hold ('Tabs'), and a world for the witness. -/
import Derived.Test.YthkifgjmhpppkaaDoorRows
import Derived.Test.YthkifgjmhpppkaaDoorTxC
import Derived.Test.YthkifgjmhpppkaaDoorShelf2
import Derived.WalkKit
import Derived.ProofKit
import Derived.OpenShut
import Derived.Deep.DeepHandedRow
import Derived.Lib.LaidU8T
import Derived.HandedShaped
namespace Go.Proofs.YthkifgjmhpppkaaDoor
open Go.ChangeShapes Go.WideShapes Go.ChangeAt Go.RowKit

abbrev laidL : List (String × DataW Unit) := [("unicode/utf8.acceptRanges", Rows.laid_unicode_utf8_acceptRanges), ("tally/text.capitals", Rows.laid_tally_text_capitals), ("unicode/utf8.first", Rows.laid_unicode_utf8_first)]
theorem first_data : Rows.laid_unicode_utf8_first = Lib.firstData := by kernel_rfl
theorem accept_data : (Rows.laid_unicode_utf8_acceptRanges : DataW Unit) = Lib.acceptData := by kernel_rfl
set_option maxRecDepth 100000 in
theorem caps_cells {W : World} (h : Lib.VarReads Tryd.prog W "tally/text.capitals" Rows.laid_tally_text_capitals) : ∀ k v, [65, 90, 192, 214, 216, 222][k]? = some v → W.cell? ⟨2, k, none⟩ = some (.int .i32 v) := by
  obtain ⟨g, t, cs, fuel, p, hg, hty, hvar, hd⟩ := h
  obtain rfl := Option.some.inj ((show Tryd.prog.globalNamed "tally/text.capitals" = some 2 by kernel_rfl).symm.trans hg)
  obtain rfl := Option.some.inj ((show (Tryd.prog.globals[2]?).map (·.type) = some 101 by kernel_rfl).symm.trans hty)
  have hrow : ∀ i a b, i < 3 → [(65, 90), (192, 214), (216, 222)][i]? = some (a, b) → W.cell? ⟨2, 2 * i, none⟩ = some (.int .i32 a) ∧ W.cell? ⟨2, 2 * i + 1, none⟩ = some (.int .i32 b) := by
    intro i a b hi hab
    obtain ⟨fuel', d, q, hdi, he⟩ := Lib.array_elem Tryd.underlying101 hd i hi
    have hdd : d = Lib.tabData .i32 [a, b] := by
      have hi3 : i = 0 ∨ i = 1 ∨ i = 2 := by omega
      rcases hi3 with rfl | rfl | rfl
      · cases hab
        exact (Option.some.inj hdi).symm
      · cases hab
        exact (Option.some.inj hdi).symm
      · cases hab
        exact (Option.some.inj hdi).symm
    clear hdi
    rw [hdd, show Tryd.prog.cellsOf 100 = 2 by kernel_rfl] at he
    clear hdd
    have hcs := Lib.cells_of_tab Tryd.underlying100 Tryd.underlying21 (show Tryd.prog.cellsOf 21 = 1 by kernel_rfl) (show Tryd.prog.cellsOf 100 = 2 by kernel_rfl) he
    have e0 := congrArg (·[0]?) hcs
    have e1 := congrArg (·[1]?) hcs
    simp only [List.getElem?_take, List.getElem?_drop] at e0 e1
    constructor
    · rw [World.var?_cell hg hvar (2 * i), ← Array.getElem?_toList]
      simpa [Nat.mul_comm] using e0
    · rw [World.var?_cell hg hvar (2 * i + 1), ← Array.getElem?_toList]
      simpa [Nat.mul_comm] using e1
  intro k v hv
  match k, hv with
  | 0, hv => cases hv; exact (hrow 0 65 90 (by omega) rfl).1
  | 1, hv => cases hv; exact (hrow 0 65 90 (by omega) rfl).2
  | 2, hv => cases hv; exact (hrow 1 192 214 (by omega) rfl).1
  | 3, hv => cases hv; exact (hrow 1 192 214 (by omega) rfl).2
  | 4, hv => cases hv; exact (hrow 2 216 222 (by omega) rfl).1
  | 5, hv => cases hv; exact (hrow 2 216 222 (by omega) rfl).2
  | k + 6, hv => simp at hv
theorem tabs_of {W : World} (hL : laidMetH Tryd.prog laidL W) (hs : W.ShapedOpen Tryd.prog) : Tabs W := by
  have h1 : laidMet Tryd.prog laidL W := hL
  refine ⟨?_, ?_, caps_cells (Lib.laidMet.reads h1 (.tail _ (.head _)))⟩
  · exact cell_of_shapedOpen_int (zero := #[.int .i64 0]) (t := 3) hs (of_decide_eq_true (by kernel_rfl)) (by kernel_rfl) rfl (by kernel_rfl) (by kernel_rfl) Tryd.underlying3
  · have ha : Lib.VarReads Tryd.prog W "unicode/utf8.acceptRanges" Lib.acceptData := by rw [← accept_data]; exact Lib.laidMet.reads h1 (.head _)
    have hf : Lib.VarReads Tryd.prog W "unicode/utf8.first" Lib.firstData := by rw [← first_data]; exact Lib.laidMet.reads h1 (.tail _ (.tail _ (.head _)))
    exact utf8Tabs_of_readsT (U8Types.of196 Tryd.laysV196) ⟨by kernel_rfl, by kernel_rfl, by kernel_rfl, by kernel_rfl, by kernel_rfl, by kernel_rfl, by kernel_rfl⟩ hf ha
/-- The witness's world: the settled one, the three variables as their initialisers lay them. -/
noncomputable def laidWorld (os : Os) : World :=
  let w0 := World.holding Tryd.prog os ⟨#[], #[], []⟩
  let put (h : Array Obj) (g : Nat) (cs : Array Value) : Array Obj := h.modify g fun
    | .cells _ t frozen => .cells cs t frozen
    | o => o
  let h1 := put w0.heap 0 (Lib.firstTab.map fun z => Value.int .u8 z).toArray
  let h2 := put h1 1 ((List.range 16).flatMap fun i => [Value.int .u8 (Lib.accLo i), Value.int .u8 (Lib.accHi i)]).toArray
  let h3 := put h2 2 #[.int .i32 65, .int .i32 90, .int .i32 192, .int .i32 214, .int .i32 216, .int .i32 222]
  { w0 with heap := h3 }
theorem laid_met (os : Os) (args : Array Value) : laidMet Tryd.prog laidL ((laidWorld os).forCall (fun _ _ => 0) ⟨#[], args, []⟩).memory :=
  laidMet_of_run' 8 (by kernel_rfl) (by kernel_rfl)
theorem own : ownKnob Tryd.prog.godebug = none := by kernel_rfl
theorem laidOut : laidOutB Tryd.prog = true := by kernel_rfl
theorem ult : Tryd.prog.underlying 4 = some .bool := by kernel_rfl
end Go.Proofs.YthkifgjmhpppkaaDoor
