/- TextMoney: the argument opened, the walk taken. -/
import Derived.Test.YthkifgjmhpppkaaDoorTxV
namespace Go.Proofs.YthkifgjmhpppkaaDoor
open Go.RowKit

set_option maxRecDepth 100000 in
open Go.ChangeShapes Go.WideShapes Go.ChangeAt Go.Joins in
theorem law_TextMoney {H : Type} (enc : TypeId × Value → H) (W : World) {base : Nat} (v : Value) (d : DataW H) (ps : List MemPlace)
    (hok : Value.okWide Tryd.prog W .any base 25 v) (h : DataW.Trod enc Tryd.prog W 0 (fun _ => true) true 25 v d ps)
    (hT : Tabs W) (hbulk : Rows.uptoBulkAll [d] ≤ 1048576) : Calls Tryd.prog 5 #[v] W (Begun W) := by
  obtain ⟨c0, c1, y0, y1, n, rfl, rfl, rfl, hy0, hy1⟩ := open_agg2 Tryd.underlying25 (by kernel_rfl) (by kernel_rfl) hok h
  obtain ⟨A0, L, k0, rfl, _, hL, hl0, hLs⟩ := strs_of hy0
  obtain ⟨A1, N, k1, rfl, _, hN, hwf, hl1⟩ := ints_of Tryd.underlying23 Tryd.underlying27 (by kernel_rfl) hy1
  have hB : Rows.uptoBulkAll [DataW.agg [y0.1, y1.1]] = Rows.uptoBulk y0.1 + Rows.uptoBulk y1.1 + 1 := by simp [Rows.uptoBulkAll, Rows.uptoBulk]
  rw [hB] at hbulk
  clear hB h hok hy0 hy1
  generalize Rows.uptoBulk y0.1 = b0 at hbulk hl0 hLs
  generalize Rows.uptoBulk y1.1 = b1 at hbulk hl1
  exact textMoney_walk A0 A1 k0 k1 L N W hT hL hN (fun s hs => by have := hLs s hs; omega) (fun n hn => u64_wf (hwf n hn)) (by omega) (by omega)
end Go.Proofs.YthkifgjmhpppkaaDoor
