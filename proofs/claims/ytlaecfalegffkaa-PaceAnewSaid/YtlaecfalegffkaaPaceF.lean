/- PaceBounded and PaceAnew: the argument opened (a struct of a number, a slice of numbers, a number), and the walk taken. -/
import Derived.Test.YtlaecfalegffkaaRows
import Derived.Test.YtlaecfalegffkaaPaceE
import Derived.ProofKit
import Derived.OpenShut
import Derived.Lib.SmallJoins
namespace Go.Proofs.Ytlaecfalegffkaa
open Go.ChangeShapes Go.WideShapes Go.ChangeAt Go.RowKit Go.Joins

theorem run_open {H : Type} (enc : TypeId × Value → H) (W : World) {base : Nat} (v : Value) (d : DataW H) (ps : List MemPlace)
    (hok : Value.okWide Try.prog W .any base 40 v) (h : DataW.Trod enc Try.prog W 0 (fun _ => true) true 40 v d ps) :
    ∃ (cp : Int) (A : Option Addr) (n cap : Nat) (tk : Int) (xs : List Int), v = .agg #[.int .i64 cp, .slice A n cap, .int .i64 tk] ∧ IntsAt W A n xs ∧ n ≤ 9223372036854775807 := by
  obtain ⟨c0, c1, c2, y0, y1, y2, m, rfl, rfl, rfl, hy0, hy1, hy2⟩ := open_agg3 Try.underlying40 (by kernel_rfl) (by kernel_rfl) hok h
  obtain ⟨a, e0, _, _⟩ := DataW.trod_int Try.underlying3 hy0
  obtain ⟨t, e2, _, _⟩ := DataW.trod_int Try.underlying3 hy2
  simp at e0 e2
  subst e0 e2
  rcases open_ints Try.underlying38 Try.underlying3 (by kernel_rfl) hy1 with ⟨hcs, _⟩ | ⟨x, l, c, zs, hcs, _, hl, hm, hz, _, hcell, _⟩
  · simp at hcs
    subst hcs
    exact ⟨a, none, 0, 0, t, [], rfl, fun k hk => by omega, by omega⟩
  · simp at hcs
    subst hcs
    simp at hz
    unfold maxLen at hm
    refine ⟨a, some x, l, c, t, zs, rfl, fun k hk => ⟨x, rfl, ?_, hcell k (by omega)⟩, by omega⟩
    have := World.block_lt_of_cell? W _ (hcell k (by omega))
    rwa [block_add] at this

theorem law_PaceBounded {H : Type} (enc : TypeId × Value → H) (W : World) {base : Nat} (v : Value) (d : DataW H) (ps : List MemPlace)
    (hok : Value.okWide Try.prog W .any base 40 v) (h : DataW.Trod enc Try.prog W 0 (fun _ => true) true 40 v d ps)
    (_hsz : (DataW.weightsEach Try.prog [40] [d]).all (· ≤ reachBytes) = true) :
    Calls Try.prog 4 #[v] W fun e W' => e = .returned (.bool true) ∧ Below W.heap.size W W' := by
  obtain ⟨cp, A, n, cap, tk, xs, rfl, hx, hn⟩ := run_open enc W v d ps hok h
  exact paceBounded_walk cp A n cap tk xs W hx hn

theorem law_PaceAnew {H : Type} (enc : TypeId × Value → H) (W : World) {base : Nat} (v : Value) (d : DataW H) (ps : List MemPlace)
    (hok : Value.okWide Try.prog W .any base 40 v) (h : DataW.Trod enc Try.prog W 0 (fun _ => true) true 40 v d ps)
    (_hsz : (DataW.weightsEach Try.prog [40] [d]).all (· ≤ reachBytes) = true) :
    Calls Try.prog 5 #[v] W fun e W' => e = .returned (.bool true) ∧ Below W.heap.size W W' := by
  obtain ⟨cp, A, n, cap, tk, xs, rfl, hx, hn⟩ := run_open enc W v d ps hok h
  exact paceAnew_walk cp A n cap tk xs W hx hn
end Go.Proofs.Ytlaecfalegffkaa
