/- The argument Power opened; DiskSafe's law. -/
import Derived.Test.YtgkpobajafjdeaaDsE
namespace Go.Proofs.Ytgkpobajafjdeaa
open Go.ChangeShapes Go.WideShapes Go.ChangeAt Go.RowKit

theorem power_open {W : World} {cs : List Value} (h : TrW Try.prog W 65 cs) : ∃ (A0 : Option Addr) (c0 : Nat) (off : Int) (Ap : Option Addr) (cp : Nat) (A1 : Option Addr) (c1 : Nat) (An : Option Addr) (cn : Nat) (l l1 : List OpQ) (ps ns : List Int), cs = (powerC A0 l.length c0 off Ap ps.length cp A1 l1.length c1 An ns.length cn).toList ∧ OpsIn W A0 l ∧ (∀ q ∈ l, q.At W W.heap.size) ∧ OpsIn W A1 l1 ∧ (∀ q ∈ l1, q.At W W.heap.size) ∧ ps.length ≤ cp ∧ PicksIn W Ap ps ∧ ns.length ≤ cn ∧ PicksIn W An ns ∧ ns.length ≤ 17592186044416 := by
  have hl := (TrW.struct Try.underlying65 h).1
  obtain ⟨x0, x1, x2, x3, x4, rfl⟩ := list5 (hl.trans (by kernel_rfl : _ = 5))
  obtain ⟨A0, c0, l, e0, _, hA, hq⟩ := ops_in (TrW.field Try.underlying65 h 0 rfl (n := 1) (by kernel_rfl))
  obtain ⟨off, e1, _⟩ := (TrW.field Try.underlying65 h 1 rfl (n := 1) (by kernel_rfl)).tr.int Try.underlying3
  obtain ⟨Ap, cp, ps, e2, hcp, hP⟩ := ints_in (TrW.field Try.underlying65 h 2 rfl (n := 1) (by kernel_rfl))
  obtain ⟨A1, c1, l1, e3, _, hA1, hq1⟩ := ops_in (TrW.field Try.underlying65 h 3 rfl (n := 1) (by kernel_rfl))
  have h4 := TrW.field Try.underlying65 h 4 rfl (n := 1) (by kernel_rfl)
  obtain ⟨An, cn, ns, e4, hcn, hN⟩ := ints_in h4
  have hns : ns.length ≤ 17592186044416 := by
    obtain ⟨A, n, c, e, h1, h2, hw, _⟩ := TrW.slice Try.underlying23 (size := 1) (by kernel_rfl) (by omega) h4
    rw [(by kernel_rfl : Try.prog.bytesOf 3 = 8)] at hw
    have hrb : reachBytes = 140737488351232 := rfl
    simp at e e4
    rw [e] at e4
    injection e4 with _ e4 _
    omega
  simp at e0 e1 e2 e3 e4
  subst e0 e1 e2 e3 e4
  exact ⟨A0, c0, off, Ap, cp, A1, c1, An, cn, l, l1, ps, ns, rfl, hA, hq, hA1, hq1, hcp, hP, hcn, hN, hns⟩
set_option maxRecDepth 100000 in
theorem law_DiskSafe {H : Type} (enc : TypeId × Value → H) (W : World) {base : Nat} (v : Value) (d : DataW H) (ps : List MemPlace)
    (hok : Value.okWide Try.prog W .any base 65 v) (h : DataW.Trod enc Try.prog W 0 (fun _ => true) true 65 v d ps)
    (hsz0 : (DataW.weightsEach Try.prog [65] [d]).all (· ≤ reachBytes) = true) :
    Calls Try.prog 5 #[v] W fun e W' => e = .returned (.bool true) ∧ Below W.heap.size W W' := by
  obtain ⟨cs, rfl, hsz⟩ := okWide_struct Try.underlying65 hok
  have hT := TrW.of h hsz0
  obtain ⟨cs⟩ := cs
  simp only [Value.cells] at hT
  obtain ⟨A0, c0, off, Ap, cp, A1, c1, An, cn, l, l1, ps, ns, hcs, hA, hq, hA1, hq1, hcp, hP, _⟩ := power_open hT
  obtain rfl : cs = (powerC A0 l.length c0 off Ap ps.length cp A1 l1.length c1 An ns.length cn).toList := hcs
  exact safe_walk W A0 l.length c0 off Ap ps.length cp A1 l1.length c1 An ns.length cn l rfl hA hq l1 rfl hA1 hq1 ps rfl hcp hP
end Go.Proofs.Ytgkpobajafjdeaa
