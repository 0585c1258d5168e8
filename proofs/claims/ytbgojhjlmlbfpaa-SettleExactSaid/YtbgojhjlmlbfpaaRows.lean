/-
  No cell of these rows narrows 'for every input' (looked for: loops, veiled, ifaces, maps, wideKeys, modest, calm, conditions, laid).
  DERIVED. THE GIVEN ROWS OF THIS SEAT. 8 by the template 'for every input the law returns true; each argument reads behind the call as it read before'; 0 by the template 'total and deterministic' (their statements: YtbgojhjlmlbfpaaTotals.lean).
  GIVEN WITH THE SEED: the statements are not yours to turn. If you find one false, say at which input.
  Laid BY PROGRAM, IN A SANDBOX (cutbox-rows.mjs): the forced cells as the released guide's own fill.sh prints them over the translation fb6ca42b5ee90844… (all of the seat's roots in one cut). By AI agents, Wed Nov 11 2026. No macro, syntax, notation, axiom, sorry.
-/
import Derived.Test.YtbgojhjlmlbfpaaChecked
import GoSem.Claim
import GoSem.ClaimJoined
import GoSem.ClaimMapViews
import Derived.JoinedTies
import Derived.KernelRfl
namespace Go.Proofs.Ytbgojhjlmlbfpaa
/- THE CELL 'sum', in the pinned program and in every row, IS THE sha256 OF THE DUMP (.gsa) THAT YtbgojhjlmlbfpaaProg.lean LOADS. Nothing in Lean hashes anything: it is a label: what it is worth is what the hold of that sum in a sandbox is worth. -/
noncomputable def Try.pinned : Pinned := { name := "ytbgojhjlmlbfpaa", sum := "fb6ca42b5ee908443ea14c430ed13806566e60706dd3909c17c2c9be8bfc6917", checked := Try.checked }
namespace Rows
def none {H : Type} : Left H := { results := [], args := [] }

/-- 'tallylaw3.PlaneExact': WHATEVER THE INPUT: true; the input reads as it did. -/
def planeExactSpec : ChangeSpec := { name := "planeExact", fn := fun _ => fun
  | [d] => { results := [.lit (.bool true)], args := [d] }
  | _ => none }
def planeExactRow : OpenClaim := { program := "ytbgojhjlmlbfpaa", sum := "fb6ca42b5ee908443ea14c430ed13806566e60706dd3909c17c2c9be8bfc6917", func := "tally/tallylaw3.PlaneExact", spec := "planeExact", unfollowed := true, recurses := true, apart := false }
def PlaneExactSaid : Prop := planeExactRow.holds Try.pinned (OpenSpec.ofChange planeExactSpec)

/-- ITS FALSE NEIGHBOUR: 'it returns false'. Refute it at one input. -/
def planeExactWrong : ChangeSpec := { name := "planeExact", fn := fun _ => fun
  | [d] => { results := [.lit (.bool false)], args := [d] }
  | _ => none }
def PlaneExactWrongFalsely : Prop := planeExactRow.holds Try.pinned (OpenSpec.ofChange planeExactWrong)

/-- 'tallylaw3.PlaneOnce': WHATEVER THE INPUT: true; the input reads as it did. -/
def planeOnceSpec : ChangeSpec := { name := "planeOnce", fn := fun _ => fun
  | [d1, d2] => { results := [.lit (.bool true)], args := [d1, d2] }
  | _ => none }
def planeOnceRow : OpenClaim := { program := "ytbgojhjlmlbfpaa", sum := "fb6ca42b5ee908443ea14c430ed13806566e60706dd3909c17c2c9be8bfc6917", func := "tally/tallylaw3.PlaneOnce", spec := "planeOnce", unfollowed := true, recurses := true, apart := false }
def PlaneOnceSaid : Prop := planeOnceRow.holds Try.pinned (OpenSpec.ofChange planeOnceSpec)

/-- ITS FALSE NEIGHBOUR: 'it returns false'. Refute it at one input. -/
def planeOnceWrong : ChangeSpec := { name := "planeOnce", fn := fun _ => fun
  | [d1, d2] => { results := [.lit (.bool false)], args := [d1, d2] }
  | _ => none }
def PlaneOnceWrongFalsely : Prop := planeOnceRow.holds Try.pinned (OpenSpec.ofChange planeOnceWrong)

/-- 'tallylaw3.PlaneTurns': WHATEVER THE INPUT: true; the input reads as it did. -/
def planeTurnsSpec : ChangeSpec := { name := "planeTurns", fn := fun _ => fun
  | [d] => { results := [.lit (.bool true)], args := [d] }
  | _ => none }
def planeTurnsRow : OpenClaim := { program := "ytbgojhjlmlbfpaa", sum := "fb6ca42b5ee908443ea14c430ed13806566e60706dd3909c17c2c9be8bfc6917", func := "tally/tallylaw3.PlaneTurns", spec := "planeTurns", unfollowed := true, recurses := true, apart := false }
def PlaneTurnsSaid : Prop := planeTurnsRow.holds Try.pinned (OpenSpec.ofChange planeTurnsSpec)

/-- ITS FALSE NEIGHBOUR: 'it returns false'. Refute it at one input. -/
def planeTurnsWrong : ChangeSpec := { name := "planeTurns", fn := fun _ => fun
  | [d] => { results := [.lit (.bool false)], args := [d] }
  | _ => none }
def PlaneTurnsWrongFalsely : Prop := planeTurnsRow.holds Try.pinned (OpenSpec.ofChange planeTurnsWrong)

/-- 'tallylaw3.PlaneCopies': WHATEVER THE INPUT: true; the input reads as it did. -/
def planeCopiesSpec : ChangeSpec := { name := "planeCopies", fn := fun _ => fun
  | [d] => { results := [.lit (.bool true)], args := [d] }
  | _ => none }
def planeCopiesRow : OpenClaim := { program := "ytbgojhjlmlbfpaa", sum := "fb6ca42b5ee908443ea14c430ed13806566e60706dd3909c17c2c9be8bfc6917", func := "tally/tallylaw3.PlaneCopies", spec := "planeCopies", unfollowed := true, recurses := true, apart := false }
def PlaneCopiesSaid : Prop := planeCopiesRow.holds Try.pinned (OpenSpec.ofChange planeCopiesSpec)

/-- ITS FALSE NEIGHBOUR: 'it returns false'. Refute it at one input. -/
def planeCopiesWrong : ChangeSpec := { name := "planeCopies", fn := fun _ => fun
  | [d] => { results := [.lit (.bool false)], args := [d] }
  | _ => none }
def PlaneCopiesWrongFalsely : Prop := planeCopiesRow.holds Try.pinned (OpenSpec.ofChange planeCopiesWrong)

/-- 'tallylaw13.SettleSends': WHATEVER THE INPUT: true; the input reads as it did. -/
def settleSendsSpec : ChangeSpec := { name := "settleSends", fn := fun _ => fun
  | [d] => { results := [.lit (.bool true)], args := [d] }
  | _ => none }
def settleSendsRow : OpenClaim := { program := "ytbgojhjlmlbfpaa", sum := "fb6ca42b5ee908443ea14c430ed13806566e60706dd3909c17c2c9be8bfc6917", func := "tally/tallylaw13.SettleSends", spec := "settleSends", unfollowed := true, recurses := true, apart := false }
def SettleSendsSaid : Prop := settleSendsRow.holds Try.pinned (OpenSpec.ofChange settleSendsSpec)

/-- ITS FALSE NEIGHBOUR: 'it returns false'. Refute it at one input. -/
def settleSendsWrong : ChangeSpec := { name := "settleSends", fn := fun _ => fun
  | [d] => { results := [.lit (.bool false)], args := [d] }
  | _ => none }
def SettleSendsWrongFalsely : Prop := settleSendsRow.holds Try.pinned (OpenSpec.ofChange settleSendsWrong)

/-- 'tallylaw13.SettleDrains': WHATEVER THE INPUT: true; the input reads as it did. -/
def settleDrainsSpec : ChangeSpec := { name := "settleDrains", fn := fun _ => fun
  | [d] => { results := [.lit (.bool true)], args := [d] }
  | _ => none }
def settleDrainsRow : OpenClaim := { program := "ytbgojhjlmlbfpaa", sum := "fb6ca42b5ee908443ea14c430ed13806566e60706dd3909c17c2c9be8bfc6917", func := "tally/tallylaw13.SettleDrains", spec := "settleDrains", unfollowed := true, recurses := true, apart := false }
def SettleDrainsSaid : Prop := settleDrainsRow.holds Try.pinned (OpenSpec.ofChange settleDrainsSpec)

/-- ITS FALSE NEIGHBOUR: 'it returns false'. Refute it at one input. -/
def settleDrainsWrong : ChangeSpec := { name := "settleDrains", fn := fun _ => fun
  | [d] => { results := [.lit (.bool false)], args := [d] }
  | _ => none }
def SettleDrainsWrongFalsely : Prop := settleDrainsRow.holds Try.pinned (OpenSpec.ofChange settleDrainsWrong)

/-- 'tallylaw13.SettleExact': WHATEVER THE INPUT: true; the input reads as it did. -/
def settleExactSpec : ChangeSpec := { name := "settleExact", fn := fun _ => fun
  | [d] => { results := [.lit (.bool true)], args := [d] }
  | _ => none }
def settleExactRow : OpenClaim := { program := "ytbgojhjlmlbfpaa", sum := "fb6ca42b5ee908443ea14c430ed13806566e60706dd3909c17c2c9be8bfc6917", func := "tally/tallylaw13.SettleExact", spec := "settleExact", unfollowed := true, recurses := true, apart := false }
def SettleExactSaid : Prop := settleExactRow.holds Try.pinned (OpenSpec.ofChange settleExactSpec)

/-- ITS FALSE NEIGHBOUR: 'it returns false'. Refute it at one input. -/
def settleExactWrong : ChangeSpec := { name := "settleExact", fn := fun _ => fun
  | [d] => { results := [.lit (.bool false)], args := [d] }
  | _ => none }
def SettleExactWrongFalsely : Prop := settleExactRow.holds Try.pinned (OpenSpec.ofChange settleExactWrong)

/-- 'tallylaw13.SettleFresh': WHATEVER THE INPUT: true; the input reads as it did. -/
def settleFreshSpec : ChangeSpec := { name := "settleFresh", fn := fun _ => fun
  | [d] => { results := [.lit (.bool true)], args := [d] }
  | _ => none }
def settleFreshRow : OpenClaim := { program := "ytbgojhjlmlbfpaa", sum := "fb6ca42b5ee908443ea14c430ed13806566e60706dd3909c17c2c9be8bfc6917", func := "tally/tallylaw13.SettleFresh", spec := "settleFresh", unfollowed := true, recurses := true, apart := false }
def SettleFreshSaid : Prop := settleFreshRow.holds Try.pinned (OpenSpec.ofChange settleFreshSpec)

/-- ITS FALSE NEIGHBOUR: 'it returns false'. Refute it at one input. -/
def settleFreshWrong : ChangeSpec := { name := "settleFresh", fn := fun _ => fun
  | [d] => { results := [.lit (.bool false)], args := [d] }
  | _ => none }
def SettleFreshWrongFalsely : Prop := settleFreshRow.holds Try.pinned (OpenSpec.ofChange settleFreshWrong)

/- THE SECOND FORM. 'bulk': how many values and letters a reading holds, each counted each time it is reached (what is shared counts as often as it is met; a slice's spare places count too). A statement '..UptoSaid' is the law's where the arguments, and the package variables that the reading takes, are together of bulk at most 1048576: NARROWER than '..Said'. Prove '..Said' where nothing that the law and all that it calls make is longer than what came in: it says more and counts as full. Else prove '..UptoSaid'. A law counts once. -/
mutual
def uptoBulk {H : Type} : DataW H → Nat
  | .lit (.string bytes) => bytes.length + 1
  | .lit _ => 1
  | .nil => 1
  | .ptr d => uptoBulk d + 1
  | .slice elems spare => uptoBulkAll elems + uptoBulkAll spare + 1
  | .agg parts => uptoBulkAll parts + 1
  | .iface _ d => uptoBulk d + 1
  | .map entries => uptoBulkEntries entries + 1
  | .held _ => 1
def uptoBulkAll {H : Type} : List (DataW H) → Nat
  | [] => 0
  | d :: r => uptoBulk d + uptoBulkAll r
def uptoBulkEntries {H : Type} : List (Lit × DataW H) → Nat
  | [] => 0
  | x :: r => uptoBulkEntry x + uptoBulkEntries r
def uptoBulkEntry {H : Type} : Lit × DataW H → Nat
  | (.string bytes, d) => bytes.length + uptoBulk d + 1
  | (_, d) => uptoBulk d + 1
 end
def uptoSmall : (H : Type) → List (DataW H) → Bool := fun _ ds => decide (uptoBulkAll ds ≤ 1048576)
def OpenSpec.upto (s : _root_.Go.ChangeSpec) : _root_.Go.OpenSpec := { _root_.Go.OpenSpec.ofChange s with cond := some uptoSmall }

/-- 'tallylaw3.PlaneExact', WHERE WHAT IT READS IS OF BULK AT MOST 1048576: true; the input reads as it did. -/
def planeExactUptoRow : OpenClaim := { program := "ytbgojhjlmlbfpaa", sum := "fb6ca42b5ee908443ea14c430ed13806566e60706dd3909c17c2c9be8bfc6917", func := "tally/tallylaw3.PlaneExact", spec := "planeExact", unfollowed := true, recurses := true, apart := false, narrowed := true }
def PlaneExactUptoSaid : Prop := planeExactUptoRow.holds Try.pinned (OpenSpec.upto planeExactSpec)

/-- 'tallylaw3.PlaneOnce', WHERE WHAT IT READS IS OF BULK AT MOST 1048576: true; the input reads as it did. -/
def planeOnceUptoRow : OpenClaim := { program := "ytbgojhjlmlbfpaa", sum := "fb6ca42b5ee908443ea14c430ed13806566e60706dd3909c17c2c9be8bfc6917", func := "tally/tallylaw3.PlaneOnce", spec := "planeOnce", unfollowed := true, recurses := true, apart := false, narrowed := true }
def PlaneOnceUptoSaid : Prop := planeOnceUptoRow.holds Try.pinned (OpenSpec.upto planeOnceSpec)

/-- 'tallylaw3.PlaneTurns', WHERE WHAT IT READS IS OF BULK AT MOST 1048576: true; the input reads as it did. -/
def planeTurnsUptoRow : OpenClaim := { program := "ytbgojhjlmlbfpaa", sum := "fb6ca42b5ee908443ea14c430ed13806566e60706dd3909c17c2c9be8bfc6917", func := "tally/tallylaw3.PlaneTurns", spec := "planeTurns", unfollowed := true, recurses := true, apart := false, narrowed := true }
def PlaneTurnsUptoSaid : Prop := planeTurnsUptoRow.holds Try.pinned (OpenSpec.upto planeTurnsSpec)

/-- 'tallylaw3.PlaneCopies', WHERE WHAT IT READS IS OF BULK AT MOST 1048576: true; the input reads as it did. -/
def planeCopiesUptoRow : OpenClaim := { program := "ytbgojhjlmlbfpaa", sum := "fb6ca42b5ee908443ea14c430ed13806566e60706dd3909c17c2c9be8bfc6917", func := "tally/tallylaw3.PlaneCopies", spec := "planeCopies", unfollowed := true, recurses := true, apart := false, narrowed := true }
def PlaneCopiesUptoSaid : Prop := planeCopiesUptoRow.holds Try.pinned (OpenSpec.upto planeCopiesSpec)

/-- 'tallylaw13.SettleSends', WHERE WHAT IT READS IS OF BULK AT MOST 1048576: true; the input reads as it did. -/
def settleSendsUptoRow : OpenClaim := { program := "ytbgojhjlmlbfpaa", sum := "fb6ca42b5ee908443ea14c430ed13806566e60706dd3909c17c2c9be8bfc6917", func := "tally/tallylaw13.SettleSends", spec := "settleSends", unfollowed := true, recurses := true, apart := false, narrowed := true }
def SettleSendsUptoSaid : Prop := settleSendsUptoRow.holds Try.pinned (OpenSpec.upto settleSendsSpec)

/-- 'tallylaw13.SettleDrains', WHERE WHAT IT READS IS OF BULK AT MOST 1048576: true; the input reads as it did. -/
def settleDrainsUptoRow : OpenClaim := { program := "ytbgojhjlmlbfpaa", sum := "fb6ca42b5ee908443ea14c430ed13806566e60706dd3909c17c2c9be8bfc6917", func := "tally/tallylaw13.SettleDrains", spec := "settleDrains", unfollowed := true, recurses := true, apart := false, narrowed := true }
def SettleDrainsUptoSaid : Prop := settleDrainsUptoRow.holds Try.pinned (OpenSpec.upto settleDrainsSpec)

/-- 'tallylaw13.SettleExact', WHERE WHAT IT READS IS OF BULK AT MOST 1048576: true; the input reads as it did. -/
def settleExactUptoRow : OpenClaim := { program := "ytbgojhjlmlbfpaa", sum := "fb6ca42b5ee908443ea14c430ed13806566e60706dd3909c17c2c9be8bfc6917", func := "tally/tallylaw13.SettleExact", spec := "settleExact", unfollowed := true, recurses := true, apart := false, narrowed := true }
def SettleExactUptoSaid : Prop := settleExactUptoRow.holds Try.pinned (OpenSpec.upto settleExactSpec)

/-- 'tallylaw13.SettleFresh', WHERE WHAT IT READS IS OF BULK AT MOST 1048576: true; the input reads as it did. -/
def settleFreshUptoRow : OpenClaim := { program := "ytbgojhjlmlbfpaa", sum := "fb6ca42b5ee908443ea14c430ed13806566e60706dd3909c17c2c9be8bfc6917", func := "tally/tallylaw13.SettleFresh", spec := "settleFresh", unfollowed := true, recurses := true, apart := false, narrowed := true }
def SettleFreshUptoSaid : Prop := settleFreshUptoRow.holds Try.pinned (OpenSpec.upto settleFreshSpec)

end Rows
end Go.Proofs.Ytbgojhjlmlbfpaa
