/- What the methods of a pace do to its block: contracts by walking (New, Tick, send, wait, Reset, Wait, into). -/
import Derived.Test.YtbgojhjlmlbfpaaProg
import Derived.Test.YtbgojhjlmlbfpaaMem
namespace Go.Proofs.Ytbgojhjlmlbfpaa
open Go.RowKit

/-- The block of a pace: cap, left, gap, and whether the next tick is a time. -/
def paceFn (b : Nat) (s : Bool) : Value := .func (.func (match s with | true => 102 | false => 128)) #[.pointer (some ⟨b, 0, none⟩)] #[]
def paceObj (b : Nat) (c l g : Int) (s : Bool) : Obj := .cells #[.int .i64 c, .int .i64 l, .int .i64 g, paceFn b s] 177 (0, 0)

end Go.Proofs.Ytbgojhjlmlbfpaa
