/- The seventh part of the layer: the words that the printed formulas use besides. No condition. -/
import Derived.Test.YtlbpmophbmbfiaaK6
namespace Go.Proofs.YtlbpmophbmbfiaaK
open Go
set_option linter.unusedSimpArgs false
set_option linter.unusedVariables false

def Let {α : Sort _} (x : α) (k : α → Prop) : Prop := k x
def ibAnd (k : IntKind) (x y : Int) : Int := k.wrap ((BitVec.ofInt k.bits x &&& BitVec.ofInt k.bits y).toNat : Int)
def ibOr (k : IntKind) (x y : Int) : Int := k.wrap ((BitVec.ofInt k.bits x ||| BitVec.ofInt k.bits y).toNat : Int)
def ibXor (k : IntKind) (x y : Int) : Int := k.wrap ((BitVec.ofInt k.bits x ^^^ BitVec.ofInt k.bits y).toNat : Int)
def ibAndNot (k : IntKind) (x y : Int) : Int := k.wrap ((BitVec.ofInt k.bits x &&& ~~~BitVec.ofInt k.bits y).toNat : Int)
def ibNot (k : IntKind) (x : Int) : Int := ibXor k (if k.signed then -1 else k.max) x
def strEq (a b : ByteArray) : Bool := a.toList == b.toList
def strLt (a b : ByteArray) : Bool := Op.bytesLess a.toList b.toList
def catS (a b : ByteArray) (K : ByteArray → Prop) : Prop := a.size + b.size ≤ 9223372036854775807 ∧ K (a ++ b)
end Go.Proofs.YtlbpmophbmbfiaaK
