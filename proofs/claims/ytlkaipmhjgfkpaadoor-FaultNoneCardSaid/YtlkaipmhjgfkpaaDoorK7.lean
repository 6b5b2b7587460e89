/- The seventh part of the layer: the words that the printed formulas use besides. No condition. -/
import Derived.Test.YtlkaipmhjgfkpaaDoorK6
namespace Go.Proofs.YtlkaipmhjgfkpaaDoorK
open Go
set_option linter.unusedSimpArgs false
set_option linter.unusedVariables false

def Let {α : Sort _} (x : α) (k : α → Prop) : Prop := k x
def ibAnd (k : IntKind) (x y : Int) : Int := k.wrap ((BitVec.ofInt k.bits x &&& BitVec.ofInt k.bits y).toNat : Int)
def ibOr (k : IntKind) (x y : Int) : Int := k.wrap ((BitVec.ofInt k.bits x ||| BitVec.ofInt k.bits y).toNat : Int)
def ibXor (k : IntKind) (x y : Int) : Int := k.wrap ((BitVec.ofInt k.bits x ^^^ BitVec.ofInt k.bits y).toNat : Int)
def ibAndNot (k : IntKind) (x y : Int) : Int := k.wrap ((BitVec.ofInt k.bits x &&& ~~~BitVec.ofInt k.bits y).toNat : Int)
def ibNot (k : IntKind) (x : Int) : Int := ibXor k (if k.signed then -1 else k.max) x
def strEq (a b : ByteArray) : Bool := a.toList == b.toList
def strLt (a b : ByteArray) : Bool := Op.bytesLess a.toList b.toList
def catS (a b : ByteArray) (K : ByteArray → Prop) : Prop := a.size + b.size ≤ 9223372036854775807 ∧ K (a ++ b)
/-- A function without a body, by the machine's entry for it. -/
theorem ext_to {P : Program} {f : FuncId} {fn : Func} {e : Array Value → Sem Value} {args : List Value} {shs : List Sh} {h : Hp} {K : St shs → Hp → Prop} (hf : P.funcs[f]? = some fn) (hb : fn.body = none) (hn : Nat.beq fn.name.length 20 = Nat.beq fn.name.length 20)
    (hx : (Option.isNone (Extern.findNext fn) && !(fn.name == "runtime.NumGoroutine")) = true) (he : (Extern.find fn) = some e) (hk : wpS P (e args.toArray) h fun v h => ∃ s : St shs, v = mkRes shs s ∧ K s h) : ExtT P f args shs h K := by
  rw [Bool.and_eq_true, Bool.not_eq_true'] at hx
  have h1 : fn.name ≠ "runtime.NumGoroutine" := by simpa using hx.2
  have h2 : Extern.findNext fn = none := by simpa using hx.1
  unfold ExtT extK callFunc
  refine wpS_bind ((show ∀ G : Program → Hp → Prop, G P h → wpS P program h G from fun G hG => hG) _ ?_)
  simp only [hf, h1, beq_iff_eq, if_false, hb, Option.isNone_none, if_true]
  refine wpS_bind ((show ∀ (m : Mark) (G : Unit → Hp → Prop), G () h → wpS P (mark m) h G from fun m G hG => hG) _ _ ?_)
  simp only [h2, he]
  exact wpS_bind (hk.mono fun v h' hv => hv)
end Go.Proofs.YtlkaipmhjgfkpaaDoorK
