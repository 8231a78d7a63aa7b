/- A region of a function as a term of its own: a drawn region is walked in a text of its own, once. -/
import Derived.Test.YtnoookcfacmdkaaRegI
namespace Go.Proofs.Ytnoookcfacmdkaa
def findR (n : Nat) : Code → Option (Array Oper)
  | .region i ops _ => if i == n then some ops else none
  | .seq a b => match findR n a with | some x => some x | none => findR n b
  | .cond _ a b => match findR n a with | some x => some x | none => findR n b
  | .block _ b => findR n b
  | .loop b => findR n b
  | .scope b => findR n b
  | _ => none
/-- written out by: simp only [regOps, Try.f<k>, findR, Option.bind_some, Nat.reduceBEq, Bool.false_eq_true, Option.getD_some, ↓reduceIte, reduceCtorEq] -/
def regOps (f : Func) (n : Nat) : Array Oper := (f.body.bind (findR n)).getD #[]
end Go.Proofs.Ytnoookcfacmdkaa
