/- One operation of a walk, by an equation on its run; the operation's own form is asked first. -/
import Derived.Test.YtngglpekdjhbdaaKit
import Derived.Deep.CutRange
import Derived.Deep.CutBlock
namespace Go.Proofs.Ytngglpekdjhbdaa
open Go.RowKit
set_option linter.unusedSimpArgs false
set_option linter.unusedVariables false

section
variable {P : Program} {ops : Array Oper} {rest : List Oper} {o : Oper} {a : Act} {w w' : World} {Q : Exit → Act → World → Prop} {v : Value}
theorem wpList_appendAt {s x : Operand} {ts : Array TypeId} {V X : Value}
    (hg : Region.wanted o (yielded ops a.tmps) = true) (ho : o.op = .call { callee := .builtin .append, args := #[s, x], argTypes := ts }) (hs : a.eval s = V) (hx : a.eval x = X)
    (hrun : (Builtin.append_ ts o.type #[V, X]).run P w = .ok v w') (h : wpList P ops Q rest (a.put o.dst v) w') : wpList P ops Q (o :: rest) a w := by
  subst hs; subst hx
  exact wpList_val hg (by unfold execOp; simp only [ho, resolve, invoke, builtin, Sem.run_bind, Sem.run_pure, Result.andThen_ok, List.map_toArray, List.map_cons, List.map_nil, hrun]) h
theorem xLoad {t : TypeId} {p : Operand} {V : Value} (ho : o.op = .load t p) (hp : a.eval p = V)
    (hrun : (Instr.loadAt t V).run P w = .ok v w') (hg : Region.wanted o (yielded ops a.tmps) = true) (h : wpList P ops Q rest (a.put o.dst v) w') : wpList P ops Q (o :: rest) a w := wpList_load hg ho hp hrun h
theorem xAlloc {t : TypeId} {z : Value} (ho : o.op = .alloc t) (hz : ∀ w, (zeroValue t).run P w = .ok z w) (hg : Region.wanted o (yielded ops a.tmps) = true)
    (h : wpList P ops Q rest (a.put o.dst (.pointer (some ⟨w.heap.size, 0, none⟩))) (w.alloc (.cells z.cells t))) : wpList P ops Q (o :: rest) a w := wpList_alloc hg ho hz h
theorem xStore {t : TypeId} {p x : Operand} {V X : Value} (ho : o.op = .store t p x) (hp : a.eval p = V) (hx : a.eval x = X)
    (hrun : (Instr.storeAt t V X).run P w = .ok () w') (hg : Region.wanted o (yielded ops a.tmps) = true) (h : wpList P ops Q rest (a.put o.dst undef) w') : wpList P ops Q (o :: rest) a w := wpList_store hg ho hp hx hrun h
theorem xConvert {s d : TypeId} {x : Operand} {X : Value} (ho : o.op = .convert s d x) (hx : a.eval x = X)
    (hrun : (convert s d X).run P w = .ok v w') (hg : Region.wanted o (yielded ops a.tmps) = true) (h : wpList P ops Q rest (a.put o.dst v) w') : wpList P ops Q (o :: rest) a w := wpList_convert hg ho hx hrun h
theorem xAppend {s x : Operand} {t : TypeId} {V X : Value} (ho : o.op = .call { callee := .builtin .append, args := #[s, x], argTypes := #[t, t] }) (hs : a.eval s = V) (hx : a.eval x = X)
    (hrun : (Builtin.append_ #[t, t] o.type #[V, X]).run P w = .ok v w') (hg : Region.wanted o (yielded ops a.tmps) = true) (h : wpList P ops Q rest (a.put o.dst v) w') : wpList P ops Q (o :: rest) a w := wpList_appendAt hg ho hs hx hrun h
theorem xLoadAt {t : TypeId} {p : Operand} {V : Value} (ho : o.op = .load t p) (hrun : (Instr.loadAt t V).run P w = .ok v w') (hp : a.eval p = V)
    (hg : Region.wanted o (yielded ops a.tmps) = true) (h : wpList P ops Q rest (a.put o.dst v) w') : wpList P ops Q (o :: rest) a w := wpList_load hg ho hp hrun h
theorem xStoreAt {t : TypeId} {p x : Operand} {V X : Value} (ho : o.op = .store t p x) (hrun : (Instr.storeAt t V X).run P w = .ok () w') (hp : a.eval p = V) (hx : a.eval x = X)
    (hg : Region.wanted o (yielded ops a.tmps) = true) (h : wpList P ops Q rest (a.put o.dst undef) w') : wpList P ops Q (o :: rest) a w := wpList_store hg ho hp hx hrun h
theorem xConvertAt {s d : TypeId} {x : Operand} {X : Value} (ho : o.op = .convert s d x) (hrun : (convert s d X).run P w = .ok v w') (hx : a.eval x = X)
    (hg : Region.wanted o (yielded ops a.tmps) = true) (h : wpList P ops Q rest (a.put o.dst v) w') : wpList P ops Q (o :: rest) a w := wpList_convert hg ho hx hrun h
theorem xLookup {t : TypeId} {x i : Operand} {ok : Bool} {X I : Value} (ho : o.op = .lookup t x i ok) (hrun : (Instr.lookup t X I ok).run P w = .ok v w') (hx : a.eval x = X) (hi : a.eval i = I)
    (hg : Region.wanted o (yielded ops a.tmps) = true) (h : wpList P ops Q rest (a.put o.dst v) w') : wpList P ops Q (o :: rest) a w := wpList_lookup hg ho hx hi hrun h
theorem xAppendAt {s x : Operand} {ts : Array TypeId} {ty : TypeId} {V X : Value} (hrun : (Builtin.append_ ts ty #[V, X]).run P w = .ok v w') (ho : o.op = .call { callee := .builtin .append, args := #[s, x], argTypes := ts }) (hty : o.type = ty) (hs : a.eval s = V) (hx : a.eval x = X)
    (hg : Region.wanted o (yielded ops a.tmps) = true) (h : wpList P ops Q rest (a.put o.dst v) w') : wpList P ops Q (o :: rest) a w := wpList_appendAt hg ho hs hx (by rw [hty]; exact hrun) h
/-- '==', '!=' of two structs. -/
theorem xEqAgg {bop : BinOp} {t u : TypeId} {x y : Operand} {X Y : Array Value} {r : Bool} (ho : o.op = .binOp bop t x y u) (hrun : (binOp bop t (.agg X) (.agg Y)).run P w = .ok (.bool r) w) (hq : P.eqGuardType P.depth t = false) (hx : a.eval x = .agg X) (hy : a.eval y = .agg Y)
    (hg : Region.wanted o (yielded ops a.tmps) = true) (h : wpList P ops Q rest (a.put o.dst (.bool r)) w) : wpList P ops Q (o :: rest) a w := by
  refine wpList_val hg ?_ h
  unfold execOp
  rw [ho]
  simp only [hx, hy, Sem.run_bind, run_eqGuard_agg w bop t x y X Y hq, Result.andThen_ok, hrun]
  rfl
/-- A shift. -/
theorem xShift {bop : BinOp} {t u : TypeId} {x y : Operand} {X Y : Value} (ho : o.op = .binOp bop t x y u) (hb : bop = .shr ∨ bop = .shl) (hrun : (binOp bop t X Y).run P w = .ok v w') (hx : a.eval x = X) (hy : a.eval y = Y)
    (hg : Region.wanted o (yielded ops a.tmps) = true) (h : wpList P ops Q rest (a.put o.dst v) w') : wpList P ops Q (o :: rest) a w := by
  refine wpList_val hg ?_ h
  unfold execOp
  rw [ho]
  rcases hb with rfl | rfl <;> simp [hx, hy, Sem.run_bind, eqGuard, hrun]
end
end Go.Proofs.Ytngglpekdjhbdaa
