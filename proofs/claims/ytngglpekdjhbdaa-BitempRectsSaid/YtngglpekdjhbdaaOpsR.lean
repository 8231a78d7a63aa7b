/- An operation by an equation on its run, within a round of a range over a function. No program is named here. -/
import Derived.TacticsIn
import Derived.RangeFuncCalls
import Derived.Test.YtngglpekdjhbdaaOps
namespace Go.Proofs.Ytngglpekdjhbdaa
open Go.RowKit Go.ChangeMaps Go.Deep
set_option linter.unusedSimpArgs false
set_option linter.unusedVariables false
section
variable {r n : Nat} {P : Program} {ops : Array Oper} {rest : List Oper} {o : Oper} {a : Act} {w w' : World} {Q : Exit → Act → World → Prop} {v : Value}
theorem wpListIn_valR (hd : ∀ c, o.op ≠ .defer c) (hg : Region.wanted o (yielded ops a.tmps) = true)
    (hrun : (execOp a.eval o).run P w = .ok (.value v) w') (h : wpListIn (Fence.wide.inRound r) n P ops Q rest (a.put o.dst v) w') : wpListIn (Fence.wide.inRound r) n P ops Q (o :: rest) a w := by
  simp only [wpListIn, hg, if_true]
  refine ⟨fun _ _ => trivial, ?_⟩
  rw [show (Fence.wide.inRound r).round = some r from rfl, Oper.semAt_some r a.eval o hd, hrun]
  exact h
theorem wpListIn_skipR (hd : ∀ c, o.op ≠ .defer c) (hg : Region.wanted o (yielded ops a.tmps) = true)
    (hrun : (execOp a.eval o).run P w = .ok .skip w') (h : wpListIn (Fence.wide.inRound r) n P ops Q rest (a.put o.dst undef) w') : wpListIn (Fence.wide.inRound r) n P ops Q (o :: rest) a w := by
  simp only [wpListIn, hg, if_true]
  refine ⟨fun _ _ => trivial, ?_⟩
  rw [show (Fence.wide.inRound r).round = some r from rfl, Oper.semAt_some r a.eval o hd, hrun]
  exact h
theorem xLoadR {t : TypeId} {p : Operand} {V : Value} (ho : o.op = .load t p) (hrun : (Instr.loadAt t V).run P w = .ok v w') (hp : a.eval p = V)
    (hg : Region.wanted o (yielded ops a.tmps) = true) (h : wpListIn (Fence.wide.inRound r) n P ops Q rest (a.put o.dst v) w') : wpListIn (Fence.wide.inRound r) n P ops Q (o :: rest) a w :=
  wpListIn_valR (fun c e => by rw [ho] at e; cases e) hg (exec_load ho hp hrun) h
theorem xStoreR {t : TypeId} {p x : Operand} {V X : Value} (ho : o.op = .store t p x) (hrun : (Instr.storeAt t V X).run P w = .ok () w') (hp : a.eval p = V) (hx : a.eval x = X)
    (hg : Region.wanted o (yielded ops a.tmps) = true) (h : wpListIn (Fence.wide.inRound r) n P ops Q rest (a.put o.dst undef) w') : wpListIn (Fence.wide.inRound r) n P ops Q (o :: rest) a w := by
  subst hx; subst hp
  exact wpListIn_skipR (fun c e => by rw [ho] at e; cases e) hg (by unfold execOp; rw [ho]; simp [Sem.run_bind, hrun, Result.andThen]) h
theorem exec_append {s x : Operand} {ts : Array TypeId} {ty : TypeId} {V X : Value} (ho : o.op = .call { callee := .builtin .append, args := #[s, x], argTypes := ts }) (hty : o.type = ty) (hs : a.eval s = V) (hx : a.eval x = X)
    (hrun : (Builtin.append_ ts ty #[V, X]).run P w = .ok v w') : (execOp a.eval o).run P w = .ok (.value v) w' := by
  subst hs; subst hx; subst hty
  unfold execOp; simp only [ho, resolve, invoke, builtin, Sem.run_bind, Sem.run_pure, Result.andThen_ok, List.map_toArray, List.map_cons, List.map_nil, hrun]
theorem xAppendR {s x : Operand} {ts : Array TypeId} {ty : TypeId} {V X : Value} (hrun : (Builtin.append_ ts ty #[V, X]).run P w = .ok v w') (ho : o.op = .call { callee := .builtin .append, args := #[s, x], argTypes := ts }) (hty : o.type = ty) (hs : a.eval s = V) (hx : a.eval x = X)
    (hg : Region.wanted o (yielded ops a.tmps) = true) (h : wpListIn (Fence.wide.inRound r) n P ops Q rest (a.put o.dst v) w') : wpListIn (Fence.wide.inRound r) n P ops Q (o :: rest) a w :=
  wpListIn_valR (fun c e => by rw [ho] at e; cases e) hg (exec_append ho hty hs hx hrun) h
end
end Go.Proofs.Ytngglpekdjhbdaa
