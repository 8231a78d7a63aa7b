/- min and max in a walk. -/
import Derived.Test.YtngglpekdjhbdaaOpsR
namespace Go.Proofs.Ytngglpekdjhbdaa
open Go.RowKit Go.ChangeMaps Go.Deep
set_option linter.unusedSimpArgs false
set_option linter.unusedVariables false

section
variable {r n : Nat} {P : Program} {ops : Array Oper} {rest : List Oper} {o : Oper} {a : Act} {w : World} {Q : Exit → Act → World → Prop}
theorem exec_min {p q : Operand} {ts : Array TypeId} {k : IntKind} {x y : Int} (ho : o.op = .call { callee := .builtin .min, args := #[p, q], argTypes := ts }) (hp : a.eval p = .int k x) (hq : a.eval q = .int k y) : (execOp a.eval o).run P w = .ok (.value (.int k (min x y))) w := by
  unfold execOp
  have e : (if y < x then y else x) = min x y := by split <;> omega
  simp only [ho, resolve, invoke, builtin, Sem.run_bind, Sem.run_pure, Result.andThen_ok, List.map_toArray, List.map_cons, List.map_nil, hp, hq, Builtin.min_, List.foldlM_cons, List.foldlM_nil, Builtin.min2, e]
theorem exec_max {p q : Operand} {ts : Array TypeId} {k : IntKind} {x y : Int} (ho : o.op = .call { callee := .builtin .max, args := #[p, q], argTypes := ts }) (hp : a.eval p = .int k x) (hq : a.eval q = .int k y) : (execOp a.eval o).run P w = .ok (.value (.int k (max x y))) w := by
  unfold execOp
  have e : (if y > x then y else x) = max x y := by split <;> omega
  simp only [ho, resolve, invoke, builtin, Sem.run_bind, Sem.run_pure, Result.andThen_ok, List.map_toArray, List.map_cons, List.map_nil, hp, hq, Builtin.max_, List.foldlM_cons, List.foldlM_nil, Builtin.max2, e]
theorem xMin {p q : Operand} {ts : Array TypeId} {k : IntKind} {x y : Int} (ho : o.op = .call { callee := .builtin .min, args := #[p, q], argTypes := ts }) (hp : a.eval p = .int k x) (hq : a.eval q = .int k y) (hg : Region.wanted o (yielded ops a.tmps) = true) (h : wpList P ops Q rest (a.put o.dst (.int k (min x y))) w) : wpList P ops Q (o :: rest) a w := wpList_val hg (exec_min ho hp hq) h
theorem xMax {p q : Operand} {ts : Array TypeId} {k : IntKind} {x y : Int} (ho : o.op = .call { callee := .builtin .max, args := #[p, q], argTypes := ts }) (hp : a.eval p = .int k x) (hq : a.eval q = .int k y) (hg : Region.wanted o (yielded ops a.tmps) = true) (h : wpList P ops Q rest (a.put o.dst (.int k (max x y))) w) : wpList P ops Q (o :: rest) a w := wpList_val hg (exec_max ho hp hq) h
theorem xMinR {p q : Operand} {ts : Array TypeId} {k : IntKind} {x y : Int} (ho : o.op = .call { callee := .builtin .min, args := #[p, q], argTypes := ts }) (hp : a.eval p = .int k x) (hq : a.eval q = .int k y) (hg : Region.wanted o (yielded ops a.tmps) = true) (h : wpListIn (Fence.wide.inRound r) n P ops Q rest (a.put o.dst (.int k (min x y))) w) : wpListIn (Fence.wide.inRound r) n P ops Q (o :: rest) a w := wpListIn_valR (fun c e => by rw [ho] at e; cases e) hg (exec_min ho hp hq) h
theorem xMaxR {p q : Operand} {ts : Array TypeId} {k : IntKind} {x y : Int} (ho : o.op = .call { callee := .builtin .max, args := #[p, q], argTypes := ts }) (hp : a.eval p = .int k x) (hq : a.eval q = .int k y) (hg : Region.wanted o (yielded ops a.tmps) = true) (h : wpListIn (Fence.wide.inRound r) n P ops Q rest (a.put o.dst (.int k (max x y))) w) : wpListIn (Fence.wide.inRound r) n P ops Q (o :: rest) a w := wpListIn_valR (fun c e => by rw [ho] at e; cases e) hg (exec_max ho hp hq) h
end
end Go.Proofs.Ytngglpekdjhbdaa
