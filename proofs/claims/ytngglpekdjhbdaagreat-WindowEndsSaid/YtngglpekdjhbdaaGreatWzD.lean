/- What is turned, told over. -/
import Derived.Test.YtngglpekdjhbdaaGreatWzB
import Derived.Deep.CutRange
import Derived.Deep.CutBlock
import Derived.TacticsIn
import Derived.RangeFuncCalls
import Derived.Test.YtngglpekdjhbdaaGreatWzC
import Derived.RangeFuncWrites
import Derived.RangeFuncNested
namespace Go.Proofs.YtngglpekdjhbdaaGreat
open Go.RowKit
set_option linter.unusedSimpArgs false
set_option linter.unusedVariables false

section
variable {P : Program} {ops : Array Oper} {rest : List Oper} {o : Oper} {a : Act} {w w' : World} {Q : Exit → Act → World → Prop} {v : Value}
theorem wpList_appendAt {s x : Operand} {ts : Array TypeId} {V X : Value}
    (hg : Region.wanted o (yielded ops a.tmps) = true) (ho : o.op = .call { callee := .builtin .append, args := #[s, x], argTypes := ts }) (hs : a.eval s = V) (hx : a.eval x = X)
    (hrun : (Builtin.append_ ts o.type #[V, X]).run P w = .ok v w') (h : wpList P ops Q rest (a.put o.dst v) w') : wpList P ops Q (o :: rest) a w := by
  subst hs; subst hx
  exact wpList_val hg (by unfold execOp; simp only [ho, resolve, invoke, builtin, Sem.run_bind, Sem.run_pure, Result.andThen_ok, List.map_toArray, List.map_cons, List.map_nil, hrun]) h
theorem xLoad {t : TypeId} {p : Operand} {V : Value} (ho : o.op = .load t p) (hp : a.eval p = V)
    (hrun : (Instr.loadAt t V).run P w = .ok v w') (hg : Region.wanted o (yielded ops a.tmps) = true) (h : wpList P ops Q rest (a.put o.dst v) w') : wpList P ops Q (o :: rest) a w := wpList_load hg ho hp hrun h
theorem xAlloc {t : TypeId} {z : Value} (ho : o.op = .alloc t) (hz : ∀ w, (zeroValue t).run P w = .ok z w) (hg : Region.wanted o (yielded ops a.tmps) = true)
    (h : wpList P ops Q rest (a.put o.dst (.pointer (some ⟨w.heap.size, 0, none⟩))) (w.alloc (.cells z.cells t))) : wpList P ops Q (o :: rest) a w := wpList_alloc hg ho hz h
theorem xStore {t : TypeId} {p x : Operand} {V X : Value} (ho : o.op = .store t p x) (hp : a.eval p = V) (hx : a.eval x = X)
    (hrun : (Instr.storeAt t V X).run P w = .ok () w') (hg : Region.wanted o (yielded ops a.tmps) = true) (h : wpList P ops Q rest (a.put o.dst undef) w') : wpList P ops Q (o :: rest) a w := wpList_store hg ho hp hx hrun h
theorem xConvert {s d : TypeId} {x : Operand} {X : Value} (ho : o.op = .convert s d x) (hx : a.eval x = X)
    (hrun : (convert s d X).run P w = .ok v w') (hg : Region.wanted o (yielded ops a.tmps) = true) (h : wpList P ops Q rest (a.put o.dst v) w') : wpList P ops Q (o :: rest) a w := wpList_convert hg ho hx hrun h
theorem xAppend {s x : Operand} {t : TypeId} {V X : Value} (ho : o.op = .call { callee := .builtin .append, args := #[s, x], argTypes := #[t, t] }) (hs : a.eval s = V) (hx : a.eval x = X)
    (hrun : (Builtin.append_ #[t, t] o.type #[V, X]).run P w = .ok v w') (hg : Region.wanted o (yielded ops a.tmps) = true) (h : wpList P ops Q rest (a.put o.dst v) w') : wpList P ops Q (o :: rest) a w := wpList_appendAt hg ho hs hx hrun h
theorem xLoadAt {t : TypeId} {p : Operand} {V : Value} (ho : o.op = .load t p) (hrun : (Instr.loadAt t V).run P w = .ok v w') (hp : a.eval p = V)
    (hg : Region.wanted o (yielded ops a.tmps) = true) (h : wpList P ops Q rest (a.put o.dst v) w') : wpList P ops Q (o :: rest) a w := wpList_load hg ho hp hrun h
theorem xStoreAt {t : TypeId} {p x : Operand} {V X : Value} (ho : o.op = .store t p x) (hrun : (Instr.storeAt t V X).run P w = .ok () w') (hp : a.eval p = V) (hx : a.eval x = X)
    (hg : Region.wanted o (yielded ops a.tmps) = true) (h : wpList P ops Q rest (a.put o.dst undef) w') : wpList P ops Q (o :: rest) a w := wpList_store hg ho hp hx hrun h
theorem xConvertAt {s d : TypeId} {x : Operand} {X : Value} (ho : o.op = .convert s d x) (hrun : (convert s d X).run P w = .ok v w') (hx : a.eval x = X)
    (hg : Region.wanted o (yielded ops a.tmps) = true) (h : wpList P ops Q rest (a.put o.dst v) w') : wpList P ops Q (o :: rest) a w := wpList_convert hg ho hx hrun h
theorem xLookup {t : TypeId} {x i : Operand} {ok : Bool} {X I : Value} (ho : o.op = .lookup t x i ok) (hrun : (Instr.lookup t X I ok).run P w = .ok v w') (hx : a.eval x = X) (hi : a.eval i = I)
    (hg : Region.wanted o (yielded ops a.tmps) = true) (h : wpList P ops Q rest (a.put o.dst v) w') : wpList P ops Q (o :: rest) a w := wpList_lookup hg ho hx hi hrun h
theorem xAppendAt {s x : Operand} {ts : Array TypeId} {ty : TypeId} {V X : Value} (hrun : (Builtin.append_ ts ty #[V, X]).run P w = .ok v w') (ho : o.op = .call { callee := .builtin .append, args := #[s, x], argTypes := ts }) (hty : o.type = ty) (hs : a.eval s = V) (hx : a.eval x = X)
    (hg : Region.wanted o (yielded ops a.tmps) = true) (h : wpList P ops Q rest (a.put o.dst v) w') : wpList P ops Q (o :: rest) a w := wpList_appendAt hg ho hs hx (by rw [hty]; exact hrun) h
/-- '==', '!=' of two structs. -/
theorem xEqAgg {bop : BinOp} {t u : TypeId} {x y : Operand} {X Y : Array Value} {r : Bool} (ho : o.op = .binOp bop t x y u) (hrun : (binOp bop t (.agg X) (.agg Y)).run P w = .ok (.bool r) w) (hq : P.eqGuardType P.depth t = false) (hx : a.eval x = .agg X) (hy : a.eval y = .agg Y)
    (hg : Region.wanted o (yielded ops a.tmps) = true) (h : wpList P ops Q rest (a.put o.dst (.bool r)) w) : wpList P ops Q (o :: rest) a w := by
  refine wpList_val hg ?_ h
  unfold execOp
  rw [ho]
  simp only [hx, hy, Sem.run_bind, run_eqGuard_agg w bop t x y X Y hq, Result.andThen_ok, hrun]
  rfl
/-- A shift. -/
theorem xShift {bop : BinOp} {t u : TypeId} {x y : Operand} {X Y : Value} (ho : o.op = .binOp bop t x y u) (hb : bop = .shr ∨ bop = .shl) (hrun : (binOp bop t X Y).run P w = .ok v w') (hx : a.eval x = X) (hy : a.eval y = Y)
    (hg : Region.wanted o (yielded ops a.tmps) = true) (h : wpList P ops Q rest (a.put o.dst v) w') : wpList P ops Q (o :: rest) a w := by
  refine wpList_val hg ?_ h
  unfold execOp
  rw [ho]
  rcases hb with rfl | rfl <;> simp [hx, hy, Sem.run_bind, eqGuard, hrun]
end
end Go.Proofs.YtngglpekdjhbdaaGreat
namespace Go.Proofs.YtngglpekdjhbdaaGreat
open Go.RowKit Go.ChangeMaps Go.Deep
set_option linter.unusedSimpArgs false
set_option linter.unusedVariables false
section
variable {r n : Nat} {P : Program} {ops : Array Oper} {rest : List Oper} {o : Oper} {a : Act} {w w' : World} {Q : Exit → Act → World → Prop} {v : Value}
theorem wpListIn_valR (hd : ∀ c, o.op ≠ .defer c) (hg : Region.wanted o (yielded ops a.tmps) = true)
    (hrun : (execOp a.eval o).run P w = .ok (.value v) w') (h : wpListIn (Fence.wide.inRound r) n P ops Q rest (a.put o.dst v) w') : wpListIn (Fence.wide.inRound r) n P ops Q (o :: rest) a w := by
  simp only [wpListIn, hg, if_true]
  refine ⟨fun _ _ => trivial, ?_⟩
  rw [show (Fence.wide.inRound r).round = some r from rfl, Oper.semAt_some r a.eval o hd, hrun]
  exact h
theorem wpListIn_skipR (hd : ∀ c, o.op ≠ .defer c) (hg : Region.wanted o (yielded ops a.tmps) = true)
    (hrun : (execOp a.eval o).run P w = .ok .skip w') (h : wpListIn (Fence.wide.inRound r) n P ops Q rest (a.put o.dst undef) w') : wpListIn (Fence.wide.inRound r) n P ops Q (o :: rest) a w := by
  simp only [wpListIn, hg, if_true]
  refine ⟨fun _ _ => trivial, ?_⟩
  rw [show (Fence.wide.inRound r).round = some r from rfl, Oper.semAt_some r a.eval o hd, hrun]
  exact h
theorem xLoadR {t : TypeId} {p : Operand} {V : Value} (ho : o.op = .load t p) (hrun : (Instr.loadAt t V).run P w = .ok v w') (hp : a.eval p = V)
    (hg : Region.wanted o (yielded ops a.tmps) = true) (h : wpListIn (Fence.wide.inRound r) n P ops Q rest (a.put o.dst v) w') : wpListIn (Fence.wide.inRound r) n P ops Q (o :: rest) a w :=
  wpListIn_valR (fun c e => by rw [ho] at e; cases e) hg (exec_load ho hp hrun) h
theorem xStoreR {t : TypeId} {p x : Operand} {V X : Value} (ho : o.op = .store t p x) (hrun : (Instr.storeAt t V X).run P w = .ok () w') (hp : a.eval p = V) (hx : a.eval x = X)
    (hg : Region.wanted o (yielded ops a.tmps) = true) (h : wpListIn (Fence.wide.inRound r) n P ops Q rest (a.put o.dst undef) w') : wpListIn (Fence.wide.inRound r) n P ops Q (o :: rest) a w := by
  subst hx; subst hp
  exact wpListIn_skipR (fun c e => by rw [ho] at e; cases e) hg (by unfold execOp; rw [ho]; simp [Sem.run_bind, hrun, Result.andThen]) h
theorem exec_append {s x : Operand} {ts : Array TypeId} {ty : TypeId} {V X : Value} (ho : o.op = .call { callee := .builtin .append, args := #[s, x], argTypes := ts }) (hty : o.type = ty) (hs : a.eval s = V) (hx : a.eval x = X)
    (hrun : (Builtin.append_ ts ty #[V, X]).run P w = .ok v w') : (execOp a.eval o).run P w = .ok (.value v) w' := by
  subst hs; subst hx; subst hty
  unfold execOp; simp only [ho, resolve, invoke, builtin, Sem.run_bind, Sem.run_pure, Result.andThen_ok, List.map_toArray, List.map_cons, List.map_nil, hrun]
theorem xAppendR {s x : Operand} {ts : Array TypeId} {ty : TypeId} {V X : Value} (hrun : (Builtin.append_ ts ty #[V, X]).run P w = .ok v w') (ho : o.op = .call { callee := .builtin .append, args := #[s, x], argTypes := ts }) (hty : o.type = ty) (hs : a.eval s = V) (hx : a.eval x = X)
    (hg : Region.wanted o (yielded ops a.tmps) = true) (h : wpListIn (Fence.wide.inRound r) n P ops Q rest (a.put o.dst v) w') : wpListIn (Fence.wide.inRound r) n P ops Q (o :: rest) a w :=
  wpListIn_valR (fun c e => by rw [ho] at e; cases e) hg (exec_append ho hty hs hx hrun) h
end
end Go.Proofs.YtngglpekdjhbdaaGreat
namespace Go.Proofs.YtngglpekdjhbdaaGreat
open Go.RowKit Go.ChangeMaps Go.Deep
set_option linter.unusedSimpArgs false
set_option linter.unusedVariables false

section
variable {r n : Nat} {P : Program} {ops : Array Oper} {rest : List Oper} {o : Oper} {a : Act} {w : World} {Q : Exit → Act → World → Prop}
theorem exec_min {p q : Operand} {ts : Array TypeId} {k : IntKind} {x y : Int} (ho : o.op = .call { callee := .builtin .min, args := #[p, q], argTypes := ts }) (hp : a.eval p = .int k x) (hq : a.eval q = .int k y) : (execOp a.eval o).run P w = .ok (.value (.int k (min x y))) w := by
  unfold execOp
  have e : (if y < x then y else x) = min x y := by split <;> omega
  simp only [ho, resolve, invoke, builtin, Sem.run_bind, Sem.run_pure, Result.andThen_ok, List.map_toArray, List.map_cons, List.map_nil, hp, hq, Builtin.min_, List.foldlM_cons, List.foldlM_nil, Builtin.min2, e]
theorem exec_max {p q : Operand} {ts : Array TypeId} {k : IntKind} {x y : Int} (ho : o.op = .call { callee := .builtin .max, args := #[p, q], argTypes := ts }) (hp : a.eval p = .int k x) (hq : a.eval q = .int k y) : (execOp a.eval o).run P w = .ok (.value (.int k (max x y))) w := by
  unfold execOp
  have e : (if y > x then y else x) = max x y := by split <;> omega
  simp only [ho, resolve, invoke, builtin, Sem.run_bind, Sem.run_pure, Result.andThen_ok, List.map_toArray, List.map_cons, List.map_nil, hp, hq, Builtin.max_, List.foldlM_cons, List.foldlM_nil, Builtin.max2, e]
theorem xMin {p q : Operand} {ts : Array TypeId} {k : IntKind} {x y : Int} (ho : o.op = .call { callee := .builtin .min, args := #[p, q], argTypes := ts }) (hp : a.eval p = .int k x) (hq : a.eval q = .int k y) (hg : Region.wanted o (yielded ops a.tmps) = true) (h : wpList P ops Q rest (a.put o.dst (.int k (min x y))) w) : wpList P ops Q (o :: rest) a w := wpList_val hg (exec_min ho hp hq) h
theorem xMax {p q : Operand} {ts : Array TypeId} {k : IntKind} {x y : Int} (ho : o.op = .call { callee := .builtin .max, args := #[p, q], argTypes := ts }) (hp : a.eval p = .int k x) (hq : a.eval q = .int k y) (hg : Region.wanted o (yielded ops a.tmps) = true) (h : wpList P ops Q rest (a.put o.dst (.int k (max x y))) w) : wpList P ops Q (o :: rest) a w := wpList_val hg (exec_max ho hp hq) h
theorem xMinR {p q : Operand} {ts : Array TypeId} {k : IntKind} {x y : Int} (ho : o.op = .call { callee := .builtin .min, args := #[p, q], argTypes := ts }) (hp : a.eval p = .int k x) (hq : a.eval q = .int k y) (hg : Region.wanted o (yielded ops a.tmps) = true) (h : wpListIn (Fence.wide.inRound r) n P ops Q rest (a.put o.dst (.int k (min x y))) w) : wpListIn (Fence.wide.inRound r) n P ops Q (o :: rest) a w := wpListIn_valR (fun c e => by rw [ho] at e; cases e) hg (exec_min ho hp hq) h
theorem xMaxR {p q : Operand} {ts : Array TypeId} {k : IntKind} {x y : Int} (ho : o.op = .call { callee := .builtin .max, args := #[p, q], argTypes := ts }) (hp : a.eval p = .int k x) (hq : a.eval q = .int k y) (hg : Region.wanted o (yielded ops a.tmps) = true) (h : wpListIn (Fence.wide.inRound r) n P ops Q rest (a.put o.dst (.int k (max x y))) w) : wpListIn (Fence.wide.inRound r) n P ops Q (o :: rest) a w := wpListIn_valR (fun c e => by rw [ho] at e; cases e) hg (exec_max ho hp hq) h
end
end Go.Proofs.YtngglpekdjhbdaaGreat
namespace Go.Proofs.YtngglpekdjhbdaaGreat
open Go.RowKit Go.ChangeMaps Go.Deep
set_option linter.unusedSimpArgs false
set_option linter.unusedVariables false

/-- a slice, told by its parts -/
structure SlH where
  a : Option Addr
  n : Nat
  c : Nat
def SlH.val (h : SlH) : Value := .slice h.a h.n h.c
def encH (h : SlH) : List Value := [.slice h.a h.n h.c]
theorem encH_len (x : SlH) : (encH x).length = 1 := rfl
theorem encH_one (x : SlH) : ∀ v ∈ encH x, v.oneCell' = true := by intro v hv; simp [encH] at hv; subst hv; rfl
theorem RowAt.head {α : Type} {enc : α → List Value} {w : World} {v : Value} {l : List α} (h : RowAt enc w v l) : ∃ x : SlH, v = x.val ∧ x.n = l.length := by
  obtain ⟨a, c, e⟩ := h.form
  exact ⟨⟨a, l.length, c⟩, e, rfl⟩
theorem OwnR.at_ {α : Type} {enc : α → List Value} {k : Nat} {E : TypeId} {w : World} {base : Nat} {v : Value} {l : List α} (h : OwnR enc k E w base v l) {p : Nat} {x : α} (hp : l[p]? = some x) : ∃ g cap, v = .slice (some ⟨g, 0, none⟩) l.length cap ∧ g < w.heap.size ∧ l.length ≤ cap := by
  rcases h.form with ⟨_, rfl⟩ | ⟨g, cap, h1, h2, h3, h4⟩
  · simp at hp
  · exact ⟨g, cap, h1, h3, h4⟩
theorem ownsRow_cells {α : Type} {enc : α → List Value} {k : Nat} {E : TypeId} {w : World} {base : Nat} {v : Value} {l : List α} (h : OwnR enc k E w base v l) {b : Nat} (hb : v.ownBlock = some b) : ∃ c, w.heap[b]? = some (.cells c E (0, 0)) := by
  rcases h.2 with ⟨e, _⟩ | ⟨g, cap, cur, e, _, hg, _⟩
  · rw [e] at hb; simp [Value.ownBlock] at hb
  · rw [e] at hb
    simp [Value.ownBlock] at hb
    subst hb
    exact ⟨_, hg⟩
theorem own_ne {α : Type} {enc : α → List Value} {k : Nat} {E E' : TypeId} {w : World} {base : Nat} {v : Value} {l : List α} (h : OwnR enc k E w base v l) {b : Nat} {c : Array Value} {f : Nat × Nat} (hb : w.heap[b]? = some (.cells c E' f)) (hE : E ≠ E') : ∀ j, v.ownBlock = some j → j ≠ b := fun j hj e => by
  subst e
  obtain ⟨c', h1⟩ := ownsRow_cells h hj
  rw [h1] at hb
  cases hb
  exact hE rfl
theorem own_ne2 {α β : Type} {enc : α → List Value} {enc' : β → List Value} {k k' : Nat} {E E' : TypeId} {w : World} {base base' : Nat} {v v' : Value} {l : List α} {l' : List β} (h : OwnR enc k E w base v l) (h' : OwnR enc' k' E' w base' v' l') (hE : E ≠ E') : ∀ j, v.ownBlock = some j → j ∉ blk v' := fun j hj hm => by
  rw [mem_blk] at hm
  obtain ⟨c', h1⟩ := ownsRow_cells h' hm
  exact own_ne h h1 hE j hj rfl
end Go.Proofs.YtngglpekdjhbdaaGreat
namespace Go.Proofs.YtngglpekdjhbdaaGreat
open Go.RowKit Go.ChangeMaps Go.Deep
set_option linter.unusedSimpArgs false
set_option linter.unusedVariables false

/-- the blocks of which p is true lie as they lay -/
structure ModP (p : Nat → Prop) (A B : World) : Prop where
  os : B.os = A.os
  tape : B.tape = A.tape
  output : B.output = A.output
  size : A.heap.size ≤ B.heap.size
  block : ∀ k, k < A.heap.size → p k → B.heap[k]? = A.heap[k]?
theorem ModP.refl (p : Nat → Prop) (A : World) : ModP p A A := ⟨rfl, rfl, rfl, Nat.le_refl _, fun _ _ _ => rfl⟩
theorem ModP.trans {p : Nat → Prop} {A B C : World} (h : ModP p A B) (k : ModP p B C) : ModP p A C :=
  ⟨k.os.trans h.os, k.tape.trans h.tape, k.output.trans h.output, Nat.le_trans h.size k.size, fun i hi hp => (k.block i (Nat.lt_of_lt_of_le hi h.size) hp).trans (h.block i hi hp)⟩
theorem ModP.mono {p q : Nat → Prop} {A B : World} (h : ModP p A B) (hq : ∀ k, q k → p k) : ModP q A B := ⟨h.os, h.tape, h.output, h.size, fun k hk hp => h.block k hk (hq k hp)⟩
theorem ModP.of {p : Nat → Prop} {l : List Nat} {A B : World} (h : Mod l A B) (hl : ∀ k ∈ l, ¬ p k) : ModP p A B := ⟨h.os, h.tape, h.output, h.size, fun k hk hp => h.block k hk (fun hm => hl k hm hp)⟩
theorem ModP.heap {p : Nat → Prop} {A B : World} (h : ModP p A B) {b : Nat} {o : Obj} (hb : A.heap[b]? = some o) (hp : p b) : B.heap[b]? = some o := by
  rw [h.block b (Array.getElem?_eq_some_iff.1 hb).1 hp]; exact hb
open Classical in
theorem ModP.toMod {p : Nat → Prop} {A B : World} (h : ModP p A B) : ∃ l, Mod l A B ∧ ∀ k ∈ l, ¬ p k := by
  refine ⟨(List.range A.heap.size).filter (fun k => decide (¬ p k)), ⟨h.os, h.tape, h.output, h.size, fun k hk hn => h.block k hk ?_⟩, fun k hk => by simpa using (List.mem_filter.1 hk).2⟩
  refine Classical.byContradiction fun hp => hn (List.mem_filter.2 ⟨List.mem_range.2 hk, by simpa using hp⟩)
theorem Mod.putObj (W : World) (l : Nat) (o : Obj) : Mod [l] W (W.putObj l o) := by
  have h := grownBy_putObj' W l o
  exact ⟨h.os, h.tape, h.output, h.size, fun k hk hn => h.block k hk (fun e => by cases e; exact hn (by simp))⟩

/-- THE CONTRACT of an iterator that lays one block of its own, writes it between two rounds, reads blocks of which p is true, and yields S -/
def SeqM {α : Type} (F : Fence) (n : Nat) (P : Program) (g : Nat) (lb : Array Value) (enc : α → Array Value) (p : Nat → Prop) (S : List α) (w0 : World) : Prop :=
  ∀ (l : Nat) (J : List α → World → Prop) (W : World), ModP p w0 W → (∀ s A B, J s A → Mod [W.heap.size] A B → J s B) →
    (∀ pre x post W1, S = pre ++ x :: post → J pre W1 → W.heap.size < W1.heap.size → YieldAt F (n - 1) P l (enc x) W1 fun e W' => e = .returned (.bool true) ∧ J (pre ++ [x]) W' ∧ ModP (fun k => p k ∨ k = W.heap.size) W1 W') →
    J [] W →
    CallsIn F n P g (#[.func (.yield l) #[] #[]] ++ lb) W fun e W' => (∃ v, e = .returned v) ∧ J S W'
theorem SeqM.later {α : Type} {F : Fence} {n : Nat} {P : Program} {g : Nat} {lb : Array Value} {enc : α → Array Value} {p : Nat → Prop} {S : List α} {w0 w1 : World} (h : SeqM F n P g lb enc p S w0) (hm : ModP p w0 w1) : SeqM F n P g lb enc p S w1 :=
  fun l J W hW hJ hY h0 => h l J W (hm.trans hW) hJ hY h0
/-- how the body of a round is left: it goes on -/
def postM {α : Type} (pp : Nat → Prop) (I : List α → World → Prop) (xs : List α) (W : World) : Exit → Act → World → Prop
  | .normal, _, W' => ModP pp W W' ∧ I xs W'
  | _, _, _ => False

variable {F : Fence} {n : Nat} {P : Program}

theorem wpIn_rangeFunc_M {α : Type} {g : Operand} {ps : Array Tmp} {assign body : Code} {Q : Exit → Act → World → Prop} {a : Act} {w : World}
    (hro : F.round = none) (h1 : 1 ≤ n) {gf : Nat} {lb : Array Value} (hg : a.eval g = .func (.func gf) #[] lb) (hFg : F.fn gf) (eg : ∀ args w, (callFunc gf args).run P w = .ok (.enter gf args) w)
    {enc : α → Array Value} {p : Nat → Prop} {S : List α} {w0 : World} (hseq : SeqM F (n - 1) P gf lb enc p S w0) (hb0 : ModP p w0 w) (hp : ∀ k, p k → k < w.heap.size) (hps : ∀ x, (enc x).size = ps.size)
    (I : List α → World → Prop) (Ia : List α → α → Act → World → Prop)
    (hI : ∀ s A B, I s A → Mod [w.heap.size, w.heap.size + 1, w.heap.size + 2] A B → I s B)
    (hIa : ∀ s x a A B, Ia s x a A → Mod [w.heap.size, w.heap.size + 1, w.heap.size + 2] A B → Ia s x a B)
    (h0 : I [] w)
    (hassign : ∀ (l : Nat) (pre : List α) (x : α) (post : List α) (W : World) (K : Act → World → Prop), S = pre ++ x :: post → I pre W → w.heap.size + 2 < W.heap.size →
      (∀ a' W', ModP (fun k => p k ∨ k = w.heap.size ∨ k = w.heap.size + 1 ∨ k = w.heap.size + 2) W W' → Ia pre x a' W' → K a' W') →
      assign.wpIn (F.inRound l) (n - 1 - 1) P (Exit.then K (fun _ _ _ => False)) { tmps := (ps.zip (enc x)).foldl (fun t (p, v) => t.setIfInBounds p v) a.tmps, defers := [] } W)
    (hbody : ∀ (l : Nat) (pre : List α) (x : α) (post : List α) (a' : Act) (W : World), S = pre ++ x :: post → Ia pre x a' W → w.heap.size + 2 < W.heap.size →
      body.wpIn (F.inRound l) (n - 1 - 1) P (postM (fun k => p k ∨ k = w.heap.size ∨ k = w.heap.size + 1 ∨ k = w.heap.size + 2) I (pre ++ [x]) W) a' W)
    (hdone : ∀ (D : Nat) (W : World), w.heap.size ≤ D → I S W → W.heap[D]? = some (.deferred (some [])) → Q .normal { a with defers := { target := .collected D, args := #[] } :: a.defers } W) :
    (Code.rangeFunc g ps assign body).wpIn F n P Q a w := by
  refine wpIn_rangeFunc ?_
  intro fn hfn
  rw [hro]
  obtain ⟨rec, hrec⟩ : ∃ rec : LoopState → Option Code → Loop, rec = fun st pe => { state := st, pending := pe, fn, tmps := a.tmps, params := ps, assign, body, defers := w.heap.size } := ⟨_, rfl⟩
  obtain ⟨W1, hW1⟩ : ∃ W1, (w.alloc (.deferred (some []))).alloc (.loop (rec .ready none)) = W1 := ⟨_, rfl⟩
  have hL1 : W1.heap[w.heap.size + 1]? = some (.loop (rec .ready none)) := by
    rw [← hW1]; have := World.alloc_heap_new (w.alloc (.deferred (some []))) (.loop (rec .ready none)); rwa [World.size_alloc] at this
  have hK1 : W1.heap[w.heap.size]? = some (.deferred (some [])) := by
    rw [← hW1]; exact (Below.heap_alloc _ _ _ (by simp)).trans (World.alloc_heap_new w _)
  have hM1 : Mod [] w W1 := by rw [← hW1]; exact ((Mod.refl [] w).alloc _).alloc _
  have hI1 : I [] W1 := hI _ _ _ h0 hM1.nil
  have hS1 : W1.heap.size = w.heap.size + 2 := by rw [← hW1]; simp
  refine ⟨w.heap.size + 1, [{ target := .collected w.heap.size, args := #[] }], W1, { target := .fn (.func gf) lb, args := #[.func (.yield (w.heap.size + 1)) #[] #[]] }, W1, gf,
    #[.func (.yield (w.heap.size + 1)) #[] #[]] ++ lb, W1, ?_, ?_, ?_, ?_, fun _ => h1, ?_⟩
  · rw [← hW1, hrec]; exact run_enterLoop_outer _ _ _ _ _
  · simp only [resolve, hg]
    simp [go_sem]
  · intro f' hf'; simp [Target.leads] at hf'; subst hf'; exact hFg
  · simp [invoke, go_sem, eg]
  · refine (hseq (w.heap.size + 1)
      (fun pre W => I pre W ∧ W.heap[w.heap.size + 1]? = some (.loop (rec .ready none)) ∧ W.heap[w.heap.size]? = some (.deferred (some [])))
      W1 (hb0.trans (ModP.of hM1 (by simp)))
      (fun s A B hs hm => by
        rw [hS1] at hm
        exact ⟨hI s A B hs.1 (hm.mono (by simp)), hm.heap hs.2.1 (by simp), hm.heap hs.2.2 (by simp)⟩)
      ?_ ⟨hI1, hL1, hK1⟩).mono ?_
    · rintro pre x post W hS ⟨hi, hl, hk⟩ hgt
      rw [hS1] at hgt ⊢
      have hlt : w.heap.size + 1 < W.heap.size := (Array.getElem?_eq_some_iff.1 hl).1
      have hy := run_yield (P := P) (args := enc x) hl (by rw [hrec]; exact hps x)
      rw [hrec] at hy
      refine ⟨fn, _, assign, body, hy, roundIn_of_wpIn hfn (hassign _ pre x post W _ hS hi hgt (fun a' W' hm hia => ?_))⟩
      have hl' := hm.heap hl (.inr (.inr (.inl rfl)))
      have hk' := hm.heap hk (.inr (.inl rfl))
      have hlt' : w.heap.size + 1 < W'.heap.size := (Array.getElem?_eq_some_iff.1 hl').1
      refine ⟨_, run_beginRound hl' (by rw [hrec]), ?_⟩
      have hl2 : (W'.putObj (w.heap.size + 1) (.loop { rec .ready none with state := .busy })).heap[w.heap.size + 1]? = some (.loop { rec .ready none with state := .busy }) := World.putObj_heap_same hlt'
      have hk2 : (W'.putObj (w.heap.size + 1) (.loop { rec .ready none with state := .busy })).heap[w.heap.size]? = some (.deferred (some [])) := (World.putObj_heap_other (by omega)).trans hk'
      have hpb : ∀ (X : World) (o : Obj), ModP (fun k => p k ∨ k = w.heap.size + 2) X (X.putObj (w.heap.size + 1) o) := fun X o =>
        ModP.of (Mod.putObj X _ _) (fun k hk h => by
          rw [List.mem_singleton] at hk
          subst hk
          rcases h with h | h
          · have := hp _ h; omega
          · omega)
      have hsz2 : (W'.putObj (w.heap.size + 1) (.loop { rec .ready none with state := .busy })).heap.size = W'.heap.size := by simp [World.putObj]
      refine wpIn_mono (hbody _ pre x post a' _ hS (hIa _ _ _ _ _ hia ((Mod.putObj W' _ _).mono (by simp))) (by rw [hsz2]; exact Nat.lt_of_lt_of_le hgt hm.size)) ?_
      have fin : ∀ (jump : Option Code) (W3 : World), ModP (fun k => p k ∨ k = w.heap.size ∨ k = w.heap.size + 1 ∨ k = w.heap.size + 2) (W'.putObj (w.heap.size + 1) (.loop { rec .ready none with state := .busy })) W3 →
          (Instr.endRound (w.heap.size + 1) jump).run P W3 = .ok (.bool jump.isNone) (W3.putObj (w.heap.size + 1) (.loop (rec (if jump.isNone then .ready else .done) jump))) ∧
          (W3.putObj (w.heap.size + 1) (.loop (rec (if jump.isNone then .ready else .done) jump))).heap[w.heap.size + 1]? = some (.loop (rec (if jump.isNone then .ready else .done) jump)) ∧
          (W3.putObj (w.heap.size + 1) (.loop (rec (if jump.isNone then .ready else .done) jump))).heap[w.heap.size]? = some (.deferred (some [])) := fun jump W3 hk3 => by
        have hl3 := hk3.heap hl2 (.inr (.inr (.inl rfl)))
        have := run_endRound (P := P) jump hl3
        rw [hrec] at this ⊢
        exact ⟨this, World.putObj_heap_same (Array.getElem?_eq_some_iff.1 hl3).1, (World.putObj_heap_other (by omega)).trans (hk3.heap hk2 (.inr (.inl rfl)))⟩
      rintro e a3 W3 hq
      cases e with
      | normal =>
        obtain ⟨hk3, hi3⟩ := hq
        obtain ⟨hr, hl4, hk4⟩ := fin none W3 hk3
        refine ⟨_, _, hr, rfl, ⟨hI _ _ _ hi3 ((Mod.putObj W3 _ _).mono (by simp)), hl4, hk4⟩, ?_⟩
        refine (ModP.mono hm ?_).trans ((hpb W' _).trans ((ModP.mono hk3 ?_).trans (hpb W3 _)))
        · rintro k (h | h)
          · exact .inl h
          · exact .inr (.inr (.inr h))
        · rintro k (h | h)
          · exact .inl h
          · exact .inr (.inr (.inr h))
      | _ => exact hq.elim
    · rintro e W2 ⟨⟨v, rfl⟩, hi, hl, hk⟩
      exact ⟨none, _, by have := run_endLoop (P := P) hl (by rw [hrec]; simp); rw [hrec] at this; exact this, hdone _ _ (Nat.le_refl _) (hI _ _ _ hi ((Mod.putObj W2 _ _).mono (by simp))) ((World.putObj_heap_other (by omega)).trans hk)⟩
end Go.Proofs.YtngglpekdjhbdaaGreat
namespace Go.Proofs.YtngglpekdjhbdaaGreat
open Go.RowKit
set_option linter.unusedSimpArgs false
set_option linter.unusedVariables false

theorem Mod.into' {l ks : List Nat} {w0 w w' : World} (h0 : Mod l w0 w) (h : Mod ks w w') (hl : ∀ k ∈ ks, w0.heap.size ≤ k ∨ k ∈ l) : Mod l w0 w' :=
  ⟨h.os.trans h0.os, h.tape.trans h0.tape, h.output.trans h0.output, Nat.le_trans h0.size h.size, fun k hk hn => (h.block k (Nat.lt_of_lt_of_le hk h0.size) (fun hm => by
    rcases hl k hm with h1 | h1
    · omega
    · exact hn h1)).trans (h0.block k hk hn)⟩
end Go.Proofs.YtngglpekdjhbdaaGreat
