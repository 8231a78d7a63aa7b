/- General small laws: worlds that differ in a few blocks; blocks of cells known whole; maps keyed by ints in the heap. Nothing of the dump is named here. -/
import Derived.Handy
import Derived.WalkSpells
import Derived.WalkLawsBesides
import Derived.Lib.Hide
import Derived.Deep.MidRow
import Derived.Deep.WholeRow
import Derived.Deep.OwnRows
import Derived.ChangeMaps5
import Derived.Maps.Own
namespace Go.Proofs.YtdaokholmlpfkaaDoor
open Go.RowKit Go.ChangeMaps
set_option linter.unusedSimpArgs false
set_option linter.unusedVariables false
set_option linter.unusedSectionVars false

/-- Outside the blocks of l nothing that was there has turned. -/
structure Mod (l : List Nat) (w w' : World) : Prop where
  os : w'.os = w.os
  tape : w'.tape = w.tape
  output : w'.output = w.output
  size : w.heap.size ≤ w'.heap.size
  block : ∀ k, k < w.heap.size → k ∉ l → w'.heap[k]? = w.heap[k]?

theorem Mod.refl (l : List Nat) (w : World) : Mod l w w := ⟨rfl, rfl, rfl, Nat.le_refl _, fun _ _ _ => rfl⟩
theorem Mod.trans {l : List Nat} {a b c : World} (h : Mod l a b) (k : Mod l b c) : Mod l a c :=
  ⟨k.os.trans h.os, k.tape.trans h.tape, k.output.trans h.output, Nat.le_trans h.size k.size,
   fun i hi hn => (k.block i (Nat.lt_of_lt_of_le hi h.size) hn).trans (h.block i hi hn)⟩
theorem Mod.mono {l l' : List Nat} {a b : World} (h : Mod l a b) (hl : ∀ k, k ∈ l → k ∈ l') : Mod l' a b :=
  ⟨h.os, h.tape, h.output, h.size, fun i hi hn => h.block i hi (fun e => hn (hl i e))⟩
theorem Mod.nil {l : List Nat} {a b : World} (h : Mod [] a b) : Mod l a b := h.mono (fun _ h => by cases h)
theorem Mod.drew {l : List Nat} {a w : World} (h : Mod l a w) : Mod l a w.drew := ⟨h.os, h.tape, h.output, h.size, h.block⟩
theorem Mod.alloc {l : List Nat} {a w : World} (h : Mod l a w) (o : Obj) : Mod l a (w.alloc o) :=
  h.trans ⟨rfl, rfl, rfl, by simp, fun k hk _ => Below.heap_alloc _ _ _ hk⟩
theorem Mod.setCell {l : List Nat} {a w : World} (h : Mod l a w) {p : Addr} (hp : p.block ∈ l) (u : Value) : Mod l a (w.setCell p u) :=
  h.trans ⟨rfl, rfl, rfl, by simp, fun k _ hn => Below.heap_setCell _ _ _ _ (fun e => hn (e ▸ hp))⟩
/-- A store into a block that was not there at the start. -/
theorem Mod.setCellNew {l : List Nat} {a w : World} (h : Mod l a w) {p : Addr} (hp : a.heap.size ≤ p.block) (u : Value) : Mod l a (w.setCell p u) :=
  ⟨h.os, h.tape, h.output, by simpa using h.size, fun k hk hn => (Below.heap_setCell _ _ _ _ (by omega)).trans (h.block k hk hn)⟩
theorem size_setBlock (w : World) (b : Nat) (o : Obj) : (setBlock w b o).heap.size = w.heap.size := by simp [setBlock]
theorem heap_setBlock_ne (w : World) (b : Nat) (o : Obj) {i : Nat} (h : i ≠ b) : (setBlock w b o).heap[i]? = w.heap[i]? := by
  simp only [setBlock, Array.getElem?_setIfInBounds]
  rw [if_neg (fun e => h e.symm)]
theorem heap_setBlock_eq (w : World) (b : Nat) (o : Obj) (h : b < w.heap.size) : (setBlock w b o).heap[b]? = some o := by
  simp [setBlock, h]
theorem Mod.setBlock {l : List Nat} {a w : World} (h : Mod l a w) {b : Nat} (hb : b ∈ l) (o : Obj) : Mod l a (setBlock w b o) :=
  h.trans ⟨rfl, rfl, rfl, by rw [size_setBlock]; exact Nat.le_refl _, fun k _ hn => heap_setBlock_ne _ _ _ (fun e => hn (e ▸ hb))⟩
theorem setCells_heap_ne (b : Nat) : ∀ (vs : List Value) (o : Nat) (w : World) {i : Nat}, i ≠ b → (w.setCells b o vs).heap[i]? = w.heap[i]?
  | [], _, _, _, _ => rfl
  | v :: vs, o, w, i, h => by
    simp only [World.setCells]
    rw [setCells_heap_ne b vs (o + 1) _ h]
    exact Below.heap_setCell _ _ _ _ h
theorem size_setCells (b : Nat) : ∀ (vs : List Value) (o : Nat) (w : World), (w.setCells b o vs).heap.size = w.heap.size
  | [], _, _ => rfl
  | v :: vs, o, w => by
    simp only [World.setCells]
    rw [size_setCells b vs (o + 1) _]; simp
theorem setCells_same (b : Nat) : ∀ (vs : List Value) (o : Nat) (w : World), (w.setCells b o vs).os = w.os ∧ (w.setCells b o vs).tape = w.tape ∧ (w.setCells b o vs).output = w.output
  | [], _, _ => ⟨rfl, rfl, rfl⟩
  | v :: vs, o, w => by
    simp only [World.setCells]
    exact setCells_same b vs (o + 1) _
theorem Mod.setCells {l : List Nat} {a w : World} (h : Mod l a w) {b : Nat} (hb : b ∈ l) (o : Nat) (vs : List Value) : Mod l a (w.setCells b o vs) :=
  h.trans ⟨(setCells_same b vs o w).1, (setCells_same b vs o w).2.1, (setCells_same b vs o w).2.2, by rw [size_setCells]; exact Nat.le_refl _, fun k _ hn => setCells_heap_ne b vs o w (fun e => hn (e ▸ hb))⟩
theorem Mod.below {l : List Nat} {a w w' : World} {B : Nat} (h : Mod l w w') (h0 : Below B a w) (hB : B ≤ w.heap.size) (hl : ∀ k, k ∈ l → B ≤ k) : Below B a w' :=
  h0.trans ⟨h.os, h.tape, h.output, h.size, fun k hk => h.block k (by omega) (fun e => by have := hl k e; omega)⟩
theorem Below.mod {w w' : World} (h : Below w.heap.size w w') (l : List Nat) : Mod l w w' :=
  ⟨h.os, h.tape, h.output, h.size, fun k hk _ => h.block k hk⟩
theorem Mod.toBelow {w w' : World} (h : Mod [] w w') : Below w.heap.size w w' :=
  ⟨h.os, h.tape, h.output, h.size, fun k hk => h.block k hk (by simp)⟩
theorem Mod.heap {l : List Nat} {w w' : World} (h : Mod l w w') {b : Nat} {o : Obj} (hb : w.heap[b]? = some o) (hn : b ∉ l) : w'.heap[b]? = some o :=
  (h.block b (Array.getElem?_eq_some_iff.1 hb).1 hn).trans hb
theorem lt_of_heap {w : World} {b : Nat} {o : Obj} (hb : w.heap[b]? = some o) : b < w.heap.size := (Array.getElem?_eq_some_iff.1 hb).1

/-! ### a block of cells that is known whole -/
theorem cell_blk {w : World} {b : Nat} {c : Array Value} {t : TypeId} {f : Nat × Nat} (h : w.heap[b]? = some (.cells c t f)) (i : Nat) : w.cell? ⟨b, i, none⟩ = c[i]? := by
  simp [World.cell?, h]
theorem frozen_blk {w : World} {b : Nat} {c : Array Value} {t : TypeId} (h : w.heap[b]? = some (.cells c t (0, 0))) (i : Nat) : w.frozen? ⟨b, i, none⟩ = false := by
  simp [World.frozen?, h]
theorem heap_setCell_blk {w : World} {b : Nat} {c : Array Value} {t : TypeId} {f : Nat × Nat} (h : w.heap[b]? = some (.cells c t f)) (i : Nat) (v : Value) :
    (w.setCell ⟨b, i, none⟩ v).heap[b]? = some (.cells (c.setIfInBounds i v) t f) := by
  simp [World.setCell, Array.getElem?_modify, h]
theorem heap_setCell_ne (w : World) (a : Addr) (v : Value) {i : Nat} (h : i ≠ a.block) : (w.setCell a v).heap[i]? = w.heap[i]? := Below.heap_setCell _ _ _ _ h
theorem heap_alloc_ne (w : World) (o : Obj) {i : Nat} (h : i < w.heap.size) : (w.alloc o).heap[i]? = w.heap[i]? := Below.heap_alloc _ _ _ h

/-! ### an operation, by an equation on its run -/
theorem wpList_val {P : Program} {ops : Array Oper} {rest : List Oper} {o : Oper} {a : Act} {w w' : World} {Q : Exit → Act → World → Prop} {v : Value} (hg : Region.wanted o (yielded ops a.tmps) = true)
    (hrun : (execOp a.eval o).run P w = .ok (.value v) w') (h : wpList P ops Q rest (a.put o.dst v) w') : wpList P ops Q (o :: rest) a w :=
  BigFrame.wpList_want hg fun _ hK => by unfold Oper.wp; rw [hrun]; exact hK _ _ h

section
variable {P : Program} {ops : Array Oper} {rest : List Oper} {o : Oper} {a : Act} {w w' : World} {Q : Exit → Act → World → Prop} {v : Value}
theorem wpList_lookup {t : TypeId} {x i : Operand} {ok : Bool} {X I : Value} (hg : Region.wanted o (yielded ops a.tmps) = true) (ho : o.op = .lookup t x i ok) (hx : a.eval x = X) (hi : a.eval i = I)
    (hrun : (Instr.lookup t X I ok).run P w = .ok v w') (h : wpList P ops Q rest (a.put o.dst v) w') : wpList P ops Q (o :: rest) a w := by
  subst hx; subst hi
  exact wpList_val hg (by unfold execOp; rw [ho]; simp [Sem.run_bind, hrun, Result.andThen]) h
theorem wpList_mapUpdate {t : TypeId} {m x i : Operand} {M X I : Value} (hg : Region.wanted o (yielded ops a.tmps) = true) (ho : o.op = .mapUpdate t m i x) (hm : a.eval m = M) (hx : a.eval x = X) (hi : a.eval i = I)
    (hrun : (Instr.mapUpdate t M I X).run P w = .ok () w') (h : wpList P ops Q rest (a.put o.dst undef) w') : wpList P ops Q (o :: rest) a w := by
  subst hx; subst hi; subst hm
  refine BigFrame.wpList_want hg fun _ hK => ?_
  unfold Oper.wp execOp
  rw [ho]
  simp [Sem.run_bind, hrun, Result.andThen]
  exact hK _ _ h
theorem wpList_alloc {t : TypeId} {z : Value} (hg : Region.wanted o (yielded ops a.tmps) = true) (ho : o.op = .alloc t) (hz : ∀ w, (zeroValue t).run P w = .ok z w)
    (h : wpList P ops Q rest (a.put o.dst (.pointer (some ⟨w.heap.size, 0, none⟩))) (w.alloc (.cells z.cells t))) : wpList P ops Q (o :: rest) a w := by
  refine wpList_val hg ?_ h
  unfold execOp
  rw [ho]
  simp [Instr.alloc, newVar, newRow, newObj, Sem.run_bind, Sem.run, hz, Result.andThen]
theorem wpList_store {t : TypeId} {p x : Operand} {V X : Value} (hg : Region.wanted o (yielded ops a.tmps) = true) (ho : o.op = .store t p x) (hp : a.eval p = V) (hx : a.eval x = X)
    (hrun : (Instr.storeAt t V X).run P w = .ok () w') (h : wpList P ops Q rest (a.put o.dst undef) w') : wpList P ops Q (o :: rest) a w := by
  subst hx; subst hp
  refine BigFrame.wpList_want hg fun _ hK => ?_
  unfold Oper.wp execOp
  rw [ho]
  simp [Sem.run_bind, hrun, Result.andThen]
  exact hK _ _ h
theorem wpList_load {t : TypeId} {p : Operand} {V : Value} (hg : Region.wanted o (yielded ops a.tmps) = true) (ho : o.op = .load t p) (hp : a.eval p = V)
    (hrun : (Instr.loadAt t V).run P w = .ok v w') (h : wpList P ops Q rest (a.put o.dst v) w') : wpList P ops Q (o :: rest) a w := by
  subst hp
  exact wpList_val hg (by unfold execOp; rw [ho]; simp [Sem.run_bind, hrun, Result.andThen]) h
theorem exec_load {t : TypeId} {p : Operand} {V : Value} (ho : o.op = .load t p) (hp : a.eval p = V) (hrun : (Instr.loadAt t V).run P w = .ok v w') : (execOp a.eval o).run P w = .ok (.value v) w' := by
  subst hp
  unfold execOp; rw [ho]; simp [Sem.run_bind, hrun, Result.andThen]
theorem exec_convert {s d : TypeId} {x : Operand} {X : Value} (ho : o.op = .convert s d x) (hx : a.eval x = X) (hrun : (convert s d X).run P w = .ok v w') : (execOp a.eval o).run P w = .ok (.value v) w' := by
  subst hx
  unfold execOp; rw [ho]; simp [Sem.run_bind, hrun, Result.andThen]
theorem wpList_mapEntry {t : TypeId} {m i : Operand} {M I : Value} (hg : Region.wanted o (yielded ops a.tmps) = true) (ho : o.op = .mapEntry t m i) (hm : a.eval m = M) (hi : a.eval i = I)
    (hrun : (Instr.mapEntry t M I).run P w = .ok v w') (h : wpList P ops Q rest (a.put o.dst v) w') : wpList P ops Q (o :: rest) a w := by
  subst hm; subst hi
  exact wpList_val hg (by unfold execOp; rw [ho]; simp [Sem.run_bind, hrun, Result.andThen]) h
theorem wpList_entryStore {t : TypeId} {m i x : Operand} {M I X : Value} (hg : Region.wanted o (yielded ops a.tmps) = true) (ho : o.op = .entryStore t m i x) (hm : a.eval m = M) (hi : a.eval i = I) (hx : a.eval x = X)
    (hrun : (Instr.entryStore t M I X).run P w = .ok () w') (h : wpList P ops Q rest (a.put o.dst undef) w') : wpList P ops Q (o :: rest) a w := by
  subst hx; subst hi; subst hm
  refine BigFrame.wpList_want hg fun _ hK => ?_
  unfold Oper.wp execOp
  rw [ho]
  simp [Sem.run_bind, hrun, Result.andThen]
  exact hK _ _ h
theorem wpList_makeSlice {t : TypeId} {l c : Operand} {L C : Value} (hg : Region.wanted o (yielded ops a.tmps) = true) (ho : o.op = .makeSlice t l c) (hl : a.eval l = L) (hc : a.eval c = C)
    (hrun : (Instr.makeSlice t L C).run P w = .ok v w') (h : wpList P ops Q rest (a.put o.dst v) w') : wpList P ops Q (o :: rest) a w := by
  subst hl; subst hc
  exact wpList_val hg (by unfold execOp; rw [ho]; simp [Sem.run_bind, hrun, Result.andThen]) h
theorem wpList_slice {t : TypeId} {x : Operand} {lo hi mx : Option Operand} {X : Value} (hg : Region.wanted o (yielded ops a.tmps) = true) (ho : o.op = .slice t x lo hi mx) (hx : a.eval x = X)
    (hrun : (Instr.sliceAt t X (lo.map a.eval) (hi.map a.eval) (mx.map a.eval)).run P w = .ok v w') (h : wpList P ops Q rest (a.put o.dst v) w') : wpList P ops Q (o :: rest) a w := by
  subst hx
  exact wpList_val hg (by unfold execOp; rw [ho]; simp [Sem.run_bind, hrun, Result.andThen]) h
theorem wpList_convert {s d : TypeId} {x : Operand} {X : Value} (hg : Region.wanted o (yielded ops a.tmps) = true) (ho : o.op = .convert s d x) (hx : a.eval x = X)
    (hrun : (convert s d X).run P w = .ok v w') (h : wpList P ops Q rest (a.put o.dst v) w') : wpList P ops Q (o :: rest) a w := by
  subst hx
  exact wpList_val hg (by unfold execOp; rw [ho]; simp [Sem.run_bind, hrun, Result.andThen]) h
end

/-! ### one cell, by its block -/
section
variable {P : Program}
theorem run_storeAt_blk {w : World} {b : Nat} {c : Array Value} {t : TypeId} (h : w.heap[b]? = some (.cells c t (0, 0))) {i : Nat} (hi : i < c.size) (T : TypeId) (hs : (P.info? T).map (·.size) = some 1) {v : Value} (h1 : v.cells = #[v]) (h2 : v.oneCell' = true) :
    (Instr.storeAt T (.pointer (some ⟨b, i, none⟩)) v).run P w = .ok () (w.setCell ⟨b, i, none⟩ v) := by
  have hc : w.cell? ⟨b, i, none⟩ = some c[i] := by rw [cell_blk h]; simp [hi]
  have hst := run_storeCells_cells (P := P) b i [v] 0 w (fun j hj => by have : j = 0 := by simpa using hj
                                                                        subst this; simp [hc]) (fun j hj => by have : j = 0 := by simpa using hj
                                                                                                               subst this; exact frozen_blk h _) (by simpa using h2)
  cases hq : P.info? T with
  | none => simp [hq] at hs
  | some x =>
    have hx : x.size = 1 := by simpa [hq] using hs
    simp only [Instr.storeAt, Instr.sureAddr, Sem.run_bind, Sem.run_pure, Result.andThen_ok]
    simp only [storeVar, sizeOf, typeInfo, h1]
    simp [Sem.run_bind, hq, hx, Result.andThen]
    simpa [World.setCells] using hst
/-- .. into the block that was made last. -/
theorem run_storeAt_last (w : World) {c : Array Value} {t : TypeId} {i : Nat} (hi : i < c.size) (T : TypeId) (hs : (P.info? T).map (·.size) = some 1) {v : Value} (h1 : v.cells = #[v]) (h2 : v.oneCell' = true) :
    (Instr.storeAt T (.pointer (some ⟨w.heap.size, i, none⟩)) v).run P (w.alloc (.cells c t)) = .ok () (w.alloc (.cells (c.setIfInBounds i v) t)) := by
  rw [run_storeAt_blk (heap_alloc_last w _) hi T hs h1 h2, World.setCell_alloc_at _ _ _ _ _ rfl]
end

/-! ### a run of cells, by its block -/
def setRange : List Value → Nat → List Value → List Value
  | c, _, [] => c
  | c, o, v :: vs => setRange (c.set o v) (o + 1) vs
theorem heap_setCells_blk (b : Nat) : ∀ (vs : List Value) (o : Nat) (w : World) {c : Array Value} {t : TypeId} {f : Nat × Nat}, w.heap[b]? = some (.cells c t f) →
    (w.setCells b o vs).heap[b]? = some (.cells (setRange c.toList o vs).toArray t f)
  | [], o, w, c, t, f, h => by simpa [World.setCells, setRange] using h
  | v :: vs, o, w, c, t, f, h => by
    simp only [World.setCells, setRange]
    rw [heap_setCells_blk b vs (o + 1) _ (heap_setCell_blk h o v)]
    simp
theorem setRange_mid (a : List Value) : ∀ (vs x z : List Value), x.length = vs.length → setRange (a ++ (x ++ z)) a.length vs = a ++ (vs ++ z)
  | [], x, z, h => by
    have : x = [] := by simpa using h
    subst this
    rfl
  | v :: vs, x, z, h => by
    cases x with
    | nil => simp at h
    | cons y ys =>
      have h' : ys.length = vs.length := by simpa using h
      have ih := setRange_mid (a ++ [v]) vs ys z h'
      simp only [setRange]
      have e : (a ++ (y :: ys ++ z)).set a.length v = (a ++ [v]) ++ (ys ++ z) := by
        rw [List.set_append_right _ _ (Nat.le_refl _)]
        simp
      rw [e]
      simpa using ih
theorem there_blk {w : World} {b : Nat} {c : Array Value} {t : TypeId} (h : w.heap[b]? = some (.cells c t (0, 0))) (o n : Nat) (hn : o + n ≤ c.size) : w.there b o n := fun j hj => by
  constructor
  · rw [cell_blk h]
    have : o + j < c.size := by omega
    simp [this]
  · exact frozen_blk h _
theorem rangeAt_blk {w : World} {b : Nat} {c : List Value} {t : TypeId} {f : Nat × Nat} (h : w.heap[b]? = some (.cells c.toArray t f)) : w.rangeAt b 0 c := fun j v hv => by
  rw [cell_blk h]
  simpa using hv
theorem rangeAt_mid {w : World} {b : Nat} {a c z : List Value} {t : TypeId} {f : Nat × Nat} (h : w.heap[b]? = some (.cells (a ++ (c ++ z)).toArray t f)) : w.rangeAt b a.length c := fun j v hv => by
  rw [cell_blk h]
  have hj := (List.getElem?_eq_some_iff.1 hv).1
  simp only [List.getElem?_toArray]
  rw [List.getElem?_append_right (by omega), Nat.add_sub_cancel_left, List.getElem?_append_left hj]
  exact hv
theorem rangeAt_of_heap {w w' : World} {b o : Nat} {cs : List Value} (h : w.rangeAt b o cs) (e : w'.heap[b]? = w.heap[b]?) : w'.rangeAt b o cs := fun j v hv => by
  have := h j v hv
  simpa [World.cell?, e] using this
theorem rangeAt_lt {w : World} {b o : Nat} {cs : List Value} (h : w.rangeAt b o cs) (hne : cs ≠ []) : b < w.heap.size := by
  cases cs with
  | nil => exact absurd rfl hne
  | cons v vs => exact World.block_lt_of_cell? _ _ (h 0 v rfl)
theorem rangeAt_mod {l : List Nat} {w w' : World} {b o : Nat} {cs : List Value} (h : w.rangeAt b o cs) (hm : Mod l w w') (hn : b ∉ l) : w'.rangeAt b o cs := by
  by_cases hne : cs = []
  · subst hne; intro j v hv; simp at hv
  · exact rangeAt_of_heap h (hm.block b (rangeAt_lt h hne) hn)

/-! ### maps keyed by ints -/
/-- The first entry of a key: its place and value. -/
def findK (k : Int) : List MapEntry → Nat → Option (Nat × Value)
  | [], _ => none
  | e :: es, i => match e.key with
    | .int .i64 k' => if k = k' then some (i, e.val) else findK k es (i + 1)
    | _ => none
/-- All keys are ints. -/
def intKeys (l : List MapEntry) : Prop := ∀ e ∈ l, ∃ k, e.key = .int .i64 k
theorem findNow_int {l : List MapEntry} (h : intKeys l) (k : Int) : ∀ i, Instr.findNow (.int .i64) (.int .i64 k) l i = some (findK k l i) := by
  induction l with
  | nil => intro i; rfl
  | cons e es ih =>
    intro i
    obtain ⟨k', hk'⟩ := h e (by simp)
    have ih' := ih (fun e he => h e (by simp [he])) (i + 1)
    unfold Instr.findNow findK
    rw [hk']
    by_cases hk : k = k'
    · simp [Instr.sameNow, hk]
    · have hb : (k == k') = false := by simpa using hk
      simp [Instr.sameNow, hk, hb, ih']
theorem findK_shift (k : Int) (l : List MapEntry) : ∀ i, findK k l (i + 1) = (findK k l i).map (fun x => (x.1 + 1, x.2)) := by
  induction l with
  | nil => intro i; rfl
  | cons e es ih =>
    intro i
    unfold findK
    split
    · split
      · rfl
      · exact ih (i + 1)
    · rfl
/-- What stands at a key. -/
def atK (l : List MapEntry) (k : Int) : Option Value := (findK k l 0).map (·.2)
theorem findK_cons {e : MapEntry} {es : List MapEntry} {k' : Int} (he : e.key = .int .i64 k') (k : Int) (i : Nat) : findK k (e :: es) i = if k = k' then some (i, e.val) else findK k es (i + 1) := by
  simp only [findK, he]
theorem atK_cons {e : MapEntry} {es : List MapEntry} {k' : Int} (he : e.key = .int .i64 k') (k : Int) : atK (e :: es) k = if k = k' then some e.val else atK es k := by
  unfold atK
  rw [findK_cons he]
  by_cases hk : k = k'
  · simp [hk]
  · simp only [if_neg hk, findK_shift k es 0, Option.map_map, Function.comp_def]
/-- A place of the list, by the key's search. -/
theorem findK_get {l : List MapEntry} (h : intKeys l) {k : Int} {i : Nat} {v : Value} (hf : findK k l 0 = some (i, v)) : ∃ e, l[i]? = some e ∧ e.key = .int .i64 k ∧ e.val = v := by
  induction l generalizing i v with
  | nil => simp [findK] at hf
  | cons e es ih =>
    obtain ⟨k', hk'⟩ := h e (by simp)
    unfold findK at hf
    rw [hk'] at hf
    by_cases hk : k = k'
    · simp [hk] at hf
      obtain ⟨rfl, rfl⟩ := hf
      exact ⟨e, rfl, by rw [hk', hk], rfl⟩
    · simp only [if_neg hk] at hf
      rw [findK_shift] at hf
      cases hq : findK k es 0 with
      | none => simp [hq] at hf
      | some x =>
        obtain ⟨j, u⟩ := x
        simp [hq] at hf
        obtain ⟨rfl, rfl⟩ := hf
        obtain ⟨e', h1, h2, h3⟩ := ih (fun e he => h e (by simp [he])) hq
        exact ⟨e', by simpa using h1, h2, h3⟩
theorem atK_set {l : List MapEntry} (h : intKeys l) {k : Int} {i : Nat} {u : Value} (hf : findK k l 0 = some (i, u)) (e' : MapEntry) (hk' : e'.key = .int .i64 k) (k2 : Int) :
    atK (l.set i e') k2 = if k2 = k then some e'.val else atK l k2 := by
  induction l generalizing i u with
  | nil => simp [findK] at hf
  | cons e es ih =>
    obtain ⟨k0, hk0⟩ := h e (by simp)
    unfold findK at hf
    rw [hk0] at hf
    by_cases hk : k = k0
    · simp [hk] at hf
      obtain ⟨rfl, rfl⟩ := hf
      subst hk
      rw [List.set_cons_zero, atK_cons hk', atK_cons hk0]
      by_cases h2 : k2 = k <;> simp [h2]
    · simp only [if_neg hk] at hf
      rw [findK_shift] at hf
      cases hq : findK k es 0 with
      | none => simp [hq] at hf
      | some x =>
        obtain ⟨j, u'⟩ := x
        simp [hq] at hf
        obtain ⟨rfl, rfl⟩ := hf
        have := ih (fun e he => h e (by simp [he])) hq
        rw [List.set_cons_succ, atK_cons hk0, atK_cons hk0, this]
        by_cases h2 : k2 = k0
        · have : k2 ≠ k := fun e => hk (e ▸ h2)
          simp [h2, this]
          intro e; exact absurd e.symm hk
        · simp [h2]
theorem atK_push {l : List MapEntry} (h : intKeys l) {k : Int} (hf : findK k l 0 = none) (e' : MapEntry) (hk' : e'.key = .int .i64 k) (k2 : Int) :
    atK (l ++ [e']) k2 = if k2 = k then some e'.val else atK l k2 := by
  induction l with
  | nil => simp only [List.nil_append]; rw [atK_cons hk']
  | cons e es ih =>
    obtain ⟨k0, hk0⟩ := h e (by simp)
    unfold findK at hf
    rw [hk0] at hf
    by_cases hk : k = k0
    · simp [hk] at hf
    · simp only [if_neg hk] at hf
      rw [findK_shift] at hf
      have hf' : findK k es 0 = none := by simpa using hf
      have := ih (fun e he => h e (by simp [he])) hf'
      rw [List.cons_append, atK_cons hk0, atK_cons hk0, this]
      by_cases h2 : k2 = k0
      · have : k2 ≠ k := fun e => hk (e ▸ h2)
        simp [h2]; intro e; exact absurd e.symm hk
      · simp [h2]

/-- A map's entries: int keys, stamps below the clock, each once; f: what stands at each key. -/
structure IntMap (es : Array MapEntry) (clock : Nat) (f : Int → Option Value) : Prop where
  keys : intKeys es.toList
  born : ∀ e ∈ es.toList, e.born < clock
  once : (es.toList.map (·.born)).Nodup
  at_ : ∀ k, atK es.toList k = f k
/-- Block m is a map that holds f. -/
def MapAt (w : World) (m : Nat) (f : Int → Option Value) : Prop := ∃ es clock, w.heap[m]? = some (.map es clock) ∧ IntMap es clock f
theorem MapAt.of_heap {w w' : World} {m : Nat} {f : Int → Option Value} (h : MapAt w m f) (e : w'.heap[m]? = w.heap[m]?) : MapAt w' m f := by
  obtain ⟨es, c, h1, h2⟩ := h
  exact ⟨es, c, e.trans h1, h2⟩
theorem MapAt.lt {w : World} {m : Nat} {f : Int → Option Value} (h : MapAt w m f) : m < w.heap.size := by
  obtain ⟨es, c, h1, h2⟩ := h
  exact lt_of_heap h1
theorem IntMap.empty : IntMap #[] 0 (fun _ => none) := ⟨by simp [intKeys], by simp, by simp, fun k => rfl⟩

section
variable {P : Program} {T K E : TypeId} (hT : P.underlying T = some (.map K E)) (hK : P.underlying K = some (.int .i64))
include hT hK
theorem run_findKey_int {es : List MapEntry} (h : intKeys es) (k : Int) (w : World) : (Instr.findKey K (.int .i64 k) es).run P w = .ok (findK k es 0) w := by
  simp [Instr.findKey, run_underlying hK, findNow_int h k 0]
theorem run_checkKey_int (b : Bool) (n : Nat) (k : Int) (w : World) : (Instr.checkKey b (n + 1) K (.int .i64 k)).run P w = .ok () w := by
  simp [Instr.checkKey, run_underlying hK]
theorem run_getObj_map {w : World} {m : Nat} {es : Array MapEntry} {clock : Nat} (hm : w.heap[m]? = some (.map es clock)) : (getObj m).run P w = .ok (.map es clock) w := by
  simp [getObj, Sem.run, hm]
theorem run_setObj_map {w : World} {m : Nat} {es : Array MapEntry} {clock : Nat} (hm : w.heap[m]? = some (.map es clock)) (o : Obj) : (setObj m o).run P w = .ok () (setBlock w m o) := by
  simp [setObj, Sem.run, hm, setBlock]
theorem run_lookup_at {w : World} {m : Nat} {f : Int → Option Value} (h : MapAt w m f) (k : Int) {z : Value} (hz : (zeroValue E).run P w = .ok z w) :
    (Instr.lookup T (.map (some m)) (.int .i64 k) false).run P w = .ok ((f k).getD z) w := by
  obtain ⟨es, clock, hm, hI⟩ := h
  have ha := hI.at_ k
  unfold atK at ha
  simp only [Instr.lookup, Sem.run_bind, run_underlying hT, run_getObj_map hT hK hm, Result.andThen, Sem.run_pure, run_checkKey_int hT hK, run_findKey_int hT hK hI.keys]
  cases hq : findK k es.toList 0 with
  | none => rw [hq] at ha; simp [Sem.run_bind, hz, Result.andThen, ← ha]
  | some x => rw [hq] at ha; simp [Result.andThen, ← ha]
/-- A store: what the map holds then; nothing but its block has turned. -/
theorem run_mapUpdate_at {w : World} {m : Nat} {f : Int → Option Value} (h : MapAt w m f) (k : Int) (v : Value) :
    ∃ o, (Instr.mapUpdate T (.map (some m)) (.int .i64 k) v).run P w = .ok () (setBlock w m o) ∧ MapAt (setBlock w m o) m (fun k2 => if k2 = k then some v else f k2) := by
  obtain ⟨es, clock, hm, hI⟩ := h
  have hlt := lt_of_heap hm
  simp only [Instr.mapUpdate, Sem.run_bind, run_underlying hT, run_getObj_map hT hK hm, Result.andThen, run_checkKey_int hT hK, run_findKey_int hT hK hI.keys]
  cases hq : findK k es.toList 0 with
  | none =>
    refine ⟨_, run_setObj_map hT hK hm _, _, _, heap_setBlock_eq w m _ hlt, ?_, ?_, ?_, ?_⟩
    · intro e he
      simp at he
      rcases he with he | rfl
      · exact hI.keys e (by simpa using he)
      · exact ⟨k, rfl⟩
    · intro e he
      simp at he
      rcases he with he | rfl
      · have := hI.born e (by simpa using he); omega
      · show clock < clock + 1; omega
    · simp only [Array.toList_push, List.map_append, List.map_cons, List.map_nil]
      rw [List.nodup_append]
      refine ⟨hI.once, by simp, ?_⟩
      intro a ha b hb
      simp at hb
      subst hb
      obtain ⟨e, he, rfl⟩ := List.mem_map.1 ha
      have := hI.born e he
      omega
    · intro k2
      rw [Array.toList_push, atK_push hI.keys hq _ rfl, hI.at_]
  | some x =>
    obtain ⟨i, u⟩ := x
    obtain ⟨e, h1, h2, h3⟩ := findK_get hI.keys hq
    have hi : i < es.size := by
      have := (List.getElem?_eq_some_iff.1 h1).1
      simpa using this
    have h1' : es[i]? = some e := by simpa using h1
    have he : es[i] = e := by simpa [hi] using h1'
    have hb : Instr.sameBits 10000 (Value.int .i64 k) (Value.int .i64 k) = true := by simp [Instr.sameBits]
    simp only [h1', Option.map_some, Option.getD_some, h2, Instr.keyThatStays, hb, if_true, Sem.run_pure]
    refine ⟨_, run_setObj_map hT hK hm _, _, _, heap_setBlock_eq w m _ hlt, ?_⟩
    have hmod : (es.modify i fun e => { e with key := .int .i64 k, val := v }).toList = es.toList.set i { e with key := .int .i64 k, val := v } := by
      rw [Array.toList_modify]
      apply List.ext_getElem?
      intro j
      rw [List.getElem?_modify, List.getElem?_set]
      by_cases hj : i = j
      · subst hj
        simp [hi, he]
      · simp [hj]
    refine ⟨?_, ?_, ?_, ?_⟩
    · rw [hmod]
      intro e' he'
      rcases List.mem_or_eq_of_mem_set he' with he' | rfl
      · exact hI.keys e' he'
      · exact ⟨k, rfl⟩
    · rw [hmod]
      intro e' he'
      rcases List.mem_or_eq_of_mem_set he' with he' | rfl
      · exact hI.born e' he'
      · exact hI.born e (List.mem_of_getElem? h1)
    · rw [hmod, List.map_set]
      have : (es.toList.map (·.born)).set i e.born = es.toList.map (·.born) := by
        apply List.ext_getElem?
        intro j
        rw [List.getElem?_set]
        by_cases hj : i = j
        · subst hj
          simp [hi, he]
        · simp [hj]
      rw [this]
      exact hI.once
    · intro k2
      rw [hmod, atK_set hI.keys hq _ rfl, hI.at_]
/-- Block m is a map in which the entry of stamp s is k's; the others hold f. -/
def Stamp (w : World) (m : Nat) (f : Int → Option Value) (k : Int) (s : Nat) : Prop :=
  ∃ es clock i e, w.heap[m]? = some (.map es clock) ∧ intKeys es.toList ∧ (∀ e ∈ es.toList, e.born < clock) ∧ (es.toList.map (·.born)).Nodup ∧ es.toList[i]? = some e ∧ e.born = s ∧ e.key = .int .i64 k ∧
    (∀ e' : MapEntry, e'.key = .int .i64 k → ∀ k2, atK (es.toList.set i e') k2 = if k2 = k then some e'.val else f k2)
theorem Stamp.of_heap {w w' : World} {m : Nat} {f : Int → Option Value} {k : Int} {s : Nat} (h : Stamp w m f k s) (e : w'.heap[m]? = w.heap[m]?) : Stamp w' m f k s := by
  obtain ⟨es, c, i, x, h1, h2⟩ := h
  exact ⟨es, c, i, x, e.trans h1, h2⟩
theorem run_mapEntry_at {w : World} {m : Nat} {f : Int → Option Value} (h : MapAt w m f) (k : Int) {z : Value} (hz : ∀ w, (zeroValue E).run P w = .ok z w) :
    ∃ (o : Obj) (s : Nat) (v0 : Value), (Instr.mapEntry T (.map (some m)) (.int .i64 k)).run P w = .ok (.tuple #[v0, .int .i64 (s : Int)]) (setBlock w m o) ∧ Stamp (setBlock w m o) m f k s := by
  obtain ⟨es, clock, hm, hI⟩ := h
  have hlt := lt_of_heap hm
  simp only [Instr.mapEntry, Sem.run_bind, run_underlying hT, run_getObj_map hT hK hm, Result.andThen, run_checkKey_int hT hK, run_findKey_int hT hK hI.keys]
  cases hq : findK k es.toList 0 with
  | none =>
    refine ⟨_, clock, z, ?_, es.push { key := .int .i64 k, val := z, born := clock }, clock + 1, es.size, { key := .int .i64 k, val := z, born := clock }, heap_setBlock_eq w m _ hlt, ?_, ?_, ?_, by simp, rfl, rfl, ?_⟩
    · simp [Sem.run_bind, hz, Result.andThen, run_setObj_map hT hK hm, goInt]
    · intro e he
      simp at he
      rcases he with he | rfl
      · exact hI.keys e (by simpa using he)
      · exact ⟨k, rfl⟩
    · intro e he
      simp at he
      rcases he with he | rfl
      · have := hI.born e (by simpa using he); omega
      · show clock < clock + 1; omega
    · simp only [Array.toList_push, List.map_append, List.map_cons, List.map_nil]
      rw [List.nodup_append]
      refine ⟨hI.once, by simp, ?_⟩
      intro a ha b hb
      simp at hb
      subst hb
      obtain ⟨e, he, rfl⟩ := List.mem_map.1 ha
      have := hI.born e he
      omega
    · intro e' he' k2
      have e1 : (es.push { key := Value.int .i64 k, val := z, born := clock }).toList.set es.size e' = es.toList ++ [e'] := by
        rw [Array.toList_push, List.set_append_right _ _ (by simp)]
        simp
      rw [e1, atK_push hI.keys hq _ he', hI.at_]
  | some x =>
    obtain ⟨i, u⟩ := x
    obtain ⟨e, h1, h2, h3⟩ := findK_get hI.keys hq
    have hi : i < es.size := by
      have := (List.getElem?_eq_some_iff.1 h1).1
      simpa using this
    have h1' : es[i]? = some e := by simpa using h1
    have he : es[i] = e := by simpa [hi] using h1'
    have hb : Instr.sameBits 10000 (Value.int .i64 k) (Value.int .i64 k) = true := by simp [Instr.sameBits]
    have hmod : (es.modify i fun e => { e with key := .int .i64 k }).toList = es.toList := by
      rw [Array.toList_modify]
      apply List.ext_getElem?
      intro j
      rw [List.getElem?_modify]
      by_cases hj : i = j
      · subst hj
        simp [hi, he, h2]
        cases e; simp at h2 ⊢; exact h2.symm
      · simp [hj]
    have hmod' : (es.modify i fun e => { e with key := .int .i64 k }) = es := Array.ext' hmod
    refine ⟨.map es clock, e.born, u, ?_, es, clock, i, e, heap_setBlock_eq w m _ hlt, hI.keys, hI.born, hI.once, h1, rfl, h2, fun e' he' k2 => by rw [atK_set hI.keys hq _ he', hI.at_]⟩
    simp [h1', h2, Instr.keyThatStays, hb, hmod', run_setObj_map hT hK hm, Result.andThen, goInt, Sem.run_bind]
theorem run_entryStore_at {w : World} {m : Nat} {f : Int → Option Value} {k : Int} {s : Nat} (h : Stamp w m f k s) (v : Value) :
    ∃ o, (Instr.entryStore T (.map (some m)) (.int .i64 (s : Int)) v).run P w = .ok () (setBlock w m o) ∧ MapAt (setBlock w m o) m (fun k2 => if k2 = k then some v else f k2) := by
  obtain ⟨es, clock, i, e, hm, hk, hb, hn, h1, h2, h3, h4⟩ := h
  have hlt := lt_of_heap hm
  have hi : i < es.size := by
    have := (List.getElem?_eq_some_iff.1 h1).1
    simpa using this
  have he : es[i] = e := by
    have : es[i]? = some e := by simpa using h1
    simpa [hi] using this
  have hf : es.findIdx? (fun e => (e.born : Int) == (s : Int)) = some i := by
    rw [Array.findIdx?_eq_some_iff_getElem]
    refine ⟨hi, by rw [he, h2]; simp, fun j hj => ?_⟩
    intro hc
    have hc' : es[j].born = s := by
      have := eq_of_beq hc
      omega
    have hji : (es.toList.map (·.born))[j]? = (es.toList.map (·.born))[i]? := by
      have hjs : j < es.size := by omega
      simp [hi, hjs, he, h2, hc']
    have := (List.getElem?_inj (by simp; omega) hn).1 hji
    omega
  have hmod : (es.modify i fun e => { e with val := v }).toList = es.toList.set i { e with val := v } := by
    rw [Array.toList_modify]
    apply List.ext_getElem?
    intro j
    rw [List.getElem?_modify, List.getElem?_set]
    by_cases hj : i = j
    · subst hj
      simp [hi, he]
    · simp [hj]
  refine ⟨_, ?_, es.modify i (fun e => { e with val := v }), clock, heap_setBlock_eq w m _ hlt, ?_, ?_, ?_, ?_⟩
  · simp [Instr.entryStore, Sem.run_bind, run_getObj_map hT hK hm, Result.andThen, asInt, asIntOf, hf, run_setObj_map hT hK hm]
  · rw [hmod]
    intro e' he'
    rcases List.mem_or_eq_of_mem_set he' with he' | rfl
    · exact hk e' he'
    · exact ⟨k, h3⟩
  · rw [hmod]
    intro e' he'
    rcases List.mem_or_eq_of_mem_set he' with he' | rfl
    · exact hb e' he'
    · exact hb e (List.mem_of_getElem? h1)
  · rw [hmod, List.map_set]
    have : (es.toList.map (·.born)).set i e.born = es.toList.map (·.born) := by
      apply List.ext_getElem?
      intro j
      rw [List.getElem?_set]
      by_cases hj : i = j
      · subst hj
        simp [hi, he]
      · simp [hj]
    rw [this]
    exact hn
  · intro k2
    rw [hmod]
    exact h4 { e with val := v } h3 k2
end
end Go.Proofs.YtdaokholmlpfkaaDoor
