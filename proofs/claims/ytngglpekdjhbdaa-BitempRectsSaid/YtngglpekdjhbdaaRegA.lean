/- Operations that write nothing that was there: what they make or draw, they make or draw anew. -/
import Derived.Orders
import Derived.Tactics
namespace Go.Proofs.Ytngglpekdjhbdaa
set_option linter.unusedSimpArgs false
set_option linter.unusedVariables false

/-- No store, no system call: it reads, makes blocks, draws. -/
def Ad {α : Type} : Sem α → Prop
  | .pure _ => True
  | .load _ _ k => ∀ v, Ad (k v)
  | .store _ _ _ _ => False
  | .new _ k => ∀ r, Ad (k r)
  | .shape _ k => ∀ s, Ad (k s)
  | .freeze _ _ _ => False
  | .frozen _ k => ∀ b, Ad (k b)
  | .getObj _ k => ∀ o, Ad (k o)
  | .setObj _ _ _ => False
  | .choose _ k => ∀ n, Ad (k n)
  | .sys _ _ => False
  | .program k => ∀ p, Ad (k p)
  | .mark _ k => Ad k
  | .halt _ => True
theorem Ad.bind {α β : Type} {s : Sem α} {f : α → Sem β} (h : Ad s) (hf : ∀ a, Ad (f a)) : Ad (s >>= f) := by
  show Ad (s.bind f)
  induction s with
  | pure a => exact hf a
  | load m a k ih => exact fun v => ih v (h v)
  | store m a v k ih => exact h.elim
  | new o k ih => exact fun v => ih v (h v)
  | shape r k ih => exact fun v => ih v (h v)
  | freeze a n k ih => exact h.elim
  | frozen a k ih => exact fun v => ih v (h v)
  | getObj r k ih => exact fun v => ih v (h v)
  | setObj r o k ih => exact h.elim
  | choose q k ih => exact fun v => ih v (h v)
  | sys c k ih => exact h.elim
  | program k ih => exact fun v => ih v (h v)
  | mark m k ih => exact ih h
  | halt x => trivial
theorem Ad.pure {α : Type} (a : α) : Ad (pure a : Sem α) := trivial
theorem Ad.map {α β : Type} {s : Sem α} {f : α → β} (h : Ad s) : Ad (f <$> s) := by
  show Ad (s.bind _)
  exact Ad.bind h fun _ => trivial
/-- The world is no smaller, and if nothing was made or drawn it is the same. -/
structure Grows (w w' : World) : Prop where
  size : w.heap.size ≤ w'.heap.size
  drawn : w.drawn ≤ w'.drawn
  same : w'.heap.size = w.heap.size → w'.drawn = w.drawn → w' = w
theorem Grows.refl (w : World) : Grows w w := ⟨Nat.le_refl _, Nat.le_refl _, fun _ _ => rfl⟩
theorem Ad.grows {α : Type} {p : Program} {s : Sem α} (h : Ad s) : ∀ {w : World} {v : α} {w' : World}, s.run p w = .ok v w' → Grows w w' := by
  induction s with
  | pure a => intro w v w' hr; simp [Sem.run] at hr; rw [hr.2]; exact Grows.refl _
  | load m a k ih =>
    intro w v w' hr
    simp only [Sem.run] at hr
    split at hr
    · exact ih _ (h _) hr
    · split at hr
      · exact ih _ (h _) hr
      · cases hr
  | store m a v k ih => exact h.elim
  | new o k ih =>
    intro w v w' hr
    simp only [Sem.run] at hr
    have g := ih _ (h _) hr
    have h1 := g.size
    simp at h1
    exact ⟨by omega, g.drawn, fun e _ => by omega⟩
  | shape r k ih => intro w v w' hr; exact ih _ (h _) hr
  | freeze a n k ih => exact h.elim
  | frozen a k ih => intro w v w' hr; exact ih _ (h _) hr
  | getObj r k ih =>
    intro w v w' hr
    simp only [Sem.run] at hr
    split at hr
    · cases hr
    · exact ih _ (h _) hr
    · cases hr
  | setObj r o k ih => exact h.elim
  | choose q k ih =>
    intro w v w' hr
    simp only [Sem.run] at hr
    split at hr
    · exact ih _ (h _) hr
    · have g := ih _ (h _) hr
      have h1 := g.drawn
      simp at h1
      exact ⟨g.size, by omega, fun _ e => by omega⟩
  | sys c k ih => exact h.elim
  | program k ih => intro w v w' hr; exact ih _ (h _) hr
  | mark m k ih => intro w v w' hr; exact ih h hr
  | halt x => intro w v w' hr; simp [Sem.run] at hr

/-! ### the model's own words -/
theorem ad_program : Ad program := fun _ => trivial
theorem ad_load (a : Addr) (m : Mode) : Ad (load a m) := fun _ => trivial
theorem ad_getObj (r : Nat) : Ad (getObj r) := fun _ => trivial
theorem ad_frozen (a : Addr) : Ad (frozen a) := fun _ => trivial
theorem ad_shape (r : Nat) : Ad (shape r) := fun _ => trivial
theorem ad_choose (q : Question) : Ad (choose q) := fun _ => trivial
theorem ad_newObj (o : Obj) : Ad (newObj o) := fun _ => trivial
theorem ad_stuck {α : Type} (s : String) : Ad (stuck s : Sem α) := trivial
theorem ad_unsupported {α : Type} (u : Unsupported) : Ad (unsupported u : Sem α) := trivial
theorem ad_goPanic {α : Type} (v : Value) : Ad (goPanic v : Sem α) := trivial
theorem ad_typeInfo (t : TypeId) : Ad (typeInfo t) := by
  unfold typeInfo
  refine Ad.bind ad_program fun p => ?_
  split
  · trivial
  · trivial
theorem ad_underlying (t : TypeId) : Ad (underlying t) := by
  unfold underlying
  refine Ad.bind ad_program fun p => ?_
  split
  · trivial
  · trivial
theorem ad_typeStr (t : TypeId) : Ad (typeStr t) := by
  unfold typeStr
  refine Ad.bind (ad_typeInfo t) fun p => ?_
  dsimp only
  split <;> trivial
theorem ad_zeroValue (t : TypeId) : Ad (zeroValue t) := by
  unfold zeroValue
  refine Ad.bind (ad_typeInfo t) fun p => ?_
  split <;> trivial
theorem ad_sizeOf (t : TypeId) : Ad (sizeOf t) := by
  unfold sizeOf
  exact Ad.bind (ad_typeInfo t) fun p => trivial
theorem ad_isAgg (t : TypeId) : Ad (isAgg t) := by
  unfold isAgg
  refine Ad.bind (ad_underlying t) fun p => ?_
  split <;> trivial
theorem ad_loadCellsFrom (a : Addr) : ∀ (n i : Nat) (acc : Array Value), Ad (loadCellsFrom a i n acc)
  | 0, _, _ => trivial
  | n + 1, i, acc => by
    unfold loadCellsFrom
    exact Ad.bind (ad_load _ _) fun v => ad_loadCellsFrom a n _ _
theorem ad_loadVar (t : TypeId) (a : Addr) : Ad (loadVar t a) := by
  unfold loadVar
  refine Ad.bind (ad_isAgg t) fun b => ?_
  split
  · exact Ad.bind (ad_sizeOf t) fun n => Ad.bind (ad_loadCellsFrom _ _ _ _) fun _ => trivial
  · exact ad_load _ _
theorem ad_part (t : TypeId) (cs : Array Value) (n : Nat) : Ad (part t cs n) := by
  unfold part
  refine Ad.bind (ad_isAgg t) fun b => ?_
  split
  · exact Ad.bind (ad_sizeOf t) fun n => trivial
  · split <;> trivial
theorem ad_elemOf (t : TypeId) : Ad (elemOf t) := by
  unfold elemOf
  refine Ad.bind (ad_underlying t) fun b => ?_
  split <;> trivial
theorem ad_newVar (t : TypeId) (v : Value) : Ad (newVar t v) := Ad.bind (ad_newObj _) fun _ => trivial
theorem ad_runtimePanic {α : Type} (e : RuntimeError) : Ad (runtimePanic e : Sem α) := by
  unfold runtimePanic
  refine Ad.bind ad_program fun p => ?_
  dsimp only
  split
  · trivial
  · trivial
  · trivial
  · trivial
  · exact Ad.bind (ad_elemOf _) fun _ => Ad.bind (ad_newVar _ _) fun _ => trivial
  · exact Ad.bind (ad_elemOf _) fun _ => Ad.bind (ad_newVar _ _) fun _ => trivial
  · trivial
theorem ad_boundsPanic {α : Type} (k : IntKind) (x y : Int) (c : BoundsCode) : Ad (boundsPanic k x y c : Sem α) := by
  unfold boundsPanic
  dsimp only
  split
  · exact Ad.bind (Ad.map (ad_choose _)) fun _ => ad_runtimePanic _
  · exact Ad.bind (Ad.pure _) fun _ => ad_runtimePanic _
theorem ad_asIntOf (v : Value) : Ad (asIntOf v) := by unfold asIntOf; split <;> trivial
theorem ad_asInt (v : Value) : Ad (asInt v) := Ad.bind (ad_asIntOf v) fun _ => trivial
theorem ad_asBool (v : Value) : Ad (asBool v) := by unfold asBool; split <;> trivial
theorem ad_asAgg (v : Value) : Ad (asAgg v) := by unfold asAgg; split <;> trivial
theorem ad_asAddr (v : Value) : Ad (asAddr v) := by
  unfold asAddr
  split
  · trivial
  · exact ad_runtimePanic _
  · trivial
theorem ad_sureAddr (v : Value) : Ad (Instr.sureAddr v) := by unfold Instr.sureAddr; split <;> trivial

/-! ### the instructions -/
theorem ad_loadAt (t : TypeId) (v : Value) : Ad (Instr.loadAt t v) := Ad.bind (ad_sureAddr v) fun a => ad_loadVar t a
theorem ad_viewAt (r : Nat) : Ad (viewAt r) := by
  unfold viewAt
  refine Ad.bind (ad_shape _) fun _ => ?_
  split
  · trivial
  · refine Ad.bind (ad_getObj _) fun _ => ?_
    split <;> trivial
theorem ad_numberAt (r : Nat) : Ad (numberAt r) := by
  unfold numberAt
  refine Ad.bind (ad_shape _) fun _ => ?_
  split
  · trivial
  · refine Ad.bind (ad_getObj _) fun _ => ?_
    split <;> trivial
theorem ad_behindNumber (a : Addr) : Ad (behindNumber a) := by
  unfold behindNumber
  exact Ad.bind (ad_numberAt _) fun _ => trivial
theorem ad_asNumber (a : Addr) (b : Bool) : Ad (asNumber a b) := Ad.bind (ad_newObj _) fun _ => trivial
theorem ad_noView (a : Addr) : Ad (noView a) := by
  unfold noView
  refine Ad.bind (ad_viewAt _) fun _ => ?_
  split <;> trivial
theorem ad_stringish (a : Addr) : Ad (stringish a) := by
  unfold stringish
  refine Ad.bind (ad_frozen _) fun _ => ?_
  split
  · trivial
  · refine Ad.bind (ad_shape _) fun _ => ?_
    split
    · exact ad_frozen _
    · trivial
theorem ad_mayBeOne (a b : Addr) : Ad (mayBeOne a b) := by
  unfold mayBeOne
  refine Ad.bind (ad_stringish _) fun _ => Ad.bind (ad_stringish _) fun _ => ?_
  exact Ad.bind (Ad.bind (ad_shape _) fun _ => trivial) fun _ => Ad.bind (Ad.bind (ad_shape _) fun _ => trivial) fun _ => trivial
theorem ad_sameAddr (a b : Addr) : Ad (sameAddr a b) := by
  unfold sameAddr
  dsimp only
  split
  · trivial
  · refine Ad.bind (ad_frozen _) fun _ => Ad.bind (ad_frozen _) fun _ => ?_
    split
    · trivial
    · refine Ad.bind (ad_noView _) fun _ => Ad.bind (ad_noView _) fun _ => Ad.bind (ad_mayBeOne _ _) fun _ => ?_
      split
      · exact Ad.bind (ad_choose _) fun _ => trivial
      · trivial
theorem ad_samePointer (a b : Option Addr) : Ad (samePointer a b) := by
  unfold samePointer
  split
  · exact ad_sameAddr _ _
  · trivial
theorem ad_fieldAt (t : TypeId) (v : Value) (f : Nat) (h : ∀ a g, Ad (fieldPlace a g)) : Ad (Instr.fieldAt t v f) := by
  unfold Instr.fieldAt
  refine Ad.bind (ad_underlying _) fun d => ?_
  split
  · split
    · exact Ad.bind (ad_sureAddr _) fun a => Ad.bind (h _ _) fun _ => trivial
    · trivial
  · trivial
theorem ad_indexAt (t : TypeId) (x i : Value) : Ad (Instr.indexAt t x i) := by
  unfold Instr.indexAt
  refine Ad.bind (ad_asIntOf _) fun ki => ?_
  dsimp only
  refine Ad.bind (ad_underlying _) fun d => ?_
  repeat' (first | exact ad_boundsPanic _ _ _ _ | exact ad_stuck _ | exact ad_unsupported _ | exact ad_underlying _ | exact ad_sizeOf _ | exact ad_sureAddr _ | exact Ad.pure _ | apply Ad.bind | split | intro _ | trivial)
theorem ad_arrayAt (t : TypeId) (x : Value) : Ad (Instr.arrayAt t x) := by
  unfold Instr.arrayAt
  repeat' (first | exact ad_runtimePanic _ | exact ad_stuck _ | exact ad_unsupported _ | exact ad_underlying _ | exact Ad.pure _ | apply Ad.bind | split | intro _ | trivial)
theorem ad_sliceBound (x : Value) (y : Nat) (c : BoundsCode) : Ad (Instr.sliceBound x y c) := by
  unfold Instr.sliceBound
  refine Ad.bind (ad_asIntOf _) fun ki => ?_
  dsimp only
  split
  · trivial
  · exact ad_boundsPanic _ _ _ _
theorem ad_sliceBounds (b : Bool) (n c : Nat) (l h m : Option Value) : Ad (Instr.sliceBounds b n c l h m) := by
  unfold Instr.sliceBounds
  repeat' (first | exact ad_sliceBound _ _ _ | exact ad_stuck _ | exact Ad.pure _ | apply Ad.bind | split | intro _ | trivial)
theorem ad_slice (t : TypeId) (x : Value) (l h m : Option Value) : Ad (Instr.slice t x l h m) := by
  unfold Instr.slice
  repeat' (first | exact ad_sliceBounds _ _ _ _ _ _ | exact ad_stuck _ | exact ad_underlying _ | exact ad_sizeOf _ | exact ad_asAddr _ | exact Ad.pure _ | apply Ad.bind | split | intro _ | trivial)
theorem ad_sliceAt (t : TypeId) (x : Value) (l h m : Option Value) : Ad (Instr.sliceAt t x l h m) := by
  unfold Instr.sliceAt
  repeat' (first | exact ad_slice _ _ _ _ _ | exact ad_sliceBounds _ _ _ _ _ _ | exact ad_underlying _ | exact ad_sizeOf _ | exact ad_sureAddr _ | exact Ad.pure _ | apply Ad.bind | split | intro _ | trivial)
theorem ad_field (t : TypeId) (x : Value) (i : Nat) : Ad (Instr.field t x i) := by
  unfold Instr.field
  repeat' (first | exact ad_part _ _ _ | exact ad_asAgg _ | exact ad_stuck _ | exact ad_underlying _ | exact Ad.pure _ | apply Ad.bind | split | intro _ | trivial)
theorem ad_extract (x : Value) (i : Nat) : Ad (Instr.extract x i) := by
  unfold Instr.extract
  repeat' (first | split | trivial)
theorem ad_len (ts : Array TypeId) (t : TypeId) (args : Array Value) : Ad (Builtin.len_ ts t args) := by
  unfold Builtin.len_
  repeat' (first | exact ad_getObj _ | exact ad_stuck _ | exact ad_underlying _ | exact Ad.pure _ | apply Ad.bind | split | intro _ | trivial)
theorem ad_cap (ts : Array TypeId) (t : TypeId) (args : Array Value) : Ad (Builtin.cap_ ts t args) := by
  unfold Builtin.cap_
  repeat' (first | exact ad_getObj _ | exact ad_stuck _ | exact ad_underlying _ | exact Ad.pure _ | apply Ad.bind | split | intro _ | trivial)
theorem ad_followBlind : ∀ (l : List FieldStep) (t : TypeId) (x : Option Value), Ad (followBlind l t x)
  | [], t, x => trivial
  | s :: rest, t, x => by
    unfold followBlind
    repeat' (first | exact ad_followBlind rest _ _ | exact ad_part _ _ _ | exact ad_stuck _ | exact ad_underlying _ | exact Ad.pure _ | apply Ad.bind | split | intro _ | trivial)
theorem ad_nilAhead : ∀ (n : Nat) (t : TypeId) (x : Value) (s : String), Ad (nilAhead n t x s)
  | 0, t, x, s => trivial
  | n + 1, t, x, s => by
    unfold nilAhead
    repeat' (first | exact ad_nilAhead n _ _ _ | exact ad_followBlind _ _ _ | exact ad_typeInfo _ | exact ad_stuck _ | exact ad_underlying _ | exact Ad.pure _ | apply Ad.bind | split | intro _ | trivial)
end Go.Proofs.Ytngglpekdjhbdaa
