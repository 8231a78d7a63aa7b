/- Operations that write nothing that was there: comparisons, conversions, the operations as a whole. -/
import Derived.Orders
import Derived.Tactics
namespace Go.Proofs.YtngglpekdjhbdaaGreat
set_option linter.unusedSimpArgs false
set_option linter.unusedVariables false

/-- No store, no system call: it reads, makes blocks, draws. -/
def Ad {α : Type} : Sem α → Prop
  | .pure _ => True
  | .load _ _ k => ∀ v, Ad (k v)
  | .store _ _ _ _ => False
  | .new _ k => ∀ r, Ad (k r)
  | .shape _ k => ∀ s, Ad (k s)
  | .freeze _ _ _ => False
  | .frozen _ k => ∀ b, Ad (k b)
  | .getObj _ k => ∀ o, Ad (k o)
  | .setObj _ _ _ => False
  | .choose _ k => ∀ n, Ad (k n)
  | .sys _ _ => False
  | .program k => ∀ p, Ad (k p)
  | .mark _ k => Ad k
  | .halt _ => True
theorem Ad.bind {α β : Type} {s : Sem α} {f : α → Sem β} (h : Ad s) (hf : ∀ a, Ad (f a)) : Ad (s >>= f) := by
  show Ad (s.bind f)
  induction s with
  | pure a => exact hf a
  | load m a k ih => exact fun v => ih v (h v)
  | store m a v k ih => exact h.elim
  | new o k ih => exact fun v => ih v (h v)
  | shape r k ih => exact fun v => ih v (h v)
  | freeze a n k ih => exact h.elim
  | frozen a k ih => exact fun v => ih v (h v)
  | getObj r k ih => exact fun v => ih v (h v)
  | setObj r o k ih => exact h.elim
  | choose q k ih => exact fun v => ih v (h v)
  | sys c k ih => exact h.elim
  | program k ih => exact fun v => ih v (h v)
  | mark m k ih => exact ih h
  | halt x => trivial
theorem Ad.pure {α : Type} (a : α) : Ad (pure a : Sem α) := trivial
theorem Ad.map {α β : Type} {s : Sem α} {f : α → β} (h : Ad s) : Ad (f <$> s) := by
  show Ad (s.bind _)
  exact Ad.bind h fun _ => trivial
/-- The world is no smaller, and if nothing was made or drawn it is the same. -/
structure Grows (w w' : World) : Prop where
  size : w.heap.size ≤ w'.heap.size
  drawn : w.drawn ≤ w'.drawn
  same : w'.heap.size = w.heap.size → w'.drawn = w.drawn → w' = w
theorem Grows.refl (w : World) : Grows w w := ⟨Nat.le_refl _, Nat.le_refl _, fun _ _ => rfl⟩
theorem Ad.grows {α : Type} {p : Program} {s : Sem α} (h : Ad s) : ∀ {w : World} {v : α} {w' : World}, s.run p w = .ok v w' → Grows w w' := by
  induction s with
  | pure a => intro w v w' hr; simp [Sem.run] at hr; rw [hr.2]; exact Grows.refl _
  | load m a k ih =>
    intro w v w' hr
    simp only [Sem.run] at hr
    split at hr
    · exact ih _ (h _) hr
    · split at hr
      · exact ih _ (h _) hr
      · cases hr
  | store m a v k ih => exact h.elim
  | new o k ih =>
    intro w v w' hr
    simp only [Sem.run] at hr
    have g := ih _ (h _) hr
    have h1 := g.size
    simp at h1
    exact ⟨by omega, g.drawn, fun e _ => by omega⟩
  | shape r k ih => intro w v w' hr; exact ih _ (h _) hr
  | freeze a n k ih => exact h.elim
  | frozen a k ih => intro w v w' hr; exact ih _ (h _) hr
  | getObj r k ih =>
    intro w v w' hr
    simp only [Sem.run] at hr
    split at hr
    · cases hr
    · exact ih _ (h _) hr
    · cases hr
  | setObj r o k ih => exact h.elim
  | choose q k ih =>
    intro w v w' hr
    simp only [Sem.run] at hr
    split at hr
    · exact ih _ (h _) hr
    · have g := ih _ (h _) hr
      have h1 := g.drawn
      simp at h1
      exact ⟨g.size, by omega, fun _ e => by omega⟩
  | sys c k ih => exact h.elim
  | program k ih => intro w v w' hr; exact ih _ (h _) hr
  | mark m k ih => intro w v w' hr; exact ih h hr
  | halt x => intro w v w' hr; simp [Sem.run] at hr

/-! ### the model's own words -/
theorem ad_program : Ad program := fun _ => trivial
theorem ad_load (a : Addr) (m : Mode) : Ad (load a m) := fun _ => trivial
theorem ad_getObj (r : Nat) : Ad (getObj r) := fun _ => trivial
theorem ad_frozen (a : Addr) : Ad (frozen a) := fun _ => trivial
theorem ad_shape (r : Nat) : Ad (shape r) := fun _ => trivial
theorem ad_choose (q : Question) : Ad (choose q) := fun _ => trivial
theorem ad_newObj (o : Obj) : Ad (newObj o) := fun _ => trivial
theorem ad_stuck {α : Type} (s : String) : Ad (stuck s : Sem α) := trivial
theorem ad_unsupported {α : Type} (u : Unsupported) : Ad (unsupported u : Sem α) := trivial
theorem ad_goPanic {α : Type} (v : Value) : Ad (goPanic v : Sem α) := trivial
theorem ad_typeInfo (t : TypeId) : Ad (typeInfo t) := by
  unfold typeInfo
  refine Ad.bind ad_program fun p => ?_
  split
  · trivial
  · trivial
theorem ad_underlying (t : TypeId) : Ad (underlying t) := by
  unfold underlying
  refine Ad.bind ad_program fun p => ?_
  split
  · trivial
  · trivial
theorem ad_typeStr (t : TypeId) : Ad (typeStr t) := by
  unfold typeStr
  refine Ad.bind (ad_typeInfo t) fun p => ?_
  dsimp only
  split <;> trivial
theorem ad_zeroValue (t : TypeId) : Ad (zeroValue t) := by
  unfold zeroValue
  refine Ad.bind (ad_typeInfo t) fun p => ?_
  split <;> trivial
theorem ad_sizeOf (t : TypeId) : Ad (sizeOf t) := by
  unfold sizeOf
  exact Ad.bind (ad_typeInfo t) fun p => trivial
theorem ad_isAgg (t : TypeId) : Ad (isAgg t) := by
  unfold isAgg
  refine Ad.bind (ad_underlying t) fun p => ?_
  split <;> trivial
theorem ad_loadCellsFrom (a : Addr) : ∀ (n i : Nat) (acc : Array Value), Ad (loadCellsFrom a i n acc)
  | 0, _, _ => trivial
  | n + 1, i, acc => by
    unfold loadCellsFrom
    exact Ad.bind (ad_load _ _) fun v => ad_loadCellsFrom a n _ _
theorem ad_loadVar (t : TypeId) (a : Addr) : Ad (loadVar t a) := by
  unfold loadVar
  refine Ad.bind (ad_isAgg t) fun b => ?_
  split
  · exact Ad.bind (ad_sizeOf t) fun n => Ad.bind (ad_loadCellsFrom _ _ _ _) fun _ => trivial
  · exact ad_load _ _
theorem ad_part (t : TypeId) (cs : Array Value) (n : Nat) : Ad (part t cs n) := by
  unfold part
  refine Ad.bind (ad_isAgg t) fun b => ?_
  split
  · exact Ad.bind (ad_sizeOf t) fun n => trivial
  · split <;> trivial
theorem ad_elemOf (t : TypeId) : Ad (elemOf t) := by
  unfold elemOf
  refine Ad.bind (ad_underlying t) fun b => ?_
  split <;> trivial
theorem ad_newVar (t : TypeId) (v : Value) : Ad (newVar t v) := Ad.bind (ad_newObj _) fun _ => trivial
theorem ad_runtimePanic {α : Type} (e : RuntimeError) : Ad (runtimePanic e : Sem α) := by
  unfold runtimePanic
  refine Ad.bind ad_program fun p => ?_
  dsimp only
  split
  · trivial
  · trivial
  · trivial
  · trivial
  · exact Ad.bind (ad_elemOf _) fun _ => Ad.bind (ad_newVar _ _) fun _ => trivial
  · exact Ad.bind (ad_elemOf _) fun _ => Ad.bind (ad_newVar _ _) fun _ => trivial
  · trivial
theorem ad_boundsPanic {α : Type} (k : IntKind) (x y : Int) (c : BoundsCode) : Ad (boundsPanic k x y c : Sem α) := by
  unfold boundsPanic
  dsimp only
  split
  · exact Ad.bind (Ad.map (ad_choose _)) fun _ => ad_runtimePanic _
  · exact Ad.bind (Ad.pure _) fun _ => ad_runtimePanic _
theorem ad_asIntOf (v : Value) : Ad (asIntOf v) := by unfold asIntOf; split <;> trivial
theorem ad_asInt (v : Value) : Ad (asInt v) := Ad.bind (ad_asIntOf v) fun _ => trivial
theorem ad_asBool (v : Value) : Ad (asBool v) := by unfold asBool; split <;> trivial
theorem ad_asAgg (v : Value) : Ad (asAgg v) := by unfold asAgg; split <;> trivial
theorem ad_asAddr (v : Value) : Ad (asAddr v) := by
  unfold asAddr
  split
  · trivial
  · exact ad_runtimePanic _
  · trivial
theorem ad_sureAddr (v : Value) : Ad (Instr.sureAddr v) := by unfold Instr.sureAddr; split <;> trivial

/-! ### the instructions -/
theorem ad_loadAt (t : TypeId) (v : Value) : Ad (Instr.loadAt t v) := Ad.bind (ad_sureAddr v) fun a => ad_loadVar t a
theorem ad_viewAt (r : Nat) : Ad (viewAt r) := by
  unfold viewAt
  refine Ad.bind (ad_shape _) fun _ => ?_
  split
  · trivial
  · refine Ad.bind (ad_getObj _) fun _ => ?_
    split <;> trivial
theorem ad_numberAt (r : Nat) : Ad (numberAt r) := by
  unfold numberAt
  refine Ad.bind (ad_shape _) fun _ => ?_
  split
  · trivial
  · refine Ad.bind (ad_getObj _) fun _ => ?_
    split <;> trivial
theorem ad_behindNumber (a : Addr) : Ad (behindNumber a) := by
  unfold behindNumber
  exact Ad.bind (ad_numberAt _) fun _ => trivial
theorem ad_asNumber (a : Addr) (b : Bool) : Ad (asNumber a b) := Ad.bind (ad_newObj _) fun _ => trivial
theorem ad_noView (a : Addr) : Ad (noView a) := by
  unfold noView
  refine Ad.bind (ad_viewAt _) fun _ => ?_
  split <;> trivial
theorem ad_stringish (a : Addr) : Ad (stringish a) := by
  unfold stringish
  refine Ad.bind (ad_frozen _) fun _ => ?_
  split
  · trivial
  · refine Ad.bind (ad_shape _) fun _ => ?_
    split
    · exact ad_frozen _
    · trivial
theorem ad_mayBeOne (a b : Addr) : Ad (mayBeOne a b) := by
  unfold mayBeOne
  refine Ad.bind (ad_stringish _) fun _ => Ad.bind (ad_stringish _) fun _ => ?_
  exact Ad.bind (Ad.bind (ad_shape _) fun _ => trivial) fun _ => Ad.bind (Ad.bind (ad_shape _) fun _ => trivial) fun _ => trivial
theorem ad_sameAddr (a b : Addr) : Ad (sameAddr a b) := by
  unfold sameAddr
  dsimp only
  split
  · trivial
  · refine Ad.bind (ad_frozen _) fun _ => Ad.bind (ad_frozen _) fun _ => ?_
    split
    · trivial
    · refine Ad.bind (ad_noView _) fun _ => Ad.bind (ad_noView _) fun _ => Ad.bind (ad_mayBeOne _ _) fun _ => ?_
      split
      · exact Ad.bind (ad_choose _) fun _ => trivial
      · trivial
theorem ad_samePointer (a b : Option Addr) : Ad (samePointer a b) := by
  unfold samePointer
  split
  · exact ad_sameAddr _ _
  · trivial
theorem ad_fieldAt (t : TypeId) (v : Value) (f : Nat) (h : ∀ a g, Ad (fieldPlace a g)) : Ad (Instr.fieldAt t v f) := by
  unfold Instr.fieldAt
  refine Ad.bind (ad_underlying _) fun d => ?_
  split
  · split
    · exact Ad.bind (ad_sureAddr _) fun a => Ad.bind (h _ _) fun _ => trivial
    · trivial
  · trivial
theorem ad_indexAt (t : TypeId) (x i : Value) : Ad (Instr.indexAt t x i) := by
  unfold Instr.indexAt
  refine Ad.bind (ad_asIntOf _) fun ki => ?_
  dsimp only
  refine Ad.bind (ad_underlying _) fun d => ?_
  repeat' (first | exact ad_boundsPanic _ _ _ _ | exact ad_stuck _ | exact ad_unsupported _ | exact ad_underlying _ | exact ad_sizeOf _ | exact ad_sureAddr _ | exact Ad.pure _ | apply Ad.bind | split | intro _ | trivial)
theorem ad_arrayAt (t : TypeId) (x : Value) : Ad (Instr.arrayAt t x) := by
  unfold Instr.arrayAt
  repeat' (first | exact ad_runtimePanic _ | exact ad_stuck _ | exact ad_unsupported _ | exact ad_underlying _ | exact Ad.pure _ | apply Ad.bind | split | intro _ | trivial)
theorem ad_sliceBound (x : Value) (y : Nat) (c : BoundsCode) : Ad (Instr.sliceBound x y c) := by
  unfold Instr.sliceBound
  refine Ad.bind (ad_asIntOf _) fun ki => ?_
  dsimp only
  split
  · trivial
  · exact ad_boundsPanic _ _ _ _
theorem ad_sliceBounds (b : Bool) (n c : Nat) (l h m : Option Value) : Ad (Instr.sliceBounds b n c l h m) := by
  unfold Instr.sliceBounds
  repeat' (first | exact ad_sliceBound _ _ _ | exact ad_stuck _ | exact Ad.pure _ | apply Ad.bind | split | intro _ | trivial)
theorem ad_slice (t : TypeId) (x : Value) (l h m : Option Value) : Ad (Instr.slice t x l h m) := by
  unfold Instr.slice
  repeat' (first | exact ad_sliceBounds _ _ _ _ _ _ | exact ad_stuck _ | exact ad_underlying _ | exact ad_sizeOf _ | exact ad_asAddr _ | exact Ad.pure _ | apply Ad.bind | split | intro _ | trivial)
theorem ad_sliceAt (t : TypeId) (x : Value) (l h m : Option Value) : Ad (Instr.sliceAt t x l h m) := by
  unfold Instr.sliceAt
  repeat' (first | exact ad_slice _ _ _ _ _ | exact ad_sliceBounds _ _ _ _ _ _ | exact ad_underlying _ | exact ad_sizeOf _ | exact ad_sureAddr _ | exact Ad.pure _ | apply Ad.bind | split | intro _ | trivial)
theorem ad_field (t : TypeId) (x : Value) (i : Nat) : Ad (Instr.field t x i) := by
  unfold Instr.field
  repeat' (first | exact ad_part _ _ _ | exact ad_asAgg _ | exact ad_stuck _ | exact ad_underlying _ | exact Ad.pure _ | apply Ad.bind | split | intro _ | trivial)
theorem ad_extract (x : Value) (i : Nat) : Ad (Instr.extract x i) := by
  unfold Instr.extract
  repeat' (first | split | trivial)
theorem ad_len (ts : Array TypeId) (t : TypeId) (args : Array Value) : Ad (Builtin.len_ ts t args) := by
  unfold Builtin.len_
  repeat' (first | exact ad_getObj _ | exact ad_stuck _ | exact ad_underlying _ | exact Ad.pure _ | apply Ad.bind | split | intro _ | trivial)
theorem ad_cap (ts : Array TypeId) (t : TypeId) (args : Array Value) : Ad (Builtin.cap_ ts t args) := by
  unfold Builtin.cap_
  repeat' (first | exact ad_getObj _ | exact ad_stuck _ | exact ad_underlying _ | exact Ad.pure _ | apply Ad.bind | split | intro _ | trivial)
theorem ad_followBlind : ∀ (l : List FieldStep) (t : TypeId) (x : Option Value), Ad (followBlind l t x)
  | [], t, x => trivial
  | s :: rest, t, x => by
    unfold followBlind
    repeat' (first | exact ad_followBlind rest _ _ | exact ad_part _ _ _ | exact ad_stuck _ | exact ad_underlying _ | exact Ad.pure _ | apply Ad.bind | split | intro _ | trivial)
theorem ad_nilAhead : ∀ (n : Nat) (t : TypeId) (x : Value) (s : String), Ad (nilAhead n t x s)
  | 0, t, x, s => trivial
  | n + 1, t, x, s => by
    unfold nilAhead
    repeat' (first | exact ad_nilAhead n _ _ _ | exact ad_followBlind _ _ _ | exact ad_typeInfo _ | exact ad_stuck _ | exact ad_underlying _ | exact Ad.pure _ | apply Ad.bind | split | intro _ | trivial)
end Go.Proofs.YtngglpekdjhbdaaGreat
namespace Go.Proofs.YtngglpekdjhbdaaGreat
set_option linter.unusedSimpArgs false
set_option linter.unusedVariables false

theorem ad_byteOf (a : Addr) : Ad (byteOf a) := by
  unfold byteOf
  repeat' (first | exact ad_program | exact ad_noView _ | exact ad_shape _ | exact ad_stuck _ | exact Ad.pure _ | dsimp only | apply Ad.bind | split | intro _ | trivial)
theorem ad_partAt (a : Addr) (c b : Nat) : Ad (partAt a c b) := by
  unfold partAt
  repeat' (first | exact ad_byteOf _ | exact Ad.pure _ | dsimp only | apply Ad.bind | split | intro _ | trivial)
theorem ad_fieldPlace (a : Addr) (f : Field) : Ad (fieldPlace a f) := by
  unfold fieldPlace
  repeat' (first | exact ad_partAt _ _ _ | exact ad_sizeOf _ | exact Ad.pure _ | dsimp only | apply Ad.bind | split | intro _ | trivial)
theorem ad_twoPlaces (a b : Addr) : Ad (Op.twoPlaces a b) := by
  unfold Op.twoPlaces
  repeat' (first | exact ad_byteOf _ | exact ad_program | exact ad_unsupported _ | exact Ad.pure _ | dsimp only | apply Ad.bind | split | intro _ | trivial)
theorem ad_addrSub (k : IntKind) (a b : Addr) : Ad (Op.addrSub k a b) := by
  unfold Op.addrSub
  exact Ad.bind (ad_twoPlaces _ _) fun _ => trivial
theorem ad_addrCmp (k : BinOp) (a b : Addr) : Ad (Op.addrCmp k a b) := by
  unfold Op.addrCmp
  refine Ad.bind (ad_twoPlaces _ _) fun _ => ?_
  dsimp only
  split <;> exact trivial
theorem ad_addrMod (k : IntKind) (a : Addr) (n : Int) : Ad (Op.addrMod k a n) := by
  unfold Op.addrMod
  repeat' (first | exact ad_byteOf _ | exact ad_shape _ | exact ad_typeInfo _ | exact ad_unsupported _ | exact Ad.pure _ | dsimp only | apply Ad.bind | split | intro _ | trivial)
theorem ad_unsafeAdd (ts : Array TypeId) (t : TypeId) (args : Array Value) : Ad (Builtin.unsafeAdd_ ts t args) := by
  rcases args with ⟨_ | ⟨x, _ | ⟨y, _ | ⟨z, l⟩⟩⟩⟩
  · trivial
  · cases x <;> trivial
  · cases x
    case pointer p =>
      unfold Builtin.unsafeAdd_
      refine Ad.bind (ad_asInt _) fun n => ?_
      dsimp only
      repeat' (first | exact ad_viewAt _ | exact ad_shape _ | exact ad_program | exact ad_stuck _ | exact ad_unsupported _ | exact Ad.pure _ | dsimp only | apply Ad.bind | split | intro _ | trivial)
    all_goals trivial
  · cases x <;> trivial
theorem ad_movedNumber (t : TypeId) (x y : Value) : Ad (movedNumber t x y) := by
  unfold movedNumber
  repeat' (first | exact ad_underlying _ | exact ad_unsafeAdd _ _ _ | exact ad_behindNumber _ | exact ad_asNumber _ _ | exact ad_unsupported _ | exact Ad.pure _ | dsimp only | apply Ad.bind | split | intro _ | trivial)
theorem ad_movedPointer (t : TypeId) (x y : Value) : Ad (movedPointer t x y) := by
  unfold movedPointer
  repeat' (first | exact ad_numberAt _ | exact ad_unsafeAdd _ _ _ | exact ad_unsupported _ | exact Ad.pure _ | dsimp only | apply Ad.bind | split | intro _ | trivial)
theorem Ad.forIn {α β : Type} (f : α → β → Sem (ForInStep β)) (hf : ∀ a b, Ad (f a b)) : ∀ (l : List α) (b : β), Ad (forIn l b f)
  | [], b => trivial
  | a :: l, b => by
    rw [List.forIn_cons]
    refine Ad.bind (hf _ _) fun s => ?_
    cases s with
    | done b => trivial
    | yield b => exact Ad.forIn f hf l b
theorem ad_equalIn : ∀ (d : Nat) (t : TypeId) (x y : Value), Ad (Op.equalIn d t x y)
  | 0, t, x, y => trivial
  | d + 1, t, x, y => by
    unfold Op.equalIn
    refine Ad.bind (ad_underlying _) fun u => ?_
    split
    all_goals try trivial
    all_goals try (split <;> trivial)
    · refine Ad.bind (ad_behindNumber _) fun _ => Ad.bind (ad_behindNumber _) fun _ => ?_
      repeat' (first | exact ad_byteOf _ | exact ad_program | exact ad_typeInfo _ | exact ad_unsupported _ | exact Ad.pure _ | dsimp only | apply Ad.bind | split | intro _ | trivial)
    · repeat' (first | exact ad_sizeOf _ | exact ad_sameAddr _ _ | exact ad_choose _ | exact Ad.pure _ | dsimp only | apply Ad.bind | split | intro _ | trivial)
    · exact ad_samePointer _ _
    · repeat' (first | exact ad_equalIn d _ _ _ | exact ad_runtimePanic _ | exact ad_typeStr _ | exact ad_program | exact ad_typeInfo _ | exact ad_unsupported _ | exact Ad.pure _ | dsimp only | apply Ad.bind | split | intro _ | trivial)
    · simp only [← Array.forIn_toList]
      repeat' (first | exact ad_equalIn d _ _ _ | exact ad_part _ _ _ | exact ad_program | exact ad_unsupported _ | exact Ad.pure _ | dsimp only | apply Ad.forIn | apply Ad.bind | split | intro _ | trivial)
    · simp only [Std.Legacy.Range.forIn_eq_forIn_range']
      repeat' (first | exact ad_equalIn d _ _ _ | exact ad_part _ _ _ | exact ad_sizeOf _ | exact ad_unsupported _ | exact Ad.pure _ | dsimp only | apply Ad.forIn | apply Ad.bind | split | intro _ | trivial)
theorem ad_eqGuardIn : ∀ (d : Nat) (t : TypeId) (x y : Value), Ad (Op.eqGuardIn d t x y)
  | 0, t, x, y => trivial
  | d + 1, t, x, y => by
    unfold Op.eqGuardIn
    refine Ad.bind (ad_underlying _) fun u => ?_
    split
    · trivial
    · simp only [← Array.forIn_toList]
      repeat' (first | exact ad_eqGuardIn d _ _ _ | exact ad_part _ _ _ | exact Ad.pure _ | dsimp only | apply Ad.forIn | apply Ad.bind | split | intro _ | trivial)
    · simp only [Std.Legacy.Range.forIn_eq_forIn_range']
      repeat' (first | exact ad_eqGuardIn d _ _ _ | exact ad_part _ _ _ | exact ad_sizeOf _ | exact Ad.pure _ | dsimp only | apply Ad.forIn | apply Ad.bind | split | intro _ | trivial)
    · trivial
theorem ad_eqGuard (op : BinOp) (t : TypeId) (x y : Operand) (a b : Value) : Ad (eqGuard op t x y a b) := by
  unfold eqGuard
  repeat' (first | exact ad_eqGuardIn _ _ _ _ | exact ad_program | exact ad_unsupported _ | exact Ad.pure _ | dsimp only | apply Ad.bind | split | intro _ | trivial)
theorem ad_floatArith (op : BinOp) (k : FloatKind) (x y : Nat) : Ad (Op.floatArith op k x y) := by
  unfold Op.floatArith
  repeat' (first | exact ad_choose _ | exact ad_stuck _ | exact Ad.pure _ | dsimp only | apply Ad.bind | split | intro _ | trivial)
theorem ad_carith (op : BinOp) (k : FloatKind) (x y : Nat) : Ad (Op.Complex.arith op k x y) := by
  unfold Op.Complex.arith
  repeat' (first | exact ad_floatArith _ _ _ _ | exact ad_stuck _ | exact Ad.pure _ | dsimp only | apply Ad.bind | split | intro _ | trivial)
theorem ad_floatCmp (op : BinOp) (k : FloatKind) (x y : Nat) : Ad (Op.floatCmp op k x y) := by
  unfold Op.floatCmp; dsimp only; split <;> trivial
theorem ad_ccmp (op : BinOp) (k : FloatKind) (x y : Nat) : Ad (Op.Complex.cmp op k x y) := Ad.bind (ad_floatCmp _ _ _ _) fun v => ad_asBool v
theorem ad_floatToFloat (s : FloatKind) (x : Nat) (d : FloatKind) : Ad (Conv.floatToFloat s x d) := by
  unfold Conv.floatToFloat
  repeat' (first | exact ad_choose _ | exact ad_stuck _ | exact ad_unsupported _ | exact Ad.pure _ | dsimp only | apply Ad.bind | split | intro _ | trivial)
theorem ad_cconv (s : FloatKind) (x : Nat) (d : FloatKind) : Ad (Op.Complex.conv s x d) := by
  unfold Op.Complex.conv
  repeat' (first | exact ad_floatToFloat _ _ _ | exact ad_stuck _ | exact Ad.pure _ | dsimp only | apply Ad.bind | split | intro _ | trivial)
theorem ad_cadd (x y : Nat) : Ad (Op.Complex.add x y) := ad_carith _ _ _ _
theorem ad_csub (x y : Nat) : Ad (Op.Complex.sub x y) := ad_carith _ _ _ _
theorem ad_cmul (x y : Nat) : Ad (Op.Complex.mul x y) := ad_carith _ _ _ _
theorem ad_cquo (x y : Nat) : Ad (Op.Complex.quo x y) := ad_carith _ _ _ _
theorem ad_cproduct (a b c d : Nat) : Ad (Op.Complex.product a b c d) := by
  unfold Op.Complex.product
  repeat' (first | with_reducible exact ad_cadd _ _ | with_reducible exact ad_csub _ _ | with_reducible exact ad_cmul _ _ | with_reducible exact ad_cquo _ _ | with_reducible exact ad_carith _ _ _ _ | with_reducible exact ad_ccmp _ _ _ _ | with_reducible exact ad_cconv _ _ _ | with_reducible exact ad_stuck _ | with_reducible exact Ad.pure _ | with_reducible apply Ad.bind | split | intro _ | dsimp only)
theorem ad_ccorrected (s a b c d : Nat) : Ad (Op.Complex.corrected s a b c d) := by
  unfold Op.Complex.corrected
  repeat' (first | with_reducible exact ad_cadd _ _ | with_reducible exact ad_csub _ _ | with_reducible exact ad_cmul _ _ | with_reducible exact ad_cquo _ _ | with_reducible exact ad_carith _ _ _ _ | with_reducible exact ad_ccmp _ _ _ _ | with_reducible exact ad_cconv _ _ _ | with_reducible exact ad_cproduct _ _ _ _ | with_reducible exact ad_stuck _ | with_reducible exact Ad.pure _ | with_reducible apply Ad.bind | split | intro _ | dsimp only)
theorem ad_cquotient (a b c d : Nat) : Ad (Op.Complex.quotient a b c d) := by
  unfold Op.Complex.quotient
  repeat' (first | with_reducible exact ad_cadd _ _ | with_reducible exact ad_csub _ _ | with_reducible exact ad_cmul _ _ | with_reducible exact ad_cquo _ _ | with_reducible exact ad_carith _ _ _ _ | with_reducible exact ad_ccmp _ _ _ _ | with_reducible exact ad_cconv _ _ _ | with_reducible exact ad_cproduct _ _ _ _ | with_reducible exact ad_ccorrected _ _ _ _ _ | with_reducible exact ad_stuck _ | with_reducible exact Ad.pure _ | with_reducible apply Ad.bind | split | intro _ | dsimp only)
theorem ad_complexOp (op : BinOp) (k : FloatKind) (a b c d : Nat) : Ad (Op.complexOp op k a b c d) := by
  unfold Op.complexOp
  repeat' (first | with_reducible exact ad_cadd _ _ | with_reducible exact ad_csub _ _ | with_reducible exact ad_cmul _ _ | with_reducible exact ad_cquo _ _ | with_reducible exact ad_carith _ _ _ _ | with_reducible exact ad_ccmp _ _ _ _ | with_reducible exact ad_cconv _ _ _ | with_reducible exact ad_cproduct _ _ _ _ | with_reducible exact ad_ccorrected _ _ _ _ _ | with_reducible exact ad_cquotient _ _ _ _ | with_reducible exact ad_stuck _ | with_reducible exact Ad.pure _ | with_reducible apply Ad.bind | split | intro _ | dsimp only)
theorem ad_binOp (op : BinOp) (t : TypeId) (x y : Value) : Ad (binOp op t x y) := by
  unfold binOp
  split
  all_goals try (with_reducible exact ad_stuck _)
  all_goals try (with_reducible exact ad_unsupported _)
  all_goals try (with_reducible exact ad_movedNumber _ _ _)
  · unfold Op.shift; repeat' (first | exact ad_runtimePanic _ | exact ad_stuck _ | exact Ad.pure _ | split | trivial)
  · unfold Op.shift; repeat' (first | exact ad_runtimePanic _ | exact ad_stuck _ | exact Ad.pure _ | split | trivial)
  · split
    · trivial
    · split
      all_goals first
        | (unfold Op.intArith; split <;> trivial)
        | (unfold Op.intDiv; repeat' (first | exact ad_runtimePanic _ | exact ad_stuck _ | exact Ad.pure _ | split | trivial))
        | (unfold Op.intBits; split <;> trivial)
        | (unfold Op.intCmp; split <;> trivial)
  · split
    · trivial
    · split
      all_goals first
        | exact ad_floatArith _ _ _ _
        | (unfold Op.floatCmp; dsimp only; split <;> trivial)
  · split
    · trivial
    · with_reducible exact ad_complexOp _ _ _ _ _ _
  · unfold Op.stringOp; dsimp only; repeat' (first | exact ad_unsupported _ | exact ad_stuck _ | exact Ad.pure _ | split | trivial)
  · exact Ad.bind (ad_equalIn _ _ _ _) fun _ => trivial
  · exact Ad.bind (ad_equalIn _ _ _ _) fun _ => trivial
  · refine Ad.bind (ad_underlying _) fun _ => ?_
    split
    · exact ad_movedPointer _ _ _
    · exact ad_movedNumber _ _ _
  · exact Ad.bind (ad_behindNumber _) fun _ => Ad.bind (ad_behindNumber _) fun _ => ad_addrSub _ _ _
  · exact Ad.bind (ad_behindNumber _) fun _ => Ad.bind (ad_behindNumber _) fun _ => ad_addrCmp _ _ _
  · exact Ad.bind (ad_behindNumber _) fun _ => Ad.bind (ad_behindNumber _) fun _ => ad_addrCmp _ _ _
  · exact Ad.bind (ad_behindNumber _) fun _ => Ad.bind (ad_behindNumber _) fun _ => ad_addrCmp _ _ _
  · exact Ad.bind (ad_behindNumber _) fun _ => Ad.bind (ad_behindNumber _) fun _ => ad_addrCmp _ _ _
  · exact Ad.bind (ad_behindNumber _) fun _ => ad_addrMod _ _ _
  · exact Ad.bind (ad_behindNumber _) fun _ => ad_addrMod _ _ _
  · exact Ad.bind (ad_behindNumber _) fun _ => ad_addrMod _ _ _
end Go.Proofs.YtngglpekdjhbdaaGreat
