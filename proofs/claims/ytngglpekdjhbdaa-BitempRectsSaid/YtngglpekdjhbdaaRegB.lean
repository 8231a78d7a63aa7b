/- Operations that write nothing that was there: comparisons, conversions, the operations as a whole. -/
import Derived.Test.YtngglpekdjhbdaaRegA
namespace Go.Proofs.Ytngglpekdjhbdaa
set_option linter.unusedSimpArgs false
set_option linter.unusedVariables false

theorem ad_byteOf (a : Addr) : Ad (byteOf a) := by
  unfold byteOf
  repeat' (first | exact ad_program | exact ad_noView _ | exact ad_shape _ | exact ad_stuck _ | exact Ad.pure _ | dsimp only | apply Ad.bind | split | intro _ | trivial)
theorem ad_partAt (a : Addr) (c b : Nat) : Ad (partAt a c b) := by
  unfold partAt
  repeat' (first | exact ad_byteOf _ | exact Ad.pure _ | dsimp only | apply Ad.bind | split | intro _ | trivial)
theorem ad_fieldPlace (a : Addr) (f : Field) : Ad (fieldPlace a f) := by
  unfold fieldPlace
  repeat' (first | exact ad_partAt _ _ _ | exact ad_sizeOf _ | exact Ad.pure _ | dsimp only | apply Ad.bind | split | intro _ | trivial)
theorem ad_twoPlaces (a b : Addr) : Ad (Op.twoPlaces a b) := by
  unfold Op.twoPlaces
  repeat' (first | exact ad_byteOf _ | exact ad_program | exact ad_unsupported _ | exact Ad.pure _ | dsimp only | apply Ad.bind | split | intro _ | trivial)
theorem ad_addrSub (k : IntKind) (a b : Addr) : Ad (Op.addrSub k a b) := by
  unfold Op.addrSub
  exact Ad.bind (ad_twoPlaces _ _) fun _ => trivial
theorem ad_addrCmp (k : BinOp) (a b : Addr) : Ad (Op.addrCmp k a b) := by
  unfold Op.addrCmp
  refine Ad.bind (ad_twoPlaces _ _) fun _ => ?_
  dsimp only
  split <;> exact trivial
theorem ad_addrMod (k : IntKind) (a : Addr) (n : Int) : Ad (Op.addrMod k a n) := by
  unfold Op.addrMod
  repeat' (first | exact ad_byteOf _ | exact ad_shape _ | exact ad_typeInfo _ | exact ad_unsupported _ | exact Ad.pure _ | dsimp only | apply Ad.bind | split | intro _ | trivial)
theorem ad_unsafeAdd (ts : Array TypeId) (t : TypeId) (args : Array Value) : Ad (Builtin.unsafeAdd_ ts t args) := by
  rcases args with ⟨_ | ⟨x, _ | ⟨y, _ | ⟨z, l⟩⟩⟩⟩
  · trivial
  · cases x <;> trivial
  · cases x
    case pointer p =>
      unfold Builtin.unsafeAdd_
      refine Ad.bind (ad_asInt _) fun n => ?_
      dsimp only
      repeat' (first | exact ad_viewAt _ | exact ad_shape _ | exact ad_program | exact ad_stuck _ | exact ad_unsupported _ | exact Ad.pure _ | dsimp only | apply Ad.bind | split | intro _ | trivial)
    all_goals trivial
  · cases x <;> trivial
theorem ad_movedNumber (t : TypeId) (x y : Value) : Ad (movedNumber t x y) := by
  unfold movedNumber
  repeat' (first | exact ad_underlying _ | exact ad_unsafeAdd _ _ _ | exact ad_behindNumber _ | exact ad_asNumber _ _ | exact ad_unsupported _ | exact Ad.pure _ | dsimp only | apply Ad.bind | split | intro _ | trivial)
theorem ad_movedPointer (t : TypeId) (x y : Value) : Ad (movedPointer t x y) := by
  unfold movedPointer
  repeat' (first | exact ad_numberAt _ | exact ad_unsafeAdd _ _ _ | exact ad_unsupported _ | exact Ad.pure _ | dsimp only | apply Ad.bind | split | intro _ | trivial)
theorem Ad.forIn {α β : Type} (f : α → β → Sem (ForInStep β)) (hf : ∀ a b, Ad (f a b)) : ∀ (l : List α) (b : β), Ad (forIn l b f)
  | [], b => trivial
  | a :: l, b => by
    rw [List.forIn_cons]
    refine Ad.bind (hf _ _) fun s => ?_
    cases s with
    | done b => trivial
    | yield b => exact Ad.forIn f hf l b
theorem ad_equalIn : ∀ (d : Nat) (t : TypeId) (x y : Value), Ad (Op.equalIn d t x y)
  | 0, t, x, y => trivial
  | d + 1, t, x, y => by
    unfold Op.equalIn
    refine Ad.bind (ad_underlying _) fun u => ?_
    split
    all_goals try trivial
    all_goals try (split <;> trivial)
    · refine Ad.bind (ad_behindNumber _) fun _ => Ad.bind (ad_behindNumber _) fun _ => ?_
      repeat' (first | exact ad_byteOf _ | exact ad_program | exact ad_typeInfo _ | exact ad_unsupported _ | exact Ad.pure _ | dsimp only | apply Ad.bind | split | intro _ | trivial)
    · repeat' (first | exact ad_sizeOf _ | exact ad_sameAddr _ _ | exact ad_choose _ | exact Ad.pure _ | dsimp only | apply Ad.bind | split | intro _ | trivial)
    · exact ad_samePointer _ _
    · repeat' (first | exact ad_equalIn d _ _ _ | exact ad_runtimePanic _ | exact ad_typeStr _ | exact ad_program | exact ad_typeInfo _ | exact ad_unsupported _ | exact Ad.pure _ | dsimp only | apply Ad.bind | split | intro _ | trivial)
    · simp only [← Array.forIn_toList]
      repeat' (first | exact ad_equalIn d _ _ _ | exact ad_part _ _ _ | exact ad_program | exact ad_unsupported _ | exact Ad.pure _ | dsimp only | apply Ad.forIn | apply Ad.bind | split | intro _ | trivial)
    · simp only [Std.Legacy.Range.forIn_eq_forIn_range']
      repeat' (first | exact ad_equalIn d _ _ _ | exact ad_part _ _ _ | exact ad_sizeOf _ | exact ad_unsupported _ | exact Ad.pure _ | dsimp only | apply Ad.forIn | apply Ad.bind | split | intro _ | trivial)
theorem ad_eqGuardIn : ∀ (d : Nat) (t : TypeId) (x y : Value), Ad (Op.eqGuardIn d t x y)
  | 0, t, x, y => trivial
  | d + 1, t, x, y => by
    unfold Op.eqGuardIn
    refine Ad.bind (ad_underlying _) fun u => ?_
    split
    · trivial
    · simp only [← Array.forIn_toList]
      repeat' (first | exact ad_eqGuardIn d _ _ _ | exact ad_part _ _ _ | exact Ad.pure _ | dsimp only | apply Ad.forIn | apply Ad.bind | split | intro _ | trivial)
    · simp only [Std.Legacy.Range.forIn_eq_forIn_range']
      repeat' (first | exact ad_eqGuardIn d _ _ _ | exact ad_part _ _ _ | exact ad_sizeOf _ | exact Ad.pure _ | dsimp only | apply Ad.forIn | apply Ad.bind | split | intro _ | trivial)
    · trivial
theorem ad_eqGuard (op : BinOp) (t : TypeId) (x y : Operand) (a b : Value) : Ad (eqGuard op t x y a b) := by
  unfold eqGuard
  repeat' (first | exact ad_eqGuardIn _ _ _ _ | exact ad_program | exact ad_unsupported _ | exact Ad.pure _ | dsimp only | apply Ad.bind | split | intro _ | trivial)
theorem ad_floatArith (op : BinOp) (k : FloatKind) (x y : Nat) : Ad (Op.floatArith op k x y) := by
  unfold Op.floatArith
  repeat' (first | exact ad_choose _ | exact ad_stuck _ | exact Ad.pure _ | dsimp only | apply Ad.bind | split | intro _ | trivial)
theorem ad_carith (op : BinOp) (k : FloatKind) (x y : Nat) : Ad (Op.Complex.arith op k x y) := by
  unfold Op.Complex.arith
  repeat' (first | exact ad_floatArith _ _ _ _ | exact ad_stuck _ | exact Ad.pure _ | dsimp only | apply Ad.bind | split | intro _ | trivial)
theorem ad_floatCmp (op : BinOp) (k : FloatKind) (x y : Nat) : Ad (Op.floatCmp op k x y) := by
  unfold Op.floatCmp; dsimp only; split <;> trivial
theorem ad_ccmp (op : BinOp) (k : FloatKind) (x y : Nat) : Ad (Op.Complex.cmp op k x y) := Ad.bind (ad_floatCmp _ _ _ _) fun v => ad_asBool v
theorem ad_floatToFloat (s : FloatKind) (x : Nat) (d : FloatKind) : Ad (Conv.floatToFloat s x d) := by
  unfold Conv.floatToFloat
  repeat' (first | exact ad_choose _ | exact ad_stuck _ | exact ad_unsupported _ | exact Ad.pure _ | dsimp only | apply Ad.bind | split | intro _ | trivial)
theorem ad_cconv (s : FloatKind) (x : Nat) (d : FloatKind) : Ad (Op.Complex.conv s x d) := by
  unfold Op.Complex.conv
  repeat' (first | exact ad_floatToFloat _ _ _ | exact ad_stuck _ | exact Ad.pure _ | dsimp only | apply Ad.bind | split | intro _ | trivial)
theorem ad_cadd (x y : Nat) : Ad (Op.Complex.add x y) := ad_carith _ _ _ _
theorem ad_csub (x y : Nat) : Ad (Op.Complex.sub x y) := ad_carith _ _ _ _
theorem ad_cmul (x y : Nat) : Ad (Op.Complex.mul x y) := ad_carith _ _ _ _
theorem ad_cquo (x y : Nat) : Ad (Op.Complex.quo x y) := ad_carith _ _ _ _
theorem ad_cproduct (a b c d : Nat) : Ad (Op.Complex.product a b c d) := by
  unfold Op.Complex.product
  repeat' (first | with_reducible exact ad_cadd _ _ | with_reducible exact ad_csub _ _ | with_reducible exact ad_cmul _ _ | with_reducible exact ad_cquo _ _ | with_reducible exact ad_carith _ _ _ _ | with_reducible exact ad_ccmp _ _ _ _ | with_reducible exact ad_cconv _ _ _ | with_reducible exact ad_stuck _ | with_reducible exact Ad.pure _ | with_reducible apply Ad.bind | split | intro _ | dsimp only)
theorem ad_ccorrected (s a b c d : Nat) : Ad (Op.Complex.corrected s a b c d) := by
  unfold Op.Complex.corrected
  repeat' (first | with_reducible exact ad_cadd _ _ | with_reducible exact ad_csub _ _ | with_reducible exact ad_cmul _ _ | with_reducible exact ad_cquo _ _ | with_reducible exact ad_carith _ _ _ _ | with_reducible exact ad_ccmp _ _ _ _ | with_reducible exact ad_cconv _ _ _ | with_reducible exact ad_cproduct _ _ _ _ | with_reducible exact ad_stuck _ | with_reducible exact Ad.pure _ | with_reducible apply Ad.bind | split | intro _ | dsimp only)
theorem ad_cquotient (a b c d : Nat) : Ad (Op.Complex.quotient a b c d) := by
  unfold Op.Complex.quotient
  repeat' (first | with_reducible exact ad_cadd _ _ | with_reducible exact ad_csub _ _ | with_reducible exact ad_cmul _ _ | with_reducible exact ad_cquo _ _ | with_reducible exact ad_carith _ _ _ _ | with_reducible exact ad_ccmp _ _ _ _ | with_reducible exact ad_cconv _ _ _ | with_reducible exact ad_cproduct _ _ _ _ | with_reducible exact ad_ccorrected _ _ _ _ _ | with_reducible exact ad_stuck _ | with_reducible exact Ad.pure _ | with_reducible apply Ad.bind | split | intro _ | dsimp only)
theorem ad_complexOp (op : BinOp) (k : FloatKind) (a b c d : Nat) : Ad (Op.complexOp op k a b c d) := by
  unfold Op.complexOp
  repeat' (first | with_reducible exact ad_cadd _ _ | with_reducible exact ad_csub _ _ | with_reducible exact ad_cmul _ _ | with_reducible exact ad_cquo _ _ | with_reducible exact ad_carith _ _ _ _ | with_reducible exact ad_ccmp _ _ _ _ | with_reducible exact ad_cconv _ _ _ | with_reducible exact ad_cproduct _ _ _ _ | with_reducible exact ad_ccorrected _ _ _ _ _ | with_reducible exact ad_cquotient _ _ _ _ | with_reducible exact ad_stuck _ | with_reducible exact Ad.pure _ | with_reducible apply Ad.bind | split | intro _ | dsimp only)
theorem ad_binOp (op : BinOp) (t : TypeId) (x y : Value) : Ad (binOp op t x y) := by
  unfold binOp
  split
  all_goals try (with_reducible exact ad_stuck _)
  all_goals try (with_reducible exact ad_unsupported _)
  all_goals try (with_reducible exact ad_movedNumber _ _ _)
  · unfold Op.shift; repeat' (first | exact ad_runtimePanic _ | exact ad_stuck _ | exact Ad.pure _ | split | trivial)
  · unfold Op.shift; repeat' (first | exact ad_runtimePanic _ | exact ad_stuck _ | exact Ad.pure _ | split | trivial)
  · split
    · trivial
    · split
      all_goals first
        | (unfold Op.intArith; split <;> trivial)
        | (unfold Op.intDiv; repeat' (first | exact ad_runtimePanic _ | exact ad_stuck _ | exact Ad.pure _ | split | trivial))
        | (unfold Op.intBits; split <;> trivial)
        | (unfold Op.intCmp; split <;> trivial)
  · split
    · trivial
    · split
      all_goals first
        | exact ad_floatArith _ _ _ _
        | (unfold Op.floatCmp; dsimp only; split <;> trivial)
  · split
    · trivial
    · with_reducible exact ad_complexOp _ _ _ _ _ _
  · unfold Op.stringOp; dsimp only; repeat' (first | exact ad_unsupported _ | exact ad_stuck _ | exact Ad.pure _ | split | trivial)
  · exact Ad.bind (ad_equalIn _ _ _ _) fun _ => trivial
  · exact Ad.bind (ad_equalIn _ _ _ _) fun _ => trivial
  · refine Ad.bind (ad_underlying _) fun _ => ?_
    split
    · exact ad_movedPointer _ _ _
    · exact ad_movedNumber _ _ _
  · exact Ad.bind (ad_behindNumber _) fun _ => Ad.bind (ad_behindNumber _) fun _ => ad_addrSub _ _ _
  · exact Ad.bind (ad_behindNumber _) fun _ => Ad.bind (ad_behindNumber _) fun _ => ad_addrCmp _ _ _
  · exact Ad.bind (ad_behindNumber _) fun _ => Ad.bind (ad_behindNumber _) fun _ => ad_addrCmp _ _ _
  · exact Ad.bind (ad_behindNumber _) fun _ => Ad.bind (ad_behindNumber _) fun _ => ad_addrCmp _ _ _
  · exact Ad.bind (ad_behindNumber _) fun _ => Ad.bind (ad_behindNumber _) fun _ => ad_addrCmp _ _ _
  · exact Ad.bind (ad_behindNumber _) fun _ => ad_addrMod _ _ _
  · exact Ad.bind (ad_behindNumber _) fun _ => ad_addrMod _ _ _
  · exact Ad.bind (ad_behindNumber _) fun _ => ad_addrMod _ _ _
end Go.Proofs.Ytngglpekdjhbdaa
