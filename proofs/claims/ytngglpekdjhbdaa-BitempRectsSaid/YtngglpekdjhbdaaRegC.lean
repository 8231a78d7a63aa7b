/- A region that draws its order, walked in one order: pieces that only read, and between them operations that write, make memory or call; what was read ahead of such an operation, and might come behind it, is read again. -/
import Derived.Test.YtngglpekdjhbdaaRegB
import Derived.WalkKit
namespace Go.Proofs.Ytngglpekdjhbdaa
set_option linter.unusedSimpArgs false
set_option linter.unusedVariables false

/-- Conversions that make nothing. -/
def convOk (P : Program) (s d : TypeId) : Bool :=
  match P.underlying s, P.underlying d with
  | some (.int _), some (.int _) => true
  | some (.slice e), some .string => (match P.underlying e with | some (.int .u8) => true | _ => false)
  | some .string, some .string => true
  | _, _ => false
/-- Operations that write nothing. -/
def mild (P : Program) (o : Oper) : Bool :=
  match o.op with
  | .move _ | .assign _ | .pick .. | .extract .. | .load .. | .nilCheck _ | .binOp .. | .unOp .. | .fieldAddr .. | .field .. | .indexAddr .. | .slice .. | .sliceToArrayPointer .. => true
  | .convert s d _ => convOk P s d
  | .call c => (match c.callee with | .builtin .len => true | .builtin .cap => true | _ => false)
  | _ => false
/-- Operations that hang on their operands alone. -/
def bare (o : Oper) : Bool :=
  match o.op with
  | .move _ | .assign _ | .pick .. | .extract .. => true
  | _ => false

section
variable {P : Program}
theorem Grows.trans {a b c : World} (h : Grows a b) (k : Grows b c) : Grows a c :=
  ⟨Nat.le_trans h.size k.size, Nat.le_trans h.drawn k.drawn, fun e1 e2 => by
    have h1 := h.size; have h2 := k.size; have h3 := h.drawn; have h4 := k.drawn
    have e := k.same (by omega) (by omega)
    rw [e]
    exact h.same (by omega) (by omega)⟩
theorem run_value {s : Sem Value} {w w' : World} {n : Next} (h : (do pure (Next.value (← s)) : Sem Next).run P w = .ok n w') : ∃ v, n = .value v ∧ s.run P w = .ok v w' := by
  rw [Sem.run_bind] at h
  cases hs : s.run P w with
  | ok v w1 => rw [hs] at h; simp [Result.andThen] at h; exact ⟨v, h.1.symm, by rw [h.2]⟩
  | halt x w1 => rw [hs] at h; simp [Result.andThen] at h
theorem grows_value {s : Sem Value} (hs : Ad s) {w w' : World} {n : Next} (h : (do pure (Next.value (← s)) : Sem Next).run P w = .ok n w') : ∃ v, n = .value v ∧ Grows w w' := by
  obtain ⟨v, e, hr⟩ := run_value h
  exact ⟨v, e, hs.grows hr⟩
theorem ad_unary (op : UnOp) (x : Value) : Ad (Op.unary op x) := by
  unfold Op.unary
  split
  · unfold Op.intArith; split <;> trivial
  · unfold Op.intBits; split <;> trivial
  all_goals trivial
theorem ad_bytesToString (x : Value) : Ad (Conv.bytesToString x) := by
  unfold Conv.bytesToString
  split
  · trivial
  · refine Ad.bind (ad_loadCellsFrom _ _ _ _) fun cs => ?_
    simp only [← Array.forIn_toList]
    refine Ad.bind (Ad.forIn _ (fun a b => ?_) _ _) fun _ => trivial
    split
    · trivial
    · trivial
  · trivial
theorem ad_floatToInt (k : FloatKind) (b : Nat) (d : IntKind) : Ad (Conv.floatToInt k b d) := by
  unfold Conv.floatToInt
  repeat' (first | with_reducible exact ad_choose _ | with_reducible exact ad_unsupported _ | with_reducible exact ad_stuck _ | with_reducible exact Ad.pure _ | with_reducible apply Ad.bind | split | intro _ | dsimp only)
theorem ad_intToString (n : Int) : Ad (Conv.intToString n) := by
  unfold Conv.intToString
  repeat' (first | with_reducible exact ad_choose _ | with_reducible exact ad_unsupported _ | with_reducible exact ad_stuck _ | with_reducible exact Ad.pure _ | with_reducible apply Ad.bind | split | intro _ | dsimp only)
theorem grows_convert {s d : TypeId} (h : convOk P s d = true) {x : Value} {w w' : World} {v : Value} (hr : (convert s d x).run P w = .ok v w') : Grows w w' := by
  have key : ∀ q : Sem Value, Ad q → q.run P w = .ok v w' → Grows w w' := fun q hq h => hq.grows h
  unfold convOk at h
  split at h
  · rename_i k k' hs hd
    unfold convert at hr
    simp only [Sem.run_bind, run_underlying hs, run_underlying hd, Result.andThen] at hr
    cases x <;> (try dsimp only at hr)
    case int => exact key _ (by trivial) hr
    case float => exact key _ (ad_floatToInt _ _ _) hr
    case pointer a => cases a <;> (try dsimp only at hr) <;> exact key _ (by trivial) hr
    all_goals exact key _ (by trivial) hr
  · rename_i e hs hd
    split at h
    · rename_i he
      unfold convert at hr
      simp only [Sem.run_bind, run_underlying hs, run_underlying hd, Result.andThen] at hr
      cases x <;> (try dsimp only at hr)
      case int => exact key _ (ad_intToString _) hr
      case string => exact key _ (by trivial) hr
      all_goals (simp only [Sem.run_bind, run_underlying he, Result.andThen] at hr; exact key _ (ad_bytesToString _) hr)
    · cases h
  · rename_i hs hd
    unfold convert at hr
    simp only [Sem.run_bind, run_underlying hs, run_underlying hd, Result.andThen] at hr
    cases x <;> (try dsimp only at hr)
    case int => exact key _ (ad_intToString _) hr
    all_goals exact key _ (by trivial) hr
  · cases h
theorem mild_run {o : Oper} (h : mild P o = true) {ρ : Operand → Value} {w w' : World} {n : Next} (hr : (execOp ρ o).run P w = .ok n w') : ∃ v, n = .value v ∧ Grows w w' := by
  unfold mild at h
  unfold execOp at hr
  cases hop : o.op <;> simp only [hop] at h hr <;> try (cases h; done)
  case move x => simp at hr; exact ⟨_, hr.1.symm, hr.2 ▸ Grows.refl _⟩
  case assign x => simp at hr; exact ⟨_, hr.1.symm, hr.2 ▸ Grows.refl _⟩
  case pick c a b =>
    have hA : Ad (do pure (if ← asBool (ρ c) then ρ a else ρ b) : Sem Value) := Ad.bind (ad_asBool _) fun _ => by split <;> trivial
    exact grows_value (P := P) hA (w := w) (w' := w') (by simpa using hr)
  case load t a => exact grows_value (ad_loadAt _ _) hr
  case nilCheck x =>
    have hn : ∀ (s : Sem Next), Ad s → s.run P w = .ok n w' → Grows w w' := fun s hs h => hs.grows h
    split at hr
    · exact absurd hr (by simp [runtimePanic, Sem.run_bind, goPanic, Sem.run, program])
    · exact absurd hr (by simp [runtimePanic, Sem.run_bind, goPanic, Sem.run, program])
    · exact absurd hr (by simp [runtimePanic, Sem.run_bind, goPanic, Sem.run, program])
    · split at hr
      · exact absurd hr (by simp [runtimePanic, Sem.run_bind, goPanic, Sem.run, program])
      · have hg := hn _ (by
          refine Ad.bind ad_program fun p => Ad.bind (ad_nilAhead _ _ _ _) fun r => ?_
          split
          · exact Ad.bind (ad_unsupported _) fun _ => trivial
          · trivial) hr
        have hv : ∃ v, n = Next.value v := by
          simp only [Sem.run_bind] at hr
          generalize (program.run P w) = r1 at hr
          cases r1 with
          | halt x w1 => simp [Result.andThen] at hr
          | ok p w1 =>
            simp only [Result.andThen, Sem.run_bind] at hr
            revert hr
            generalize (Sem.run P (nilAhead _ _ _ _) w1) = r2
            intro hr
            cases r2 with
            | halt x w2 => simp at hr
            | ok p2 w2 =>
              simp only at hr
              split at hr
              · simp [unsupported, Sem.run_bind, Sem.run] at hr
              · simp at hr; exact ⟨_, hr.1.symm⟩
        obtain ⟨v, hv⟩ := hv
        exact ⟨v, hv, hg⟩
      · simp at hr; exact ⟨_, hr.1.symm, hr.2 ▸ Grows.refl _⟩
    · simp at hr; exact ⟨_, hr.1.symm, hr.2 ▸ Grows.refl _⟩
  case binOp op t x y u => exact grows_value (Ad.bind (ad_eqGuard _ _ _ _ _ _) fun _ => ad_binOp _ _ _ _) hr
  case unOp op t x => exact grows_value (ad_unary _ _) hr
  case convert s d x =>
    obtain ⟨v, e, hv⟩ := run_value hr
    exact ⟨v, e, grows_convert h hv⟩
  case sliceToArrayPointer d x => exact grows_value (ad_arrayAt _ _) hr
  case slice t x l hi m => exact grows_value (ad_sliceAt _ _ _ _ _) hr
  case fieldAddr t x f => exact grows_value (ad_fieldAt _ _ _ ad_fieldPlace) hr
  case field t x f => exact grows_value (ad_field _ _ _) hr
  case indexAddr t x i => exact grows_value (ad_indexAt _ _ _) hr
  case extract t i => exact grows_value (ad_extract _ _) hr
  case call c =>
    cases hc : c.callee <;> simp only [hc] at h <;> try (cases h; done)
    rename_i b
    unfold resolve at hr
    simp only [hc] at hr
    cases b <;> simp only at h <;> try (cases h; done)
    · simp only [invoke, builtin] at hr
      exact grows_value (ad_cap _ _ _) (by simpa using hr)
    · simp only [invoke, builtin] at hr
      exact grows_value (ad_len _ _ _) (by simpa using hr)
theorem bare_run {o : Oper} (h : bare o = true) {ρ : Operand → Value} {w w' : World} {n : Next} (hr : (execOp ρ o).run P w = .ok n w') (w2 : World) : (execOp ρ o).run P w2 = .ok n w2 := by
  unfold bare at h
  unfold execOp at hr ⊢
  cases hop : o.op <;> simp only [hop] at h hr ⊢ <;> try (cases h; done)
  case move x => simp at hr ⊢; exact hr.1
  case assign x => simp at hr ⊢; exact hr.1
  case pick c a b =>
    cases hv : ρ c <;> simp [asBool, hv, Sem.run_bind, stuck, Sem.run, Result.andThen] at hr ⊢
    exact hr.1
  case extract t i =>
    unfold Instr.extract at hr ⊢
    cases hv : ρ t <;> simp [hv, Sem.run_bind, stuck, Sem.run, Result.andThen] at hr ⊢
    rename_i vs
    cases hg : vs[i]? <;> simp [hg, stuck, Sem.run, Result.andThen] at hr ⊢
    exact hr.1
end
end Go.Proofs.Ytngglpekdjhbdaa
