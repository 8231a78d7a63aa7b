/- A region that draws its order, walked in one order: the check of the order, and the theorem. -/
import Derived.Test.YtdaokholmlpfkaaDoorPzD
import Derived.WalkKit
namespace Go.Proofs.YtdaokholmlpfkaaDoor
set_option linter.unusedSimpArgs false
set_option linter.unusedVariables false

/-- Conversions that make nothing. -/
def convOk (P : Program) (s d : TypeId) : Bool :=
  match P.underlying s, P.underlying d with
  | some (.int _), some (.int _) => true
  | some (.slice e), some .string => (match P.underlying e with | some (.int .u8) => true | _ => false)
  | some .string, some .string => true
  | _, _ => false
/-- Operations that write nothing. -/
def mild (P : Program) (o : Oper) : Bool :=
  match o.op with
  | .move _ | .assign _ | .pick .. | .extract .. | .load .. | .nilCheck _ | .binOp .. | .unOp .. | .fieldAddr .. | .field .. | .indexAddr .. | .slice .. | .sliceToArrayPointer .. => true
  | .convert s d _ => convOk P s d
  | .call c => (match c.callee with | .builtin .len => true | .builtin .cap => true | _ => false)
  | _ => false
/-- Operations that hang on their operands alone. -/
def bare (o : Oper) : Bool :=
  match o.op with
  | .move _ | .assign _ | .pick .. | .extract .. => true
  | _ => false

section
variable {P : Program}
theorem Grows.trans {a b c : World} (h : Grows a b) (k : Grows b c) : Grows a c :=
  ⟨Nat.le_trans h.size k.size, Nat.le_trans h.drawn k.drawn, fun e1 e2 => by
    have h1 := h.size; have h2 := k.size; have h3 := h.drawn; have h4 := k.drawn
    have e := k.same (by omega) (by omega)
    rw [e]
    exact h.same (by omega) (by omega)⟩
theorem run_value {s : Sem Value} {w w' : World} {n : Next} (h : (do pure (Next.value (← s)) : Sem Next).run P w = .ok n w') : ∃ v, n = .value v ∧ s.run P w = .ok v w' := by
  rw [Sem.run_bind] at h
  cases hs : s.run P w with
  | ok v w1 => rw [hs] at h; simp [Result.andThen] at h; exact ⟨v, h.1.symm, by rw [h.2]⟩
  | halt x w1 => rw [hs] at h; simp [Result.andThen] at h
theorem grows_value {s : Sem Value} (hs : Ad s) {w w' : World} {n : Next} (h : (do pure (Next.value (← s)) : Sem Next).run P w = .ok n w') : ∃ v, n = .value v ∧ Grows w w' := by
  obtain ⟨v, e, hr⟩ := run_value h
  exact ⟨v, e, hs.grows hr⟩
theorem ad_unary (op : UnOp) (x : Value) : Ad (Op.unary op x) := by
  unfold Op.unary
  split
  · unfold Op.intArith; split <;> trivial
  · unfold Op.intBits; split <;> trivial
  all_goals trivial
theorem ad_bytesToString (x : Value) : Ad (Conv.bytesToString x) := by
  unfold Conv.bytesToString
  split
  · trivial
  · refine Ad.bind (ad_loadCellsFrom _ _ _ _) fun cs => ?_
    simp only [← Array.forIn_toList]
    refine Ad.bind (Ad.forIn _ (fun a b => ?_) _ _) fun _ => trivial
    split
    · trivial
    · trivial
  · trivial
theorem ad_floatToInt (k : FloatKind) (b : Nat) (d : IntKind) : Ad (Conv.floatToInt k b d) := by
  unfold Conv.floatToInt
  repeat' (first | with_reducible exact ad_choose _ | with_reducible exact ad_unsupported _ | with_reducible exact ad_stuck _ | with_reducible exact Ad.pure _ | with_reducible apply Ad.bind | split | intro _ | dsimp only)
theorem ad_intToString (n : Int) : Ad (Conv.intToString n) := by
  unfold Conv.intToString
  repeat' (first | with_reducible exact ad_choose _ | with_reducible exact ad_unsupported _ | with_reducible exact ad_stuck _ | with_reducible exact Ad.pure _ | with_reducible apply Ad.bind | split | intro _ | dsimp only)
theorem grows_convert {s d : TypeId} (h : convOk P s d = true) {x : Value} {w w' : World} {v : Value} (hr : (convert s d x).run P w = .ok v w') : Grows w w' := by
  have key : ∀ q : Sem Value, Ad q → q.run P w = .ok v w' → Grows w w' := fun q hq h => hq.grows h
  unfold convOk at h
  split at h
  · rename_i k k' hs hd
    unfold convert at hr
    simp only [Sem.run_bind, run_underlying hs, run_underlying hd, Result.andThen] at hr
    cases x <;> (try dsimp only at hr)
    case int => exact key _ (by trivial) hr
    case float => exact key _ (ad_floatToInt _ _ _) hr
    case pointer a => cases a <;> (try dsimp only at hr) <;> exact key _ (by trivial) hr
    all_goals exact key _ (by trivial) hr
  · rename_i e hs hd
    split at h
    · rename_i he
      unfold convert at hr
      simp only [Sem.run_bind, run_underlying hs, run_underlying hd, Result.andThen] at hr
      cases x <;> (try dsimp only at hr)
      case int => exact key _ (ad_intToString _) hr
      case string => exact key _ (by trivial) hr
      all_goals (simp only [Sem.run_bind, run_underlying he, Result.andThen] at hr; exact key _ (ad_bytesToString _) hr)
    · cases h
  · rename_i hs hd
    unfold convert at hr
    simp only [Sem.run_bind, run_underlying hs, run_underlying hd, Result.andThen] at hr
    cases x <;> (try dsimp only at hr)
    case int => exact key _ (ad_intToString _) hr
    all_goals exact key _ (by trivial) hr
  · cases h
theorem mild_run {o : Oper} (h : mild P o = true) {ρ : Operand → Value} {w w' : World} {n : Next} (hr : (execOp ρ o).run P w = .ok n w') : ∃ v, n = .value v ∧ Grows w w' := by
  unfold mild at h
  unfold execOp at hr
  cases hop : o.op <;> simp only [hop] at h hr <;> try (cases h; done)
  case move x => simp at hr; exact ⟨_, hr.1.symm, hr.2 ▸ Grows.refl _⟩
  case assign x => simp at hr; exact ⟨_, hr.1.symm, hr.2 ▸ Grows.refl _⟩
  case pick c a b =>
    have hA : Ad (do pure (if ← asBool (ρ c) then ρ a else ρ b) : Sem Value) := Ad.bind (ad_asBool _) fun _ => by split <;> trivial
    exact grows_value (P := P) hA (w := w) (w' := w') (by simpa using hr)
  case load t a => exact grows_value (ad_loadAt _ _) hr
  case nilCheck x =>
    have hn : ∀ (s : Sem Next), Ad s → s.run P w = .ok n w' → Grows w w' := fun s hs h => hs.grows h
    split at hr
    · exact absurd hr (by simp [runtimePanic, Sem.run_bind, goPanic, Sem.run, program])
    · exact absurd hr (by simp [runtimePanic, Sem.run_bind, goPanic, Sem.run, program])
    · exact absurd hr (by simp [runtimePanic, Sem.run_bind, goPanic, Sem.run, program])
    · split at hr
      · exact absurd hr (by simp [runtimePanic, Sem.run_bind, goPanic, Sem.run, program])
      · have hg := hn _ (by
          refine Ad.bind ad_program fun p => Ad.bind (ad_nilAhead _ _ _ _) fun r => ?_
          split
          · exact Ad.bind (ad_unsupported _) fun _ => trivial
          · trivial) hr
        have hv : ∃ v, n = Next.value v := by
          simp only [Sem.run_bind] at hr
          generalize (program.run P w) = r1 at hr
          cases r1 with
          | halt x w1 => simp [Result.andThen] at hr
          | ok p w1 =>
            simp only [Result.andThen, Sem.run_bind] at hr
            revert hr
            generalize (Sem.run P (nilAhead _ _ _ _) w1) = r2
            intro hr
            cases r2 with
            | halt x w2 => simp at hr
            | ok p2 w2 =>
              simp only at hr
              split at hr
              · simp [unsupported, Sem.run_bind, Sem.run] at hr
              · simp at hr; exact ⟨_, hr.1.symm⟩
        obtain ⟨v, hv⟩ := hv
        exact ⟨v, hv, hg⟩
      · simp at hr; exact ⟨_, hr.1.symm, hr.2 ▸ Grows.refl _⟩
    · simp at hr; exact ⟨_, hr.1.symm, hr.2 ▸ Grows.refl _⟩
  case binOp op t x y u => exact grows_value (Ad.bind (ad_eqGuard _ _ _ _ _ _) fun _ => ad_binOp _ _ _ _) hr
  case unOp op t x => exact grows_value (ad_unary _ _) hr
  case convert s d x =>
    obtain ⟨v, e, hv⟩ := run_value hr
    exact ⟨v, e, grows_convert h hv⟩
  case sliceToArrayPointer d x => exact grows_value (ad_arrayAt _ _) hr
  case slice t x l hi m => exact grows_value (ad_sliceAt _ _ _ _ _) hr
  case fieldAddr t x f => exact grows_value (ad_fieldAt _ _ _ ad_fieldPlace) hr
  case field t x f => exact grows_value (ad_field _ _ _) hr
  case indexAddr t x i => exact grows_value (ad_indexAt _ _ _) hr
  case extract t i => exact grows_value (ad_extract _ _) hr
  case call c =>
    cases hc : c.callee <;> simp only [hc] at h <;> try (cases h; done)
    rename_i b
    unfold resolve at hr
    simp only [hc] at hr
    cases b <;> simp only at h <;> try (cases h; done)
    · simp only [invoke, builtin] at hr
      exact grows_value (ad_cap _ _ _) (by simpa using hr)
    · simp only [invoke, builtin] at hr
      exact grows_value (ad_len _ _ _) (by simpa using hr)
theorem bare_run {o : Oper} (h : bare o = true) {ρ : Operand → Value} {w w' : World} {n : Next} (hr : (execOp ρ o).run P w = .ok n w') (w2 : World) : (execOp ρ o).run P w2 = .ok n w2 := by
  unfold bare at h
  unfold execOp at hr ⊢
  cases hop : o.op <;> simp only [hop] at h hr ⊢ <;> try (cases h; done)
  case move x => simp at hr ⊢; exact hr.1
  case assign x => simp at hr ⊢; exact hr.1
  case pick c a b =>
    cases hv : ρ c <;> simp [asBool, hv, Sem.run_bind, stuck, Sem.run, Result.andThen] at hr ⊢
    exact hr.1
  case extract t i =>
    unfold Instr.extract at hr ⊢
    cases hv : ρ t <;> simp [hv, Sem.run_bind, stuck, Sem.run, Result.andThen] at hr ⊢
    rename_i vs
    cases hg : vs[i]? <;> simp [hg, stuck, Sem.run, Result.andThen] at hr ⊢
    exact hr.1
end
end Go.Proofs.YtdaokholmlpfkaaDoor
namespace Go.Proofs.YtdaokholmlpfkaaDoor
set_option linter.unusedSimpArgs false
set_option linter.unusedVariables false

section
variable {P : Program} {l : List Oper}
/-- No way out but the plain one. -/
def NoExit : Exit → Act → World → Prop := fun _ _ _ => False
/-- Operation number i. -/
def opN (l : List Oper) (i : Nat) : Oper := l.getD i default
def AgreeOn (l : List Oper) (o : Oper) (a b : Act) : Prop := ∀ t, t ∈ o.looksAt l.toArray → a.tmps[t]? = b.tmps[t]?
theorem exec_agree {o : Oper} {a b : Act} (hs : ∀ cs x, o.op ≠ .select cs x) (h : AgreeOn l o a b) : execOp a.eval o = execOp b.eval o :=
  execOp_congr o hs fun x hx => by
    cases x with
    | tmp t =>
      have hm : t ∈ o.looksAt l.toArray := List.mem_append_left _ (List.mem_filterMap.2 ⟨.tmp t, by simpa using hx, rfl⟩)
      have := h t hm
      simp [Act.eval, this]
    | const v => rfl
    | global g => rfl
    | func f => rfl
theorem wanted_agree {o : Oper} {a b : Act} (h : AgreeOn l o a b) : Region.wanted o (yielded l.toArray a.tmps) = Region.wanted o (yielded l.toArray b.tmps) := by
  unfold Region.wanted
  cases hg : o.guard with
  | none => rfl
  | some gw =>
    obtain ⟨g, want⟩ := gw
    have hy : yielded l.toArray a.tmps g = yielded l.toArray b.tmps g := by
      unfold yielded
      cases ht : (l.toArray[g]?).bind (·.dst) with
      | none => rfl
      | some t =>
        have := h t (List.mem_append_right _ (by simp only [hg, ht]; simp))
        simp [this]
    simp only [hy]
def slotOf (a : Act) : Option Tmp → Value
  | some d => a.tmps.getD d undef
  | none => undef
theorem put_slotOf (a : Act) (d : Option Tmp) : a.put d (slotOf a d) = a := by
  cases d with
  | none => rfl
  | some d =>
    simp only [Act.put, slotOf]
    congr 1
    apply Array.ext_getElem?
    intro i
    rw [Array.getElem?_setIfInBounds]
    by_cases h : d = i
    · subst h
      by_cases hd : d < a.tmps.size
      · simp [hd, Array.getD]
      · simp [hd]
    · simp [h]
/-- Operation o gives v, and leaves the world as it is. -/
def Pend (P : Program) (l : List Oper) (o : Oper) (b : Act) (w : World) (v : Value) : Prop :=
  (Region.wanted o (yielded l.toArray b.tmps) = true ∧ (execOp b.eval o).run P w = .ok (.value v) w) ∨ (Region.wanted o (yielded l.toArray b.tmps) = false ∧ v = undef)
theorem Pend.agree {o : Oper} {a b : Act} {w : World} {v : Value} (hs : ∀ cs x, o.op ≠ .select cs x) (h : Pend P l o b w v) (hab : AgreeOn l o a b) : Pend P l o a w v := by
  unfold Pend at *
  rw [exec_agree hs hab, wanted_agree hab]
  exact h
/-- Nothing but the slots ds has turned. -/
structure SameBut (ds : List (Option Tmp)) (a b : Act) : Prop where
  defers : b.defers = a.defers
  size : b.tmps.size = a.tmps.size
  slot : ∀ s, some s ∉ ds → b.tmps[s]? = a.tmps[s]?
theorem put_slot_ne (a : Act) (d : Option Tmp) (v : Value) (s : Nat) (h : d ≠ some s) : (a.put d v).tmps[s]? = a.tmps[s]? := by
  cases d with
  | none => rfl
  | some d =>
    have : d ≠ s := fun e => h (by rw [e])
    simp [Act.put, Array.getElem?_setIfInBounds_ne this]
theorem put_slot_eq (a : Act) (d : Nat) (v : Value) (h : d < a.tmps.size) : (a.put (some d) v).tmps[d]? = some v := by simp [Act.put, h]
theorem put_size (a : Act) (d : Option Tmp) (v : Value) : (a.put d v).tmps.size = a.tmps.size := by cases d <;> simp [Act.put]
theorem put_defers (a : Act) (d : Option Tmp) (v : Value) : (a.put d v).defers = a.defers := by cases d <;> rfl
theorem put_self {b : Act} {d : Option Tmp} {v : Value} (h : ∀ s, d = some s → s < b.tmps.size → b.tmps[s]? = some v) : b.put d v = b := by
  cases d with
  | none => rfl
  | some d =>
    simp only [Act.put]
    congr 1
    apply Array.ext_getElem?
    intro i
    rw [Array.getElem?_setIfInBounds]
    by_cases hi : d = i
    · subst hi
      by_cases hd : d < b.tmps.size
      · rw [h d rfl hd]; simp [hd]
      · simp [hd]
    · simp [hi]
theorem put_self_slot {b : Act} {d : Option Tmp} {v : Value} (h : b.put d v = b) {s : Nat} (hs : d = some s) (hlt : s < b.tmps.size) : b.tmps[s]? = some v := by
  rw [← h, hs]
  exact put_slot_eq b s v hlt

def opsOf (l : List Oper) (is : List Nat) : List Oper := is.map (opN l)
def Again (P : Program) (l : List Oper) (cs : List Nat) (a : Act) (w : World) : Prop :=
  ∀ i ∈ cs, Region.wanted (opN l i) (yielded l.toArray a.tmps) = true → (execOp a.eval (opN l i)).run P w = .ok (.value (slotOf a (opN l i).dst)) w
def wpSegs (P : Program) (l : List Oper) (K : Act → World → Prop) (last : List Nat) : List (List Nat × Nat × List Nat) → Act → World → Prop
  | [] => fun a w => wpList P l.toArray (Exit.then (fun a1 w1 => w1 = w ∧ K a1 w) NoExit) (opsOf l last) a w
  | (pre, x, cs) :: rest => fun a w => wpList P l.toArray (Exit.then (fun a1 w1 => w1 = w ∧
      wpList P l.toArray (Exit.then (fun a2 w2 => Again P l cs a2 w2 ∧ wpSegs P l K last rest a2 w2) NoExit) [opN l x] a1 w) NoExit) (opsOf l pre) a w

/-! ### the piece that reads -/
def looks (l : List Oper) (i : Nat) : List Tmp := (opN l i).looksAt l.toArray
/-- i ahead of k: k writes nothing that i looks at, and no slot of i's. -/
def apartAt (l : List Oper) (i k : Nat) : Bool :=
  match (opN l k).dst with
  | some d => !(looks l i).contains d && (opN l i).dst != some d
  | none => true
theorem apartAt_spec {i k : Nat} (h : apartAt l i k = true) {d : Nat} (hd : (opN l k).dst = some d) : d ∉ looks l i ∧ (opN l i).dst ≠ some d := by
  unfold apartAt at h
  rw [hd] at h
  simp at h
  exact h
def selfAt (l : List Oper) (i : Nat) : Bool :=
  match (opN l i).dst with
  | some d => !(looks l i).contains d
  | none => true
theorem selfAt_spec {i : Nat} (h : selfAt l i = true) {d : Nat} (hd : (opN l i).dst = some d) : d ∉ looks l i := by
  unfold selfAt at h
  rw [hd] at h
  simpa using h
def noSel (o : Oper) : Bool := match o.op with | .select .. => false | _ => true
theorem noSel_spec {o : Oper} (h : noSel o = true) : ∀ cs x, o.op ≠ .select cs x := fun cs x e => by simp [noSel, e] at h

theorem pre_take {R : Act → World → Prop} {w0 : World} : ∀ (is : List Nat) (a : Act) (w : World),
    (∀ i ∈ is, mild P (opN l i) = true) → (∀ i ∈ is, selfAt l i = true) → (∀ i ∈ is, noSel (opN l i) = true) → is.Pairwise (fun i k => apartAt l i k = true) →
    wpList P l.toArray (Exit.then (fun a1 w1 => w1 = w0 ∧ R a1 w0) NoExit) (opsOf l is) a w →
    Grows w w0 ∧ (w = w0 → ∃ b, R b w0 ∧ (∀ i ∈ is, ∃ v, Pend P l (opN l i) b w0 v ∧ b.put (opN l i).dst v = b) ∧ SameBut (is.map fun i => (opN l i).dst) a b)
  | [], a, w, _, _, _, _, h => by
    obtain ⟨rfl, hR⟩ : w = w0 ∧ R a w0 := h
    exact ⟨Grows.refl _, fun _ => ⟨a, hR, by simp, ⟨rfl, rfl, fun _ _ => rfl⟩⟩⟩
  | i :: is, a, w, hm, hse, hns, hp, h => by
    have ih := fun a w => pre_take (R := R) (w0 := w0) is a w (fun k hk => hm k (by simp [hk])) (fun k hk => hse k (by simp [hk])) (fun k hk => hns k (by simp [hk])) (List.pairwise_cons.1 hp).2
    have hap := (List.pairwise_cons.1 hp).1
    have hsel := noSel_spec (hns i (by simp))
    -- what is known behind the first: v
    have fin : ∀ v, Pend P l (opN l i) a w0 v → (∃ b, R b w0 ∧ (∀ k ∈ is, ∃ v, Pend P l (opN l k) b w0 v ∧ b.put (opN l k).dst v = b) ∧ SameBut (is.map fun i => (opN l i).dst) (a.put (opN l i).dst v) b) →
        ∃ b, R b w0 ∧ (∀ k ∈ i :: is, ∃ v, Pend P l (opN l k) b w0 v ∧ b.put (opN l k).dst v = b) ∧ SameBut ((i :: is).map fun i => (opN l i).dst) a b := by
      rintro v hv ⟨b, hR, hall, hsb⟩
      have hdst : ∀ s, (opN l i).dst = some s → some s ∉ is.map (fun i => (opN l i).dst) := fun s hs hmem => by
        obtain ⟨k, hk, e⟩ := List.mem_map.1 hmem
        exact (apartAt_spec (hap k hk) e).2 hs
      have hab : AgreeOn l (opN l i) b a := fun t ht => by
        have h1 : some t ∉ is.map (fun i => (opN l i).dst) := fun hmem => by
          obtain ⟨k, hk, e⟩ := List.mem_map.1 hmem
          exact (apartAt_spec (hap k hk) e).1 ht
        rw [hsb.slot t h1]
        exact put_slot_ne _ _ _ _ fun e => selfAt_spec (hse i (by simp)) e ht
      refine ⟨b, hR, ?_, ?_⟩
      · intro k hk
        rcases List.mem_cons.1 hk with rfl | hk
        · refine ⟨v, hv.agree hsel hab, put_self fun s hs hlt => ?_⟩
          rw [hsb.slot s (hdst s hs), hs]
          refine put_slot_eq _ _ _ ?_
          rw [hsb.size, put_size] at hlt
          exact hlt
        · exact hall k hk
      · refine ⟨hsb.defers.trans (put_defers _ _ _), hsb.size.trans (put_size _ _ _), fun s hs => ?_⟩
        simp only [List.map_cons, List.mem_cons, not_or] at hs
        rw [hsb.slot s hs.2]
        exact put_slot_ne _ _ _ _ fun e => hs.1 e.symm
    simp only [opsOf, List.map_cons, wpList] at h
    split at h
    · rename_i hw
      rcases h with h | ⟨_, a1, w1, hF⟩
      · unfold Oper.wp at h
        cases hr : (execOp a.eval (opN l i)).run P w with
        | halt x w1 =>
          rw [hr] at h
          cases x <;> simp only [Oper.upon] at h
          exact h.elim
        | ok n w1 =>
          obtain ⟨v, rfl, hg⟩ := mild_run (hm i (by simp)) hr
          rw [hr] at h
          simp only [Oper.upon] at h
          obtain ⟨h1, h2⟩ := ih _ _ h
          refine ⟨hg.trans h1, fun e => ?_⟩
          subst e
          have e1 : w1 = w := hg.same (by have := hg.size; have := h1.size; omega) (by have := hg.drawn; have := h1.drawn; omega)
          subst e1
          exact fin v (.inl ⟨hw, hr⟩) (h2 rfl)
      · exact hF.elim
    · rename_i hw
      obtain ⟨h1, h2⟩ := ih _ _ h
      refine ⟨h1, fun e => ?_⟩
      subst e
      exact fin undef (.inr ⟨by simpa using hw, rfl⟩) (h2 rfl)

/-! ### an operation in another frame -/
theorem wp_shift {o : Oper} {a b : Act} {w : World} {K : Act → World → Prop} {K0 : Act → World → Prop} {Q : Exit → Act → World → Prop} (hs : ∀ cs x, o.op ≠ .select cs x) (hab : AgreeOn l o a b) (hd : a.defers = b.defers)
    (h : o.wp P b w K (Exit.then K0 NoExit)) : o.wp P a w (fun a2 w2 => ∃ v ds, a2 = { tmps := (a.put o.dst v).tmps, defers := ds } ∧ K { tmps := (b.put o.dst v).tmps, defers := ds } w2) Q := by
  unfold Oper.wp at *
  rw [exec_agree hs hab]
  have form : ∀ (x : Act) v, x.put o.dst v = { tmps := (x.put o.dst v).tmps, defers := x.defers } := fun x v => by cases o.dst <;> rfl
  generalize (execOp b.eval o).run P w = r at *
  cases r with
  | ok n w' =>
    cases n <;> simp only [Oper.upon] at h ⊢
    case value u => exact ⟨u, a.defers, form a u, by rw [hd, ← form b u]; exact h⟩
    case skip => exact ⟨undef, a.defers, form a undef, by rw [hd, ← form b undef]; exact h⟩
    case defer d =>
      refine ⟨undef, d :: a.defers, ?_, ?_⟩
      · cases o.dst <;> rfl
      · rw [hd]
        have e : ({ b with defers := d :: b.defers } : Act).put o.dst undef = { tmps := (b.put o.dst undef).tmps, defers := d :: b.defers } := by cases o.dst <;> rfl
        rw [← e]
        exact h
    case enter f args =>
      refine Calls.mono h fun e w'' he => ?_
      cases e with
      | returned u => exact ⟨u, a.defers, form a u, by rw [hd, ← form b u]; exact he⟩
      | panicked c => exact he.elim
      | outgrown => obtain ⟨_, _, hF⟩ := he; exact hF.elim
    case row row args => exact Rows.mono h fun u w'' he => ⟨u, a.defers, form a u, by rw [hd, ← form b u]; exact he⟩
  | halt x w' =>
    cases x <;> simp only [Oper.upon] at h ⊢
    case panic u => exact h.elim
end
end Go.Proofs.YtdaokholmlpfkaaDoor
namespace Go.Proofs.YtdaokholmlpfkaaDoor
set_option linter.unusedSimpArgs false
set_option linter.unusedVariables false

/-! ### what must come ahead of an operation -/
def maskFrom (T : List Nat) : List Edge → Nat → Nat
  | [], s => s
  | e :: es, s => maskFrom T es (if Region.binds .any e then s ||| 2 ^ e.on ||| T.getD e.on 0 else s)
def tableFrom : List Oper → List Nat → List Nat
  | [], T => T
  | o :: os, T => tableFrom os (T ++ [maskFrom T o.after.toList 0])
def tableOf (l : List Oper) : List Nat := tableFrom l []
theorem maskFrom_spec (T : List Nat) (i : Nat) : ∀ (es : List Edge) (s : Nat), (maskFrom T es s).testBit i = true → s.testBit i = true ∨ ∃ e ∈ es, Region.binds .any e = true ∧ (e.on = i ∨ (T.getD e.on 0).testBit i = true)
  | [], s, h => .inl h
  | e :: es, s, h => by
    rcases maskFrom_spec T i es _ h with h | ⟨e', h1, h2⟩
    · by_cases hb : Region.binds .any e = true
      · simp only [hb, if_true, Nat.testBit_or, Bool.or_eq_true] at h
        rcases h with (h | h) | h
        · exact .inl h
        · refine .inr ⟨e, by simp, hb, .inl ?_⟩
          rw [Nat.testBit_two_pow] at h
          simpa using h
        · exact .inr ⟨e, by simp, hb, .inr h⟩
      · simp only [hb] at h
        exact .inl h
    · exact .inr ⟨e', by simp [h1], h2⟩
/-- A set of operations that holds whatever its members wait for. -/
def Closed (l : List Oper) (L : Nat → Prop) : Prop := ∀ j o, l[j]? = some o → L j → ∀ e ∈ o.after, Region.binds .any e = true → L e.on
theorem tableFrom_spec {l0 : List Oper} {L : Nat → Prop} (hL : Closed l0 L) : ∀ (l : List Oper) (T : List Nat) (k : Nat), T.length = k → (∀ j, l[j]? = l0[k + j]?) →
    (∀ j i, (T.getD j 0).testBit i = true → L j → L i) → ∀ j i, ((tableFrom l T).getD j 0).testBit i = true → L j → L i
  | [], T, k, hk, hl, hT => hT
  | o :: os, T, k, hk, hl, hT => by
    refine tableFrom_spec hL os (T ++ [maskFrom T o.after.toList 0]) (k + 1) (by simp [hk]) (fun j => ?_) ?_
    · have := hl (j + 1)
      simp only [List.getElem?_cons_succ] at this
      rw [this]
      congr 1
      omega
    · intro j i hb hj
      by_cases h1 : j < T.length
      · have e : (T ++ [maskFrom T o.after.toList 0]).getD j 0 = T.getD j 0 := by
          simp [List.getD, List.getElem?_append_left h1]
        rw [e] at hb
        exact hT j i hb hj
      · by_cases h2 : j = T.length
        · subst h2
          have e : (T ++ [maskFrom T o.after.toList 0]).getD T.length 0 = maskFrom T o.after.toList 0 := by
            simp [List.getD]
          rw [e] at hb
          rcases maskFrom_spec T i _ _ hb with hz | ⟨ed, hm, hbd, hor⟩
          · simp at hz
          · have ho : l0[T.length]? = some o := by
              have := hl 0
              simp only [List.getElem?_cons_zero, Nat.add_zero] at this
              rw [hk, ← this]
            have hon := hL _ o ho hj ed (by simpa using hm) hbd
            rcases hor with rfl | hor
            · exact hon
            · exact hT _ _ hor hon
        · have e : (T ++ [maskFrom T o.after.toList 0]).getD j 0 = 0 := by
            have : (T ++ [maskFrom T o.after.toList 0])[j]? = none := by simp; omega
            simp [List.getD, this]
          rw [e] at hb
          simp at hb
theorem tableOf_spec {l : List Oper} {L : Nat → Prop} (hL : Closed l L) {j i : Nat} (h : ((tableOf l).getD j 0).testBit i = true) (hj : L j) : L i :=
  tableFrom_spec hL l [] 0 rfl (fun j => by simp) (fun j i hb => by simp at hb) j i h hj

/-! ### the check -/
def orderOf (last : List Nat) : List (List Nat × Nat × List Nat) → List Nat
  | [] => last
  | (pre, x, cs) :: rest => pre ++ x :: orderOf last rest
def xsOf (segs : List (List Nat × Nat × List Nat)) : List Nat := segs.map (·.2.1)
def csAt : List (List Nat × Nat × List Nat) → Nat → List Nat
  | [], _ => []
  | (pre, x, cs) :: rest, k => if x = k then cs else csAt rest k
/-- i ahead of k in the order. -/
def pairAt (l : List Oper) (T : List Nat) (segs : List (List Nat × Nat × List Nat)) (i k : Nat) : Bool :=
  let o := opN l i
  let q := opN l k
  i != k && (apartAt l i k || ((xsOf segs).contains k && (T.getD k 0).testBit i)) &&
  (match o.dst with | some d => !(looks l k).contains d || (T.getD k 0).testBit i | none => true) &&
  (!(xsOf segs).contains i || (T.getD k 0).testBit i) &&
  (!(xsOf segs).contains k || ((T.getD k 0).testBit i || bare o || (csAt segs k).contains i)) &&
  o.after.toList.all (fun e => !Region.binds .any e || e.on != k)
def pairsAt (f : Nat → Nat → Bool) : List Nat → Bool
  | [] => true
  | i :: is => is.all (f i) && pairsAt f is
theorem pairsAt_spec {f : Nat → Nat → Bool} : ∀ {is : List Nat}, pairsAt f is = true → is.Pairwise (fun i k => f i k = true)
  | [], _ => .nil
  | i :: is, h => by
    simp only [pairsAt, Bool.and_eq_true, List.all_eq_true] at h
    exact List.pairwise_cons.2 ⟨h.1, pairsAt_spec h.2⟩
def oneAt (P : Program) (l : List Oper) (order xs : List Nat) (i : Nat) : Bool :=
  let o := opN l i
  selfAt l i && noSel o && (mild P o || xs.contains i) && o.after.toList.all (fun e => !Region.binds .any e || (order.contains e.on && e.on != i))
def planOk (P : Program) (l : List Oper) (segs : List (List Nat × Nat × List Nat)) (last : List Nat) : Bool :=
  let order := orderOf last segs
  order.length == l.length && order.all (· < l.length) && (List.range l.length).all (order.contains ·) &&
  pairsAt (pairAt l (tableOf l) segs) order && order.all (oneAt P l order (xsOf segs)) && segs.all (fun s => s.1.all (fun i => !(xsOf segs).contains i)) && last.all (fun i => !(xsOf segs).contains i) && segs.all (fun s => csAt segs s.2.1 == s.2.2)
end Go.Proofs.YtdaokholmlpfkaaDoor
