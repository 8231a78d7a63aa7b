/- A region that draws its order, walked in one order: the rule. -/
import Derived.Test.YtngglpekdjhbdaaRegC
namespace Go.Proofs.Ytngglpekdjhbdaa
set_option linter.unusedSimpArgs false
set_option linter.unusedVariables false

section
variable {P : Program} {l : List Oper}
/-- No way out but the plain one. -/
def NoExit : Exit → Act → World → Prop := fun _ _ _ => False
/-- Operation number i. -/
def opN (l : List Oper) (i : Nat) : Oper := l.getD i default
def AgreeOn (l : List Oper) (o : Oper) (a b : Act) : Prop := ∀ t, t ∈ o.looksAt l.toArray → a.tmps[t]? = b.tmps[t]?
theorem exec_agree {o : Oper} {a b : Act} (hs : ∀ cs x, o.op ≠ .select cs x) (h : AgreeOn l o a b) : execOp a.eval o = execOp b.eval o :=
  execOp_congr o hs fun x hx => by
    cases x with
    | tmp t =>
      have hm : t ∈ o.looksAt l.toArray := List.mem_append_left _ (List.mem_filterMap.2 ⟨.tmp t, by simpa using hx, rfl⟩)
      have := h t hm
      simp [Act.eval, this]
    | const v => rfl
    | global g => rfl
    | func f => rfl
theorem wanted_agree {o : Oper} {a b : Act} (h : AgreeOn l o a b) : Region.wanted o (yielded l.toArray a.tmps) = Region.wanted o (yielded l.toArray b.tmps) := by
  unfold Region.wanted
  cases hg : o.guard with
  | none => rfl
  | some gw =>
    obtain ⟨g, want⟩ := gw
    have hy : yielded l.toArray a.tmps g = yielded l.toArray b.tmps g := by
      unfold yielded
      cases ht : (l.toArray[g]?).bind (·.dst) with
      | none => rfl
      | some t =>
        have := h t (List.mem_append_right _ (by simp only [hg, ht]; simp))
        simp [this]
    simp only [hy]
def slotOf (a : Act) : Option Tmp → Value
  | some d => a.tmps.getD d undef
  | none => undef
theorem put_slotOf (a : Act) (d : Option Tmp) : a.put d (slotOf a d) = a := by
  cases d with
  | none => rfl
  | some d =>
    simp only [Act.put, slotOf]
    congr 1
    apply Array.ext_getElem?
    intro i
    rw [Array.getElem?_setIfInBounds]
    by_cases h : d = i
    · subst h
      by_cases hd : d < a.tmps.size
      · simp [hd, Array.getD]
      · simp [hd]
    · simp [h]
/-- Operation o gives v, and leaves the world as it is. -/
def Pend (P : Program) (l : List Oper) (o : Oper) (b : Act) (w : World) (v : Value) : Prop :=
  (Region.wanted o (yielded l.toArray b.tmps) = true ∧ (execOp b.eval o).run P w = .ok (.value v) w) ∨ (Region.wanted o (yielded l.toArray b.tmps) = false ∧ v = undef)
theorem Pend.agree {o : Oper} {a b : Act} {w : World} {v : Value} (hs : ∀ cs x, o.op ≠ .select cs x) (h : Pend P l o b w v) (hab : AgreeOn l o a b) : Pend P l o a w v := by
  unfold Pend at *
  rw [exec_agree hs hab, wanted_agree hab]
  exact h
/-- Nothing but the slots ds has turned. -/
structure SameBut (ds : List (Option Tmp)) (a b : Act) : Prop where
  defers : b.defers = a.defers
  size : b.tmps.size = a.tmps.size
  slot : ∀ s, some s ∉ ds → b.tmps[s]? = a.tmps[s]?
theorem put_slot_ne (a : Act) (d : Option Tmp) (v : Value) (s : Nat) (h : d ≠ some s) : (a.put d v).tmps[s]? = a.tmps[s]? := by
  cases d with
  | none => rfl
  | some d =>
    have : d ≠ s := fun e => h (by rw [e])
    simp [Act.put, Array.getElem?_setIfInBounds_ne this]
theorem put_slot_eq (a : Act) (d : Nat) (v : Value) (h : d < a.tmps.size) : (a.put (some d) v).tmps[d]? = some v := by simp [Act.put, h]
theorem put_size (a : Act) (d : Option Tmp) (v : Value) : (a.put d v).tmps.size = a.tmps.size := by cases d <;> simp [Act.put]
theorem put_defers (a : Act) (d : Option Tmp) (v : Value) : (a.put d v).defers = a.defers := by cases d <;> rfl
theorem put_self {b : Act} {d : Option Tmp} {v : Value} (h : ∀ s, d = some s → s < b.tmps.size → b.tmps[s]? = some v) : b.put d v = b := by
  cases d with
  | none => rfl
  | some d =>
    simp only [Act.put]
    congr 1
    apply Array.ext_getElem?
    intro i
    rw [Array.getElem?_setIfInBounds]
    by_cases hi : d = i
    · subst hi
      by_cases hd : d < b.tmps.size
      · rw [h d rfl hd]; simp [hd]
      · simp [hd]
    · simp [hi]
theorem put_self_slot {b : Act} {d : Option Tmp} {v : Value} (h : b.put d v = b) {s : Nat} (hs : d = some s) (hlt : s < b.tmps.size) : b.tmps[s]? = some v := by
  rw [← h, hs]
  exact put_slot_eq b s v hlt

def opsOf (l : List Oper) (is : List Nat) : List Oper := is.map (opN l)
def Again (P : Program) (l : List Oper) (cs : List Nat) (a : Act) (w : World) : Prop :=
  ∀ i ∈ cs, Region.wanted (opN l i) (yielded l.toArray a.tmps) = true → (execOp a.eval (opN l i)).run P w = .ok (.value (slotOf a (opN l i).dst)) w
def wpSegs (P : Program) (l : List Oper) (K : Act → World → Prop) (last : List Nat) : List (List Nat × Nat × List Nat) → Act → World → Prop
  | [] => fun a w => wpList P l.toArray (Exit.then (fun a1 w1 => w1 = w ∧ K a1 w) NoExit) (opsOf l last) a w
  | (pre, x, cs) :: rest => fun a w => wpList P l.toArray (Exit.then (fun a1 w1 => w1 = w ∧
      wpList P l.toArray (Exit.then (fun a2 w2 => Again P l cs a2 w2 ∧ wpSegs P l K last rest a2 w2) NoExit) [opN l x] a1 w) NoExit) (opsOf l pre) a w

/-! ### the piece that reads -/
def looks (l : List Oper) (i : Nat) : List Tmp := (opN l i).looksAt l.toArray
/-- i ahead of k: k writes nothing that i looks at, and no slot of i's. -/
def apartAt (l : List Oper) (i k : Nat) : Bool :=
  match (opN l k).dst with
  | some d => !(looks l i).contains d && (opN l i).dst != some d
  | none => true
theorem apartAt_spec {i k : Nat} (h : apartAt l i k = true) {d : Nat} (hd : (opN l k).dst = some d) : d ∉ looks l i ∧ (opN l i).dst ≠ some d := by
  unfold apartAt at h
  rw [hd] at h
  simp at h
  exact h
def selfAt (l : List Oper) (i : Nat) : Bool :=
  match (opN l i).dst with
  | some d => !(looks l i).contains d
  | none => true
theorem selfAt_spec {i : Nat} (h : selfAt l i = true) {d : Nat} (hd : (opN l i).dst = some d) : d ∉ looks l i := by
  unfold selfAt at h
  rw [hd] at h
  simpa using h
def noSel (o : Oper) : Bool := match o.op with | .select .. => false | _ => true
theorem noSel_spec {o : Oper} (h : noSel o = true) : ∀ cs x, o.op ≠ .select cs x := fun cs x e => by simp [noSel, e] at h

theorem pre_take {R : Act → World → Prop} {w0 : World} : ∀ (is : List Nat) (a : Act) (w : World),
    (∀ i ∈ is, mild P (opN l i) = true) → (∀ i ∈ is, selfAt l i = true) → (∀ i ∈ is, noSel (opN l i) = true) → is.Pairwise (fun i k => apartAt l i k = true) →
    wpList P l.toArray (Exit.then (fun a1 w1 => w1 = w0 ∧ R a1 w0) NoExit) (opsOf l is) a w →
    Grows w w0 ∧ (w = w0 → ∃ b, R b w0 ∧ (∀ i ∈ is, ∃ v, Pend P l (opN l i) b w0 v ∧ b.put (opN l i).dst v = b) ∧ SameBut (is.map fun i => (opN l i).dst) a b)
  | [], a, w, _, _, _, _, h => by
    obtain ⟨rfl, hR⟩ : w = w0 ∧ R a w0 := h
    exact ⟨Grows.refl _, fun _ => ⟨a, hR, by simp, ⟨rfl, rfl, fun _ _ => rfl⟩⟩⟩
  | i :: is, a, w, hm, hse, hns, hp, h => by
    have ih := fun a w => pre_take (R := R) (w0 := w0) is a w (fun k hk => hm k (by simp [hk])) (fun k hk => hse k (by simp [hk])) (fun k hk => hns k (by simp [hk])) (List.pairwise_cons.1 hp).2
    have hap := (List.pairwise_cons.1 hp).1
    have hsel := noSel_spec (hns i (by simp))
    -- what is known behind the first: v
    have fin : ∀ v, Pend P l (opN l i) a w0 v → (∃ b, R b w0 ∧ (∀ k ∈ is, ∃ v, Pend P l (opN l k) b w0 v ∧ b.put (opN l k).dst v = b) ∧ SameBut (is.map fun i => (opN l i).dst) (a.put (opN l i).dst v) b) →
        ∃ b, R b w0 ∧ (∀ k ∈ i :: is, ∃ v, Pend P l (opN l k) b w0 v ∧ b.put (opN l k).dst v = b) ∧ SameBut ((i :: is).map fun i => (opN l i).dst) a b := by
      rintro v hv ⟨b, hR, hall, hsb⟩
      have hdst : ∀ s, (opN l i).dst = some s → some s ∉ is.map (fun i => (opN l i).dst) := fun s hs hmem => by
        obtain ⟨k, hk, e⟩ := List.mem_map.1 hmem
        exact (apartAt_spec (hap k hk) e).2 hs
      have hab : AgreeOn l (opN l i) b a := fun t ht => by
        have h1 : some t ∉ is.map (fun i => (opN l i).dst) := fun hmem => by
          obtain ⟨k, hk, e⟩ := List.mem_map.1 hmem
          exact (apartAt_spec (hap k hk) e).1 ht
        rw [hsb.slot t h1]
        exact put_slot_ne _ _ _ _ fun e => selfAt_spec (hse i (by simp)) e ht
      refine ⟨b, hR, ?_, ?_⟩
      · intro k hk
        rcases List.mem_cons.1 hk with rfl | hk
        · refine ⟨v, hv.agree hsel hab, put_self fun s hs hlt => ?_⟩
          rw [hsb.slot s (hdst s hs), hs]
          refine put_slot_eq _ _ _ ?_
          rw [hsb.size, put_size] at hlt
          exact hlt
        · exact hall k hk
      · refine ⟨hsb.defers.trans (put_defers _ _ _), hsb.size.trans (put_size _ _ _), fun s hs => ?_⟩
        simp only [List.map_cons, List.mem_cons, not_or] at hs
        rw [hsb.slot s hs.2]
        exact put_slot_ne _ _ _ _ fun e => hs.1 e.symm
    simp only [opsOf, List.map_cons, wpList] at h
    split at h
    · rename_i hw
      rcases h with h | ⟨_, a1, w1, hF⟩
      · unfold Oper.wp at h
        cases hr : (execOp a.eval (opN l i)).run P w with
        | halt x w1 =>
          rw [hr] at h
          cases x <;> simp only [Oper.upon] at h
          exact h.elim
        | ok n w1 =>
          obtain ⟨v, rfl, hg⟩ := mild_run (hm i (by simp)) hr
          rw [hr] at h
          simp only [Oper.upon] at h
          obtain ⟨h1, h2⟩ := ih _ _ h
          refine ⟨hg.trans h1, fun e => ?_⟩
          subst e
          have e1 : w1 = w := hg.same (by have := hg.size; have := h1.size; omega) (by have := hg.drawn; have := h1.drawn; omega)
          subst e1
          exact fin v (.inl ⟨hw, hr⟩) (h2 rfl)
      · exact hF.elim
    · rename_i hw
      obtain ⟨h1, h2⟩ := ih _ _ h
      refine ⟨h1, fun e => ?_⟩
      subst e
      exact fin undef (.inr ⟨by simpa using hw, rfl⟩) (h2 rfl)

/-! ### an operation in another frame -/
theorem wp_shift {o : Oper} {a b : Act} {w : World} {K : Act → World → Prop} {K0 : Act → World → Prop} {Q : Exit → Act → World → Prop} (hs : ∀ cs x, o.op ≠ .select cs x) (hab : AgreeOn l o a b) (hd : a.defers = b.defers)
    (h : o.wp P b w K (Exit.then K0 NoExit)) : o.wp P a w (fun a2 w2 => ∃ v ds, a2 = { tmps := (a.put o.dst v).tmps, defers := ds } ∧ K { tmps := (b.put o.dst v).tmps, defers := ds } w2) Q := by
  unfold Oper.wp at *
  rw [exec_agree hs hab]
  have form : ∀ (x : Act) v, x.put o.dst v = { tmps := (x.put o.dst v).tmps, defers := x.defers } := fun x v => by cases o.dst <;> rfl
  generalize (execOp b.eval o).run P w = r at *
  cases r with
  | ok n w' =>
    cases n <;> simp only [Oper.upon] at h ⊢
    case value u => exact ⟨u, a.defers, form a u, by rw [hd, ← form b u]; exact h⟩
    case skip => exact ⟨undef, a.defers, form a undef, by rw [hd, ← form b undef]; exact h⟩
    case defer d =>
      refine ⟨undef, d :: a.defers, ?_, ?_⟩
      · cases o.dst <;> rfl
      · rw [hd]
        have e : ({ b with defers := d :: b.defers } : Act).put o.dst undef = { tmps := (b.put o.dst undef).tmps, defers := d :: b.defers } := by cases o.dst <;> rfl
        rw [← e]
        exact h
    case enter f args =>
      refine Calls.mono h fun e w'' he => ?_
      cases e with
      | returned u => exact ⟨u, a.defers, form a u, by rw [hd, ← form b u]; exact he⟩
      | panicked c => exact he.elim
      | outgrown => obtain ⟨_, _, hF⟩ := he; exact hF.elim
    case row row args => exact Rows.mono h fun u w'' he => ⟨u, a.defers, form a u, by rw [hd, ← form b u]; exact he⟩
  | halt x w' =>
    cases x <;> simp only [Oper.upon] at h ⊢
    case panic u => exact h.elim
end
end Go.Proofs.Ytngglpekdjhbdaa
