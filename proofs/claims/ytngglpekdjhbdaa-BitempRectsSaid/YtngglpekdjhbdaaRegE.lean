/- A region that draws its order, walked in one order: the check of the order, and the theorem. -/
import Derived.Test.YtngglpekdjhbdaaRegD
namespace Go.Proofs.Ytngglpekdjhbdaa
set_option linter.unusedSimpArgs false
set_option linter.unusedVariables false

/-! ### what must come ahead of an operation -/
def maskFrom (T : List Nat) : List Edge → Nat → Nat
  | [], s => s
  | e :: es, s => maskFrom T es (if Region.binds .any e then s ||| 2 ^ e.on ||| T.getD e.on 0 else s)
def tableFrom : List Oper → List Nat → List Nat
  | [], T => T
  | o :: os, T => tableFrom os (T ++ [maskFrom T o.after.toList 0])
def tableOf (l : List Oper) : List Nat := tableFrom l []
theorem maskFrom_spec (T : List Nat) (i : Nat) : ∀ (es : List Edge) (s : Nat), (maskFrom T es s).testBit i = true → s.testBit i = true ∨ ∃ e ∈ es, Region.binds .any e = true ∧ (e.on = i ∨ (T.getD e.on 0).testBit i = true)
  | [], s, h => .inl h
  | e :: es, s, h => by
    rcases maskFrom_spec T i es _ h with h | ⟨e', h1, h2⟩
    · by_cases hb : Region.binds .any e = true
      · simp only [hb, if_true, Nat.testBit_or, Bool.or_eq_true] at h
        rcases h with (h | h) | h
        · exact .inl h
        · refine .inr ⟨e, by simp, hb, .inl ?_⟩
          rw [Nat.testBit_two_pow] at h
          simpa using h
        · exact .inr ⟨e, by simp, hb, .inr h⟩
      · simp only [hb] at h
        exact .inl h
    · exact .inr ⟨e', by simp [h1], h2⟩
/-- A set of operations that holds whatever its members wait for. -/
def Closed (l : List Oper) (L : Nat → Prop) : Prop := ∀ j o, l[j]? = some o → L j → ∀ e ∈ o.after, Region.binds .any e = true → L e.on
theorem tableFrom_spec {l0 : List Oper} {L : Nat → Prop} (hL : Closed l0 L) : ∀ (l : List Oper) (T : List Nat) (k : Nat), T.length = k → (∀ j, l[j]? = l0[k + j]?) →
    (∀ j i, (T.getD j 0).testBit i = true → L j → L i) → ∀ j i, ((tableFrom l T).getD j 0).testBit i = true → L j → L i
  | [], T, k, hk, hl, hT => hT
  | o :: os, T, k, hk, hl, hT => by
    refine tableFrom_spec hL os (T ++ [maskFrom T o.after.toList 0]) (k + 1) (by simp [hk]) (fun j => ?_) ?_
    · have := hl (j + 1)
      simp only [List.getElem?_cons_succ] at this
      rw [this]
      congr 1
      omega
    · intro j i hb hj
      by_cases h1 : j < T.length
      · have e : (T ++ [maskFrom T o.after.toList 0]).getD j 0 = T.getD j 0 := by
          simp [List.getD, List.getElem?_append_left h1]
        rw [e] at hb
        exact hT j i hb hj
      · by_cases h2 : j = T.length
        · subst h2
          have e : (T ++ [maskFrom T o.after.toList 0]).getD T.length 0 = maskFrom T o.after.toList 0 := by
            simp [List.getD]
          rw [e] at hb
          rcases maskFrom_spec T i _ _ hb with hz | ⟨ed, hm, hbd, hor⟩
          · simp at hz
          · have ho : l0[T.length]? = some o := by
              have := hl 0
              simp only [List.getElem?_cons_zero, Nat.add_zero] at this
              rw [hk, ← this]
            have hon := hL _ o ho hj ed (by simpa using hm) hbd
            rcases hor with rfl | hor
            · exact hon
            · exact hT _ _ hor hon
        · have e : (T ++ [maskFrom T o.after.toList 0]).getD j 0 = 0 := by
            have : (T ++ [maskFrom T o.after.toList 0])[j]? = none := by simp; omega
            simp [List.getD, this]
          rw [e] at hb
          simp at hb
theorem tableOf_spec {l : List Oper} {L : Nat → Prop} (hL : Closed l L) {j i : Nat} (h : ((tableOf l).getD j 0).testBit i = true) (hj : L j) : L i :=
  tableFrom_spec hL l [] 0 rfl (fun j => by simp) (fun j i hb => by simp at hb) j i h hj

/-! ### the check -/
def orderOf (last : List Nat) : List (List Nat × Nat × List Nat) → List Nat
  | [] => last
  | (pre, x, cs) :: rest => pre ++ x :: orderOf last rest
def xsOf (segs : List (List Nat × Nat × List Nat)) : List Nat := segs.map (·.2.1)
def csAt : List (List Nat × Nat × List Nat) → Nat → List Nat
  | [], _ => []
  | (pre, x, cs) :: rest, k => if x = k then cs else csAt rest k
/-- i ahead of k in the order. -/
def pairAt (l : List Oper) (T : List Nat) (segs : List (List Nat × Nat × List Nat)) (i k : Nat) : Bool :=
  let o := opN l i
  let q := opN l k
  i != k && (apartAt l i k || ((xsOf segs).contains k && (T.getD k 0).testBit i)) &&
  (match o.dst with | some d => !(looks l k).contains d || (T.getD k 0).testBit i | none => true) &&
  (!(xsOf segs).contains i || (T.getD k 0).testBit i) &&
  (!(xsOf segs).contains k || ((T.getD k 0).testBit i || bare o || (csAt segs k).contains i)) &&
  o.after.toList.all (fun e => !Region.binds .any e || e.on != k)
def pairsAt (f : Nat → Nat → Bool) : List Nat → Bool
  | [] => true
  | i :: is => is.all (f i) && pairsAt f is
theorem pairsAt_spec {f : Nat → Nat → Bool} : ∀ {is : List Nat}, pairsAt f is = true → is.Pairwise (fun i k => f i k = true)
  | [], _ => .nil
  | i :: is, h => by
    simp only [pairsAt, Bool.and_eq_true, List.all_eq_true] at h
    exact List.pairwise_cons.2 ⟨h.1, pairsAt_spec h.2⟩
def oneAt (P : Program) (l : List Oper) (order xs : List Nat) (i : Nat) : Bool :=
  let o := opN l i
  selfAt l i && noSel o && (mild P o || xs.contains i) && o.after.toList.all (fun e => !Region.binds .any e || (order.contains e.on && e.on != i))
def planOk (P : Program) (l : List Oper) (segs : List (List Nat × Nat × List Nat)) (last : List Nat) : Bool :=
  let order := orderOf last segs
  order.length == l.length && order.all (· < l.length) && (List.range l.length).all (order.contains ·) &&
  pairsAt (pairAt l (tableOf l) segs) order && order.all (oneAt P l order (xsOf segs)) && segs.all (fun s => s.1.all (fun i => !(xsOf segs).contains i)) && last.all (fun i => !(xsOf segs).contains i) && segs.all (fun s => csAt segs s.2.1 == s.2.2)
end Go.Proofs.Ytngglpekdjhbdaa
