/- A row of the open numbers has at most one segment more than there are ends (plain). -/
import Derived.Test.YtngglpekdjhbdaaBzA
import Derived.Test.YtngglpekdjhbdaaBzB
namespace Go.Proofs.Ytngglpekdjhbdaa
set_option linter.unusedVariables false

def Bs.run (S : Bs) (t v : Int) (l : List Sg) : Bs := l.foldl (fun S x => S.step t v x.f x.t x.v) S
theorem run_cons (S : Bs) (t v : Int) (x : Sg) (l : List Sg) : S.run t v (x :: l) = (S.step t v x.f x.t x.v).run t v l := rfl
theorem run_snoc (S : Bs) (t v : Int) (x : Sg) (l : List Sg) : S.run t v (l ++ [x]) = (S.run t v l).step t v x.f x.t x.v := by
  unfold Bs.run
  rw [List.foldl_append]
  rfl
def SegsOk (S : Bs) (l : List Sg) : Prop :=
  l.Pairwise (fun x y => x.t ≤ y.f ∧ (y.v = 0 ∨ y.v ≠ x.v)) ∧ ∀ x, x ∈ l → 1 ≤ x.f ∧ x.f < x.t ∧ x.t ≤ 3652060 ∧ SegId S x.f x.t x.v
theorem step_segs {S : Bs} {t v : Int} {x : Sg} {l : List Sg} (h : S.Ok t) (h0 : 1 ≤ t) (hs : SegsOk S (x :: l)) : (S.step t v x.f x.t x.v).Ok t ∧ SegsOk (S.step t v x.f x.t x.v) l := by
  obtain ⟨hp, hm⟩ := hs
  obtain ⟨k1, k2, k3, k4⟩ := hm x (List.mem_cons_self ..)
  obtain ⟨p1, p2⟩ := List.pairwise_cons.mp hp
  refine ⟨step_ok h (Int.le_refl t) h0 k1 k2 k3 k4, p2, fun y hy => ?_⟩
  obtain ⟨y1, y2, y3, y4⟩ := hm y (List.mem_cons_of_mem _ hy)
  exact ⟨y1, y2, y3, segId_keeps (step_keeps h h0 k2 k4) y4 (.inl (p1 y hy).1) (p1 y hy).2⟩
theorem run_ok {t v : Int} : ∀ {l : List Sg} {S : Bs}, S.Ok t → 1 ≤ t → SegsOk S l → (S.run t v l).Ok t
  | [], _, h, _, _ => h
  | x :: l, S, h, h0, hs => by
    rw [run_cons]
    obtain ⟨k1, k2⟩ := step_segs (v := v) h h0 hs
    exact run_ok k1 h0 k2
/-- the state ahead of each segment: right, and what comes is still right for it -/
theorem run_mid {t v : Int} : ∀ {l m : List Sg} {S : Bs}, S.Ok t → 1 ≤ t → SegsOk S (l ++ m) → (S.run t v l).Ok t ∧ SegsOk (S.run t v l) m
  | [], _, _, h, _, hs => ⟨h, hs⟩
  | x :: l, m, S, h, h0, hs => by
    rw [run_cons]
    obtain ⟨k1, k2⟩ := step_segs (v := v) (l := l ++ m) h h0 hs
    exact run_mid k1 h0 k2

end Go.Proofs.Ytngglpekdjhbdaa
namespace Go.Proofs.Ytngglpekdjhbdaa
set_option linter.unusedVariables false

/-- segments from a day on, each where the one ahead ends, none with its neighbour's number -/
def Row : Int → List Sg → Prop
  | _, [] => True
  | s, x :: l => x.f = s ∧ x.f < x.t ∧ (∀ y, l.head? = some y → y.v ≠ x.v) ∧ Row x.t l
theorem Row.ge : ∀ {l : List Sg} {s : Int}, Row s l → ∀ y, y ∈ l → s ≤ y.f ∧ y.f < y.t
  | [], _, _, y, hy => absurd hy List.not_mem_nil
  | x :: l, s, h, y, hy => by
    obtain ⟨h1, h2, h3, h4⟩ := h
    rcases List.mem_cons.mp hy with e | hy
    · subst e; omega
    · obtain ⟨k1, k2⟩ := Row.ge h4 y hy
      exact ⟨by omega, k2⟩
theorem row_pair {S : Bs} {last : Int} (h : S.Ok last) : ∀ {l : List Sg} {s : Int}, Row s l → (∀ x, x ∈ l → ∀ d, x.f ≤ d → d < x.t → S.g d = x.v) →
    l.Pairwise (fun x y => x.t ≤ y.f ∧ (y.v = 0 ∨ y.v ≠ x.v))
  | [], _, _, _ => List.Pairwise.nil
  | x :: l, s, hr, hg => by
    obtain ⟨h1, h2, h3, h4⟩ := hr
    refine List.pairwise_cons.mpr ⟨fun y hy => ?_, row_pair h h4 fun z hz => hg z (List.mem_cons_of_mem _ hz)⟩
    obtain ⟨k1, k2⟩ := h4.ge y hy
    refine ⟨k1, Decidable.byContradiction fun hne => ?_⟩
    obtain ⟨hy0, hyx⟩ : y.v ≠ 0 ∧ y.v = x.v := by omega
    have gx := hg x (List.mem_cons_self ..) x.f (Int.le_refl _) h2
    have gy := hg y (List.mem_cons_of_mem _ hy) y.f (Int.le_refl _) k2
    obtain ⟨i, r, q1, q2, q3, q4, q5, q6⟩ := h.back x.f (by rw [gx]; omega)
    obtain ⟨j, rj, e1, e2, e3, e4, e5, e6⟩ := h.back y.f (by rw [gy]; exact hy0)
    rw [gx] at q6
    rw [gy] at e6
    have hij : i = j := by omega
    subst hij
    rw [q2] at e2
    cases e2
    cases l with
    | nil => exact absurd hy List.not_mem_nil
    | cons z m =>
      have hz := h3 z rfl
      obtain ⟨z1, z2⟩ := h4.ge z (List.mem_cons_self ..)
      have gz := hg z (List.mem_cons_of_mem _ (List.mem_cons_self ..)) z.f (Int.le_refl _) z2
      have za : z.f = x.t := h4.1
      have := h.shows i r z.f q1 q2 q3 (by omega) (by omega)
      rw [gz] at this
      omega
theorem row_segs {S : Bs} {last s : Int} {l : List Sg} (h : S.Ok last) (hr : Row s l) (hs : 1 ≤ s) (hb : ∀ x, x ∈ l → x.t ≤ 3652060) (hg : ∀ x, x ∈ l → ∀ d, x.f ≤ d → d < x.t → S.g d = x.v) : SegsOk S l := by
  have hbd : ∀ x, x ∈ l → 1 ≤ x.f ∧ x.f < x.t ∧ x.t ≤ 3652060 := fun x hx => by
    obtain ⟨k1, k2⟩ := hr.ge x hx
    exact ⟨by omega, k2, hb x hx⟩
  have hp := row_pair h hr hg
  refine ⟨hp, fun x hx => ?_⟩
  obtain ⟨k1, k2, k3⟩ := hbd x hx
  refine ⟨k1, k2, k3, ?_⟩
  by_cases hz : x.v = 0
  · exact .inl ⟨hz, fun d h1 h2 => by rw [hg x hx d h1 h2]; exact hz⟩
  · have gx := hg x hx x.f (Int.le_refl _) k2
    have gl := hg x hx (x.t - 1) (by omega) (by omega)
    obtain ⟨i, r, q1, q2, q3, q4, q5, q6⟩ := h.back x.f (by rw [gx]; exact hz)
    obtain ⟨j, rj, e1, e2, e3, e4, e5, e6⟩ := h.back (x.t - 1) (by rw [gl]; exact hz)
    rw [gx] at q6
    rw [gl, q6] at e6
    have hij : i = j := by omega
    subst hij
    rw [q2] at e2
    cases e2
    exact .inr ⟨by omega, r, by rw [q6]; simpa using q1, by rw [q6]; simpa using q2, q3, q4, by omega⟩
/-- the first: nothing laid -/
theorem empty_ok : (⟨[], fun _ => False, fun _ => 0⟩ : Bs).Ok 0 :=
  ⟨fun _ _ h => h.elim, fun _ h => h.elim, fun _ _ _ _ h => h.elim, fun _ _ _ h => h.elim, fun _ h => absurd rfl h⟩
/-- a put keeps the rectangles right -/
theorem bput_ok {S : Bs} {last t v s : Int} {l : List Sg} (h : S.Ok last) (ht : last ≤ t) (h0 : 1 ≤ t) (hr : Row s l) (hs : 1 ≤ s) (hb : ∀ x, x ∈ l → x.t ≤ 3652060) (hg : ∀ x, x ∈ l → ∀ d, x.f ≤ d → d < x.t → S.g d = x.v) : (S.run t v l).Ok t := by
  have h' : S.Ok t := Bt.later h ht
  exact run_ok h' h0 (row_segs h' hr hs hb hg)

end Go.Proofs.Ytngglpekdjhbdaa
namespace Go.Proofs.Ytngglpekdjhbdaa
set_option linter.unusedSimpArgs false
set_option linter.unusedVariables false

/-- L: the segments of g from a on, up to z -/
inductive SegsTo (g : Int → Int) (a : Int) : Int → List Sg → Prop
  | nil : SegsTo g a a []
  | snoc {z : Int} {L : List Sg} (s : Sg) : SegsTo g a z L → s.f = z → z < s.t → (∀ d, z ≤ d → d < s.t → g d = s.v) → (∀ r, L.getLast? = some r → r.v ≠ s.v) → SegsTo g a s.t (L ++ [s])
theorem SegsTo.cases' {g : Int → Int} {a z : Int} {L : List Sg} (h : SegsTo g a z L) : (L = [] ∧ z = a) ∨ ∃ L' s, L = L' ++ [s] ∧ s.t = z ∧ SegsTo g a s.f L' ∧ s.f < s.t ∧ (∀ d, s.f ≤ d → d < s.t → g d = s.v) ∧ (∀ r, L'.getLast? = some r → r.v ≠ s.v) := by
  cases h with
  | nil => exact .inl ⟨rfl, rfl⟩
  | snoc s h h1 h2 h3 h4 => subst h1; exact .inr ⟨_, s, rfl, rfl, h, h2, h3, h4⟩
theorem SegsTo.le {g : Int → Int} {a z : Int} {L : List Sg} (h : SegsTo g a z L) : a ≤ z ∧ (a < z → L ≠ []) := by
  induction h with
  | nil => exact ⟨Int.le_refl _, fun h => by omega⟩
  | snoc s h h1 h2 h3 h4 ih => exact ⟨by omega, fun _ => by simp⟩
/-- the last segment's begin: ahead of it the value is another one -/
theorem SegsTo.pre {g : Int → Int} {a : Int} {L : List Sg} {s : Sg} (h : SegsTo g a s.f L) (hv : ∀ r, L.getLast? = some r → r.v ≠ s.v) : s.f = a ∨ (a < s.f ∧ g (s.f - 1) ≠ s.v) := by
  rcases h.cases' with ⟨_, e⟩ | ⟨L', r, rfl, h1, h2, h3, h4, h5⟩
  · exact .inl e
  · refine .inr ⟨by have := h2.le.1; omega, ?_⟩
    rw [h4 (s.f - 1) (by omega) (by omega)]
    exact hv r (by simp)
theorem SegsTo.unique {g : Int → Int} {a : Int} : ∀ (n : Nat) {z : Int} {L L' : List Sg}, L.length ≤ n → SegsTo g a z L → SegsTo g a z L' → L = L'
  | n, z, L, L', hn, h, h' => by
    rcases h.cases' with ⟨rfl, e⟩ | ⟨K, s, rfl, h1, h2, h3, h4, h5⟩ <;> rcases h'.cases' with ⟨rfl, e'⟩ | ⟨K', s', rfl, h1', h2', h3', h4', h5'⟩
    · rfl
    · have := h2'.le.1; omega
    · have := h2.le.1; omega
    · have hv : s.v = s'.v := by rw [← h4 (z - 1) (by omega) (by omega), ← h4' (z - 1) (by omega) (by omega)]
      have hf : s.f = s'.f := by
        have p := h2.pre h5
        have p' := h2'.pre h5'
        have q := h2.le.1
        have q' := h2'.le.1
        rcases Int.lt_trichotomy s.f s'.f with c | c | c
        · rcases p' with e | ⟨_, e⟩
          · omega
          · exact absurd ((h4 (s'.f - 1) (by omega) (by omega)).trans hv) e
        · exact c
        · rcases p with e | ⟨_, e⟩
          · omega
          · exact absurd ((h4' (s.f - 1) (by omega) (by omega)).trans hv.symm) e
      cases n with
      | zero => simp at hn
      | succ n =>
        have hK := SegsTo.unique n (L := K) (L' := K') (by simp at hn; omega) h2 (by rw [hf]; exact h2')
        have hs : s = s' := by
          obtain ⟨f, t, v⟩ := s
          obtain ⟨f', t', v'⟩ := s'
          dsimp only at *
          subst hv hf
          rw [h1, h1']
        rw [hK, hs]
def addS (o : List Sg × Int) (tz v : Int) : List Sg × Int := if o.2 < tz then (o.1 ++ [⟨o.2, tz, v⟩], tz) else o
def stepS (b : Int) (o : List Sg × Int) (x : Sg) : List Sg × Int := addS (addS o x.f 0) (min x.t b) x.v
/-- where the telling stands: the last item told, if any -/
structure ToldS (g : Int → Int) (a b : Int) (o : List Sg × Int) (y : Option Sg) : Prop where
  segs : SegsTo g a o.2 o.1
  at_ : match y with | none => o = ([], a) | some y => o.2 = min y.t b ∧ ∃ r, o.1.getLast? = some r ∧ r.v = y.v
theorem told_step {g : Int → Int} {a b : Int} (hab : a < b) {o : List Sg × Int} {y : Option Sg} (h : ToldS g a b o y) {x : Sg} (hx : a < x.t ∧ x.f < b ∧ x.f < x.t ∧ x.v ≠ 0) (hy : ∀ z, y = some z → z.t ≤ x.f ∧ z.v ≠ 0 ∧ (z.t = x.f → z.v ≠ x.v)) (hcov : ∀ d, x.f ≤ d → d < x.t → g d = x.v) (hgap : ∀ d, o.2 ≤ d → d < x.f → g d = 0) : ToldS g a b (stepS b o x) (some x) := by
  unfold stepS
  have h2 : (addS o x.f 0).2 < min x.t b ∧ SegsTo g a (addS o x.f 0).2 (addS o x.f 0).1 ∧ (∀ r, (addS o x.f 0).1.getLast? = some r → r.v ≠ x.v) ∧ x.f ≤ (addS o x.f 0).2 := by
    unfold addS
    by_cases hc : o.2 < x.f
    · rw [if_pos hc]
      refine ⟨by dsimp only; omega, SegsTo.snoc ⟨o.2, x.f, 0⟩ h.segs rfl hc hgap ?_, ?_, by dsimp only; omega⟩
      · intro r hr
        have h3 := h.at_
        cases y with
        | none => dsimp only at h3; rw [h3] at hr; simp at hr
        | some z =>
          obtain ⟨h4, r', h5, h6⟩ := h3
          rw [h5] at hr
          cases hr
          rw [h6]
          exact (hy z rfl).2.1
      · intro r hr
        simp at hr
        subst hr
        exact Ne.symm hx.2.2.2
    · rw [if_neg hc]
      have h3 := h.at_
      cases y with
      | none =>
        dsimp only at h3
        have : o.2 = a := by rw [h3]
        refine ⟨by omega, h.segs, fun r hr => by rw [h3] at hr; simp at hr, by omega⟩
      | some z =>
        obtain ⟨h4, r', h5, h6⟩ := h3
        obtain ⟨h7, h8, h9⟩ := hy z rfl
        refine ⟨by omega, h.segs, fun r hr => ?_, by omega⟩
        rw [h5] at hr
        cases hr
        rw [h6]
        exact h9 (by omega)
  obtain ⟨c1, c2, c3, c4⟩ := h2
  generalize addS o x.f 0 = o1 at c1 c2 c3 c4
  unfold addS
  rw [if_pos c1]
  refine ⟨SegsTo.snoc ⟨o1.2, min x.t b, x.v⟩ c2 rfl c1 (fun d h1 h2 => hcov d (by omega) (by dsimp only at h2; omega)) c3, rfl, ⟨o1.2, min x.t b, x.v⟩, by simp, rfl⟩
theorem told_end {g : Int → Int} {a b : Int} (hab : a < b) {o : List Sg × Int} {y : Option Sg} (h : ToldS g a b o y) (hy : ∀ z, y = some z → z.v ≠ 0) (hgap : ∀ d, o.2 ≤ d → d < b → g d = 0) (hle : o.2 ≤ b) : SegsTo g a b (addS o b 0).1 := by
  unfold addS
  by_cases hc : o.2 < b
  · rw [if_pos hc]
    refine SegsTo.snoc ⟨o.2, b, 0⟩ h.segs rfl hc hgap ?_
    intro r hr
    have h3 := h.at_
    cases y with
    | none => dsimp only at h3; rw [h3] at hr; simp at hr
    | some z =>
      obtain ⟨h4, r', h5, h6⟩ := h3
      rw [h5] at hr
      cases hr
      rw [h6]
      exact hy z rfl
  · rw [if_neg hc]
    have : o.2 = b := by omega
    rw [← this]
    exact h.segs
/-- the segments that meet a span, in order, told whole -/
theorem told_all {g : Int → Int} {a b : Int} (hab : a < b) {Y : List Sg} (hone : ∀ x ∈ Y, a < x.t ∧ x.f < b ∧ x.f < x.t ∧ x.v ≠ 0) (hord : Y.Pairwise (fun x y => x.t ≤ y.f)) (hun : ∀ x ∈ Y, ∀ y ∈ Y, x.t = y.f → x.v ≠ y.v) (hcov : ∀ x ∈ Y, ∀ d, x.f ≤ d → d < x.t → g d = x.v) (hno : ∀ d, a ≤ d → d < b → (∀ x ∈ Y, ¬ (x.f ≤ d ∧ d < x.t)) → g d = 0) :
    SegsTo g a b (addS (Y.foldl (stepS b) ([], a)) b 0).1 := by
  have main : ∀ (n : Nat), n ≤ Y.length → ToldS g a b ((Y.take n).foldl (stepS b) ([], a)) (Y.take n).getLast? := fun n => by
    induction n with
    | zero => intro _; exact ⟨SegsTo.nil, rfl⟩
    | succ n ih =>
      intro hn
      have h := ih (by omega)
      have hlt : n < Y.length := by omega
      rw [List.take_succ_eq_append_getElem hlt, List.foldl_append]
      simp only [List.foldl_cons, List.foldl_nil, List.getLast?_append, List.getLast?_singleton, Option.some_or]
      have hmem := List.getElem_mem hlt
      have hspl : Y.take n ++ Y[n] :: Y.drop (n + 1) = Y := by rw [← List.drop_eq_getElem_cons hlt, List.take_append_drop]
      have hp : (Y.take n ++ Y[n] :: Y.drop (n + 1)).Pairwise (fun x y => x.t ≤ y.f) := by rw [hspl]; exact hord
      have hbef : ∀ z ∈ Y.take n, z.t ≤ (Y[n]).f := fun z hz => (List.pairwise_append.1 hp).2.2 z hz _ List.mem_cons_self
      have haft : ∀ z ∈ Y.drop (n + 1), (Y[n]).t ≤ z.f := fun z hz => (List.pairwise_cons.1 (List.pairwise_append.1 hp).2.1).1 z hz
      refine told_step hab h (hone _ hmem) (fun z hz => ?_) (hcov _ hmem) (fun d h1 h2 => ?_)
      · have hz' := List.mem_of_getLast? hz
        have hzY := List.mem_of_mem_take hz'
        exact ⟨hbef z hz', (hone z hzY).2.2.2, fun e => hun z hzY _ hmem e⟩
      · have ha : a ≤ ((Y.take n).foldl (stepS b) ([], a)).2 := h.segs.le.1
        refine hno d (by omega) (by have := hone _ hmem; omega) fun x hx hc => ?_
        rw [← List.take_append_drop n Y, List.drop_eq_getElem_cons hlt] at hx
        rcases List.mem_append.1 hx with hx | hx
        · have hat := h.at_
          cases hl : (Y.take n).getLast? with
          | none => rw [List.getLast?_eq_none_iff] at hl; rw [hl] at hx; cases hx
          | some y =>
            rw [hl] at hat
            obtain ⟨h4, _⟩ := hat
            have hyt : x.t ≤ y.t := by
              obtain ⟨K, hK⟩ := List.getLast?_eq_some_iff.1 hl
              rw [hK] at hx
              rcases List.mem_append.1 hx with hx | hx
              · have hp := hord
                rw [← List.take_append_drop n Y, hK] at hp
                have h5 := (List.pairwise_append.1 (List.pairwise_append.1 hp).1).2.2 x hx y (by simp)
                have := (hone y (List.mem_of_mem_take (List.mem_of_getLast? hl))).2.2.1
                omega
              · simp at hx; subst hx; omega
            have := hone _ hmem
            omega
        · rcases List.mem_cons.1 hx with rfl | hx
          · omega
          · have := haft x hx
            have := (hone _ hmem).2.2.1
            omega
  have h := main Y.length (Nat.le_refl _)
  rw [List.take_length] at h
  have ha : a ≤ (Y.foldl (stepS b) ([], a)).2 := h.segs.le.1
  have hat := h.at_
  refine told_end hab h (fun z hz => (hone z (List.mem_of_getLast? hz)).2.2.2) (fun d h1 h2 => ?_) ?_
  · refine hno d (by omega) h2 fun x hx hc => ?_
    cases hl : Y.getLast? with
    | none => rw [List.getLast?_eq_none_iff] at hl; rw [hl] at hx; cases hx
    | some y =>
      rw [hl] at hat
      obtain ⟨h4, _⟩ := hat
      have hyt : x.t ≤ y.t := by
        obtain ⟨K, hK⟩ := List.getLast?_eq_some_iff.1 hl
        rw [hK] at hx
        rcases List.mem_append.1 hx with hx | hx
        · have hp := hord
          rw [hK] at hp
          have h5 := (List.pairwise_append.1 hp).2.2 x hx y (by simp)
          have := (hone y (List.mem_of_getLast? hl)).2.2.1
          omega
        · simp at hx; subst hx; omega
      omega
  · cases hl : Y.getLast? with
    | none =>
      rw [hl] at hat
      dsimp only at hat
      rw [hat]
      dsimp only
      omega
    | some y =>
      rw [hl] at hat
      obtain ⟨h4, _⟩ := hat
      omega
end Go.Proofs.Ytngglpekdjhbdaa
namespace Go.Proofs.Ytngglpekdjhbdaa
set_option linter.unusedVariables false

theorem Row.snoc {x : Sg} : ∀ {L : List Sg} {s : Int}, Row s L → (L = [] → x.f = s) → (∀ r, L.getLast? = some r → r.t = x.f ∧ r.v ≠ x.v) → x.f < x.t → Row s (L ++ [x])
  | [], _, _, h1, _, hx => ⟨h1 rfl, hx, fun y hy => by simp at hy, trivial⟩
  | [y], s, h, _, h2, hx => by
    obtain ⟨k1, k2, k3, k4⟩ := h
    obtain ⟨e1, e2⟩ := h2 y rfl
    refine ⟨k1, k2, fun z hz => ?_, e1.symm, hx, fun z hz => by simp at hz, trivial⟩
    have : x = z := by simpa using hz
    subst this
    exact fun e => e2 e.symm
  | y :: z :: l, s, h, _, h2, hx => by
    obtain ⟨k1, k2, k3, k4⟩ := h
    exact ⟨k1, k2, fun q hq => k3 q hq, Row.snoc k4 (fun e => by simp at e) (fun r hr => h2 r (by rw [List.getLast?_cons_cons]; exact hr)) hx⟩
theorem SegsTo.row {g : Int → Int} {a z : Int} {L : List Sg} (h : SegsTo g a z L) : Row a L ∧ (L = [] → z = a) ∧ (∀ r, L.getLast? = some r → r.t = z) ∧ ∀ x, x ∈ L → x.t ≤ z ∧ ∀ d, x.f ≤ d → d < x.t → g d = x.v := by
  induction h with
  | nil => exact ⟨trivial, fun _ => rfl, fun r hr => by simp at hr, fun x hx => absurd hx List.not_mem_nil⟩
  | @snoc z L s h h1 h2 h3 h4 ih =>
    obtain ⟨k1, k2, k3, k4⟩ := ih
    refine ⟨k1.snoc (fun e => by rw [h1, k2 e]) (fun r hr => ⟨by rw [k3 r hr, h1], h4 r hr⟩) (by omega), fun e => by simp at e, fun r hr => ?_, fun x hx => ?_⟩
    · have : s = r := by simpa using hr
      rw [← this]
    · rcases List.mem_append.mp hx with hx | hx
      · obtain ⟨q1, q2⟩ := k4 x hx
        exact ⟨by omega, q2⟩
      · have : x = s := by simpa using hx
        subst this
        exact ⟨Int.le_refl _, fun d q1 q2 => h3 d (by omega) q2⟩
/-- a put over the segments that the open rectangles' timeline answers -/
theorem bput_segs {S : Bs} {last t v a b : Int} {L : List Sg} (h : S.Ok last) (ht : last ≤ t) (h0 : 1 ≤ t) (ha : 1 ≤ a) (hb : b ≤ 3652060) (hL : SegsTo S.g a b L) : SegsOk S L ∧ (S.run t v L).Ok t := by
  obtain ⟨k1, k2, k3, k4⟩ := hL.row
  have hb' : ∀ x, x ∈ L → x.t ≤ 3652060 := fun x hx => by have := (k4 x hx).1; omega
  have hg : ∀ x, x ∈ L → ∀ d, x.f ≤ d → d < x.t → S.g d = x.v := fun x hx => (k4 x hx).2
  exact ⟨row_segs h k1 ha hb' hg, bput_ok h ht h0 k1 ha hb' hg⟩

end Go.Proofs.Ytngglpekdjhbdaa
namespace Go.Proofs.Ytngglpekdjhbdaa
set_option linter.unusedVariables false

theorem lay_len (S : Bs) (r : Rc) : (S.lay r).rs.length = S.rs.length + 1 := by simp [Bs.lay]
theorem again_len (S : Bs) (r : Rc) (a b : Int) : S.rs.length ≤ (S.again r a b).rs.length ∧ (S.again r a b).rs.length ≤ S.rs.length + 1 := by
  unfold Bs.again
  split
  · rw [lay_len]; omega
  · omega
theorem split_len (S : Bs) (i : Nat) (r : Rc) (a b t : Int) : S.rs.length ≤ (S.split i r a b t).rs.length ∧ (S.split i r a b t).rs.length ≤ S.rs.length + 3 := by
  have h0 : (S.del i r).rs.length = S.rs.length := rfl
  have h1 := again_len (S.del i r) r r.f a
  have h2 := again_len ((S.del i r).again r r.f a) r b r.t
  unfold Bs.split
  split
  · rw [lay_len]; omega
  · omega
theorem step_len (S : Bs) (t v a b id : Int) : S.rs.length ≤ (S.step t v a b id).rs.length ∧ (S.step t v a b id).rs.length ≤ S.rs.length + 4 := by
  have hk : ∀ S1 : Bs, S.rs.length ≤ S1.rs.length ∧ S1.rs.length ≤ S.rs.length + 3 → S.rs.length ≤ (if v = 0 then S1 else S1.lay ⟨a, b, t, 0, v⟩).rs.length ∧ (if v = 0 then S1 else S1.lay ⟨a, b, t, 0, v⟩).rs.length ≤ S.rs.length + 4 := fun S1 h => by
    split
    · omega
    · rw [lay_len]; omega
  unfold Bs.step
  by_cases h1 : S.val id = v
  · rw [if_pos h1]; omega
  · rw [if_neg h1]
    refine hk _ ?_
    by_cases h2 : 0 < id
    · rw [if_pos h2]
      cases S.rs[(id - 1).toNat]? with
      | none => exact ⟨Nat.le_refl _, Nat.le_add_right _ _⟩
      | some r => exact split_len S _ r a b t
    · rw [if_neg h2]; omega
theorem run_len (t v : Int) : ∀ (L : List Sg) (S : Bs), S.rs.length ≤ (S.run t v L).rs.length ∧ (S.run t v L).rs.length ≤ S.rs.length + 4 * L.length
  | [], S => ⟨Nat.le_refl _, by show S.rs.length ≤ _; omega⟩
  | x :: L, S => by
    rw [run_cons]
    have h1 := step_len S t v x.f x.t x.v
    have h2 := run_len t v L (S.step t v x.f x.t x.v)
    rw [List.length_cons]
    omega

end Go.Proofs.Ytngglpekdjhbdaa
namespace Go.Proofs.Ytngglpekdjhbdaa
set_option linter.unusedVariables false

/-- the open ones' ends lie in a row of days -/
def EndsIn (S : Bs) (D : List Int) : Prop := ∀ i r, S.lv i → S.rs[i]? = some r → r.u = 0 → r.f ∈ D ∧ r.t ∈ D
theorem EndsIn.lay {S : Bs} {D : List Int} (h : EndsIn S D) {last : Int} (hb : ∀ i, S.lv i → i < S.rs.length) {r : Rc} (hr : r.u = 0 → r.f ∈ D ∧ r.t ∈ D) : EndsIn (S.lay r) D := by
  intro i x hi hx hu
  rcases get_push hx with e | ⟨e1, e2⟩
  · rcases hi with hi | hi
    · exact h i x hi e hu
    · have hlt := (List.getElem?_eq_some_iff.mp e).1
      omega
  · subst e2; exact hr hu
theorem EndsIn.del {S : Bs} {D : List Int} (h : EndsIn S D) (i : Nat) (r : Rc) : EndsIn (S.del i r) D := fun j x hj hx hu => h j x hj.1 hx hu
theorem lay_bnd {S : Bs} (h : ∀ i, S.lv i → i < S.rs.length) (r : Rc) : ∀ i, (S.lay r).lv i → i < (S.lay r).rs.length := fun i hi => by
  rw [lay_len]
  rcases hi with hi | hi
  · have := h i hi; omega
  · omega
theorem EndsIn.again {S : Bs} {D : List Int} (h : EndsIn S D) (hb : ∀ i, S.lv i → i < S.rs.length) {r : Rc} {a b : Int} (ha : a ∈ D) (hbd : b ∈ D) : EndsIn (S.again r a b) D ∧ ∀ i, (S.again r a b).lv i → i < (S.again r a b).rs.length := by
  unfold Bs.again
  split
  · exact ⟨EndsIn.lay (last := 0) h hb fun _ => ⟨ha, hbd⟩, lay_bnd hb _⟩
  · exact ⟨h, hb⟩
theorem EndsIn.split {S : Bs} {D : List Int} (h : EndsIn S D) (hb : ∀ i, S.lv i → i < S.rs.length) {i : Nat} {r : Rc} {a b t : Int} (ht : t ≠ 0) (hf : r.f ∈ D) (hto : r.t ∈ D) (ha : a ∈ D) (hbd : b ∈ D) :
    EndsIn (S.split i r a b t) D ∧ ∀ k, (S.split i r a b t).lv k → k < (S.split i r a b t).rs.length := by
  obtain ⟨k1, k2⟩ := EndsIn.again (r := r) (h.del i r) (fun j hj => hb j hj.1) hf ha
  obtain ⟨k3, k4⟩ := EndsIn.again (r := r) k1 k2 hbd hto
  unfold Bs.split
  by_cases hs : r.s < t
  · rw [if_pos hs]
    exact ⟨EndsIn.lay (last := 0) k3 k4 fun e => absurd e ht, lay_bnd k4 _⟩
  · rw [if_neg hs]
    exact ⟨k3, k4⟩
theorem EndsIn.step {S : Bs} {D : List Int} (h : EndsIn S D) (hb : ∀ i, S.lv i → i < S.rs.length) {t v a b id : Int} (ht : t ≠ 0) (ha : a ∈ D) (hbd : b ∈ D) (hs : SegId S a b id) :
    EndsIn (S.step t v a b id) D ∧ ∀ k, (S.step t v a b id).lv k → k < (S.step t v a b id).rs.length := by
  have hk : ∀ S1 : Bs, (EndsIn S1 D ∧ ∀ k, S1.lv k → k < S1.rs.length) → EndsIn (if v = 0 then S1 else S1.lay ⟨a, b, t, 0, v⟩) D ∧ ∀ k, (if v = 0 then S1 else S1.lay ⟨a, b, t, 0, v⟩).lv k → k < (if v = 0 then S1 else S1.lay ⟨a, b, t, 0, v⟩).rs.length := fun S1 h1 => by
    by_cases hv : v = 0
    · rw [if_pos hv]; exact h1
    · rw [if_neg hv]
      exact ⟨EndsIn.lay (last := 0) h1.1 h1.2 fun _ => ⟨ha, hbd⟩, lay_bnd h1.2 _⟩
  unfold Bs.step
  by_cases h1 : S.val id = v
  · rw [if_pos h1]; exact ⟨h, hb⟩
  · rw [if_neg h1]
    refine hk _ ?_
    rcases hs with ⟨e, _⟩ | ⟨e, r, r1, r2, r3, r4, r5⟩
    · rw [if_neg (by omega)]; exact ⟨h, hb⟩
    · rw [if_pos e, r2]
      obtain ⟨q1, q2⟩ := h _ r r1 r2 r3
      exact h.split hb ht q1 q2 ha hbd
/-- where the number changes lies an end -/
theorem EndsIn.brk {S : Bs} {last : Int} {D : List Int} (hD : EndsIn S D) (h : S.Ok last) {d : Int} (hne : S.g (d - 1) ≠ S.g d) : d ∈ D := by
  by_cases h0 : S.g d = 0
  · obtain ⟨i, r, q1, q2, q3, q4, q5, q6⟩ := h.back (d - 1) (by omega)
    have ht : r.t = d := by
      refine Decidable.byContradiction fun hx => ?_
      have := h.shows i r d q1 q2 q3 (by omega) (by omega)
      omega
    rw [← ht]
    exact (hD i r q1 q2 q3).2
  · obtain ⟨i, r, q1, q2, q3, q4, q5, q6⟩ := h.back d h0
    have ht : r.f = d := by
      refine Decidable.byContradiction fun hx => ?_
      have := h.shows i r (d - 1) q1 q2 q3 (by omega) (by omega)
      omega
    rw [← ht]
    exact (hD i r q1 q2 q3).1

end Go.Proofs.Ytngglpekdjhbdaa
namespace Go.Proofs.Ytngglpekdjhbdaa
set_option linter.unusedVariables false

theorem distinct_len : ∀ {l D : List Int}, l.Nodup → (∀ x, x ∈ l → x ∈ D) → l.length ≤ D.length
  | [], D, _, _ => Nat.zero_le _
  | x :: l, D, h, hs => by
    obtain ⟨h1, h2⟩ := List.nodup_cons.mp h
    have hx := hs x (List.mem_cons_self ..)
    have := distinct_len (D := D.erase x) h2 fun y hy => (List.mem_erase_of_ne (a := y) (b := x) (fun e => h1 (by rw [← e]; exact hy))).mpr (hs y (List.mem_cons_of_mem _ hy))
    rw [List.length_erase_of_mem hx] at this
    have hp := List.length_pos_of_mem hx
    rw [List.length_cons]
    omega
theorem row_nodup : ∀ {L : List Sg} {s : Int}, Row s L → (L.map Sg.f).Nodup
  | [], _, _ => List.nodup_nil
  | x :: l, s, h => by
    obtain ⟨h1, h2, h3, h4⟩ := h
    refine List.nodup_cons.mpr ⟨fun hm => ?_, row_nodup h4⟩
    obtain ⟨y, hy, e⟩ := List.mem_map.mp hm
    have := (h4.ge y hy).1
    omega
theorem segsTo_ends {S : Bs} {last a z : Int} {D : List Int} {L : List Sg} (hD : EndsIn S D) (hok : S.Ok last) (h : SegsTo S.g a z L) : ∀ x, x ∈ L → x.f ∈ a :: D ∧ (x.t ∈ a :: D ∨ x.t = z) := by
  induction h with
  | nil => exact fun x hx => absurd hx List.not_mem_nil
  | @snoc z L s h h1 h2 h3 h4 ih =>
    subst h1
    have hf : s.f ∈ a :: D := by
      rcases h.pre h4 with e | ⟨e1, e2⟩
      · rw [e]; exact List.mem_cons_self ..
      · refine List.mem_cons_of_mem _ (hD.brk hok ?_)
        rw [h3 s.f (Int.le_refl _) h2]; exact e2
    intro x hx
    rcases List.mem_append.mp hx with hx | hx
    · obtain ⟨k1, k2⟩ := ih x hx
      refine ⟨k1, .inl ?_⟩
      rcases k2 with k2 | k2
      · exact k2
      · rw [k2]; exact hf
    · have : x = s := by simpa using hx
      subst this
      exact ⟨hf, .inr rfl⟩
theorem segsTo_few {S : Bs} {last a z : Int} {D : List Int} {L : List Sg} (hD : EndsIn S D) (hok : S.Ok last) (h : SegsTo S.g a z L) : L.length ≤ D.length + 1 := by
  have hn := row_nodup h.row.1
  have := distinct_len (D := a :: D) hn fun f hf => by
    obtain ⟨x, hx, e⟩ := List.mem_map.mp hf
    rw [← e]
    exact (segsTo_ends hD hok h x hx).1
  rw [List.length_map, List.length_cons] at this
  exact this

end Go.Proofs.Ytngglpekdjhbdaa
