/- Spans, plain: days, right spans, one for each set of days; what Of makes. No program is named here. -/
import Derived.Test.YtefaihockgebeaaGreatKit
namespace Go.Proofs.YtefaihockgebeaaGreat
set_option linter.unusedSimpArgs false
set_option linter.unusedVariables false

abbrev Sp := Int × Int
def In (l : List Sp) (d : Int) : Prop := ∃ x ∈ l, x.1 ≤ d ∧ d < x.2
/-- right spans behind a day -/
def Right : Int → List Sp → Prop
  | _, [] => True
  | a, x :: l => a < x.1 ∧ x.1 < x.2 ∧ x.2 ≤ 3652060 ∧ Right x.2 l
def endOf (a : Int) (l : List Sp) : Int := match l.getLast? with | some x => x.2 | none => a
theorem in_nil (d : Int) : ¬ In [] d := fun ⟨_, h, _⟩ => by cases h
theorem in_cons (x : Sp) (l : List Sp) (d : Int) : In (x :: l) d ↔ (x.1 ≤ d ∧ d < x.2) ∨ In l d := by simp [In]
theorem in_append (a b : List Sp) (d : Int) : In (a ++ b) d ↔ In a d ∨ In b d := by
  unfold In
  constructor
  · rintro ⟨x, h, k⟩
    rcases List.mem_append.1 h with h | h
    · exact .inl ⟨x, h, k⟩
    · exact .inr ⟨x, h, k⟩
  · rintro (⟨x, h, k⟩ | ⟨x, h, k⟩)
    · exact ⟨x, List.mem_append.2 (.inl h), k⟩
    · exact ⟨x, List.mem_append.2 (.inr h), k⟩
theorem in_one (x : Sp) (d : Int) : In [x] d ↔ x.1 ≤ d ∧ d < x.2 := by simp [In]
theorem in_perm {a b : List Sp} (h : a.Perm b) (d : Int) : In a d ↔ In b d := by
  unfold In
  constructor
  · rintro ⟨x, hx, k⟩; exact ⟨x, h.mem_iff.1 hx, k⟩
  · rintro ⟨x, hx, k⟩; exact ⟨x, h.mem_iff.2 hx, k⟩
theorem Right.ahead {a : Int} {l : List Sp} (h : Right a l) {d : Int} (hd : In l d) : a < d ∧ d < 3652060 := by
  induction l generalizing a with
  | nil => exact (in_nil d hd).elim
  | cons x l ih =>
    obtain ⟨h1, h2, h3, h4⟩ := h
    rcases (in_cons _ _ _).1 hd with hd | hd
    · omega
    · have := ih h4 hd; omega
theorem Right.mono {a b : Int} {l : List Sp} (h : Right a l) (hb : b ≤ a) : Right b l := by
  cases l with
  | nil => trivial
  | cons x l => exact ⟨by have := h.1; omega, h.2⟩
/-- For each set of days there is one row of right spans at most. -/
theorem right_one {a : Int} : ∀ {l m : List Sp} {b : Int}, Right a l → Right b m → (∀ d, In l d ↔ In m d) → l = m := by
  intro l
  induction l generalizing a with
  | nil =>
    intro m b _ hm h
    cases m with
    | nil => rfl
    | cons y m =>
      have : In (y :: m) y.1 := (in_cons _ _ _).2 (.inl ⟨Int.le_refl _, hm.2.1⟩)
      exact (in_nil _ ((h _).2 this)).elim
  | cons x l ih =>
    intro m b hl hm h
    cases m with
    | nil =>
      have : In (x :: l) x.1 := (in_cons _ _ _).2 (.inl ⟨Int.le_refl _, hl.2.1⟩)
      exact (in_nil _ ((h _).1 this)).elim
    | cons y m =>
      obtain ⟨x1, x2, x3, x4⟩ := hl
      obtain ⟨y1, y2, y3, y4⟩ := hm
      have hx : In (y :: m) x.1 := (h _).1 ((in_cons _ _ _).2 (.inl ⟨Int.le_refl _, x2⟩))
      have hy : In (x :: l) y.1 := (h _).2 ((in_cons _ _ _).2 (.inl ⟨Int.le_refl _, y2⟩))
      have e1 : x.1 = y.1 := by
        have a1 : y.1 ≤ x.1 := by
          rcases (in_cons _ _ _).1 hx with k | k
          · exact k.1
          · have := Right.ahead y4 k; omega
        have a2 : x.1 ≤ y.1 := by
          rcases (in_cons _ _ _).1 hy with k | k
          · exact k.1
          · have := Right.ahead x4 k; omega
        omega
      have e2 : x.2 = y.2 := by
        apply Classical.byContradiction
        intro hne
        rcases Int.lt_or_gt_of_ne hne with hlt | hlt
        · have h1 : In (y :: m) x.2 := (in_cons _ _ _).2 (.inl ⟨by omega, hlt⟩)
          rcases (in_cons _ _ _).1 ((h _).2 h1) with k | k
          · omega
          · have := Right.ahead x4 k; omega
        · have h1 : In (x :: l) y.2 := (in_cons _ _ _).2 (.inl ⟨by omega, hlt⟩)
          rcases (in_cons _ _ _).1 ((h _).1 h1) with k | k
          · omega
          · have := Right.ahead y4 k; omega
      have e : x = y := Prod.ext e1 e2
      subst e
      congr 1
      refine ih x4 y4 fun d => ?_
      have hd := h d
      rw [in_cons, in_cons] at hd
      constructor
      · intro k
        have := Right.ahead x4 k
        rcases hd.1 (.inr k) with q | q
        · omega
        · exact q
      · intro k
        have := Right.ahead y4 k
        rcases hd.2 (.inr k) with q | q
        · omega
        · exact q
theorem right_snoc {a : Int} {l : List Sp} {x : Sp} : Right a (l ++ [x]) ↔ Right a l ∧ endOf a l < x.1 ∧ x.1 < x.2 ∧ x.2 ≤ 3652060 := by
  induction l generalizing a with
  | nil => simp [Right, endOf]
  | cons y l ih =>
    simp only [List.cons_append, Right, ih]
    have : endOf a (y :: l) = endOf y.2 l := by
      unfold endOf
      cases l with
      | nil => rfl
      | cons z l => rw [List.getLast?_cons_cons]; cases h : (z :: l).getLast? with
        | none => simp at h
        | some q => rfl
    rw [this]
    constructor
    · rintro ⟨h1, h2, h3, h4, h5⟩; exact ⟨⟨h1, h2, h3, h4⟩, h5⟩
    · rintro ⟨⟨h1, h2, h3, h4⟩, h5⟩; exact ⟨h1, h2, h3, h4, h5⟩
/-- one span more, as Of lays it -/
def ofStep (out : List Sp) (x : Sp) : List Sp :=
  if min x.2 3652060 ≤ max x.1 1 then out
  else match out.getLast? with
    | some y => if max x.1 1 ≤ y.2 then out.dropLast ++ [(y.1, max y.2 (min x.2 3652060))] else out ++ [(max x.1 1, min x.2 3652060)]
    | none => out ++ [(max x.1 1, min x.2 3652060)]
def Up (l : List Sp) : Prop := l.Pairwise fun x y => x.1 ≤ y.1
structure OfInv (done : List Sp) (out : List Sp) : Prop where
  right : Right 0 out
  days : ∀ d, In out d ↔ 1 ≤ d ∧ d < 3652060 ∧ In done d
  low : ∀ y, out.getLast? = some y → y.1 ≤ 1 ∨ ∃ x ∈ done, y.1 ≤ x.1
theorem OfInv.nil : OfInv [] [] := ⟨trivial, fun d => ⟨fun h => (in_nil _ h).elim, fun h => (in_nil _ h.2.2).elim⟩, fun y h => by cases h⟩
theorem OfInv.step {done out : List Sp} {x : Sp} (h : OfInv done out) (hx : ∀ y ∈ done, y.1 ≤ x.1) : OfInv (done ++ [x]) (ofStep out x) := by
  unfold ofStep
  have hin : ∀ d, In (done ++ [x]) d ↔ In done d ∨ (x.1 ≤ d ∧ d < x.2) := fun d => by rw [in_append, in_one]
  split
  · rename_i he
    refine ⟨h.right, fun d => ?_, fun y hy => ?_⟩
    · rw [h.days, hin]
      constructor
      · rintro ⟨a, b, c⟩; exact ⟨a, b, .inl c⟩
      · rintro ⟨a, b, c | c⟩
        · exact ⟨a, b, c⟩
        · omega
    · rcases h.low y hy with k | ⟨z, hz, k⟩
      · exact .inl k
      · exact .inr ⟨z, by simp [hz], k⟩
  · rename_i he
    have hlow : ∀ y, out.getLast? = some y → y.1 ≤ max x.1 1 := fun y hy => by
      rcases h.low y hy with k | ⟨z, hz, k⟩
      · omega
      · have := hx z hz; omega
    cases hg : out.getLast? with
    | none =>
      have h0 : out = [] := by simpa using hg
      subst h0
      refine ⟨⟨by simp only [Right, List.nil_append]; omega, by omega, by omega, trivial⟩, fun d => ?_, fun y hy => ?_⟩
      · rw [List.nil_append, in_one, hin]
        have hd := h.days d
        have hn := in_nil d
        constructor
        · intro k; exact ⟨by omega, by omega, .inr ⟨by omega, by omega⟩⟩
        · rintro ⟨a, b, c | c⟩
          · exact (hn (hd.2 ⟨a, b, c⟩)).elim
          · dsimp only; omega
      · simp at hy
        subst hy
        by_cases hc : x.1 ≤ 1
        · left; show max x.1 1 ≤ 1; omega
        · right; exact ⟨x, by simp, by show max x.1 1 ≤ x.1; omega⟩
    | some y =>
      obtain ⟨i, hi⟩ : ∃ i, out = i ++ [y] := by
        have hne : out ≠ [] := by intro e; subst e; cases hg
        have e := List.getLast?_eq_some_getLast hne
        rw [hg] at e
        exact ⟨out.dropLast, by rw [Option.some.inj e]; exact (List.dropLast_concat_getLast hne).symm⟩
      have hr := h.right
      rw [hi, right_snoc] at hr
      have hl := hlow y hg
      simp only []
      split
      · rename_i hc
        rw [hi, List.dropLast_concat]
        refine ⟨right_snoc.2 ⟨hr.1, hr.2.1, by dsimp only; omega, by dsimp only; omega⟩, fun d => ?_, fun z hz => ?_⟩
        · have hd := h.days d
          rw [hi, in_append, in_one] at hd
          rw [in_append, in_one, hin]
          dsimp only
          constructor
          · rintro (k | k)
            · have := hd.1 (.inl k); exact ⟨this.1, this.2.1, .inl this.2.2⟩
            · by_cases hq : d < y.2
              · have := hd.1 (.inr ⟨k.1, hq⟩); exact ⟨this.1, this.2.1, .inl this.2.2⟩
              · exact ⟨by omega, by omega, .inr ⟨by omega, by omega⟩⟩
          · rintro ⟨a, b, c | c⟩
            · rcases hd.2 ⟨a, b, c⟩ with q | q
              · exact .inl q
              · exact .inr ⟨q.1, by omega⟩
            · exact .inr ⟨by omega, by omega⟩
        · simp at hz
          subst hz
          rcases h.low y hg with k | ⟨z, hz, k⟩
          · exact .inl k
          · exact .inr ⟨z, by simp [hz], k⟩
      · rename_i hc
        have he2 : endOf 0 out = y.2 := by unfold endOf; rw [hg]
        refine ⟨right_snoc.2 ⟨h.right, by rw [he2]; dsimp only; omega, by dsimp only; omega, by dsimp only; omega⟩, fun d => ?_, fun z hz => ?_⟩
        · have hd := h.days d
          rw [in_append, in_one, hin]
          dsimp only
          constructor
          · rintro (k | k)
            · have := hd.1 k; exact ⟨this.1, this.2.1, .inl this.2.2⟩
            · exact ⟨by omega, by omega, .inr ⟨by omega, by omega⟩⟩
          · rintro ⟨a, b, c | c⟩
            · exact .inl (hd.2 ⟨a, b, c⟩)
            · exact .inr ⟨by omega, by omega⟩
        · simp at hz
          subst hz
          by_cases hc : x.1 ≤ 1
          · left; show max x.1 1 ≤ 1; omega
          · right; exact ⟨x, by simp, by show max x.1 1 ≤ x.1; omega⟩
theorem of_inv : ∀ (todo done out : List Sp), OfInv done out → Up (done ++ todo) → OfInv (done ++ todo) (todo.foldl ofStep out)
  | [], done, out, h, _ => by simpa using h
  | x :: todo, done, out, h, hu => by
    have hx : ∀ y ∈ done, y.1 ≤ x.1 := fun y hy => (List.pairwise_append.1 hu).2.2 y hy x (by simp)
    have := of_inv todo (done ++ [x]) (ofStep out x) (h.step hx) (by simpa using hu)
    simpa using this
def ofS (l : List Sp) : List Sp := l.foldl ofStep []
theorem ofS_inv {l : List Sp} (h : Up l) : OfInv l (ofS l) := by simpa [ofS] using of_inv l [] [] .nil (by simpa using h)
theorem ofS_snoc (l : List Sp) (x : Sp) : ofS (l ++ [x]) = ofStep (ofS l) x := by simp [ofS]
/-- The days of a row, right: what Of gives. -/
def IsOf (l out : List Sp) : Prop := Right 0 out ∧ ∀ d, In out d ↔ 1 ≤ d ∧ d < 3652060 ∧ In l d
theorem IsOf.one {l m a b : List Sp} (h : IsOf l a) (k : IsOf m b) (e : ∀ d, 1 ≤ d → d < 3652060 → (In l d ↔ In m d)) : a = b :=
  right_one h.1 k.1 fun d => by
    rw [h.2, k.2]
    constructor
    · rintro ⟨h1, h2, h3⟩; exact ⟨h1, h2, (e d h1 h2).1 h3⟩
    · rintro ⟨h1, h2, h3⟩; exact ⟨h1, h2, (e d h1 h2).2 h3⟩
theorem isOf_sorted {l m : List Sp} (h : l.Perm m) (hu : Up m) : IsOf l (ofS m) := ⟨(ofS_inv hu).right, fun d => by rw [(ofS_inv hu).days, in_perm h]⟩
theorem isOf_self {l : List Sp} (h : Right 0 l) : IsOf l l := ⟨h, fun d => ⟨fun k => by have := Right.ahead h k; exact ⟨by omega, by omega, k⟩, fun k => k.2.2⟩⟩
theorem Right.len {a : Int} {l : List Sp} (h : Right a l) : (l.length : Int) + a ≤ 3652060 ∨ l = [] := by
  induction l generalizing a with
  | nil => exact .inr rfl
  | cons x l ih =>
    obtain ⟨h1, h2, h3, h4⟩ := h
    left
    rcases ih h4 with k | k
    · simp only [List.length_cons]; omega
    · subst k; simp only [List.length_cons, List.length_nil]; omega
end Go.Proofs.YtefaihockgebeaaGreat
