/- Spans, plain: the document's ends, pieces, sets. No program is named here. -/
import Derived.Test.YtefaihockgebeaaGreatSpB
namespace Go.Proofs.YtefaihockgebeaaGreat
set_option linter.unusedSimpArgs false
set_option linter.unusedVariables false

def held (n : Int) : Int := if n < 1 then 1 else if 3652060 < n then 3652060 else n
theorem held_range (n : Int) : 1 ≤ held n ∧ held n ≤ 3652060 := by unfold held; split <;> (try split) <;> omega
/-- an end at its place, once -/
def addS : List Int → Int → List Int
  | [], n => [n]
  | x :: l, n => if x < n then x :: addS l n else if x = n then x :: l else n :: x :: l
theorem mem_addS {l : List Int} {n z : Int} : z ∈ addS l n ↔ z = n ∨ z ∈ l := by
  induction l with
  | nil => simp [addS]
  | cons x l ih =>
    simp only [addS]
    split
    · simp only [List.mem_cons, ih]
      constructor
      · rintro (h | h | h) <;> simp [h]
      · rintro (h | h | h) <;> simp [h]
    · split
      · rename_i h; subst h; simp
      · simp
theorem asc_addS {l : List Int} {n : Int} (h : Asc l) : Asc (addS l n) := by
  induction l with
  | nil => simp [addS, Asc]
  | cons x l ih =>
    have hc := List.pairwise_cons.1 h
    simp only [addS]
    split
    · refine List.pairwise_cons.2 ⟨fun z hz => ?_, ih hc.2⟩
      rcases mem_addS.1 hz with rfl | hz
      · assumption
      · exact hc.1 z hz
    · split
      · exact h
      · refine List.pairwise_cons.2 ⟨fun z hz => ?_, h⟩
        rcases List.mem_cons.1 hz with rfl | hz
        · omega
        · have := hc.1 z hz; omega
theorem length_addS (l : List Int) (n : Int) : (addS l n).length ≤ l.length + 1 := by
  induction l with
  | nil => simp [addS]
  | cons x l ih =>
    simp only [addS]
    split
    · simp only [List.length_cons]; omega
    · split <;> simp
/-- how add goes: what is below is copied -/
theorem addS_walk (l : List Int) (n : Int) : ∀ (i : Nat), (∀ j (h : j < l.length), j < i → l[j] < n) → i ≤ l.length → (∀ h : i < l.length, ¬ l[i] < n) →
    addS l n = if h : i < l.length then if l[i] = n then l else l.take i ++ (n :: l.drop i) else l ++ [n] := by
  induction l with
  | nil =>
    intro i _ hi _
    simp [addS]
  | cons x l ih =>
    intro i h1 hi h2
    cases i with
    | zero =>
      have := h2 (by simp)
      simp only [List.getElem_cons_zero] at this
      simp only [addS, if_neg this, List.length_cons, Nat.zero_lt_succ, dite_true, List.getElem_cons_zero, List.take_zero, List.drop_zero, List.nil_append]
    | succ i =>
      have h0 := h1 0 (by simp) (by omega)
      simp only [List.getElem_cons_zero] at h0
      have := ih i (fun j hj hji => by have h := h1 (j + 1) (by simp only [List.length_cons]; omega) (by omega); rwa [List.getElem_cons_succ] at h) (by simpa using hi) (fun h => by have h := h2 (by simp only [List.length_cons]; omega); rwa [List.getElem_cons_succ] at h)
      simp only [addS, if_pos h0, this, List.length_cons, Nat.add_lt_add_iff_right, List.getElem_cons_succ, List.take_succ_cons, List.drop_succ_cons]
      split <;> (try split) <;> simp
def endsStep (E : List Int) (x : Sp) : List Int := addS (addS E (held x.1)) (held x.2)
def endsS (E : List Int) (l : List Sp) : List Int := l.foldl endsStep E
theorem endsS_snoc (E : List Int) (l : List Sp) (x : Sp) : endsS E (l ++ [x]) = endsStep (endsS E l) x := by simp [endsS]
theorem endsS_cons (E : List Int) (l : List Sp) (x : Sp) : endsS E (x :: l) = endsS (endsStep E x) l := rfl
theorem endsS_append (E : List Int) (l m : List Sp) : endsS E (l ++ m) = endsS (endsS E l) m := by simp [endsS]
theorem mem_endsS {l : List Sp} : ∀ {E : List Int} {z : Int}, z ∈ endsS E l ↔ z ∈ E ∨ ∃ x ∈ l, z = held x.1 ∨ z = held x.2 := by
  induction l with
  | nil => intro E z; simp [endsS]
  | cons x l ih =>
    intro E z
    rw [endsS_cons, ih]
    simp only [endsStep, mem_addS, List.mem_cons]
    constructor
    · rintro ((h | h | h) | ⟨y, hy, h⟩)
      · exact .inr ⟨x, .inl rfl, .inr h⟩
      · exact .inr ⟨x, .inl rfl, .inl h⟩
      · exact .inl h
      · exact .inr ⟨y, .inr hy, h⟩
    · rintro (h | ⟨y, rfl | hy, h | h⟩)
      · exact .inl (.inr (.inr h))
      · exact .inl (.inr (.inl h))
      · exact .inl (.inl h)
      · exact .inr ⟨y, hy, .inl h⟩
      · exact .inr ⟨y, hy, .inr h⟩
theorem asc_endsS {l : List Sp} : ∀ {E : List Int}, Asc E → Asc (endsS E l) := by
  induction l with
  | nil => intro E h; exact h
  | cons x l ih => intro E h; exact ih (asc_addS (asc_addS h))
theorem length_endsS (l : List Sp) : ∀ E : List Int, (endsS E l).length ≤ E.length + 2 * l.length := by
  induction l with
  | nil => intro E; simp [endsS]
  | cons x l ih =>
    intro E
    have h1 := ih (endsStep E x)
    have h2 := length_addS (addS E (held x.1)) (held x.2)
    have h3 := length_addS E (held x.1)
    rw [endsS_cons]
    simp only [endsStep, List.length_cons] at *
    omega
theorem range_endsS {l : List Sp} {E : List Int} (h : ∀ z ∈ E, 1 ≤ z ∧ z ≤ 3652060) : ∀ z ∈ endsS E l, 1 ≤ z ∧ z ≤ 3652060 := by
  intro z hz
  rcases mem_endsS.1 hz with hz | ⟨x, _, rfl | rfl⟩
  · exact h z hz
  · exact held_range _
  · exact held_range _
/-! ### pieces side by side are laid together -/
def mergeStep (out : List Sp) (x : Sp) : List Sp :=
  match out.getLast? with
  | some y => if y.2 = x.1 then out.dropLast ++ [(y.1, x.2)] else out ++ [x]
  | none => out ++ [x]
def mergeS (l : List Sp) : List Sp := l.foldl mergeStep []
theorem mergeS_snoc (l : List Sp) (x : Sp) : mergeS (l ++ [x]) = mergeStep (mergeS l) x := by simp [mergeS]
/-- pieces in order, none over another -/
def Steps : Int → List Sp → Prop
  | _, [] => True
  | a, x :: l => a ≤ x.1 ∧ x.1 < x.2 ∧ x.2 ≤ 3652060 ∧ Steps x.2 l
theorem Steps.mono {a b : Int} {l : List Sp} (h : Steps a l) (hb : b ≤ a) : Steps b l := by
  cases l with
  | nil => trivial
  | cons x l => exact ⟨by have := h.1; omega, h.2⟩
structure MergeInv (done out : List Sp) (e : Int) : Prop where
  right : Right 0 out
  days : ∀ d, In out d ↔ In done d
  last : endOf 0 out ≤ e
  pos : 1 ≤ e
theorem MergeInv.step {done out : List Sp} {e : Int} {x : Sp} (h : MergeInv done out e) (h1 : e ≤ x.1) (h2 : x.1 < x.2) (h3 : x.2 ≤ 3652060) : MergeInv (done ++ [x]) (mergeStep out x) x.2 := by
  unfold mergeStep
  have hlast := h.last
  have hpos := h.pos
  cases hg : out.getLast? with
  | none =>
    have h0 : out = [] := by simpa using hg
    subst h0
    refine ⟨⟨by omega, h2, h3, trivial⟩, fun d => ?_, by simp [endOf], by omega⟩
    rw [in_append, in_append, h.days]
  | some y =>
    obtain ⟨i, hi⟩ : ∃ i, out = i ++ [y] := by
      have hne : out ≠ [] := by intro e; subst e; cases hg
      have e := List.getLast?_eq_some_getLast hne
      rw [hg] at e
      exact ⟨out.dropLast, by rw [Option.some.inj e]; exact (List.dropLast_concat_getLast hne).symm⟩
    have hr := h.right
    have he : endOf 0 out = y.2 := by unfold endOf; rw [hg]
    simp only []
    split
    · rename_i hc
      rw [hi, right_snoc] at hr
      rw [hi, List.dropLast_concat]
      refine ⟨right_snoc.2 ⟨hr.1, hr.2.1, by dsimp only; omega, h3⟩, fun d => ?_, by simp [endOf], by omega⟩
      have hd := h.days d
      rw [hi, in_append, in_one] at hd
      rw [in_append, in_one, in_append, in_one, ← hd]
      dsimp only
      constructor
      · rintro (k | k)
        · exact .inl (.inl k)
        · by_cases hq : d < y.2
          · exact .inl (.inr ⟨k.1, hq⟩)
          · exact .inr ⟨by omega, k.2⟩
      · rintro ((k | k) | k)
        · exact .inl k
        · exact .inr ⟨k.1, by omega⟩
        · exact .inr ⟨by omega, k.2⟩
    · rename_i hc
      refine ⟨right_snoc.2 ⟨hr, by omega, h2, h3⟩, fun d => ?_, by simp [endOf], by omega⟩
      rw [in_append, in_append, h.days]
theorem MergeInv.more {done out : List Sp} {e e' : Int} (h : MergeInv done out e) (k : e ≤ e') : MergeInv done out e' := ⟨h.right, h.days, by have := h.last; omega, by have := h.pos; omega⟩
theorem merge_inv : ∀ (todo done out : List Sp) (e : Int), MergeInv done out e → Steps e todo → MergeInv (done ++ todo) (todo.foldl mergeStep out) (endOf e todo)
  | [], done, out, e, h, _ => by simpa [endOf] using h
  | x :: todo, done, out, e, h, hs => by
    have := merge_inv todo (done ++ [x]) _ _ (h.step hs.1 hs.2.1 hs.2.2.1) hs.2.2.2
    have he : endOf e (x :: todo) = endOf x.2 todo := by
      unfold endOf
      cases todo with
      | nil => rfl
      | cons z l => rw [List.getLast?_cons_cons]; cases h : (z :: l).getLast? with
        | none => simp at h
        | some q => rfl
    rw [he]
    simpa using this
theorem mergeS_inv {l : List Sp} (h : Steps 1 l) : Right 0 (mergeS l) ∧ ∀ d, In (mergeS l) d ↔ In l d := by
  have := merge_inv l [] [] 1 ⟨trivial, fun _ => Iff.rfl, by simp [endOf], Int.le_refl _⟩ h
  exact ⟨this.right, this.days⟩
theorem steps_pairs : ∀ {E : List Int} {a : Int}, Asc E → (∀ z ∈ E, a ≤ z ∧ z ≤ 3652060) → Steps a (pairs E)
  | [], _, _, _ => trivial
  | [_], _, _, _ => trivial
  | x :: y :: l, a, h, hr => by
    have hc := List.pairwise_cons.1 h
    have hc2 := List.pairwise_cons.1 hc.2
    have hx := hr x (by simp)
    have hy := hr y (by simp)
    refine ⟨hx.1, hc.1 y (by simp), hy.2, steps_pairs hc.2 fun z hz => ⟨?_, (hr z (by simp [hz])).2⟩⟩
    show y ≤ z
    rcases List.mem_cons.1 hz with rfl | hz
    · exact Int.le_refl _
    · have := hc2.1 z hz; omega
theorem Steps.filter {l : List Sp} {a : Int} (h : Steps a l) (p : Sp → Bool) : Steps a (l.filter p) := by
  induction l generalizing a with
  | nil => exact h
  | cons x l ih =>
    obtain ⟨h1, h2, h3, h4⟩ := h
    rw [List.filter_cons]
    split
    · exact ⟨h1, h2, h3, ih h4⟩
    · exact (ih h4).mono (by omega)
/-! ### the document's sets -/
def hasB (l : List Sp) (d : Int) : Bool := decide (1 ≤ d) && decide (d ≤ 3652059) && inB l d
theorem hasB_in {l : List Sp} {d : Int} (h1 : 1 ≤ d) (h2 : d < 3652060) : hasB l d = inB l d := by
  have : d ≤ 3652059 := by omega
  simp [hasB, h1, this]
theorem hasB_out {l : List Sp} {d : Int} (h : d < 1 ∨ 3652060 ≤ d) : hasB l d = false := by
  rcases h with h | h
  · have : ¬ 1 ≤ d := by omega
    simp [hasB, this]
  · have : ¬ d ≤ 3652059 := by omega
    simp [hasB, this]
def opK (kind : Int) (x y : Bool) : Bool := if kind = 0 then x || y else if kind = 1 then x && y else x && !y
theorem opK_none (kind : Int) : opK kind false false = false := by unfold opK; split <;> (try split) <;> rfl
def twoS (a b : List Sp) (kind : Int) : List Sp := mergeS ((pairs (endsS (endsS [] a) b)).filter fun x => opK kind (hasB a x.1) (hasB b x.1))
theorem twoS_is (a b : List Sp) (kind : Int) : IsBoth (opK kind) a b (twoS a b kind) := by
  have hE : Asc (endsS (endsS [] a) b) := asc_endsS (asc_endsS (by simp [Asc]))
  have hR : ∀ z ∈ endsS (endsS [] a) b, 1 ≤ z ∧ z ≤ 3652060 := range_endsS (range_endsS (by simp))
  have hm := mergeS_inv ((steps_pairs hE hR).filter fun x => opK kind (hasB a x.1) (hasB b x.1))
  have memA : ∀ x ∈ a, held x.1 ∈ endsS (endsS [] a) b ∧ held x.2 ∈ endsS (endsS [] a) b := fun x hx => ⟨mem_endsS.2 (.inl (mem_endsS.2 (.inr ⟨x, hx, .inl rfl⟩))), mem_endsS.2 (.inl (mem_endsS.2 (.inr ⟨x, hx, .inr rfl⟩)))⟩
  have memB : ∀ x ∈ b, held x.1 ∈ endsS (endsS [] a) b ∧ held x.2 ∈ endsS (endsS [] a) b := fun x hx => ⟨mem_endsS.2 (.inr ⟨x, hx, .inl rfl⟩), mem_endsS.2 (.inr ⟨x, hx, .inr rfl⟩)⟩
  have const : ∀ l : List Sp, (∀ x ∈ l, held x.1 ∈ endsS (endsS [] a) b ∧ held x.2 ∈ endsS (endsS [] a) b) → ∀ x ∈ pairs (endsS (endsS [] a) b), ∀ d, x.1 ≤ d → d < x.2 → hasB l d = hasB l x.1 := fun l hl x hx d h1 h2 => by
    have hp := pairs_lt hE hx
    have r1 := hR _ hp.2.1
    have r2 := hR _ hp.2.2
    rw [hasB_in (by omega) (by omega), hasB_in (by omega) (by omega), Bool.eq_iff_iff, inB_iff, inB_iff]
    constructor
    · rintro ⟨y, hy, c1, c2⟩
      refine ⟨y, hy, ?_, by omega⟩
      have := pairs_between hE hx _ (hl y hy).1
      unfold held at this
      split at this <;> (try split at this) <;> omega
    · rintro ⟨y, hy, c1, c2⟩
      refine ⟨y, hy, by omega, ?_⟩
      have := pairs_between hE hx _ (hl y hy).2
      unfold held at this
      split at this <;> (try split at this) <;> omega
  have cov : ∀ l : List Sp, (∀ x ∈ l, held x.1 ∈ endsS (endsS [] a) b ∧ held x.2 ∈ endsS (endsS [] a) b) → ∀ d, hasB l d = true → ∃ e0 ∈ endsS (endsS [] a) b, ∃ e1 ∈ endsS (endsS [] a) b, e0 ≤ d ∧ d < e1 := fun l hl d hd => by
    simp only [hasB, Bool.and_eq_true, decide_eq_true_eq] at hd
    obtain ⟨⟨d1, d2⟩, d3⟩ := hd
    obtain ⟨y, hy, c1, c2⟩ := inB_iff.1 d3
    refine ⟨_, (hl y hy).1, _, (hl y hy).2, ?_, ?_⟩ <;> (unfold held; split <;> (try split) <;> omega)
  refine ⟨hm.1, fun d => ?_⟩
  unfold twoS
  rw [hm.2, pieces (p := fun d => opK kind (hasB a d) (hasB b d)) hE (fun x hx d h1 h2 => by rw [const a memA x hx d h1 h2, const b memB x hx d h1 h2]) (fun d hd => by
    by_cases ha : hasB a d = true
    · exact cov a memA d ha
    · by_cases hb : hasB b d = true
      · exact cov b memB d hb
      · simp only [Bool.not_eq_true] at ha hb
        rw [ha, hb, opK_none] at hd
        cases hd) d]
  by_cases h1 : 1 ≤ d
  · by_cases h2 : d < 3652060
    · rw [hasB_in h1 h2, hasB_in h1 h2]; exact ⟨fun k => ⟨h1, h2, k⟩, fun k => k.2.2⟩
    · rw [hasB_out (.inr (by omega)), hasB_out (.inr (by omega)), opK_none]
      exact ⟨fun k => (by cases k), fun k => absurd k.2.1 h2⟩
  · rw [hasB_out (.inl (by omega)), hasB_out (.inl (by omega)), opK_none]
    exact ⟨fun k => (by cases k), fun k => absurd k.1 h1⟩
theorem twoS_of (l : List Sp) : IsOf l (twoS l [] 0) := by
  have h := twoS_is l [] 0
  refine ⟨h.1, fun d => ?_⟩
  rw [h.2]
  have : opK 0 (inB l d) (inB [] d) = inB l d := by simp [opK, inB]
  rw [this, inB_iff]
end Go.Proofs.YtefaihockgebeaaGreat
