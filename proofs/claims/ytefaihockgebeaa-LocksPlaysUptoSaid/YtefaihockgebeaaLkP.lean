/- Locks: the plain law: the first day on which a rule fails, and the least of them. -/
import Derived.Test.YtefaihockgebeaaLkD
namespace Go.Proofs.Ytefaihockgebeaa

theorem segsOk_cons {p : Option Int} {x : Sg} {l : List Sg} : segsOk p (x :: l) = true ↔ x.f < x.t ∧ (∀ q, p = some q → q ≤ x.f) ∧ segsOk (some x.t) l = true := by
  rw [segsOk]
  cases p with
  | none => simp
  | some q => simp [and_assoc]
theorem segsOk_early : ∀ {l : List Sg} {q d : Int}, segsOk (some q) l = true → d < q → trueG l d = false ∧ firstG l d = d
  | [], _, _, _, _ => ⟨rfl, rfl⟩
  | x :: l, q, d, h, hd => by
    obtain ⟨h1, h2, h3⟩ := segsOk_cons.1 h
    have hq := h2 q rfl
    obtain ⟨i1, i2⟩ := segsOk_early h3 (show d < x.t by omega)
    exact ⟨by rw [trueG, if_neg (by omega), i1], by rw [firstG, if_pos (by omega)]⟩
theorem firstG_spec : ∀ {l : List Sg} {p : Option Int} {d : Int}, segsOk p l = true →
    d ≤ firstG l d ∧ (∀ e, d ≤ e → e < firstG l d → trueG l e = true) ∧ trueG l (firstG l d) = false
  | [], _, d, _ => ⟨Int.le_refl _, fun e h1 h2 => by rw [firstG] at h2; omega, rfl⟩
  | x :: l, p, d, h => by
    obtain ⟨h1, h2, h3⟩ := segsOk_cons.1 h
    rw [firstG]
    by_cases hf : d < x.f
    · rw [if_pos hf]
      exact ⟨Int.le_refl _, fun e a b => by omega, by rw [trueG, if_neg (by omega)]; exact (segsOk_early h3 (by omega)).1⟩
    · rw [if_neg hf]
      by_cases hk : d < x.t ∧ x.k = 2
      · rw [if_pos hk]
        obtain ⟨i1, i2, i3⟩ := firstG_spec (d := x.t) h3
        refine ⟨by omega, fun e a b => ?_, by rw [trueG, if_neg (by omega)]; exact i3⟩
        rw [trueG]
        by_cases he : e < x.t
        · rw [if_pos ⟨by omega, he⟩]; simpa using hk.2
        · rw [if_neg (by omega)]; exact i2 e (by omega) b
      · rw [if_neg hk]
        by_cases ht : d < x.t
        · obtain ⟨j1, j2⟩ := segsOk_early h3 ht
          rw [j2]
          exact ⟨Int.le_refl _, fun e a b => by omega, by rw [trueG, if_pos ⟨by omega, ht⟩]; simpa using fun h => hk ⟨ht, h⟩⟩
        · obtain ⟨i1, i2, i3⟩ := firstG_spec (d := d) h3
          exact ⟨i1, fun e a b => by rw [trueG, if_neg (by omega)]; exact i2 e a b, by rw [trueG, if_neg (by omega)]; exact i3⟩
theorem runsOk_all : ∀ {l : List Rn} {p : Option Int}, runsOk p l = true → ∀ r ∈ l, segsOk none r.segs = true
  | [], _, _, r, h => by cases h
  | x :: l, p, h, r, hr => by
    rw [runsOk] at h
    simp only [Bool.and_eq_true] at h
    cases hr with
    | head => exact h.1.2
    | tail _ hr => exact runsOk_all h.2 r hr
/-- the first of the least days -/
theorem takeO_fold : ∀ (l : List (Int × Int)) (x : Int × Int), (∀ y ∈ l, x.1 ≤ y.1) → l.foldl takeO (some x) = some x
  | [], _, _ => rfl
  | y :: l, x, h => by
    rw [List.foldl_cons, show takeO (some x) y = some x by
      have := h y (.head _)
      simp [takeO]; intro hh; omega]
    exact takeO_fold l x fun z hz => h z (.tail _ hz)
theorem leastL_split (a b : List (Int × Int)) (x : Int × Int) (ha : ∀ y ∈ a, x.1 < y.1) (hb : ∀ y ∈ b, x.1 ≤ y.1) : leastL (a ++ x :: b) = some x := by
  rw [leastL, List.foldl_append, List.foldl_cons]
  have h : takeO (a.foldl takeO none) x = some x := by
    have g : ∀ (l : List (Int × Int)) (o : Option (Int × Int)), (∀ z, o = some z → x.1 < z.1) → (∀ y ∈ l, x.1 < y.1) → ∀ z, l.foldl takeO o = some z → x.1 < z.1 := by
      intro l
      induction l with
      | nil => intro o ho _ z hz; exact ho z hz
      | cons y l ih =>
        intro o ho hl z hz
        refine ih (takeO o y) ?_ (fun w hw => hl w (.tail _ hw)) z hz
        intro w hw
        have hy := hl y (.head _)
        cases o with
        | none => simp [takeO] at hw; subst hw; exact hy
        | some q =>
          have hq := ho q rfl
          simp only [takeO] at hw
          split at hw <;> (simp at hw; subst hw; first | exact hy | exact hq)
    have := g a none (by simp) ha
    cases h : a.foldl takeO none with
    | none => simp [takeO]
    | some z => have := this z h; simp [takeO, this]
  rw [h]
  exact takeO_fold b x hb
theorem failsL_none {f t : Int} : ∀ {l : List Rn}, (∀ r ∈ l, t ≤ firstG r.segs f) → failsL f t l = []
  | [], _ => rfl
  | r :: l, h => by
    rw [failsL, if_neg (by have := h r (.head _); omega), failsL_none fun z hz => h z (.tail _ hz)]; rfl
theorem failsL_mem {f t : Int} : ∀ {l : List Rn} {y : Int × Int}, y ∈ failsL f t l → ∃ r ∈ l, firstG r.segs f < t ∧ y = (firstG r.segs f, r.rule)
  | [], y, h => by cases h
  | r :: l, y, h => by
    rw [failsL, List.mem_append] at h
    rcases h with h | h
    · split at h
      · simp at h; exact ⟨r, .head _, by assumption, h⟩
      · cases h
    · obtain ⟨z, h1, h2⟩ := failsL_mem h
      exact ⟨z, .tail _ h1, h2⟩
/-- no rule fails on any day -/
theorem least_none {f t : Int} {rs : List Rn} (hr : ∀ r ∈ rs, segsOk none r.segs = true) (h : ∀ d, f ≤ d → d < t → ∀ r ∈ rs, trueG r.segs d = true) : leastL (failsL f t rs) = none := by
  rw [failsL_none]; · rfl
  intro r hm
  obtain ⟨h1, h2, h3⟩ := firstG_spec (d := f) (hr r hm)
  refine Int.not_lt.1 fun hlt => ?_
  rw [h _ h1 hlt r hm] at h3; cases h3
/-- on a day a rule fails, on none ahead of it any, at it none ahead of it -/
theorem least_some {f t : Int} {rs : List Rn} (hr : ∀ r ∈ rs, segsOk none r.segs = true) {d : Int} (hf : f ≤ d) (ht : d < t) (h : ∀ e, f ≤ e → e < d → ∀ r ∈ rs, trueG r.segs e = true)
    {a b : List Rn} {r : Rn} (e : rs = a ++ r :: b) (ha : ∀ z ∈ a, trueG z.segs d = true) (hn : trueG r.segs d = false) : leastL (failsL f t rs) = some (d, r.rule) := by
  have ge : ∀ z ∈ rs, d ≤ firstG z.segs f := fun z hz => by
    obtain ⟨h1, h2, h3⟩ := firstG_spec (d := f) (hr z hz)
    refine Int.not_lt.1 fun hlt => ?_
    rw [h _ h1 hlt z hz] at h3; cases h3
  have hrm : r ∈ rs := by rw [e]; simp
  obtain ⟨h1, h2, h3⟩ := firstG_spec (d := f) (hr r hrm)
  have hd : firstG r.segs f = d := by
    have := ge r hrm
    rcases Int.lt_or_eq_of_le this with hlt | he
    · rw [h2 d hf hlt] at hn; cases hn
    · exact he.symm
  rw [e, failsL_append, failsL, hd, if_pos ht, List.singleton_append]
  refine leastL_split _ _ _ ?_ ?_
  · intro y hy
    obtain ⟨z, z1, z2, rfl⟩ := failsL_mem hy
    have hz : z ∈ rs := by rw [e]; simp [z1]
    obtain ⟨g1, g2, g3⟩ := firstG_spec (d := f) (hr z hz)
    show d < firstG z.segs f
    rcases Int.lt_or_eq_of_le (ge z hz) with hlt | he
    · exact hlt
    · rw [← he, ha z z1] at g3; cases g3
  · intro y hy
    obtain ⟨z, z1, z2, rfl⟩ := failsL_mem hy
    exact ge z (by rw [e]; simp [z1])
/-! ### the document's least -/
def failAt : List Rn → Int → Option Rn
  | [], _ => none
  | r :: rs, d => if trueG r.segs d then failAt rs d else some r
def leastR (rs : List Rn) : List Int → Option (Int × Int)
  | [] => none
  | d :: l => match failAt rs d with | some r => some (d, r.rule) | none => leastR rs l
theorem failAt_none : ∀ {rs : List Rn} {d : Int}, failAt rs d = none → ∀ r ∈ rs, trueG r.segs d = true
  | [], _, _, r, h => by cases h
  | x :: rs, d, h, r, hr => by
    rw [failAt] at h
    split at h
    · cases hr with
      | head => assumption
      | tail _ hr => exact failAt_none h r hr
    · cases h
theorem failAt_some : ∀ {rs : List Rn} {d : Int} {r : Rn}, failAt rs d = some r → ∃ a b, rs = a ++ r :: b ∧ (∀ z ∈ a, trueG z.segs d = true) ∧ trueG r.segs d = false
  | [], _, _, h => by cases h
  | x :: rs, d, r, h => by
    rw [failAt] at h
    split at h
    · obtain ⟨a, b, h1, h2, h3⟩ := failAt_some h
      exact ⟨x :: a, b, by rw [h1]; rfl, fun z hz => by
        cases hz with
        | head => assumption
        | tail _ hz => exact h2 z hz, h3⟩
    · cases h
      exact ⟨[], rs, rfl, fun z hz => (by cases hz), Bool.eq_false_iff.2 ‹¬ _›⟩
theorem firstG_end : ∀ (l : List Sg) (d : Int), firstG l d = d ∨ ∃ x ∈ l, firstG l d = x.t
  | [], d => .inl rfl
  | x :: l, d => by
    rw [firstG]
    split
    · exact .inl rfl
    · split
      · rcases firstG_end l x.t with h | ⟨y, hy, h⟩
        · exact .inr ⟨x, .head _, h⟩
        · exact .inr ⟨y, .tail _ hy, h⟩
      · rcases firstG_end l d with h | ⟨y, hy, h⟩
        · exact .inl h
        · exact .inr ⟨y, .tail _ hy, h⟩
/-- Days that rise, hold the first one and each at which a segment ends: the first of them on which a rule fails is the first of all. -/
theorem leastR_is {f t : Int} {rs : List Rn} (hr : ∀ r ∈ rs, segsOk none r.segs = true) (D : List Int) (hD : Asc D) (hin : ∀ d ∈ D, f ≤ d ∧ d < t) (h0 : f < t → f ∈ D) (h1 : ∀ r ∈ rs, ∀ x ∈ r.segs, f ≤ x.t → x.t < t → x.t ∈ D) :
    leastR rs D = leastL (failsL f t rs) := by
  have key : ∀ (done todo : List Int), D = done ++ todo → (∀ d ∈ done, ∀ r ∈ rs, trueG r.segs d = true) → leastR rs todo = leastL (failsL f t rs) := by
    intro done todo
    induction todo generalizing done with
    | nil =>
      intro e hd
      rw [leastR, failsL_none]; · rfl
      intro r hm
      obtain ⟨g1, g2, g3⟩ := firstG_spec (d := f) (hr r hm)
      refine Int.not_lt.1 fun hlt => ?_
      have hmem : firstG r.segs f ∈ D := by
        rcases firstG_end r.segs f with e2 | ⟨x, hx, e2⟩
        · rw [e2] at hlt ⊢; exact h0 hlt
        · rw [e2] at hlt g1 ⊢; exact h1 r hm x hx g1 hlt
      rw [e, List.append_nil] at hmem
      rw [hd _ hmem r hm] at g3; cases g3
    | cons d l ih =>
      intro e hd
      have hmd := hin d (by rw [e]; simp)
      have hprev : ∀ z, f ≤ z → z < d → ∀ r ∈ rs, trueG r.segs z = true := by
        intro z hz1 hz2 r hm
        obtain ⟨g1, g2, g3⟩ := firstG_spec (d := f) (hr r hm)
        refine g2 z hz1 (Int.not_le.1 fun hle => ?_)
        have hlt : firstG r.segs f < d := by omega
        have hmem : firstG r.segs f ∈ D := by
          rcases firstG_end r.segs f with e2 | ⟨x, hx, e2⟩
          · rw [e2]; exact h0 (by omega)
          · rw [e2] at g1 hlt ⊢; exact h1 r hm x hx g1 (by omega)
        rw [e, List.mem_append] at hmem
        rcases hmem with hmem | hmem
        · rw [hd _ hmem r hm] at g3; cases g3
        · rw [e] at hD
          have h2 := (List.pairwise_append.1 hD).2.1
          cases hmem with
          | head => omega
          | tail _ h4 => have := (List.pairwise_cons.1 h2).1 _ h4; omega
      rw [leastR]
      cases hfa : failAt rs d with
      | none =>
        exact ih (done ++ [d]) (by rw [e]; simp) (fun z hz r hm => by
          rw [List.mem_append] at hz
          rcases hz with hz | hz
          · exact hd z hz r hm
          · simp at hz; subst hz; exact failAt_none hfa r hm)
      | some r =>
        obtain ⟨a, b, e1, e2, e3⟩ := failAt_some hfa
        exact (least_some hr hmd.1 hmd.2 hprev e1 e2 e3).symm
  exact key [] D rfl (by simp)
end Go.Proofs.Ytefaihockgebeaa
