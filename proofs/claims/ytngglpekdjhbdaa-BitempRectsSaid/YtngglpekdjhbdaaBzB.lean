/- Layer 11 in plain: segments; what a put makes of them. No program is named here. -/
import Derived.Test.YtngglpekdjhbdaaKit
namespace Go.Proofs.Ytngglpekdjhbdaa
set_option linter.unusedSimpArgs false
set_option linter.unusedVariables false

/-- An item, and how two are ordered. -/
structure It where
  f : Int
  t : Int
  i : Int
deriving DecidableEq
def cmpI (a b : Int) : Int := if a < b then -1 else if b < a then 1 else 0
def ordI (a b : It) : Int := if cmpI a.f b.f ≠ 0 then cmpI a.f b.f else if cmpI a.t b.t ≠ 0 then cmpI a.t b.t else cmpI a.i b.i
theorem cmpI_lt {a b : Int} : cmpI a b < 0 ↔ a < b := by unfold cmpI; split <;> (try split) <;> omega
theorem cmpI_zero {a b : Int} : cmpI a b = 0 ↔ a = b := by unfold cmpI; split <;> (try split) <;> omega
theorem cmpI_pos {a b : Int} : 0 < cmpI a b ↔ b < a := by unfold cmpI; split <;> (try split) <;> omega
theorem ordI_zero {a b : It} : ordI a b = 0 ↔ a = b := by
  obtain ⟨a1, a2, a3⟩ := a
  obtain ⟨b1, b2, b3⟩ := b
  unfold ordI cmpI
  simp only [It.mk.injEq]
  repeat' split
  all_goals omega
theorem ordI_neg {a b : It} : ordI a b < 0 ↔ (a.f < b.f ∨ a.f = b.f ∧ (a.t < b.t ∨ a.t = b.t ∧ a.i < b.i)) := by
  unfold ordI cmpI
  repeat' split
  all_goals omega
theorem ordI_pos {a b : It} : 0 < ordI a b ↔ (b.f < a.f ∨ b.f = a.f ∧ (b.t < a.t ∨ b.t = a.t ∧ b.i < a.i)) := by
  unfold ordI cmpI
  repeat' split
  all_goals omega
theorem ordI_trans {a b c : It} (h1 : ordI a b < 0) (h2 : ordI b c < 0) : ordI a c < 0 := by
  rw [ordI_neg] at *
  omega
theorem ordI_flip {a b : It} : ordI a b < 0 ↔ 0 < ordI b a := by
  rw [ordI_neg, ordI_pos]

/-- A tree, with the place of each node. -/
inductive Tr where
  | nil
  | node (p : Nat) (l : Tr) (x : It) (r : Tr)
namespace Tr
def ht : Tr → Int
  | nil => 0
  | node _ l _ r => 1 + max l.ht r.ht
def top : Tr → Int
  | nil => 0
  | node _ l x r => max (max x.t (match l with | nil => x.t | node .. => l.top)) (match r with | nil => x.t | node .. => r.top)
def items : Tr → List It
  | nil => []
  | node _ l x r => l.items ++ x :: r.items
def places : Tr → List Nat
  | nil => []
  | node p l _ r => p :: (l.places ++ r.places)
def size : Tr → Nat
  | nil => 0
  | node _ l _ r => l.size + 1 + r.size
def avl : Tr → Prop
  | nil => True
  | node _ l _ r => l.avl ∧ r.avl ∧ l.ht - r.ht ≤ 1 ∧ r.ht - l.ht ≤ 1
def at_ : Tr → Int
  | nil => -1
  | node p _ _ _ => p
theorem ht_nonneg : ∀ T : Tr, 0 ≤ T.ht
  | nil => by simp [ht]
  | node _ l _ r => by
    have := ht_nonneg l
    unfold ht
    omega
theorem ht_zero {T : Tr} (h : T.ht ≤ 0) : T = nil := by
  cases T with
  | nil => rfl
  | node p l x r =>
    have := ht_nonneg l
    simp only [ht] at h
    omega
theorem items_len : ∀ T : Tr, T.items.length = T.size
  | nil => rfl
  | node _ l _ r => by
    simp [items, size, items_len l, items_len r]; omega
theorem places_len : ∀ T : Tr, T.places.length = T.size
  | nil => rfl
  | node _ l _ r => by
    simp [places, size, places_len l, places_len r]; omega
/-- A balanced tree is not high. -/
theorem size_ge : ∀ T : Tr, T.avl → ∀ k : Nat, 2 * (k : Int) ≤ T.ht → 2 ^ k ≤ T.size + 1
  | nil, _, k, h => by
    simp [ht] at h
    have : k = 0 := by omega
    subst this
    simp
  | node _ l _ r, hA, 0, h => by simp
  | node _ l _ r, ⟨hl, hr, h1, h2⟩, k + 1, h => by
    simp only [ht] at h
    have el := size_ge l hl k (by omega)
    have er := size_ge r hr k (by omega)
    simp only [size]
    rw [Nat.pow_succ]
    omega
theorem ht_le {T : Tr} (hA : T.avl) (k : Nat) (h : T.size + 1 < 2 ^ k) : T.ht < 2 * k := by
  by_cases h2 : 2 * (k : Int) ≤ T.ht
  · have := size_ge T hA k h2
    omega
  · omega

/-! ### turns -/
/-- a node above its right side's place, turned to the left -/
def rotL (p : Nat) (l : Tr) (x : It) : Tr → Tr
  | nil => node p l x nil
  | node q a y b => node q (node p l x a) y b
def rotR (p : Nat) : Tr → It → Tr → Tr
  | nil, x, r => node p nil x r
  | node q a y b, x, r => node q a y (node p b x r)
/-- A node, balanced. -/
def mend (p : Nat) (l : Tr) (x : It) (r : Tr) : Tr :=
  if r.ht - l.ht > 1 then
    match r with
    | nil => node p l x nil
    | node q a y b => if a.ht > b.ht then rotL p l x (rotR q a y b) else rotL p l x (node q a y b)
  else if l.ht - r.ht > 1 then
    match l with
    | nil => node p nil x r
    | node q a y b => if b.ht > a.ht then rotR p (rotL q a y b) x r else rotR p (node q a y b) x r
  else node p l x r
theorem items_rotL (p : Nat) (l : Tr) (x : It) (r : Tr) : (rotL p l x r).items = l.items ++ x :: r.items := by
  cases r <;> simp [rotL, items]
theorem items_rotR (p : Nat) (l : Tr) (x : It) (r : Tr) : (rotR p l x r).items = l.items ++ x :: r.items := by
  cases l <;> simp [rotR, items]
theorem items_mend (p : Nat) (l : Tr) (x : It) (r : Tr) : (mend p l x r).items = l.items ++ x :: r.items := by
  unfold mend
  split
  · cases r with
    | nil => simp [items]
    | node q a y b =>
      dsimp only
      split
      · rw [items_rotL, items_rotR]; simp [items]
      · rw [items_rotL]
  · split
    · cases l with
      | nil => simp [items]
      | node q a y b =>
        dsimp only
        split
        · rw [items_rotR, items_rotL]; simp [items]
        · rw [items_rotR]
    · simp [items]
theorem places_rotL (p : Nat) (l : Tr) (x : It) (r : Tr) : (rotL p l x r).places.Perm (p :: (l.places ++ r.places)) := by
  cases r with
  | nil => exact List.Perm.refl _
  | node q a y b =>
    simp only [rotL, places]
    rw [List.cons_append, List.append_assoc]
    refine (List.Perm.swap _ _ _).trans (List.Perm.cons _ ?_)
    exact (List.perm_middle (a := q) (l₁ := l.places) (l₂ := a.places ++ b.places)).symm
theorem places_rotR (p : Nat) (l : Tr) (x : It) (r : Tr) : (rotR p l x r).places.Perm (p :: (l.places ++ r.places)) := by
  cases l with
  | nil => exact List.Perm.refl _
  | node q a y b =>
    simp only [rotR, places]
    refine (List.Perm.cons q (List.perm_middle (a := p))).trans ?_
    refine (List.Perm.swap _ _ _).trans (List.Perm.cons _ ?_)
    simp
theorem places_mend (p : Nat) (l : Tr) (x : It) (r : Tr) : (mend p l x r).places.Perm (p :: (l.places ++ r.places)) := by
  unfold mend
  split
  · cases r with
    | nil => exact List.Perm.refl _
    | node q a y b =>
      dsimp only
      split
      · refine (places_rotL _ _ _ _).trans (List.Perm.cons _ (List.Perm.append_left _ ?_))
        exact places_rotR q a y b
      · exact places_rotL _ _ _ _
  · split
    · cases l with
      | nil => exact List.Perm.refl _
      | node q a y b =>
        dsimp only
        split
        · refine (places_rotR _ _ _ _).trans (List.Perm.cons _ (List.Perm.append_right _ ?_))
          exact places_rotL q a y b
        · exact places_rotR _ _ _ _
    · exact List.Perm.refl _
/-- Sides that differ by two at most make a balanced tree, no higher, and lower by one at most. -/
theorem mend_avl (p : Nat) (l : Tr) (x : It) (r : Tr) (hl : l.avl) (hr : r.avl) (h1 : l.ht - r.ht ≤ 2) (h2 : r.ht - l.ht ≤ 2) :
    (mend p l x r).avl ∧ (mend p l x r).ht ≤ 1 + max l.ht r.ht ∧ max l.ht r.ht ≤ (mend p l x r).ht ∧ ((l.ht - r.ht ≤ 1 ∧ r.ht - l.ht ≤ 1) → (mend p l x r).ht = 1 + max l.ht r.ht) := by
  unfold mend
  split
  · rename_i hgt
    cases r with
    | nil => have := ht_nonneg l; simp [ht] at hgt; omega
    | node q a y b =>
      obtain ⟨ha, hb, h3, h4⟩ := hr
      have := ht_nonneg l
      simp only [ht] at hgt h1 h2 ⊢
      split
      · rename_i hab
        cases a with
        | nil => have := ht_nonneg b; simp [ht] at hab; omega
        | node s c z d =>
          obtain ⟨hc, hd, h5, h6⟩ := ha
          simp only [ht] at hab h3 h4 hgt h1 h2 ⊢
          simp only [rotR, rotL, avl, ht]
          refine ⟨⟨⟨hl, hc, ?_, ?_⟩, ⟨hd, hb, ?_, ?_⟩, ?_, ?_⟩, ?_, ?_, ?_⟩ <;> omega
      · rename_i hab
        simp only [rotL, avl, ht]
        refine ⟨⟨⟨hl, ha, ?_, ?_⟩, hb, ?_, ?_⟩, ?_, ?_, ?_⟩ <;> omega
  · split
    · rename_i hle hgt
      cases l with
      | nil => have := ht_nonneg r; simp [ht] at hgt; omega
      | node q a y b =>
        obtain ⟨ha, hb, h3, h4⟩ := hl
        have := ht_nonneg r
        simp only [ht] at hle hgt h1 h2 ⊢
        split
        · rename_i hab
          cases b with
          | nil => have := ht_nonneg a; simp [ht] at hab; omega
          | node s c z d =>
            obtain ⟨hc, hd, h5, h6⟩ := hb
            simp only [ht] at hab h3 h4 hle hgt h1 h2 ⊢
            simp only [rotR, rotL, avl, ht]
            refine ⟨⟨⟨ha, hc, ?_, ?_⟩, ⟨hd, hr, ?_, ?_⟩, ?_, ?_⟩, ?_, ?_, ?_⟩ <;> omega
        · rename_i hab
          simp only [rotR, avl, ht]
          refine ⟨⟨ha, ⟨hb, hr, ?_, ?_⟩, ?_, ?_⟩, ?_, ?_, ?_⟩ <;> omega
    · exact ⟨⟨hl, hr, by omega, by omega⟩, Int.le_refl _, by simp only [ht]; omega, fun _ => rfl⟩

/-! ### insertion, deletion -/
def ins (q : Nat) (x : It) : Tr → Tr
  | nil => node q nil x nil
  | node p l y r => if ordI x y < 0 then mend p (ins q x l) y r else mend p l y (ins q x r)
/-- the least item of a tree that is not empty, its place, and the tree without it -/
def delMin : Nat → Tr → It → Tr → Nat × It × Tr
  | p, nil, x, r => (p, x, r)
  | p, node q a y b, x, r => let m := delMin q a y b; (m.1, m.2.1, mend p m.2.2 x r)
/-- a tree without an item, and the place that is free then -/
def del (x : It) : Tr → Option (Nat × Tr)
  | nil => none
  | node p l y r =>
    if ordI x y < 0 then (del x l).map fun m => (m.1, mend p m.2 y r)
    else if 0 < ordI x y then (del x r).map fun m => (m.1, mend p l y m.2)
    else match l, r with
      | nil, r => some (p, r)
      | l, nil => some (p, l)
      | l, node q a z b => let m := delMin q a z b; some (m.1, mend p l m.2.1 m.2.2)
end Tr
end Go.Proofs.Ytngglpekdjhbdaa
namespace Go.Proofs.Ytngglpekdjhbdaa
set_option linter.unusedSimpArgs false
set_option linter.unusedVariables false
namespace Tr
def Lt (a b : It) : Prop := ordI a b < 0
def srt (T : Tr) : Prop := T.items.Pairwise Lt
theorem ins_avl (q : Nat) (x : It) : ∀ T : Tr, T.avl → (ins q x T).avl ∧ T.ht ≤ (ins q x T).ht ∧ (ins q x T).ht ≤ T.ht + 1
  | nil, _ => by simp [ins, avl, ht]
  | node p l y r, ⟨hl, hr, h1, h2⟩ => by
    unfold ins
    split
    · obtain ⟨a1, a2, a3⟩ := ins_avl q x l hl
      obtain ⟨b1, b2, b3, b4⟩ := mend_avl p (ins q x l) y r a1 hr (by omega) (by omega)
      refine ⟨b1, ?_, ?_⟩
      · simp only [ht]
        by_cases hc : (ins q x l).ht - r.ht ≤ 1 ∧ r.ht - (ins q x l).ht ≤ 1
        · have := b4 hc; omega
        · omega
      · simp only [ht]; omega
    · obtain ⟨a1, a2, a3⟩ := ins_avl q x r hr
      obtain ⟨b1, b2, b3, b4⟩ := mend_avl p l y (ins q x r) hl a1 (by omega) (by omega)
      refine ⟨b1, ?_, ?_⟩
      · simp only [ht]
        by_cases hc : l.ht - (ins q x r).ht ≤ 1 ∧ (ins q x r).ht - l.ht ≤ 1
        · have := b4 hc; omega
        · omega
      · simp only [ht]; omega
theorem ins_places (q : Nat) (x : It) : ∀ T : Tr, (ins q x T).places.Perm (q :: T.places)
  | nil => by simp [ins, places]
  | node p l y r => by
    unfold ins
    split
    · refine (places_mend _ _ _ _).trans ?_
      refine (List.Perm.cons p ((ins_places q x l).append_right r.places)).trans ?_
      exact List.Perm.swap _ _ _
    · refine (places_mend _ _ _ _).trans ?_
      refine (List.Perm.cons p ((ins_places q x r).append_left l.places)).trans ?_
      refine (List.Perm.cons p List.perm_middle).trans ?_
      exact List.Perm.swap _ _ _
theorem srt_node {p : Nat} {l : Tr} {y : It} {r : Tr} (h : srt (node p l y r)) : srt l ∧ srt r ∧ (∀ a ∈ l.items, Lt a y) ∧ (∀ b ∈ r.items, Lt y b) := by
  unfold srt at h
  simp only [items] at h
  obtain ⟨h1, h2, h3⟩ := List.pairwise_append.1 h
  obtain ⟨h4, h5⟩ := List.pairwise_cons.1 h2
  exact ⟨h1, h5, fun a ha => h3 a ha y (by simp), h4⟩
theorem filter_all {l : List It} {P : It → Bool} (h : ∀ a ∈ l, P a = true) : l.filter P = l := List.filter_eq_self.2 h
theorem filter_none {l : List It} {P : It → Bool} (h : ∀ a ∈ l, P a = false) : l.filter P = [] := List.filter_eq_nil_iff.2 fun a ha => by simp [h a ha]
theorem ins_items (q : Nat) (x : It) : ∀ T : Tr, srt T → x ∉ T.items → (ins q x T).items = T.items.filter (fun y => decide (ordI y x < 0)) ++ x :: T.items.filter (fun y => decide (0 < ordI y x))
  | nil, _, _ => by simp [ins, items]
  | node p l y r, hS, hx => by
    obtain ⟨s1, s2, s3, s4⟩ := srt_node hS
    simp only [items, List.mem_append, List.mem_cons, not_or] at hx
    obtain ⟨x1, x2, x3⟩ := hx
    unfold ins
    simp only [items, List.filter_append, List.filter_cons]
    split
    · rename_i hc
      have hyx : 0 < ordI y x := ordI_flip.1 hc
      have e1 : r.items.filter (fun y => decide (ordI y x < 0)) = [] := filter_none fun b hb => by
        have := ordI_flip.1 (ordI_trans hc (s4 b hb))
        simp; omega
      have e2 : r.items.filter (fun y => decide (0 < ordI y x)) = r.items := filter_all fun b hb => by
        have := ordI_flip.1 (ordI_trans hc (s4 b hb))
        simpa using this
      rw [items_mend, ins_items q x l s1 x1, e1, e2, if_neg (by simp; omega), if_pos (by simpa using hyx)]
      simp
    · rename_i hc
      have hne : ordI x y ≠ 0 := fun h => x2 (ordI_zero.1 h)
      have hyx : ordI y x < 0 := ordI_flip.2 (by omega)
      have e1 : l.items.filter (fun y => decide (ordI y x < 0)) = l.items := filter_all fun b hb => by
        have := ordI_trans (s3 b hb) hyx
        simpa using this
      have e2 : l.items.filter (fun y => decide (0 < ordI y x)) = [] := filter_none fun b hb => by
        have := ordI_trans (s3 b hb) hyx
        simp; omega
      rw [items_mend, ins_items q x r s2 x3, e1, e2, if_pos (by simpa using hyx), if_neg (by simp; omega)]
      simp
theorem delMin_items : ∀ (l : Tr) (p : Nat) (x : It) (r : Tr), (delMin p l x r).2.1 :: (delMin p l x r).2.2.items = l.items ++ x :: r.items
  | nil, p, x, r => by simp [delMin, items]
  | node q a y b, p, x, r => by
    have := delMin_items a q y b
    simp only [delMin, items, items_mend] at this ⊢
    rw [← List.cons_append, this]
theorem delMin_places : ∀ (l : Tr) (p : Nat) (x : It) (r : Tr), ((delMin p l x r).1 :: (delMin p l x r).2.2.places).Perm (p :: (l.places ++ r.places))
  | nil, p, x, r => by simp [delMin, places]
  | node q a y b, p, x, r => by
    have := delMin_places a q y b
    simp only [delMin, places]
    refine (List.Perm.cons _ (places_mend _ _ _ _)).trans ?_
    refine (List.Perm.swap _ _ _).trans (List.Perm.cons p ?_)
    rw [← List.cons_append]
    exact this.append_right _
theorem delMin_avl : ∀ (l : Tr) (p : Nat) (x : It) (r : Tr), (node p l x r).avl → (delMin p l x r).2.2.avl ∧ (delMin p l x r).2.2.ht ≤ (node p l x r).ht ∧ (node p l x r).ht ≤ (delMin p l x r).2.2.ht + 1
  | nil, p, x, r, ⟨hl, hr, h1, h2⟩ => by
    have := ht_nonneg r
    simp only [delMin, ht] at *
    exact ⟨hr, by omega, by omega⟩
  | node q a y b, p, x, r, ⟨hl, hr, h1, h2⟩ => by
    obtain ⟨a1, a2, a3⟩ := delMin_avl a q y b hl
    simp only [delMin]
    obtain ⟨b1, b2, b3, b4⟩ := mend_avl p (delMin q a y b).2.2 x r a1 hr (by omega) (by omega)
    refine ⟨b1, ?_, ?_⟩
    · simp only [ht] at *; omega
    · by_cases hc : (delMin q a y b).2.2.ht - r.ht ≤ 1 ∧ r.ht - (delMin q a y b).2.2.ht ≤ 1
      · have := b4 hc; simp only [ht] at *; omega
      · simp only [ht] at *; omega
theorem del_none (x : It) : ∀ T : Tr, srt T → x ∉ T.items → del x T = none
  | nil, _, _ => rfl
  | node p l y r, hS, hx => by
    obtain ⟨s1, s2, s3, s4⟩ := srt_node hS
    simp only [items, List.mem_append, List.mem_cons, not_or] at hx
    obtain ⟨x1, x2, x3⟩ := hx
    have hne : ordI x y ≠ 0 := fun h => x2 (ordI_zero.1 h)
    unfold del
    split
    · rw [del_none x l s1 x1]; rfl
    · rw [if_pos (by omega), del_none x r s2 x3]; rfl
/-- what a deletion leaves -/
structure Deleted (x : It) (T : Tr) (q : Nat) (T' : Tr) : Prop where
  items : T'.items = T.items.filter (fun y => decide (ordI y x ≠ 0))
  places : (q :: T'.places).Perm T.places
  avl : T.avl → T'.avl ∧ T'.ht ≤ T.ht ∧ T.ht ≤ T'.ht + 1
theorem del_some (x : It) : ∀ T : Tr, srt T → x ∈ T.items → ∃ q T', del x T = some (q, T') ∧ Deleted x T q T'
  | nil, _, hx => by simp [items] at hx
  | node p l y r, hS, hx => by
    obtain ⟨s1, s2, s3, s4⟩ := srt_node hS
    unfold del
    by_cases hc : ordI x y < 0
    · rw [if_pos hc]
      have hyx : 0 < ordI y x := ordI_flip.1 hc
      have hxl : x ∈ l.items := by
        simp only [items, List.mem_append, List.mem_cons] at hx
        rcases hx with h | h | h
        · exact h
        · rw [h, ordI_zero.2 rfl] at hc; omega
        · have := ordI_flip.1 (s4 x h); omega
      obtain ⟨q, T', e, ⟨i1, i2, i3⟩⟩ := del_some x l s1 hxl
      rw [e]
      refine ⟨q, _, rfl, ?_, ?_, ?_⟩
      · have e2 : r.items.filter (fun y => decide (ordI y x ≠ 0)) = r.items := filter_all fun b hb => by
          have := ordI_flip.1 (ordI_trans hc (s4 b hb))
          simp; omega
        rw [items_mend, i1]
        simp only [items, List.filter_append, List.filter_cons]
        rw [if_pos (by simp; omega), e2]
      · refine (List.Perm.cons q (places_mend _ _ _ _)).trans ?_
        refine (List.Perm.swap _ _ _).trans (List.Perm.cons p ?_)
        exact i2.append_right r.places
      · intro ⟨hl, hr, h1, h2⟩
        obtain ⟨a1, a2, a3⟩ := i3 hl
        obtain ⟨b1, b2, b3, b4⟩ := mend_avl p T' y r a1 hr (by omega) (by omega)
        refine ⟨b1, ?_, ?_⟩
        · simp only [ht] at *; omega
        · by_cases hq : T'.ht - r.ht ≤ 1 ∧ r.ht - T'.ht ≤ 1
          · have := b4 hq; simp only [ht] at *; omega
          · simp only [ht] at *; omega
    · rw [if_neg hc]
      by_cases hd : 0 < ordI x y
      · rw [if_pos hd]
        have hyx : ordI y x < 0 := ordI_flip.2 hd
        have hxr : x ∈ r.items := by
          simp only [items, List.mem_append, List.mem_cons] at hx
          rcases hx with h | h | h
          · have := s3 x h; unfold Lt at this; omega
          · rw [h, ordI_zero.2 rfl] at hd; omega
          · exact h
        obtain ⟨q, T', e, ⟨i1, i2, i3⟩⟩ := del_some x r s2 hxr
        rw [e]
        refine ⟨q, _, rfl, ?_, ?_, ?_⟩
        · have e2 : l.items.filter (fun y => decide (ordI y x ≠ 0)) = l.items := filter_all fun b hb => by
            have := ordI_trans (s3 b hb) hyx
            simp; omega
          rw [items_mend, i1]
          simp only [items, List.filter_append, List.filter_cons]
          rw [if_pos (by simp; omega), e2]
        · refine (List.Perm.cons q (places_mend _ _ _ _)).trans ?_
          refine (List.Perm.swap _ _ _).trans (List.Perm.cons p ?_)
          exact List.perm_middle.symm.trans (i2.append_left l.places)
        · intro ⟨hl, hr, h1, h2⟩
          obtain ⟨a1, a2, a3⟩ := i3 hr
          obtain ⟨b1, b2, b3, b4⟩ := mend_avl p l y T' hl a1 (by omega) (by omega)
          refine ⟨b1, ?_, ?_⟩
          · simp only [ht] at *; omega
          · by_cases hq : l.ht - T'.ht ≤ 1 ∧ T'.ht - l.ht ≤ 1
            · have := b4 hq; simp only [ht] at *; omega
            · simp only [ht] at *; omega
      · rw [if_neg hd]
        have hxy : x = y := ordI_zero.1 (by omega)
        subst hxy
        have e1 : l.items.filter (fun y => decide (ordI y x ≠ 0)) = l.items := filter_all fun b hb => by
          have := s3 b hb
          unfold Lt at this
          simp; omega
        have e2 : r.items.filter (fun y => decide (ordI y x ≠ 0)) = r.items := filter_all fun b hb => by
          have := ordI_flip.1 (s4 b hb)
          simp; omega
        have ei : (node p l x r).items.filter (fun y => decide (ordI y x ≠ 0)) = l.items ++ r.items := by
          simp only [items, List.filter_append, List.filter_cons]
          rw [if_neg (by simp [ordI_zero]), e1, e2]
        match l, r, s1, s2, s3, s4, ei with
        | nil, r, _, _, _, _, ei =>
          refine ⟨p, r, rfl, by rw [ei]; simp [items], by simp [places], fun ⟨hl, hr, h1, h2⟩ => ?_⟩
          have := ht_nonneg r
          simp only [ht] at *
          exact ⟨hr, by omega, by omega⟩
        | node p1 l1 y1 r1, nil, _, _, _, _, ei =>
          refine ⟨p, node p1 l1 y1 r1, rfl, by rw [ei]; simp [items], by simp [places], fun ⟨hl, hr, h1, h2⟩ => ?_⟩
          have := ht_nonneg (node p1 l1 y1 r1)
          simp only [ht] at *
          exact ⟨hl, by omega, by omega⟩
        | node p1 l1 y1 r1, node q a z b, _, _, _, _, ei =>
          have hm := delMin_items a q z b
          have hp := delMin_places a q z b
          refine ⟨_, _, rfl, ?_, ?_, fun ⟨hl, hr, h1, h2⟩ => ?_⟩
          · rw [ei, items_mend, hm]
            simp [items]
          · refine (List.Perm.cons _ (places_mend _ _ _ _)).trans ?_
            refine (List.Perm.swap _ _ _).trans (List.Perm.cons p ?_)
            refine List.perm_middle.symm.trans ?_
            exact hp.append_left _
          · obtain ⟨a1, a2, a3⟩ := delMin_avl a q z b hr
            obtain ⟨b1, b2, b3, b4⟩ := mend_avl p (node p1 l1 y1 r1) (delMin q a z b).2.1 (delMin q a z b).2.2 hl a1 (by omega) (by omega)
            have hx1 : (node p (node p1 l1 y1 r1) x (node q a z b)).ht = 1 + max (node p1 l1 y1 r1).ht (node q a z b).ht := rfl
            refine ⟨b1, by omega, ?_⟩
            by_cases hq : (node p1 l1 y1 r1).ht - (delMin q a z b).2.2.ht ≤ 1 ∧ (delMin q a z b).2.2.ht - (node p1 l1 y1 r1).ht ≤ 1
            · have := b4 hq; omega
            · omega
end Tr
end Go.Proofs.Ytngglpekdjhbdaa
namespace Go.Proofs.Ytngglpekdjhbdaa
set_option linter.unusedSimpArgs false
set_option linter.unusedVariables false

structure Nd where
  x : It
  l : Int
  r : Int
  h : Int
  t : Int
  u : Bool
def Nd.zero : Nd := ⟨⟨0, 0, 0⟩, 0, 0, 0, 0, false⟩
def nodeN (ns : List Nd) (p : Nat) : Nd := ns.getD p Nd.zero
def htN (ns : List Nd) (i : Int) : Int := if i < 0 then 0 else (nodeN ns i.toNat).h
def sideN (ns : List Nd) (p : Nat) (right : Bool) : Int := if right = true then (nodeN ns p).r else (nodeN ns p).l
def hangN (ns : List Nd) (p : Nat) (right : Bool) (below : Int) : List Nd := ns.set p (if right = true then { nodeN ns p with r := below } else { nodeN ns p with l := below })
def topN (ns : List Nd) (s a : Int) : Int := if 0 ≤ s then max a (nodeN ns s.toNat).t else a
def sumN (ns : List Nd) (p : Nat) : List Nd :=
  ns.set p { nodeN ns p with h := 1 + max (htN ns (nodeN ns p).l) (htN ns (nodeN ns p).r), t := topN ns (nodeN ns p).r (topN ns (nodeN ns p).l (nodeN ns p).x.t) }
def turnN (ns : List Nd) (p : Nat) (right : Bool) : List Nd × Int :=
  (sumN (sumN (hangN (hangN ns p right (sideN ns (sideN ns p right).toNat (!right))) (sideN ns p right).toNat (!right) p) p) (sideN ns p right).toNat, sideN ns p right)
def leanN (ns : List Nd) (p : Nat) : Int := htN ns (sideN ns p true) - htN ns (sideN ns p false)
def mendedN (ns : List Nd) (p : Nat) : List Nd × Int :=
  let n1 := sumN ns p
  let lean := leanN n1 p
  if -1 ≤ lean ∧ lean ≤ 1 then (n1, p)
  else
    let rt := decide (0 < lean)
    let s := (sideN n1 p rt).toNat
    if htN n1 (sideN n1 s rt) < htN n1 (sideN n1 s (!rt)) then turnN (hangN (turnN n1 s (!rt)).1 p rt (turnN n1 s (!rt)).2) p rt else turnN n1 p rt
theorem nodeN_some {ns : List Nd} {p : Nat} {n : Nd} (h : ns[p]? = some n) : nodeN ns p = n := by simp [nodeN, List.getD, h]
theorem set_self {ns : List Nd} {p : Nat} {n m : Nd} (h : ns[p]? = some n) : (ns.set p m)[p]? = some m := by
  have := (List.getElem?_eq_some_iff.1 h).1
  simp [this]
theorem set_other {ns : List Nd} {p i : Nat} {m : Nd} (h : i ≠ p) : (ns.set p m)[i]? = ns[i]? := by
  rw [List.getElem?_set_ne (Ne.symm h)]
namespace Tr
def nd (l : Tr) (x : It) (r : Tr) : Nd := ⟨x, l.at_, r.at_, (node 0 l x r).ht, (node 0 l x r).top, true⟩
def rep (ns : List Nd) : Tr → Prop
  | nil => True
  | node p l x r => ns[p]? = some (nd l x r) ∧ rep ns l ∧ rep ns r
theorem rep_congr {ns ns' : List Nd} : ∀ {T : Tr}, (∀ p ∈ T.places, ns'[p]? = ns[p]?) → rep ns T → rep ns' T
  | nil, _, _ => trivial
  | node p l x r, h, ⟨h1, h2, h3⟩ => ⟨by rw [h p (by simp [places])]; exact h1, rep_congr (fun q hq => h q (by simp [places, hq])) h2, rep_congr (fun q hq => h q (by simp [places, hq])) h3⟩
theorem rep_set {ns : List Nd} {T : Tr} (h : rep ns T) {p : Nat} (hp : p ∉ T.places) (n : Nd) : rep (ns.set p n) T :=
  rep_congr (fun q hq => set_other (fun e => hp (e ▸ hq))) h
theorem htN_rep {ns : List Nd} {T : Tr} (h : rep ns T) : htN ns T.at_ = T.ht := by
  cases T with
  | nil => rfl
  | node p l x r =>
    show htN ns (p : Int) = _
    unfold htN
    rw [if_neg (by omega), show ((p : Int).toNat) = p by omega, nodeN_some h.1]
    rfl
def topOr (T : Tr) (a : Int) : Int := match T with | nil => a | node .. => T.top
theorem top_node (l : Tr) (x : It) (r : Tr) : (node 0 l x r).top = max (max x.t (topOr l x.t)) (topOr r x.t) := rfl
theorem topN_rep {ns : List Nd} {T : Tr} (h : rep ns T) (a : Int) : topN ns T.at_ a = max a (topOr T a) := by
  cases T with
  | nil => simp [topN, at_, topOr]
  | node p l x r =>
    show topN ns (p : Int) a = _
    unfold topN
    rw [if_pos (by omega), show ((p : Int).toNat) = p by omega, nodeN_some h.1]
    rfl
theorem sumN_eq {ns : List Nd} {p : Nat} {l r : Tr} {x : It} {h t : Int} (hp : ns[p]? = some ⟨x, l.at_, r.at_, h, t, true⟩) (hl : rep ns l) (hr : rep ns r) : sumN ns p = ns.set p (nd l x r) := by
  unfold sumN
  rw [nodeN_some hp]
  dsimp only
  rw [htN_rep hl, htN_rep hr, topN_rep hl, topN_rep hr]
  congr 1
  unfold nd
  congr 1
  rw [top_node]
  have h1 : ∀ A, x.t ≤ A → max A (topOr r A) = max A (topOr r x.t) := fun A hA => by
    cases r with
    | nil => simp only [topOr]; omega
    | node => rfl
  exact h1 _ (by omega)
/-- what an operation on a part leaves -/
structure Part (ns : List Nd) (ps : List Nat) (T : Tr) (ns' : List Nd) (at_ : Int) : Prop where
  rep : T.rep ns'
  root : at_ = T.at_
  len : ns'.length = ns.length
  other : ∀ i, i ∉ ps → ns'[i]? = ns[i]?
theorem turnL {ns : List Nd} {p q : Nat} {l a b : Tr} {x y : It} {h t h' t' : Int} (hp : ns[p]? = some ⟨x, l.at_, (q : Int), h, t, true⟩) (hq : ns[q]? = some ⟨y, a.at_, b.at_, h', t', true⟩) (hl : rep ns l) (ha : rep ns a) (hb : rep ns b)
    (hne : p ≠ q) (pl : p ∉ l.places) (pa : p ∉ a.places) (pb : p ∉ b.places) (ql : q ∉ l.places) (qa : q ∉ a.places) (qb : q ∉ b.places) : Part ns [p, q] (node q (node p l x a) y b) (turnN ns p true).1 (turnN ns p true).2 := by
  have e1 : sideN ns p true = (q : Int) := by simp [sideN, nodeN_some hp]
  have e2 : sideN ns q false = a.at_ := by simp [sideN, nodeN_some hq]
  have e3 : hangN ns p true a.at_ = ns.set p ⟨x, l.at_, a.at_, h, t, true⟩ := by simp [hangN, nodeN_some hp]
  have hq1 : (ns.set p ⟨x, l.at_, a.at_, h, t, true⟩)[q]? = some ⟨y, a.at_, b.at_, h', t', true⟩ := by rw [set_other (Ne.symm hne)]; exact hq
  have e4 : hangN (ns.set p ⟨x, l.at_, a.at_, h, t, true⟩) q false p = (ns.set p ⟨x, l.at_, a.at_, h, t, true⟩).set q ⟨y, p, b.at_, h', t', true⟩ := by simp [hangN, nodeN_some hq1]
  have hp2 : ((ns.set p ⟨x, l.at_, a.at_, h, t, true⟩).set q ⟨y, p, b.at_, h', t', true⟩)[p]? = some ⟨x, l.at_, a.at_, h, t, true⟩ := by rw [set_other hne, set_self hp]
  have e5 := sumN_eq hp2 (rep_set (rep_set hl pl _) ql _) (rep_set (rep_set ha pa _) qa _)
  generalize hN : ((ns.set p ⟨x, l.at_, a.at_, h, t, true⟩).set q ⟨y, p, b.at_, h', t', true⟩) = N at *
  have hqN : N[q]? = some ⟨y, p, b.at_, h', t', true⟩ := by rw [← hN, set_self hq1]
  have hq3 : (N.set p (nd l x a))[q]? = some ⟨y, p, b.at_, h', t', true⟩ := by rw [set_other (Ne.symm hne)]; exact hqN
  have hlN : rep N l := by rw [← hN]; exact rep_set (rep_set hl pl _) ql _
  have haN : rep N a := by rw [← hN]; exact rep_set (rep_set ha pa _) qa _
  have hbN : rep N b := by rw [← hN]; exact rep_set (rep_set hb pb _) qb _
  have hP : rep (N.set p (nd l x a)) (node p l x a) := ⟨set_self hp2, rep_set hlN pl _, rep_set haN pa _⟩
  have e6 := sumN_eq (l := node p l x a) (r := b) (x := y) hq3 hP (rep_set hbN pb _)
  have eT : turnN ns p true = ((N.set p (nd l x a)).set q (nd (node p l x a) y b), (q : Int)) := by
    unfold turnN
    rw [e1, show ((q : Int).toNat) = q by omega, Bool.not_true, e2, e3, e4, e5, e6]
  rw [eT]
  refine ⟨⟨set_self hq3, ?_, rep_set (rep_set hbN pb _) qb _⟩, rfl, by simp [← hN], fun i hi => ?_⟩
  · refine ⟨by rw [set_other hne]; exact set_self hp2, rep_set (rep_set hlN pl _) ql _, rep_set (rep_set haN pa _) qa _⟩
  · simp only [List.mem_cons, List.not_mem_nil, or_false, not_or] at hi
    rw [set_other hi.2, set_other hi.1, ← hN, set_other hi.2, set_other hi.1]
theorem turnR {ns : List Nd} {p q : Nat} {a b r : Tr} {x y : It} {h t h' t' : Int} (hp : ns[p]? = some ⟨x, (q : Int), r.at_, h, t, true⟩) (hq : ns[q]? = some ⟨y, a.at_, b.at_, h', t', true⟩) (hr : rep ns r) (ha : rep ns a) (hb : rep ns b)
    (hne : p ≠ q) (pr : p ∉ r.places) (pa : p ∉ a.places) (pb : p ∉ b.places) (qr : q ∉ r.places) (qa : q ∉ a.places) (qb : q ∉ b.places) : Part ns [p, q] (node q a y (node p b x r)) (turnN ns p false).1 (turnN ns p false).2 := by
  have e1 : sideN ns p false = (q : Int) := by simp [sideN, nodeN_some hp]
  have e2 : sideN ns q true = b.at_ := by simp [sideN, nodeN_some hq]
  have e3 : hangN ns p false b.at_ = ns.set p ⟨x, b.at_, r.at_, h, t, true⟩ := by simp [hangN, nodeN_some hp]
  have hq1 : (ns.set p ⟨x, b.at_, r.at_, h, t, true⟩)[q]? = some ⟨y, a.at_, b.at_, h', t', true⟩ := by rw [set_other (Ne.symm hne)]; exact hq
  have e4 : hangN (ns.set p ⟨x, b.at_, r.at_, h, t, true⟩) q true p = (ns.set p ⟨x, b.at_, r.at_, h, t, true⟩).set q ⟨y, a.at_, p, h', t', true⟩ := by simp [hangN, nodeN_some hq1]
  have hp2 : ((ns.set p ⟨x, b.at_, r.at_, h, t, true⟩).set q ⟨y, a.at_, p, h', t', true⟩)[p]? = some ⟨x, b.at_, r.at_, h, t, true⟩ := by rw [set_other hne, set_self hp]
  have e5 := sumN_eq hp2 (rep_set (rep_set hb pb _) qb _) (rep_set (rep_set hr pr _) qr _)
  generalize hN : ((ns.set p ⟨x, b.at_, r.at_, h, t, true⟩).set q ⟨y, a.at_, p, h', t', true⟩) = N at *
  have hqN : N[q]? = some ⟨y, a.at_, p, h', t', true⟩ := by rw [← hN, set_self hq1]
  have hq3 : (N.set p (nd b x r))[q]? = some ⟨y, a.at_, p, h', t', true⟩ := by rw [set_other (Ne.symm hne)]; exact hqN
  have hrN : rep N r := by rw [← hN]; exact rep_set (rep_set hr pr _) qr _
  have haN : rep N a := by rw [← hN]; exact rep_set (rep_set ha pa _) qa _
  have hbN : rep N b := by rw [← hN]; exact rep_set (rep_set hb pb _) qb _
  have hP : rep (N.set p (nd b x r)) (node p b x r) := ⟨set_self hp2, rep_set hbN pb _, rep_set hrN pr _⟩
  have e6 := sumN_eq (l := a) (r := node p b x r) (x := y) hq3 (rep_set haN pa _) hP
  have eT : turnN ns p false = ((N.set p (nd b x r)).set q (nd a y (node p b x r)), (q : Int)) := by
    unfold turnN
    rw [e1, show ((q : Int).toNat) = q by omega, Bool.not_false, e2, e3, e4, e5, e6]
  rw [eT]
  refine ⟨⟨set_self hq3, rep_set (rep_set haN pa _) qa _, ?_⟩, rfl, by simp [← hN], fun i hi => ?_⟩
  · refine ⟨by rw [set_other hne]; exact set_self hp2, rep_set (rep_set hbN pb _) qb _, rep_set (rep_set hrN pr _) qr _⟩
  · simp only [List.mem_cons, List.not_mem_nil, or_false, not_or] at hi
    rw [set_other hi.2, set_other hi.1, ← hN, set_other hi.2, set_other hi.1]
theorem mendedN_part {ns : List Nd} {p : Nat} {l r : Tr} {x : It} {h t : Int} (hp : ns[p]? = some ⟨x, l.at_, r.at_, h, t, true⟩) (hl : rep ns l) (hr : rep ns r) (hn : (p :: (l.places ++ r.places)).Nodup) :
    Part ns (p :: (l.places ++ r.places)) (mend p l x r) (mendedN ns p).1 (mendedN ns p).2 := by
  obtain ⟨hpn, hn2⟩ := List.nodup_cons.1 hn
  obtain ⟨hnl, hnr, hdis⟩ := List.nodup_append.1 hn2
  have pl : p ∉ l.places := fun e => hpn (List.mem_append_left _ e)
  have pr : p ∉ r.places := fun e => hpn (List.mem_append_right _ e)
  have e := sumN_eq hp hl hr
  have h1 : (ns.set p (nd l x r))[p]? = some (nd l x r) := set_self hp
  have hl1 : rep (ns.set p (nd l x r)) l := rep_set hl pl _
  have hr1 : rep (ns.set p (nd l x r)) r := rep_set hr pr _
  have ho : ∀ i, i ≠ p → (ns.set p (nd l x r))[i]? = ns[i]? := fun i hi => set_other hi
  have hlen : (ns.set p (nd l x r)).length = ns.length := by simp
  unfold mendedN
  simp only [e]
  generalize ns.set p (nd l x r) = N at *
  have s1 : sideN N p true = r.at_ := by simp [sideN, nodeN_some h1, nd]
  have s2 : sideN N p false = l.at_ := by simp [sideN, nodeN_some h1, nd]
  have hlean : leanN N p = r.ht - l.ht := by unfold leanN; rw [s1, s2, htN_rep hr1, htN_rep hl1]
  rw [hlean]
  by_cases hb : -1 ≤ r.ht - l.ht ∧ r.ht - l.ht ≤ 1
  · rw [if_pos hb]
    have em : mend p l x r = node p l x r := by
      unfold mend
      rw [if_neg (by omega), if_neg (by omega)]
    rw [em]
    exact ⟨⟨h1, hl1, hr1⟩, rfl, hlen, fun i hi => ho i (fun e => hi (by simp [e]))⟩
  · rw [if_neg hb]
    by_cases hg : 0 < r.ht - l.ht
    · rw [decide_eq_true hg, s1, Bool.not_true]
      cases r with
      | nil => have := ht_nonneg l; simp [ht] at hg; omega
      | node q a y b =>
        have hg1 : (node q a y b).ht - l.ht > 1 := by omega
        obtain ⟨hq1, ha1, hb1⟩ := hr1
        obtain ⟨hqn, hn3⟩ := List.nodup_cons.1 (show (q :: (a.places ++ b.places)).Nodup from hnr)
        obtain ⟨hna, hnb, hdab⟩ := List.nodup_append.1 hn3
        have qa : q ∉ a.places := fun e => hqn (List.mem_append_left _ e)
        have qb : q ∉ b.places := fun e => hqn (List.mem_append_right _ e)
        simp only [places, List.mem_cons, List.mem_append, not_or] at pr
        obtain ⟨hpq, pa, pb⟩ := pr
        have lq : q ∉ l.places := fun e => hdis q e q (by simp [places]) rfl
        have la : ∀ i ∈ a.places, i ∉ l.places := fun i hi e => hdis i e i (by simp [places, hi]) rfl
        have lb : ∀ i ∈ b.places, i ∉ l.places := fun i hi e => hdis i e i (by simp [places, hi]) rfl
        rw [show (node q a y b).at_.toNat = q by simp [at_]]
        have t1 : sideN N q true = b.at_ := by simp [sideN, nodeN_some hq1, nd]
        have t2 : sideN N q false = a.at_ := by simp [sideN, nodeN_some hq1, nd]
        rw [t1, t2, htN_rep ha1, htN_rep hb1]
        have em : mend p l x (node q a y b) = if a.ht > b.ht then rotL p l x (rotR q a y b) else rotL p l x (node q a y b) := by
          unfold mend
          rw [if_pos hg1]
        rw [em]
        by_cases hab : b.ht < a.ht
        · rw [if_pos hab, if_pos hab]
          cases a with
          | nil => have := ht_nonneg b; simp [ht] at hab; omega
          | node s c z d =>
            obtain ⟨hs1, hc1, hd1⟩ := ha1
            obtain ⟨hsn, hn4⟩ := List.nodup_cons.1 (show (s :: (c.places ++ d.places)).Nodup from hna)
            obtain ⟨hnc, hnd, hdcd⟩ := List.nodup_append.1 hn4
            simp only [places, List.mem_cons, List.mem_append, not_or] at qa pa
            obtain ⟨hqs, qc, qd⟩ := qa
            obtain ⟨hps, pc, pd⟩ := pa
            have sc : s ∉ c.places := fun e => hsn (List.mem_append_left _ e)
            have sd : s ∉ d.places := fun e => hsn (List.mem_append_right _ e)
            have sb : s ∉ b.places := fun e => hdab s (by simp [places]) s e rfl
            have sl : s ∉ l.places := la s (by simp [places])
            have hcd : ∀ i ∈ c.places, i ≠ q ∧ i ≠ s := fun i hi => ⟨fun e => qc (e ▸ hi), fun e => sc (e ▸ hi)⟩
            have P1 := turnR (p := q) (q := s) (a := c) (b := d) (r := b) hq1 hs1 hb1 hc1 hd1 hqs qb qc qd sb sc sd
            have hp2 : (turnN N q false).1[p]? = some (nd l x (node q (node s c z d) y b)) := by
              rw [P1.other p (by simp [hpq, hps])]; exact h1
            rw [P1.root]
            have eh : hangN (turnN N q false).1 p true (node s c z (node q d y b)).at_ = (turnN N q false).1.set p ⟨x, l.at_, (s : Int), (nd l x (node q (node s c z d) y b)).h, (nd l x (node q (node s c z d) y b)).t, true⟩ := by
              simp [hangN, nodeN_some hp2, nd, at_]
            rw [eh]
            obtain ⟨r1, r2, r3⟩ := P1.rep
            have hq3 := set_self (m := (⟨x, l.at_, (s : Int), (nd l x (node q (node s c z d) y b)).h, (nd l x (node q (node s c z d) y b)).t, true⟩ : Nd)) hp2
            have hs3 : ((turnN N q false).1.set p ⟨x, l.at_, (s : Int), (nd l x (node q (node s c z d) y b)).h, (nd l x (node q (node s c z d) y b)).t, true⟩)[s]? = some (nd c z (node q d y b)) := by
              rw [set_other (Ne.symm hps)]; exact r1
            have hl3 : rep (turnN N q false).1 l := rep_congr (fun i hi => P1.other i (by
              simp only [List.mem_cons, List.not_mem_nil, or_false, not_or]
              exact ⟨fun e => lq (e ▸ hi), fun e => sl (e ▸ hi)⟩)) hl1
            have pN : p ∉ (node q d y b).places := by
              simp only [places, List.mem_cons, List.mem_append, not_or]
              exact ⟨hpq, pd, pb⟩
            have sN : s ∉ (node q d y b).places := by
              simp only [places, List.mem_cons, List.mem_append, not_or]
              exact ⟨Ne.symm hqs, sd, sb⟩
            have P2 := turnL (p := p) (q := s) (l := l) (a := c) (b := node q d y b) hq3 hs3 (rep_set hl3 pl _) (rep_set r2 pc _) (rep_set r3 pN _) hps pl pc pN sl sc sN
            refine ⟨P2.rep, P2.root, by rw [P2.len]; simp [P1.len, hlen], fun i hi => ?_⟩
            simp only [places, List.mem_cons, List.mem_append, not_or] at hi
            rw [P2.other i (by simp [hi.1, hi.2.2.2.1.1]), set_other hi.1, P1.other i (by simp [hi.2.2.1, hi.2.2.2.1.1]), ho i hi.1]
        · rw [if_neg hab, if_neg hab]
          have P2 := turnL (p := p) (q := q) (l := l) (a := a) (b := b) h1 hq1 hl1 ha1 hb1 hpq pl pa pb lq qa qb
          refine ⟨P2.rep, P2.root, by rw [P2.len, hlen], fun i hi => ?_⟩
          simp only [places, List.mem_cons, List.mem_append, not_or] at hi
          rw [P2.other i (by simp [hi.1, hi.2.2.1]), ho i hi.1]
    · rw [decide_eq_false hg, s2, Bool.not_false]
      cases l with
      | nil => have := ht_nonneg r; simp [ht] at hb hg; omega
      | node q a y b =>
        have hg1 : (node q a y b).ht - r.ht > 1 := by omega
        obtain ⟨hq1, ha1, hb1⟩ := hl1
        obtain ⟨hqn, hn3⟩ := List.nodup_cons.1 (show (q :: (a.places ++ b.places)).Nodup from hnl)
        obtain ⟨hna, hnb, hdab⟩ := List.nodup_append.1 hn3
        have qa : q ∉ a.places := fun e => hqn (List.mem_append_left _ e)
        have qb : q ∉ b.places := fun e => hqn (List.mem_append_right _ e)
        simp only [places, List.mem_cons, List.mem_append, not_or] at pl
        obtain ⟨hpq, pa, pb⟩ := pl
        have rq : q ∉ r.places := fun e => hdis q (by simp [places]) q e rfl
        have rb : ∀ i ∈ b.places, i ∉ r.places := fun i hi e => hdis i (by simp [places, hi]) i e rfl
        rw [show (node q a y b).at_.toNat = q by simp [at_]]
        have t1 : sideN N q true = b.at_ := by simp [sideN, nodeN_some hq1, nd]
        have t2 : sideN N q false = a.at_ := by simp [sideN, nodeN_some hq1, nd]
        rw [t1, t2, htN_rep ha1, htN_rep hb1]
        have em : mend p (node q a y b) x r = if b.ht > a.ht then rotR p (rotL q a y b) x r else rotR p (node q a y b) x r := by
          unfold mend
          rw [if_neg (by omega), if_pos hg1]
        rw [em]
        by_cases hab : a.ht < b.ht
        · rw [if_pos hab, if_pos hab]
          cases b with
          | nil => have := ht_nonneg a; simp [ht] at hab; omega
          | node s c z d =>
            obtain ⟨hs1, hc1, hd1⟩ := hb1
            obtain ⟨hsn, hn4⟩ := List.nodup_cons.1 (show (s :: (c.places ++ d.places)).Nodup from hnb)
            obtain ⟨hnc, hnd, hdcd⟩ := List.nodup_append.1 hn4
            simp only [places, List.mem_cons, List.mem_append, not_or] at qb pb
            obtain ⟨hqs, qc, qd⟩ := qb
            obtain ⟨hps, pc, pd⟩ := pb
            have sc : s ∉ c.places := fun e => hsn (List.mem_append_left _ e)
            have sd : s ∉ d.places := fun e => hsn (List.mem_append_right _ e)
            have sa : s ∉ a.places := fun e => hdab s e s (by simp [places]) rfl
            have sr : s ∉ r.places := rb s (by simp [places])
            have P1 := turnL (p := q) (q := s) (l := a) (a := c) (b := d) hq1 hs1 ha1 hc1 hd1 hqs qa qc qd sa sc sd
            have hp2 : (turnN N q true).1[p]? = some (nd (node q a y (node s c z d)) x r) := by
              rw [P1.other p (by simp [hpq, hps])]; exact h1
            rw [P1.root]
            have eh : hangN (turnN N q true).1 p false (node s (node q a y c) z d).at_ = (turnN N q true).1.set p ⟨x, (s : Int), r.at_, (nd (node q a y (node s c z d)) x r).h, (nd (node q a y (node s c z d)) x r).t, true⟩ := by
              simp [hangN, nodeN_some hp2, nd, at_]
            rw [eh]
            obtain ⟨r1, r2, r3⟩ := P1.rep
            have hq3 := set_self (m := (⟨x, (s : Int), r.at_, (nd (node q a y (node s c z d)) x r).h, (nd (node q a y (node s c z d)) x r).t, true⟩ : Nd)) hp2
            have hs3 : ((turnN N q true).1.set p ⟨x, (s : Int), r.at_, (nd (node q a y (node s c z d)) x r).h, (nd (node q a y (node s c z d)) x r).t, true⟩)[s]? = some (nd (node q a y c) z d) := by
              rw [set_other (Ne.symm hps)]; exact r1
            have hr3 : rep (turnN N q true).1 r := rep_congr (fun i hi => P1.other i (by
              simp only [List.mem_cons, List.not_mem_nil, or_false, not_or]
              exact ⟨fun e => rq (e ▸ hi), fun e => sr (e ▸ hi)⟩)) hr1
            have pN : p ∉ (node q a y c).places := by
              simp only [places, List.mem_cons, List.mem_append, not_or]
              exact ⟨hpq, pa, pc⟩
            have sN : s ∉ (node q a y c).places := by
              simp only [places, List.mem_cons, List.mem_append, not_or]
              exact ⟨Ne.symm hqs, sa, sc⟩
            have P2 := turnR (p := p) (q := s) (r := r) (a := node q a y c) (b := d) hq3 hs3 (rep_set hr3 pr _) (rep_set r2 pN _) (rep_set r3 pd _) hps pr pN pd sr sN sd
            refine ⟨P2.rep, P2.root, by rw [P2.len]; simp [P1.len, hlen], fun i hi => ?_⟩
            simp only [places, List.mem_cons, List.mem_append, not_or] at hi
            obtain ⟨i1, ⟨i2, i3, i4, i5, i6⟩, i7⟩ := hi
            rw [P2.other i (by simp [i1, i4]), set_other i1, P1.other i (by simp [i2, i4]), ho i i1]
        · rw [if_neg hab, if_neg hab]
          have P2 := turnR (p := p) (q := q) (r := r) (a := a) (b := b) h1 hq1 hr1 ha1 hb1 hpq pr pa pb rq qa qb
          refine ⟨P2.rep, P2.root, by rw [P2.len, hlen], fun i hi => ?_⟩
          simp only [places, List.mem_cons, List.mem_append, not_or] at hi
          rw [P2.other i (by simp [hi.1, hi.2.1.1]), ho i hi.1]
end Tr
end Go.Proofs.Ytngglpekdjhbdaa
namespace Go.Proofs.Ytngglpekdjhbdaa
set_option linter.unusedSimpArgs false
set_option linter.unusedVariables false

/-- a node on the way: its place, whether the way goes on to the right, its item, its other side -/
structure Fr where
  p : Nat
  d : Bool
  x : It
  o : Tr
def Fr.places (f : Fr) : List Nat := f.p :: f.o.places
def pth (fs : List Fr) : List (Nat × Bool) := fs.map fun f => (f.p, f.d)
def hangTop (ns : List Nd) (root : Int) (fs : List (Nat × Bool)) (below : Int) : List Nd × Int :=
  match fs with
  | [] => (ns, below)
  | f :: _ => (hangN ns f.1 f.2 below, root)
def mendP : List Nd → Int → List (Nat × Bool) → List Nd × Int
  | ns, root, [] => (ns, root)
  | ns, root, f :: fs => let m := mendedN ns f.1; let h := hangTop m.1 root fs m.2; mendP h.1 h.2 fs
namespace Tr
def plugM : Tr → List Fr → Tr
  | T, [] => T
  | T, f :: fs => plugM (if f.d = true then mend f.p f.o f.x T else mend f.p T f.x f.o) fs
def RestOk (ns : List Nd) (fs : List Fr) : Prop := ∀ f ∈ fs, (∃ lk h t, ns[f.p]? = some (if f.d = true then ⟨f.x, f.o.at_, lk, h, t, true⟩ else ⟨f.x, lk, f.o.at_, h, t, true⟩)) ∧ rep ns f.o
theorem RestOk.congr {ns ns' : List Nd} {fs : List Fr} (h : RestOk ns fs) (he : ∀ i ∈ fs.flatMap Fr.places, ns'[i]? = ns[i]?) : RestOk ns' fs := fun f hf => by
  obtain ⟨⟨lk, hh, t, h1⟩, h2⟩ := h f hf
  refine ⟨⟨lk, hh, t, ?_⟩, rep_congr (fun q hq => he q (List.mem_flatMap.2 ⟨f, hf, by simp [Fr.places, hq]⟩)) h2⟩
  rw [he f.p (List.mem_flatMap.2 ⟨f, hf, by simp [Fr.places]⟩)]
  exact h1
theorem mendP_rep : ∀ (fs : List Fr) (ns : List Nd) (root : Int) (T : Tr), rep ns T → RestOk ns fs → (T.places ++ fs.flatMap Fr.places).Nodup →
    Part ns (T.places ++ fs.flatMap Fr.places) (plugM T fs) (mendP (hangTop ns root (pth fs) T.at_).1 (hangTop ns root (pth fs) T.at_).2 (pth fs)).1 (mendP (hangTop ns root (pth fs) T.at_).1 (hangTop ns root (pth fs) T.at_).2 (pth fs)).2
  | [], ns, root, T, hT, _, _ => ⟨hT, rfl, rfl, fun _ _ => rfl⟩
  | f :: fs, ns, root, T, hT, hR, hn => by
    obtain ⟨⟨lk, hh, t, hf⟩, ho⟩ := hR f (by simp)
    simp only [List.flatMap_cons, Fr.places] at hn
    obtain ⟨n1, n2, n3⟩ := List.nodup_append.1 hn
    obtain ⟨n4, n5, n6⟩ := List.nodup_append.1 n2
    obtain ⟨n7, n8⟩ := List.nodup_cons.1 n4
    have pT : f.p ∉ T.places := fun e => n3 f.p e f.p (by simp) rfl
    have po : f.p ∉ f.o.places := n7
    have hTR : RestOk ns fs := fun g hg => hR g (by simp [hg])
    have hdo : ∀ i ∈ T.places, i ∉ f.o.places := fun i hi e => n3 i hi i (by simp [e]) rfl
    have hfs : ∀ i ∈ fs.flatMap Fr.places, i ≠ f.p ∧ i ∉ f.o.places ∧ i ∉ T.places := fun i hi => ⟨fun e => n6 f.p (by simp) i hi e.symm, fun e => n6 i (by simp [e]) i hi rfl, fun e => n3 i e i (by simp only [List.mem_append]; exact .inr hi) rfl⟩
    obtain ⟨N, hN⟩ : ∃ N, hangN ns f.p f.d T.at_ = N := ⟨_, rfl⟩
    have hlen : N.length = ns.length := by rw [← hN]; simp [hangN]
    have hoth : ∀ i, i ≠ f.p → N[i]? = ns[i]? := fun i hi => by rw [← hN]; exact set_other hi
    have hTN : rep N T := rep_congr (fun q hq => hoth q (fun e => pT (e ▸ hq))) hT
    have hoN : rep N f.o := rep_congr (fun q hq => hoth q (fun e => po (e ▸ hq))) ho
    have hpN : N[f.p]? = some (if f.d = true then ⟨f.x, f.o.at_, T.at_, hh, t, true⟩ else ⟨f.x, T.at_, f.o.at_, hh, t, true⟩) := by
      rw [← hN]
      unfold hangN
      rw [set_self hf, nodeN_some hf]
      cases f.d <;> rfl
    obtain ⟨T', hT'⟩ : ∃ T', (if f.d = true then mend f.p f.o f.x T else mend f.p T f.x f.o) = T' := ⟨_, rfl⟩
    have P : Part N (f.p :: (f.o.places ++ T.places)) T' (mendedN N f.p).1 (mendedN N f.p).2 := by
      rw [← hT']
      cases hd : f.d with
      | true =>
        rw [hd] at hpN
        refine mendedN_part hpN hoN hTN (List.nodup_cons.2 ⟨by simp [po, pT], List.nodup_append.2 ⟨n8, n1, fun a ha b hb e => hdo b hb (e ▸ ha)⟩⟩)
      | false =>
        rw [hd] at hpN
        have := mendedN_part hpN hTN hoN (List.nodup_cons.2 ⟨by simp [po, pT], List.nodup_append.2 ⟨n1, n8, fun a ha b hb e => hdo a ha (e ▸ hb)⟩⟩)
        exact ⟨this.rep, this.root, this.len, fun i hi => this.other i (fun h => hi (by
          simp only [List.mem_cons, List.mem_append] at h ⊢
          rcases h with h | h | h
          · exact .inl h
          · exact .inr (.inr h)
          · exact .inr (.inl h)))⟩
    have hperm : T'.places.Perm (f.p :: (f.o.places ++ T.places)) := by
      rw [← hT']
      cases hd : f.d with
      | true => exact places_mend _ _ _ _
      | false =>
        rw [if_neg (by simp)]
        exact (places_mend _ _ _ _).trans (List.Perm.cons _ List.perm_append_comm)
    have hmem : ∀ i, i ∈ T'.places ↔ i = f.p ∨ i ∈ f.o.places ∨ i ∈ T.places := fun i => by rw [hperm.mem_iff]; simp
    have hRN : RestOk (mendedN N f.p).1 fs := hTR.congr fun i hi => by
      obtain ⟨e1, e2, e3⟩ := hfs i hi
      rw [P.other i (by simp [e1, e2, e3]), hoth i e1]
    have hn' : (T'.places ++ fs.flatMap Fr.places).Nodup := List.nodup_append.2 ⟨hperm.nodup_iff.2 (List.nodup_cons.2 ⟨by simp [po, pT], List.nodup_append.2 ⟨n8, n1, fun a ha b hb e => hdo b hb (e ▸ ha)⟩⟩), n5, fun a ha b hb e => by
      obtain ⟨e1, e2, e3⟩ := hfs b hb
      rcases (hmem a).1 ha with h | h | h
      · exact e1 (e ▸ h)
      · exact e2 (e ▸ h)
      · exact e3 (e ▸ h)⟩
    have IH := mendP_rep fs (mendedN N f.p).1 root T' P.rep hRN hn'
    have e1 : hangTop ns root (pth (f :: fs)) T.at_ = (N, root) := by simp [hangTop, pth, hN]
    rw [e1]
    have e2 : mendP N root (pth (f :: fs)) = mendP (hangTop (mendedN N f.p).1 root (pth fs) T'.at_).1 (hangTop (mendedN N f.p).1 root (pth fs) T'.at_).2 (pth fs) := by
      simp only [pth, List.map_cons, mendP]
      rw [P.root]
    have e3 : plugM T (f :: fs) = plugM T' fs := by simp only [plugM]; rw [hT']
    rw [e2, e3]
    refine ⟨IH.rep, IH.root, by rw [IH.len, P.len, hlen], fun i hi => ?_⟩
    simp only [List.flatMap_cons, Fr.places, List.mem_append, List.mem_cons, not_or] at hi
    obtain ⟨i1, ⟨i2, i3⟩, i4⟩ := hi
    rw [IH.other i (by simp only [List.mem_append, not_or]; exact ⟨by rw [hmem]; simp [i1, i2, i3], i4⟩), P.other i (by simp [i1, i2, i3]), hoth i i2]
/-! ### the way down -/
def downT (x : It) : Tr → List Fr → List Fr × Tr
  | nil, fs => (fs, nil)
  | node p l y r, fs => if ordI x y = 0 then (fs, node p l y r) else if 0 < ordI x y then downT x r (⟨p, true, y, l⟩ :: fs) else downT x l (⟨p, false, y, r⟩ :: fs)
theorem downT_rest {ns : List Nd} (x : It) : ∀ (T : Tr) (fs : List Fr), rep ns T → RestOk ns fs → RestOk ns (downT x T fs).1 ∧ rep ns (downT x T fs).2
  | nil, fs, hT, hR => ⟨hR, trivial⟩
  | node p l y r, fs, ⟨h1, h2, h3⟩, hR => by
    unfold downT
    split
    · exact ⟨hR, h1, h2, h3⟩
    · split
      · exact downT_rest x r _ h3 (fun f hf => by
          rcases List.mem_cons.1 hf with rfl | hf
          · exact ⟨⟨_, _, _, h1⟩, h2⟩
          · exact hR f hf)
      · exact downT_rest x l _ h2 (fun f hf => by
          rcases List.mem_cons.1 hf with rfl | hf
          · exact ⟨⟨_, _, _, h1⟩, h3⟩
          · exact hR f hf)
theorem downT_places (x : It) : ∀ (T : Tr) (fs : List Fr), ((downT x T fs).2.places ++ (downT x T fs).1.flatMap Fr.places).Perm (T.places ++ fs.flatMap Fr.places)
  | nil, fs => List.Perm.refl _
  | node p l y r, fs => by
    unfold downT
    split
    · exact List.Perm.refl _
    · split
      · refine (downT_places x r _).trans ?_
        simp only [List.flatMap_cons, Fr.places, places, List.cons_append]
        refine List.perm_middle.trans (List.Perm.cons p ?_)
        rw [← List.append_assoc]
        exact List.Perm.append_right _ List.perm_append_comm
      · refine (downT_places x l _).trans ?_
        simp only [List.flatMap_cons, Fr.places, places, List.cons_append]
        refine List.perm_middle.trans (List.Perm.cons p ?_)
        rw [List.append_assoc]
theorem downT_len (x : It) : ∀ (T : Tr) (fs : List Fr), ((downT x T fs).1.length : Int) + (downT x T fs).2.ht ≤ fs.length + T.ht
  | nil, fs => by simp [downT, ht]
  | node p l y r, fs => by
    unfold downT
    split
    · exact Int.le_refl _
    · split
      · have := downT_len x r (⟨p, true, y, l⟩ :: fs)
        simp only [List.length_cons, ht] at this ⊢
        omega
      · have := downT_len x l (⟨p, false, y, r⟩ :: fs)
        simp only [List.length_cons, ht] at this ⊢
        omega
theorem downT_ins (q : Nat) (x : It) : ∀ (T : Tr) (fs : List Fr), x ∉ T.items → (downT x T fs).2 = nil ∧ plugM (node q nil x nil) (downT x T fs).1 = plugM (ins q x T) fs
  | nil, fs, _ => ⟨rfl, rfl⟩
  | node p l y r, fs, hx => by
    simp only [items, List.mem_append, List.mem_cons, not_or] at hx
    have hne : ordI x y ≠ 0 := fun h => hx.2.1 (ordI_zero.1 h)
    unfold downT
    rw [if_neg hne]
    split
    · rename_i hc
      obtain ⟨e1, e2⟩ := downT_ins q x r (⟨p, true, y, l⟩ :: fs) hx.2.2
      refine ⟨e1, ?_⟩
      have e3 : ins q x (node p l y r) = mend p l y (ins q x r) := by rw [ins, if_neg (by omega)]
      rw [e2, e3]
      rfl
    · rename_i hc
      obtain ⟨e1, e2⟩ := downT_ins q x l (⟨p, false, y, r⟩ :: fs) hx.1
      refine ⟨e1, ?_⟩
      have e3 : ins q x (node p l y r) = mend p (ins q x l) y r := by rw [ins, if_pos (by omega)]
      rw [e2, e3]
      rfl
/-- the way on to the least item below, and what is right of it -/
def minF : Nat → Tr → It → Tr → List Fr → Nat × It × Tr × List Fr
  | q, nil, z, b, fs => (q, z, b, fs)
  | q, node s c u d, z, b, fs => minF s c u d (⟨q, false, z, b⟩ :: fs)
theorem minF_del : ∀ (a : Tr) (q : Nat) (z : It) (b : Tr) (fs : List Fr), (minF q a z b fs).1 = (delMin q a z b).1 ∧ (minF q a z b fs).2.1 = (delMin q a z b).2.1 ∧ plugM (minF q a z b fs).2.2.1 (minF q a z b fs).2.2.2 = plugM (delMin q a z b).2.2 fs
  | nil, q, z, b, fs => ⟨rfl, rfl, rfl⟩
  | node s c u d, q, z, b, fs => by
    obtain ⟨e1, e2, e3⟩ := minF_del c s u d (⟨q, false, z, b⟩ :: fs)
    simp only [minF, delMin]
    refine ⟨e1, e2, ?_⟩
    rw [e3, plugM]
    rfl
theorem minF_rest {ns : List Nd} : ∀ (a : Tr) (q : Nat) (z : It) (b : Tr) (fs : List Fr), rep ns (node q a z b) → RestOk ns fs →
    RestOk ns (minF q a z b fs).2.2.2 ∧ rep ns (minF q a z b fs).2.2.1 ∧ ns[(minF q a z b fs).1]? = some (nd nil (minF q a z b fs).2.1 (minF q a z b fs).2.2.1)
  | nil, q, z, b, fs, ⟨h1, h2, h3⟩, hR => ⟨hR, h3, h1⟩
  | node s c u d, q, z, b, fs, ⟨h1, h2, h3⟩, hR => by
    simp only [minF]
    exact minF_rest c s u d _ h2 (fun f hf => by
      rcases List.mem_cons.1 hf with rfl | hf
      · exact ⟨⟨_, _, _, h1⟩, h3⟩
      · exact hR f hf)
theorem minF_places : ∀ (a : Tr) (q : Nat) (z : It) (b : Tr) (fs : List Fr), ((minF q a z b fs).1 :: ((minF q a z b fs).2.2.1.places ++ (minF q a z b fs).2.2.2.flatMap Fr.places)).Perm ((node q a z b).places ++ fs.flatMap Fr.places)
  | nil, q, z, b, fs => by simp [minF, places]
  | node s c u d, q, z, b, fs => by
    simp only [minF]
    refine (minF_places c s u d _).trans ?_
    simp only [List.flatMap_cons, Fr.places]
    rw [show (node q (node s c u d) z b).places = q :: ((node s c u d).places ++ b.places) from rfl]
    rw [List.cons_append, List.cons_append]
    refine List.perm_middle.trans (List.Perm.cons q ?_)
    rw [List.append_assoc]
theorem minF_len : ∀ (a : Tr) (q : Nat) (z : It) (b : Tr) (fs : List Fr), ((minF q a z b fs).2.2.2.length : Int) + 1 ≤ fs.length + (node q a z b).ht
  | nil, q, z, b, fs => by
    have := ht_nonneg b
    simp only [minF, ht]
    omega
  | node s c u d, q, z, b, fs => by
    have := minF_len c s u d (⟨q, false, z, b⟩ :: fs)
    simp only [minF, List.length_cons, ht] at this ⊢
    omega
end Tr
end Go.Proofs.Ytngglpekdjhbdaa
namespace Go.Proofs.Ytngglpekdjhbdaa
set_option linter.unusedSimpArgs false
set_option linter.unusedVariables false
namespace Tr
/-- what the walk comes by -/
def vis (a : Int) : Tr → List It
  | nil => []
  | node p l x r => if (node p l x r).top ≤ a then [] else vis a l ++ x :: vis a r
/-- the stack behind a push -/
def pushS (a : Int) : Tr → List Tr → List Tr
  | nil, st => st
  | node p l x r, st => if (node p l x r).top ≤ a then st else pushS a l (node p l x r :: st)
/-- what is still to come of one node of the stack -/
def due (a : Int) : Tr → List It
  | nil => []
  | node _ _ x r => x :: vis a r
def dues (a : Int) (st : List Tr) : List It := st.flatMap (due a)
theorem dues_push (a : Int) : ∀ (T : Tr) (st : List Tr), dues a (pushS a T st) = vis a T ++ dues a st
  | nil, st => rfl
  | node p l x r, st => by
    unfold pushS vis
    split
    · rfl
    · rw [dues_push a l]
      simp [dues, due]
/-- no entry of the stack, with those below it, is higher than this -/
def lowS (H : Int) : List Tr → Prop
  | [] => True
  | T :: st => (st.length : Int) + T.ht ≤ H ∧ lowS H st
theorem lowS_push (a H : Int) : ∀ (T : Tr) (st : List Tr), lowS H st → (st.length : Int) + T.ht ≤ H → lowS H (pushS a T st)
  | nil, st, h, _ => h
  | node p l x r, st, h, hT => by
    unfold pushS
    split
    · exact h
    · have hl := ht_nonneg l
      have hr := ht_nonneg r
      refine lowS_push a H l _ ⟨hT, h⟩ ?_
      simp only [List.length_cons, ht] at hT ⊢
      omega
theorem lowS_len {H : Int} : ∀ {st : List Tr}, lowS H st → (∀ T ∈ st, T ≠ nil) → (st.length : Int) ≤ max H 0
  | [], _, _ => by simp; omega
  | T :: st, ⟨h1, h2⟩, hn => by
    cases T with
    | nil => exact absurd rfl (hn nil (by simp))
    | node p l x r =>
      have hl := ht_nonneg l
      have hr := ht_nonneg r
      simp only [List.length_cons, ht] at h1 ⊢
      omega
/-- what a node's top says of its items -/
theorem top_ge : ∀ {T : Tr} {y : It}, y ∈ T.items → y.t ≤ T.top
  | nil, y, h => by simp [items] at h
  | node p l x r, y, h => by
    simp only [items, List.mem_append, List.mem_cons] at h
    rcases h with h | h | h
    · have := top_ge h
      cases l with
      | nil => simp [items] at h
      | node p1 l1 y1 r1 =>
        have e : (node p (node p1 l1 y1 r1) x r).top = max (max x.t (node p1 l1 y1 r1).top) (match r with | nil => x.t | node .. => r.top) := rfl
        rw [e]
        omega
    · subst h
      have e : (node p l y r).top = max (max y.t (match l with | nil => y.t | node .. => l.top)) (match r with | nil => y.t | node .. => r.top) := rfl
      rw [e]
      omega
    · have := top_ge h
      cases r with
      | nil => simp [items] at h
      | node p1 l1 y1 r1 =>
        have e : (node p l x (node p1 l1 y1 r1)).top = max (max x.t (match l with | nil => x.t | node .. => l.top)) (node p1 l1 y1 r1).top := rfl
        rw [e]
        omega
theorem vis_filter (a : Int) : ∀ T : Tr, (vis a T).filter (fun x => decide (a < x.t)) = T.items.filter (fun x => decide (a < x.t))
  | nil => rfl
  | node p l x r => by
    unfold vis
    split
    · rename_i h
      symm
      rw [List.filter_nil]
      exact List.filter_eq_nil_iff.2 fun y hy => by
        have := top_ge hy
        simp; omega
    · simp only [items, List.filter_append, List.filter_cons, vis_filter a l, vis_filter a r]
theorem vis_sub (a : Int) : ∀ T : Tr, (vis a T).Sublist T.items
  | nil => List.Sublist.refl _
  | node p l x r => by
    unfold vis
    split
    · exact List.nil_sublist _
    · exact List.Sublist.append (vis_sub a l) ((vis_sub a r).cons_cons x)
theorem takeWhile_sorted (b : Int) : ∀ {l : List It}, l.Pairwise Lt → l.takeWhile (fun x => decide (x.f < b)) = l.filter (fun x => decide (x.f < b))
  | [], _ => rfl
  | x :: l, h => by
    obtain ⟨h1, h2⟩ := List.pairwise_cons.1 h
    rw [List.takeWhile_cons, List.filter_cons]
    by_cases hx : x.f < b
    · rw [if_pos (by simpa using hx), if_pos (by simpa using hx), takeWhile_sorted b h2]
    · rw [if_neg (by simpa using hx), if_neg (by simpa using hx)]
      symm
      exact List.filter_eq_nil_iff.2 fun y hy => by
        have := ordI_neg.1 (h1 y hy)
        simp
        omega
/-- the items that end above a and begin below b -/
def over (a b : Int) (T : Tr) : List It := T.items.filter fun x => decide (a < x.t) && decide (x.f < b)
/-- what a walk tells -/
theorem vis_over (a b : Int) {T : Tr} (h : srt T) : ((vis a T).takeWhile (fun x => decide (x.f < b))).filter (fun x => decide (a < x.t)) = over a b T := by
  rw [takeWhile_sorted b (List.Pairwise.sublist (vis_sub a T) h), List.filter_filter]
  unfold over
  rw [show (fun x : It => decide (a < x.t) && decide (x.f < b)) = (fun x => decide (x.f < b) && decide (a < x.t)) from funext fun x => Bool.and_comm _ _, ← List.filter_filter, vis_filter, List.filter_filter]
end Tr
end Go.Proofs.Ytngglpekdjhbdaa
namespace Go.Proofs.Ytngglpekdjhbdaa
set_option linter.unusedSimpArgs false
set_option linter.unusedVariables false

structure Sg where
  f : Int
  t : Int
  v : Int
deriving DecidableEq
def dis (a b : Sg) : Prop := a.t ≤ b.f ∨ b.t ≤ a.f
theorem dis.symm {a b : Sg} (h : dis a b) : dis b a := Or.symm h
structure SgOk (C : List Sg) : Prop where
  one : ∀ s ∈ C, 1 ≤ s.f ∧ s.f < s.t ∧ s.t ≤ 3652060 ∧ s.v ≠ 0
  pair : C.Pairwise dis
  unlike : ∀ s ∈ C, ∀ r ∈ C, s.t = r.f → s.v ≠ r.v
def Rep (C : List Sg) (g : Int → Int) : Prop := ∀ d, (∀ s ∈ C, s.f ≤ d → d < s.t → g d = s.v) ∧ ((∀ s ∈ C, ¬ (s.f ≤ d ∧ d < s.t)) → g d = 0)
theorem SgOk.perm {C D : List Sg} (h : SgOk C) (p : C.Perm D) : SgOk D :=
  ⟨fun s hs => h.one s (p.mem_iff.2 hs), (p.pairwise_iff (fun h => h.symm)).1 h.pair, fun s hs r hr => h.unlike s (p.mem_iff.2 hs) r (p.mem_iff.2 hr)⟩
theorem Rep.perm {C D : List Sg} {g : Int → Int} (h : Rep C g) (p : C.Perm D) : Rep D g := fun d =>
  ⟨fun s hs => (h d).1 s (p.mem_iff.2 hs), fun hn => (h d).2 fun s hs => hn s (p.mem_iff.1 hs)⟩
/-- what is left of a segment beside the days of a put -/
def pieces (a b v : Int) (e : Sg) : List Sg :=
  if e.v = v then [] else (if e.f < min e.t a then [⟨e.f, min e.t a, e.v⟩] else []) ++ (if max e.f b < e.t then [⟨max e.f b, e.t, e.v⟩] else [])
def frm (a v : Int) (X : List Sg) : Int := X.foldl (fun m e => if e.v = v then min m e.f else m) a
def too (b v : Int) (X : List Sg) : Int := X.foldl (fun m e => if e.v = v then max m e.t else m) b
theorem frm_spec (v : Int) : ∀ (X : List Sg) (a : Int), frm a v X ≤ a ∧ (frm a v X = a ∨ ∃ e ∈ X, e.v = v ∧ e.f = frm a v X) ∧ ∀ e ∈ X, e.v = v → frm a v X ≤ e.f
  | [], a => by simp [frm]
  | x :: X, a => by
    by_cases hx : x.v = v
    · have e : frm a v (x :: X) = frm (min a x.f) v X := by simp [frm, hx]
      obtain ⟨h1, h2, h3⟩ := frm_spec v X (min a x.f)
      rw [e]
      refine ⟨by omega, ?_, fun y hy hv => ?_⟩
      · rcases h2 with h2 | ⟨y, hy, h4, h5⟩
        · by_cases h6 : x.f < a
          · exact .inr ⟨x, by simp, hx, by omega⟩
          · exact .inl (by omega)
        · exact .inr ⟨y, by simp [hy], h4, h5⟩
      · rcases List.mem_cons.1 hy with rfl | hy
        · omega
        · exact h3 y hy hv
    · have e : frm a v (x :: X) = frm a v X := by simp [frm, hx]
      obtain ⟨h1, h2, h3⟩ := frm_spec v X a
      rw [e]
      refine ⟨h1, ?_, fun y hy hv => ?_⟩
      · rcases h2 with h2 | ⟨y, hy, h4, h5⟩
        · exact .inl h2
        · exact .inr ⟨y, by simp [hy], h4, h5⟩
      · rcases List.mem_cons.1 hy with rfl | hy
        · exact absurd hv hx
        · exact h3 y hy hv
theorem too_spec (v : Int) : ∀ (X : List Sg) (b : Int), b ≤ too b v X ∧ (too b v X = b ∨ ∃ e ∈ X, e.v = v ∧ e.t = too b v X) ∧ ∀ e ∈ X, e.v = v → e.t ≤ too b v X
  | [], a => by simp [too]
  | x :: X, a => by
    by_cases hx : x.v = v
    · have e : too a v (x :: X) = too (max a x.t) v X := by simp [too, hx]
      obtain ⟨h1, h2, h3⟩ := too_spec v X (max a x.t)
      rw [e]
      refine ⟨by omega, ?_, fun y hy hv => ?_⟩
      · rcases h2 with h2 | ⟨y, hy, h4, h5⟩
        · by_cases h6 : a < x.t
          · exact .inr ⟨x, by simp, hx, by omega⟩
          · exact .inl (by omega)
        · exact .inr ⟨y, by simp [hy], h4, h5⟩
      · rcases List.mem_cons.1 hy with rfl | hy
        · omega
        · exact h3 y hy hv
    · have e : too a v (x :: X) = too a v X := by simp [too, hx]
      obtain ⟨h1, h2, h3⟩ := too_spec v X a
      rw [e]
      refine ⟨h1, ?_, fun y hy hv => ?_⟩
      · rcases h2 with h2 | ⟨y, hy, h4, h5⟩
        · exact .inl h2
        · exact .inr ⟨y, by simp [hy], h4, h5⟩
      · rcases List.mem_cons.1 hy with rfl | hy
        · exact absurd hv hx
        · exact h3 y hy hv
theorem mem_pieces {a b v : Int} {e p : Sg} (ha : a ≤ e.t) (hb : e.f ≤ b) : p ∈ pieces a b v e ↔ e.v ≠ v ∧ ((e.f < a ∧ p = ⟨e.f, a, e.v⟩) ∨ (b < e.t ∧ p = ⟨b, e.t, e.v⟩)) := by
  unfold pieces
  rw [show min e.t a = a by omega, show max e.f b = b by omega]
  by_cases h1 : e.v = v
  · simp [h1]
  · rw [if_neg h1]
    by_cases h2 : e.f < a <;> by_cases h3 : b < e.t <;> simp [h1, h2, h3]
theorem count_one {α : Type} (p : α → Bool) : ∀ {l : List α}, l.Pairwise (fun x y => ¬ (p x = true ∧ p y = true)) → l.countP p ≤ 1
  | [], _ => by simp
  | x :: l, h => by
    obtain ⟨h1, h2⟩ := List.pairwise_cons.1 h
    rw [List.countP_cons]
    by_cases hx : p x = true
    · have : l.countP p = 0 := List.countP_eq_zero.2 fun y hy hp => h1 y hy ⟨hx, hp⟩
      simp [this, hx]
    · have := count_one p h2
      simp [hx, this]
theorem pieces_len {a b v : Int} {X : List Sg} (hX : ∀ e ∈ X, a ≤ e.t ∧ e.f ≤ b) (hp : X.Pairwise dis) : (X.flatMap (pieces a b v)).length ≤ 2 := by
  have h1 : ∀ Y : List Sg, (∀ e ∈ Y, a ≤ e.t ∧ e.f ≤ b) → (Y.flatMap (pieces a b v)).length ≤ Y.countP (fun e => decide (e.f < a)) + Y.countP (fun e => decide (b < e.t)) := fun Y => by
    induction Y with
    | nil => simp
    | cons e Y ih =>
      intro hY
      have := ih fun x hx => hY x (by simp [hx])
      obtain ⟨q1, q2⟩ := hY e (by simp)
      rw [List.flatMap_cons, List.length_append, List.countP_cons, List.countP_cons]
      have h3 : (pieces a b v e).length ≤ (if decide (e.f < a) = true then 1 else 0) + (if decide (b < e.t) = true then 1 else 0) := by
        unfold pieces
        rw [show min e.t a = a by omega, show max e.f b = b by omega]
        by_cases c1 : e.v = v <;> by_cases c2 : e.f < a <;> by_cases c3 : b < e.t <;> simp [c1, c2, c3]
      omega
  have h2 : X.countP (fun e => decide (e.f < a)) ≤ 1 := count_one _ (List.Pairwise.imp_of_mem (fun {x y} hx hy hd => by
    have := hX x hx
    have := hX y hy
    rintro ⟨c1, c2⟩
    simp at c1 c2
    rcases hd with hd | hd <;> omega) hp)
  have h3 : X.countP (fun e => decide (b < e.t)) ≤ 1 := count_one _ (List.Pairwise.imp_of_mem (fun {x y} hx hy hd => by
    have := hX x hx
    have := hX y hy
    rintro ⟨c1, c2⟩
    simp at c1 c2
    rcases hd with hd | hd <;> omega) hp)
  have := h1 X hX
  omega
theorem pair_ne {C : List Sg} (h : C.Pairwise dis) : ∀ e ∈ C, ∀ r ∈ C, e ≠ r → dis e r := by
  induction C with
  | nil => intro e he; cases he
  | cons x C ih =>
    obtain ⟨h1, h2⟩ := List.pairwise_cons.1 h
    intro e he r hr hne
    rcases List.mem_cons.1 he with he' | he' <;> rcases List.mem_cons.1 hr with hr' | hr'
    · exact absurd (he'.trans hr'.symm) hne
    · exact he' ▸ h1 r hr'
    · exact hr' ▸ (h1 e he').symm
    · exact ih h2 e he' r hr' hne
def midC (a b v : Int) (X : List Sg) : List Sg := if frm a v X < too b v X ∧ v ≠ 0 then [⟨frm a v X, too b v X, v⟩] else []
def upd (g : Int → Int) (a b v : Int) (d : Int) : Int := if a ≤ d ∧ d < b then v else g d
theorem put_ok {a b v : Int} (h1 : 1 ≤ a) (h2 : a < b) (h3 : b ≤ 3652060) {X Z : List Sg} (hC : SgOk (X ++ Z)) (hX : ∀ e ∈ X, a ≤ e.t ∧ e.f ≤ b) (hZ : ∀ e ∈ Z, ¬ (a ≤ e.t ∧ e.f ≤ b)) : SgOk (midC a b v X ++ (X.flatMap (pieces a b v) ++ Z)) := by
  obtain ⟨f1, f2, f3⟩ := frm_spec v X a
  obtain ⟨t1, t2, t3⟩ := too_spec v X b
  have hm : ∀ s, s ∈ midC a b v X ↔ v ≠ 0 ∧ s = ⟨frm a v X, too b v X, v⟩ := fun s => by
    unfold midC
    by_cases h : v = 0
    · simp [h]
    · rw [if_pos ⟨by omega, h⟩]; simp [h]
  have hpm : ∀ p, p ∈ X.flatMap (pieces a b v) ↔ ∃ e ∈ X, e.v ≠ v ∧ ((e.f < a ∧ p = ⟨e.f, a, e.v⟩) ∨ (b < e.t ∧ p = ⟨b, e.t, e.v⟩)) := fun p => by
    rw [List.mem_flatMap]
    constructor
    · rintro ⟨e, he, hp⟩
      exact ⟨e, he, (mem_pieces (hX e he).1 (hX e he).2).1 hp⟩
    · rintro ⟨e, he, hp⟩
      exact ⟨e, he, (mem_pieces (hX e he).1 (hX e he).2).2 hp⟩
  have one := hC.one
  obtain ⟨pX, pZ, pXZ⟩ := List.pairwise_append.1 hC.pair
  have dX := pair_ne pX
  have mids : v ≠ 0 → ∀ e ∈ X, e.v ≠ v → (e.f < a → frm a v X = a) ∧ (b < e.t → too b v X = b) := fun hv e he hev => by
    refine ⟨fun hlt => ?_, fun hlt => ?_⟩
    · rcases f2 with f2 | ⟨r, hr, hrv, hrf⟩
      · exact f2
      · have hne : e ≠ r := fun h => hev (h ▸ hrv)
        have := hX e he
        have := hX r hr
        have := one e (by simp [he])
        have := one r (by simp [hr])
        rcases dX e he r hr hne with d | d <;> omega
    · rcases t2 with t2 | ⟨r, hr, hrv, hrf⟩
      · exact t2
      · have hne : e ≠ r := fun h => hev (h ▸ hrv)
        have := hX e he
        have := hX r hr
        have := one e (by simp [he])
        have := one r (by simp [hr])
        rcases dX e he r hr hne with d | d <;> omega
  have zs : ∀ z ∈ Z, z.t < a ∨ b < z.f := fun z hz => by
    have := hZ z hz
    omega
  have fr1 : 1 ≤ frm a v X := by
    rcases f2 with f2 | ⟨r, hr, hrv, hrf⟩
    · omega
    · have := one r (by simp [hr]); omega
  have to1 : too b v X ≤ 3652060 := by
    rcases t2 with t2 | ⟨r, hr, hrv, hrf⟩
    · omega
    · have := one r (by simp [hr]); omega
  have dmz : ∀ z ∈ Z, dis ⟨frm a v X, too b v X, v⟩ z := fun z hz => by
    have hz1 := one z (by simp [hz])
    rcases zs z hz with h | h
    · refine .inr ?_
      show z.t ≤ frm a v X
      rcases f2 with f2 | ⟨r, hr, hrv, hrf⟩
      · omega
      · have := hX r hr
        rcases pXZ r hr z hz with d | d <;> omega
    · refine .inl ?_
      show too b v X ≤ z.f
      rcases t2 with t2 | ⟨r, hr, hrv, hrf⟩
      · omega
      · have := hX r hr
        rcases pXZ r hr z hz with d | d <;> omega
  refine ⟨fun s hs => ?_, ?_, ?_⟩
  · rcases List.mem_append.1 hs with hs | hs
    · obtain ⟨hv, rfl⟩ := (hm s).1 hs
      exact ⟨fr1, by show frm a v X < too b v X; omega, to1, hv⟩
    · rcases List.mem_append.1 hs with hs | hs
      · obtain ⟨e, he, hev, (⟨c, rfl⟩ | ⟨c, rfl⟩)⟩ := (hpm s).1 hs
        all_goals (have := one e (by simp [he]); have := hX e he; dsimp only; omega)
      · exact one s (by simp [hs])
  · refine List.pairwise_append.2 ⟨?_, List.pairwise_append.2 ⟨?_, pZ, ?_⟩, ?_⟩
    · unfold midC
      split
      · simp
      · simp
    · refine List.pairwise_flatMap.2 ⟨fun e he => ?_, List.Pairwise.imp_of_mem (fun {x y} hx hy hd p hp q hq => ?_) pX⟩
      · have h4 := hX e he
        unfold pieces
        rw [show min e.t a = a by omega, show max e.f b = b by omega]
        by_cases c1 : e.v = v <;> by_cases c2 : e.f < a <;> by_cases c3 : b < e.t <;> simp [c1, c2, c3, dis]
        omega
      · have h5 := hX x hx
        have h6 := hX y hy
        have := one x (by simp [hx])
        have := one y (by simp [hy])
        obtain ⟨_, (⟨c, rfl⟩ | ⟨c, rfl⟩)⟩ := (mem_pieces h5.1 h5.2).1 hp <;> obtain ⟨_, (⟨c', rfl⟩ | ⟨c', rfl⟩)⟩ := (mem_pieces h6.1 h6.2).1 hq
        all_goals (unfold dis at *; dsimp only; omega)
    · intro p hp z hz
      obtain ⟨e, he, hev, (⟨c, rfl⟩ | ⟨c, rfl⟩)⟩ := (hpm p).1 hp
      all_goals (have := hX e he; have := one e (by simp [he]); have := one z (by simp [hz]); have hd := pXZ e he z hz; have := zs z hz; unfold dis at *; dsimp only; omega)
    · intro s hs r hr
      obtain ⟨hv, rfl⟩ := (hm s).1 hs
      rcases List.mem_append.1 hr with hr | hr
      · obtain ⟨e, he, hev, (⟨c, rfl⟩ | ⟨c, rfl⟩)⟩ := (hpm r).1 hr
        · have := (mids hv e he hev).1 c
          exact .inr (by dsimp only; omega)
        · have := (mids hv e he hev).2 c
          exact .inl (by dsimp only; omega)
      · exact dmz r hr
  · intro s hs r hr hst
    have un := hC.unlike
    rcases List.mem_append.1 hs with hs | hs <;> rcases List.mem_append.1 hr with hr | hr
    · obtain ⟨hv, rfl⟩ := (hm s).1 hs
      obtain ⟨_, rfl⟩ := (hm r).1 hr
      dsimp only at hst
      omega
    · obtain ⟨hv, rfl⟩ := (hm s).1 hs
      dsimp only at hst ⊢
      rcases List.mem_append.1 hr with hr | hr
      · obtain ⟨e, he, hev, (⟨c, rfl⟩ | ⟨c, rfl⟩)⟩ := (hpm r).1 hr
        · exact Ne.symm hev
        · exact Ne.symm hev
      · have hr1 := one r (by simp [hr])
        rcases t2 with t2 | ⟨e, he, hev, het⟩
        · have := zs r hr; omega
        · rw [← hev]
          exact un e (by simp [he]) r (by simp [hr]) (by omega)
    · obtain ⟨hv, rfl⟩ := (hm r).1 hr
      dsimp only at hst ⊢
      rcases List.mem_append.1 hs with hs | hs
      · obtain ⟨e, he, hev, (⟨c, rfl⟩ | ⟨c, rfl⟩)⟩ := (hpm s).1 hs
        · exact hev
        · exact hev
      · have hs1 := one s (by simp [hs])
        rcases f2 with f2 | ⟨e, he, hev, het⟩
        · have := zs s hs; omega
        · rw [← hev]
          exact un s (by simp [hs]) e (by simp [he]) (by omega)
    · rcases List.mem_append.1 hs with hs | hs <;> rcases List.mem_append.1 hr with hr | hr
      · obtain ⟨e, he, hev, (⟨c, rfl⟩ | ⟨c, rfl⟩)⟩ := (hpm s).1 hs <;> obtain ⟨x, hx, hxv, (⟨c', rfl⟩ | ⟨c', rfl⟩)⟩ := (hpm r).1 hr
        · dsimp only at hst; omega
        · dsimp only at hst; omega
        · dsimp only at hst ⊢
          exact un e (by simp [he]) x (by simp [hx]) hst
        · dsimp only at hst; omega
      · obtain ⟨e, he, hev, (⟨c, rfl⟩ | ⟨c, rfl⟩)⟩ := (hpm s).1 hs
        · have := zs r hr
          have := one r (by simp [hr])
          dsimp only at hst; omega
        · dsimp only at hst ⊢
          exact un e (by simp [he]) r (by simp [hr]) hst
      · obtain ⟨e, he, hev, (⟨c, rfl⟩ | ⟨c, rfl⟩)⟩ := (hpm r).1 hr
        · dsimp only at hst ⊢
          exact un s (by simp [hs]) e (by simp [he]) hst
        · have := zs s hs
          have := one s (by simp [hs])
          dsimp only at hst; omega
      · exact un s (by simp [hs]) r (by simp [hr]) hst
theorem put_rep {a b v : Int} {g : Int → Int} (h2 : a < b) {X Z : List Sg} (hC : SgOk (X ++ Z)) (hR : Rep (X ++ Z) g) (hX : ∀ e ∈ X, a ≤ e.t ∧ e.f ≤ b) (hZ : ∀ e ∈ Z, ¬ (a ≤ e.t ∧ e.f ≤ b)) : Rep (midC a b v X ++ (X.flatMap (pieces a b v) ++ Z)) (upd g a b v) := by
  obtain ⟨f1, f2, f3⟩ := frm_spec v X a
  obtain ⟨t1, t2, t3⟩ := too_spec v X b
  have hm : ∀ s, s ∈ midC a b v X ↔ v ≠ 0 ∧ s = ⟨frm a v X, too b v X, v⟩ := fun s => by
    unfold midC
    by_cases h : v = 0
    · simp [h]
    · rw [if_pos ⟨by omega, h⟩]; simp [h]
  have hpm : ∀ p, p ∈ X.flatMap (pieces a b v) ↔ ∃ e ∈ X, e.v ≠ v ∧ ((e.f < a ∧ p = ⟨e.f, a, e.v⟩) ∨ (b < e.t ∧ p = ⟨b, e.t, e.v⟩)) := fun p => by
    rw [List.mem_flatMap]
    constructor
    · rintro ⟨e, he, hp⟩
      exact ⟨e, he, (mem_pieces (hX e he).1 (hX e he).2).1 hp⟩
    · rintro ⟨e, he, hp⟩
      exact ⟨e, he, (mem_pieces (hX e he).1 (hX e he).2).2 hp⟩
  have one := hC.one
  have zs : ∀ z ∈ Z, z.t < a ∨ b < z.f := fun z hz => by
    have := hZ z hz
    omega
  intro d
  refine ⟨fun s hs hd1 hd2 => ?_, fun hn => ?_⟩
  · rcases List.mem_append.1 hs with hs | hs
    · obtain ⟨hv, rfl⟩ := (hm s).1 hs
      dsimp only at hd1 hd2 ⊢
      unfold upd
      split
      · rfl
      · by_cases hda : d < a
        · rcases f2 with f2 | ⟨r, hr, hrv, hrf⟩
          · omega
          · rw [← hrv]
            have := hX r hr
            exact (hR d).1 r (by simp [hr]) (by omega) (by omega)
        · rcases t2 with t2 | ⟨r, hr, hrv, hrf⟩
          · omega
          · rw [← hrv]
            have := hX r hr
            exact (hR d).1 r (by simp [hr]) (by omega) (by omega)
    · rcases List.mem_append.1 hs with hs | hs
      · obtain ⟨e, he, hev, (⟨c, rfl⟩ | ⟨c, rfl⟩)⟩ := (hpm s).1 hs
        all_goals
          have := hX e he
          dsimp only at hd1 hd2 ⊢
          unfold upd
          rw [if_neg (by omega)]
          exact (hR d).1 e (by simp [he]) (by omega) (by omega)
      · have := zs s hs
        unfold upd
        rw [if_neg (by omega)]
        exact (hR d).1 s (by simp [hs]) hd1 hd2
  · unfold upd
    split
    · rename_i hab
      refine Classical.byContradiction fun hv => ?_
      exact hn ⟨frm a v X, too b v X, v⟩ (List.mem_append.2 (.inl ((hm _).2 ⟨hv, rfl⟩))) ⟨by dsimp only; omega, by dsimp only; omega⟩
    · rename_i hab
      refine (hR d).2 fun s hs hc => ?_
      rcases List.mem_append.1 hs with hs | hs
      · have h1 := one s (by simp [hs])
        have h5 := hX s hs
        by_cases hsv : s.v = v
        · have h6 := f3 s hs hsv
          have h7 := t3 s hs hsv
          exact hn ⟨frm a v X, too b v X, v⟩ (List.mem_append.2 (.inl ((hm _).2 ⟨by omega, rfl⟩))) ⟨by dsimp only; omega, by dsimp only; omega⟩
        · by_cases hda : d < a
          · exact hn ⟨s.f, a, s.v⟩ (List.mem_append.2 (.inr (List.mem_append.2 (.inl ((hpm _).2 ⟨s, hs, hsv, .inl ⟨by omega, rfl⟩⟩))))) ⟨by dsimp only; omega, by dsimp only; omega⟩
          · exact hn ⟨b, s.t, s.v⟩ (List.mem_append.2 (.inr (List.mem_append.2 (.inl ((hpm _).2 ⟨s, hs, hsv, .inr ⟨by omega, rfl⟩⟩))))) ⟨by dsimp only; omega, by dsimp only; omega⟩
      · exact hn s (by simp [hs]) hc
end Go.Proofs.Ytngglpekdjhbdaa
