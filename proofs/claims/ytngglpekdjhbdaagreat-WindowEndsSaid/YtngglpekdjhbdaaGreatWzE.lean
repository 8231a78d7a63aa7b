/- Layer 8 in plain: what an insertion and a deletion keep. No program is named here. -/
import Derived.Test.YtngglpekdjhbdaaGreatWzB
namespace Go.Proofs.YtngglpekdjhbdaaGreat
set_option linter.unusedSimpArgs false
set_option linter.unusedVariables false

/-- An item, and how two are ordered. -/
structure It where
  f : Int
  t : Int
  i : Int
deriving DecidableEq
def cmpI (a b : Int) : Int := if a < b then -1 else if b < a then 1 else 0
def ordI (a b : It) : Int := if cmpI a.f b.f ≠ 0 then cmpI a.f b.f else if cmpI a.t b.t ≠ 0 then cmpI a.t b.t else cmpI a.i b.i
theorem cmpI_lt {a b : Int} : cmpI a b < 0 ↔ a < b := by unfold cmpI; split <;> (try split) <;> omega
theorem cmpI_zero {a b : Int} : cmpI a b = 0 ↔ a = b := by unfold cmpI; split <;> (try split) <;> omega
theorem cmpI_pos {a b : Int} : 0 < cmpI a b ↔ b < a := by unfold cmpI; split <;> (try split) <;> omega
theorem ordI_zero {a b : It} : ordI a b = 0 ↔ a = b := by
  obtain ⟨a1, a2, a3⟩ := a
  obtain ⟨b1, b2, b3⟩ := b
  unfold ordI cmpI
  simp only [It.mk.injEq]
  repeat' split
  all_goals omega
theorem ordI_neg {a b : It} : ordI a b < 0 ↔ (a.f < b.f ∨ a.f = b.f ∧ (a.t < b.t ∨ a.t = b.t ∧ a.i < b.i)) := by
  unfold ordI cmpI
  repeat' split
  all_goals omega
theorem ordI_pos {a b : It} : 0 < ordI a b ↔ (b.f < a.f ∨ b.f = a.f ∧ (b.t < a.t ∨ b.t = a.t ∧ b.i < a.i)) := by
  unfold ordI cmpI
  repeat' split
  all_goals omega
theorem ordI_trans {a b c : It} (h1 : ordI a b < 0) (h2 : ordI b c < 0) : ordI a c < 0 := by
  rw [ordI_neg] at *
  omega
theorem ordI_flip {a b : It} : ordI a b < 0 ↔ 0 < ordI b a := by
  rw [ordI_neg, ordI_pos]

/-- A tree, with the place of each node. -/
inductive Tr where
  | nil
  | node (p : Nat) (l : Tr) (x : It) (r : Tr)
namespace Tr
def ht : Tr → Int
  | nil => 0
  | node _ l _ r => 1 + max l.ht r.ht
def top : Tr → Int
  | nil => 0
  | node _ l x r => max (max x.t (match l with | nil => x.t | node .. => l.top)) (match r with | nil => x.t | node .. => r.top)
def items : Tr → List It
  | nil => []
  | node _ l x r => l.items ++ x :: r.items
def places : Tr → List Nat
  | nil => []
  | node p l _ r => p :: (l.places ++ r.places)
def size : Tr → Nat
  | nil => 0
  | node _ l _ r => l.size + 1 + r.size
def avl : Tr → Prop
  | nil => True
  | node _ l _ r => l.avl ∧ r.avl ∧ l.ht - r.ht ≤ 1 ∧ r.ht - l.ht ≤ 1
def at_ : Tr → Int
  | nil => -1
  | node p _ _ _ => p
theorem ht_nonneg : ∀ T : Tr, 0 ≤ T.ht
  | nil => by simp [ht]
  | node _ l _ r => by
    have := ht_nonneg l
    unfold ht
    omega
theorem ht_zero {T : Tr} (h : T.ht ≤ 0) : T = nil := by
  cases T with
  | nil => rfl
  | node p l x r =>
    have := ht_nonneg l
    simp only [ht] at h
    omega
theorem items_len : ∀ T : Tr, T.items.length = T.size
  | nil => rfl
  | node _ l _ r => by
    simp [items, size, items_len l, items_len r]; omega
theorem places_len : ∀ T : Tr, T.places.length = T.size
  | nil => rfl
  | node _ l _ r => by
    simp [places, size, places_len l, places_len r]; omega
/-- A balanced tree is not high. -/
theorem size_ge : ∀ T : Tr, T.avl → ∀ k : Nat, 2 * (k : Int) ≤ T.ht → 2 ^ k ≤ T.size + 1
  | nil, _, k, h => by
    simp [ht] at h
    have : k = 0 := by omega
    subst this
    simp
  | node _ l _ r, hA, 0, h => by simp
  | node _ l _ r, ⟨hl, hr, h1, h2⟩, k + 1, h => by
    simp only [ht] at h
    have el := size_ge l hl k (by omega)
    have er := size_ge r hr k (by omega)
    simp only [size]
    rw [Nat.pow_succ]
    omega
theorem ht_le {T : Tr} (hA : T.avl) (k : Nat) (h : T.size + 1 < 2 ^ k) : T.ht < 2 * k := by
  by_cases h2 : 2 * (k : Int) ≤ T.ht
  · have := size_ge T hA k h2
    omega
  · omega

/-! ### turns -/
/-- a node above its right side's place, turned to the left -/
def rotL (p : Nat) (l : Tr) (x : It) : Tr → Tr
  | nil => node p l x nil
  | node q a y b => node q (node p l x a) y b
def rotR (p : Nat) : Tr → It → Tr → Tr
  | nil, x, r => node p nil x r
  | node q a y b, x, r => node q a y (node p b x r)
/-- A node, balanced. -/
def mend (p : Nat) (l : Tr) (x : It) (r : Tr) : Tr :=
  if r.ht - l.ht > 1 then
    match r with
    | nil => node p l x nil
    | node q a y b => if a.ht > b.ht then rotL p l x (rotR q a y b) else rotL p l x (node q a y b)
  else if l.ht - r.ht > 1 then
    match l with
    | nil => node p nil x r
    | node q a y b => if b.ht > a.ht then rotR p (rotL q a y b) x r else rotR p (node q a y b) x r
  else node p l x r
theorem items_rotL (p : Nat) (l : Tr) (x : It) (r : Tr) : (rotL p l x r).items = l.items ++ x :: r.items := by
  cases r <;> simp [rotL, items]
theorem items_rotR (p : Nat) (l : Tr) (x : It) (r : Tr) : (rotR p l x r).items = l.items ++ x :: r.items := by
  cases l <;> simp [rotR, items]
theorem items_mend (p : Nat) (l : Tr) (x : It) (r : Tr) : (mend p l x r).items = l.items ++ x :: r.items := by
  unfold mend
  split
  · cases r with
    | nil => simp [items]
    | node q a y b =>
      dsimp only
      split
      · rw [items_rotL, items_rotR]; simp [items]
      · rw [items_rotL]
  · split
    · cases l with
      | nil => simp [items]
      | node q a y b =>
        dsimp only
        split
        · rw [items_rotR, items_rotL]; simp [items]
        · rw [items_rotR]
    · simp [items]
theorem places_rotL (p : Nat) (l : Tr) (x : It) (r : Tr) : (rotL p l x r).places.Perm (p :: (l.places ++ r.places)) := by
  cases r with
  | nil => exact List.Perm.refl _
  | node q a y b =>
    simp only [rotL, places]
    rw [List.cons_append, List.append_assoc]
    refine (List.Perm.swap _ _ _).trans (List.Perm.cons _ ?_)
    exact (List.perm_middle (a := q) (l₁ := l.places) (l₂ := a.places ++ b.places)).symm
theorem places_rotR (p : Nat) (l : Tr) (x : It) (r : Tr) : (rotR p l x r).places.Perm (p :: (l.places ++ r.places)) := by
  cases l with
  | nil => exact List.Perm.refl _
  | node q a y b =>
    simp only [rotR, places]
    refine (List.Perm.cons q (List.perm_middle (a := p))).trans ?_
    refine (List.Perm.swap _ _ _).trans (List.Perm.cons _ ?_)
    simp
theorem places_mend (p : Nat) (l : Tr) (x : It) (r : Tr) : (mend p l x r).places.Perm (p :: (l.places ++ r.places)) := by
  unfold mend
  split
  · cases r with
    | nil => exact List.Perm.refl _
    | node q a y b =>
      dsimp only
      split
      · refine (places_rotL _ _ _ _).trans (List.Perm.cons _ (List.Perm.append_left _ ?_))
        exact places_rotR q a y b
      · exact places_rotL _ _ _ _
  · split
    · cases l with
      | nil => exact List.Perm.refl _
      | node q a y b =>
        dsimp only
        split
        · refine (places_rotR _ _ _ _).trans (List.Perm.cons _ (List.Perm.append_right _ ?_))
          exact places_rotL q a y b
        · exact places_rotR _ _ _ _
    · exact List.Perm.refl _
/-- Sides that differ by two at most make a balanced tree, no higher, and lower by one at most. -/
theorem mend_avl (p : Nat) (l : Tr) (x : It) (r : Tr) (hl : l.avl) (hr : r.avl) (h1 : l.ht - r.ht ≤ 2) (h2 : r.ht - l.ht ≤ 2) :
    (mend p l x r).avl ∧ (mend p l x r).ht ≤ 1 + max l.ht r.ht ∧ max l.ht r.ht ≤ (mend p l x r).ht ∧ ((l.ht - r.ht ≤ 1 ∧ r.ht - l.ht ≤ 1) → (mend p l x r).ht = 1 + max l.ht r.ht) := by
  unfold mend
  split
  · rename_i hgt
    cases r with
    | nil => have := ht_nonneg l; simp [ht] at hgt; omega
    | node q a y b =>
      obtain ⟨ha, hb, h3, h4⟩ := hr
      have := ht_nonneg l
      simp only [ht] at hgt h1 h2 ⊢
      split
      · rename_i hab
        cases a with
        | nil => have := ht_nonneg b; simp [ht] at hab; omega
        | node s c z d =>
          obtain ⟨hc, hd, h5, h6⟩ := ha
          simp only [ht] at hab h3 h4 hgt h1 h2 ⊢
          simp only [rotR, rotL, avl, ht]
          refine ⟨⟨⟨hl, hc, ?_, ?_⟩, ⟨hd, hb, ?_, ?_⟩, ?_, ?_⟩, ?_, ?_, ?_⟩ <;> omega
      · rename_i hab
        simp only [rotL, avl, ht]
        refine ⟨⟨⟨hl, ha, ?_, ?_⟩, hb, ?_, ?_⟩, ?_, ?_, ?_⟩ <;> omega
  · split
    · rename_i hle hgt
      cases l with
      | nil => have := ht_nonneg r; simp [ht] at hgt; omega
      | node q a y b =>
        obtain ⟨ha, hb, h3, h4⟩ := hl
        have := ht_nonneg r
        simp only [ht] at hle hgt h1 h2 ⊢
        split
        · rename_i hab
          cases b with
          | nil => have := ht_nonneg a; simp [ht] at hab; omega
          | node s c z d =>
            obtain ⟨hc, hd, h5, h6⟩ := hb
            simp only [ht] at hab h3 h4 hle hgt h1 h2 ⊢
            simp only [rotR, rotL, avl, ht]
            refine ⟨⟨⟨ha, hc, ?_, ?_⟩, ⟨hd, hr, ?_, ?_⟩, ?_, ?_⟩, ?_, ?_, ?_⟩ <;> omega
        · rename_i hab
          simp only [rotR, avl, ht]
          refine ⟨⟨ha, ⟨hb, hr, ?_, ?_⟩, ?_, ?_⟩, ?_, ?_, ?_⟩ <;> omega
    · exact ⟨⟨hl, hr, by omega, by omega⟩, Int.le_refl _, by simp only [ht]; omega, fun _ => rfl⟩

/-! ### insertion, deletion -/
def ins (q : Nat) (x : It) : Tr → Tr
  | nil => node q nil x nil
  | node p l y r => if ordI x y < 0 then mend p (ins q x l) y r else mend p l y (ins q x r)
/-- the least item of a tree that is not empty, its place, and the tree without it -/
def delMin : Nat → Tr → It → Tr → Nat × It × Tr
  | p, nil, x, r => (p, x, r)
  | p, node q a y b, x, r => let m := delMin q a y b; (m.1, m.2.1, mend p m.2.2 x r)
/-- a tree without an item, and the place that is free then -/
def del (x : It) : Tr → Option (Nat × Tr)
  | nil => none
  | node p l y r =>
    if ordI x y < 0 then (del x l).map fun m => (m.1, mend p m.2 y r)
    else if 0 < ordI x y then (del x r).map fun m => (m.1, mend p l y m.2)
    else match l, r with
      | nil, r => some (p, r)
      | l, nil => some (p, l)
      | l, node q a z b => let m := delMin q a z b; some (m.1, mend p l m.2.1 m.2.2)
end Tr
end Go.Proofs.YtngglpekdjhbdaaGreat
namespace Go.Proofs.YtngglpekdjhbdaaGreat
set_option linter.unusedSimpArgs false
set_option linter.unusedVariables false
namespace Tr
def Lt (a b : It) : Prop := ordI a b < 0
def srt (T : Tr) : Prop := T.items.Pairwise Lt
theorem ins_avl (q : Nat) (x : It) : ∀ T : Tr, T.avl → (ins q x T).avl ∧ T.ht ≤ (ins q x T).ht ∧ (ins q x T).ht ≤ T.ht + 1
  | nil, _ => by simp [ins, avl, ht]
  | node p l y r, ⟨hl, hr, h1, h2⟩ => by
    unfold ins
    split
    · obtain ⟨a1, a2, a3⟩ := ins_avl q x l hl
      obtain ⟨b1, b2, b3, b4⟩ := mend_avl p (ins q x l) y r a1 hr (by omega) (by omega)
      refine ⟨b1, ?_, ?_⟩
      · simp only [ht]
        by_cases hc : (ins q x l).ht - r.ht ≤ 1 ∧ r.ht - (ins q x l).ht ≤ 1
        · have := b4 hc; omega
        · omega
      · simp only [ht]; omega
    · obtain ⟨a1, a2, a3⟩ := ins_avl q x r hr
      obtain ⟨b1, b2, b3, b4⟩ := mend_avl p l y (ins q x r) hl a1 (by omega) (by omega)
      refine ⟨b1, ?_, ?_⟩
      · simp only [ht]
        by_cases hc : l.ht - (ins q x r).ht ≤ 1 ∧ (ins q x r).ht - l.ht ≤ 1
        · have := b4 hc; omega
        · omega
      · simp only [ht]; omega
theorem ins_places (q : Nat) (x : It) : ∀ T : Tr, (ins q x T).places.Perm (q :: T.places)
  | nil => by simp [ins, places]
  | node p l y r => by
    unfold ins
    split
    · refine (places_mend _ _ _ _).trans ?_
      refine (List.Perm.cons p ((ins_places q x l).append_right r.places)).trans ?_
      exact List.Perm.swap _ _ _
    · refine (places_mend _ _ _ _).trans ?_
      refine (List.Perm.cons p ((ins_places q x r).append_left l.places)).trans ?_
      refine (List.Perm.cons p List.perm_middle).trans ?_
      exact List.Perm.swap _ _ _
theorem srt_node {p : Nat} {l : Tr} {y : It} {r : Tr} (h : srt (node p l y r)) : srt l ∧ srt r ∧ (∀ a ∈ l.items, Lt a y) ∧ (∀ b ∈ r.items, Lt y b) := by
  unfold srt at h
  simp only [items] at h
  obtain ⟨h1, h2, h3⟩ := List.pairwise_append.1 h
  obtain ⟨h4, h5⟩ := List.pairwise_cons.1 h2
  exact ⟨h1, h5, fun a ha => h3 a ha y (by simp), h4⟩
theorem filter_all {l : List It} {P : It → Bool} (h : ∀ a ∈ l, P a = true) : l.filter P = l := List.filter_eq_self.2 h
theorem filter_none {l : List It} {P : It → Bool} (h : ∀ a ∈ l, P a = false) : l.filter P = [] := List.filter_eq_nil_iff.2 fun a ha => by simp [h a ha]
theorem ins_items (q : Nat) (x : It) : ∀ T : Tr, srt T → x ∉ T.items → (ins q x T).items = T.items.filter (fun y => decide (ordI y x < 0)) ++ x :: T.items.filter (fun y => decide (0 < ordI y x))
  | nil, _, _ => by simp [ins, items]
  | node p l y r, hS, hx => by
    obtain ⟨s1, s2, s3, s4⟩ := srt_node hS
    simp only [items, List.mem_append, List.mem_cons, not_or] at hx
    obtain ⟨x1, x2, x3⟩ := hx
    unfold ins
    simp only [items, List.filter_append, List.filter_cons]
    split
    · rename_i hc
      have hyx : 0 < ordI y x := ordI_flip.1 hc
      have e1 : r.items.filter (fun y => decide (ordI y x < 0)) = [] := filter_none fun b hb => by
        have := ordI_flip.1 (ordI_trans hc (s4 b hb))
        simp; omega
      have e2 : r.items.filter (fun y => decide (0 < ordI y x)) = r.items := filter_all fun b hb => by
        have := ordI_flip.1 (ordI_trans hc (s4 b hb))
        simpa using this
      rw [items_mend, ins_items q x l s1 x1, e1, e2, if_neg (by simp; omega), if_pos (by simpa using hyx)]
      simp
    · rename_i hc
      have hne : ordI x y ≠ 0 := fun h => x2 (ordI_zero.1 h)
      have hyx : ordI y x < 0 := ordI_flip.2 (by omega)
      have e1 : l.items.filter (fun y => decide (ordI y x < 0)) = l.items := filter_all fun b hb => by
        have := ordI_trans (s3 b hb) hyx
        simpa using this
      have e2 : l.items.filter (fun y => decide (0 < ordI y x)) = [] := filter_none fun b hb => by
        have := ordI_trans (s3 b hb) hyx
        simp; omega
      rw [items_mend, ins_items q x r s2 x3, e1, e2, if_pos (by simpa using hyx), if_neg (by simp; omega)]
      simp
theorem delMin_items : ∀ (l : Tr) (p : Nat) (x : It) (r : Tr), (delMin p l x r).2.1 :: (delMin p l x r).2.2.items = l.items ++ x :: r.items
  | nil, p, x, r => by simp [delMin, items]
  | node q a y b, p, x, r => by
    have := delMin_items a q y b
    simp only [delMin, items, items_mend] at this ⊢
    rw [← List.cons_append, this]
theorem delMin_places : ∀ (l : Tr) (p : Nat) (x : It) (r : Tr), ((delMin p l x r).1 :: (delMin p l x r).2.2.places).Perm (p :: (l.places ++ r.places))
  | nil, p, x, r => by simp [delMin, places]
  | node q a y b, p, x, r => by
    have := delMin_places a q y b
    simp only [delMin, places]
    refine (List.Perm.cons _ (places_mend _ _ _ _)).trans ?_
    refine (List.Perm.swap _ _ _).trans (List.Perm.cons p ?_)
    rw [← List.cons_append]
    exact this.append_right _
theorem delMin_avl : ∀ (l : Tr) (p : Nat) (x : It) (r : Tr), (node p l x r).avl → (delMin p l x r).2.2.avl ∧ (delMin p l x r).2.2.ht ≤ (node p l x r).ht ∧ (node p l x r).ht ≤ (delMin p l x r).2.2.ht + 1
  | nil, p, x, r, ⟨hl, hr, h1, h2⟩ => by
    have := ht_nonneg r
    simp only [delMin, ht] at *
    exact ⟨hr, by omega, by omega⟩
  | node q a y b, p, x, r, ⟨hl, hr, h1, h2⟩ => by
    obtain ⟨a1, a2, a3⟩ := delMin_avl a q y b hl
    simp only [delMin]
    obtain ⟨b1, b2, b3, b4⟩ := mend_avl p (delMin q a y b).2.2 x r a1 hr (by omega) (by omega)
    refine ⟨b1, ?_, ?_⟩
    · simp only [ht] at *; omega
    · by_cases hc : (delMin q a y b).2.2.ht - r.ht ≤ 1 ∧ r.ht - (delMin q a y b).2.2.ht ≤ 1
      · have := b4 hc; simp only [ht] at *; omega
      · simp only [ht] at *; omega
theorem del_none (x : It) : ∀ T : Tr, srt T → x ∉ T.items → del x T = none
  | nil, _, _ => rfl
  | node p l y r, hS, hx => by
    obtain ⟨s1, s2, s3, s4⟩ := srt_node hS
    simp only [items, List.mem_append, List.mem_cons, not_or] at hx
    obtain ⟨x1, x2, x3⟩ := hx
    have hne : ordI x y ≠ 0 := fun h => x2 (ordI_zero.1 h)
    unfold del
    split
    · rw [del_none x l s1 x1]; rfl
    · rw [if_pos (by omega), del_none x r s2 x3]; rfl
/-- what a deletion leaves -/
structure Deleted (x : It) (T : Tr) (q : Nat) (T' : Tr) : Prop where
  items : T'.items = T.items.filter (fun y => decide (ordI y x ≠ 0))
  places : (q :: T'.places).Perm T.places
  avl : T.avl → T'.avl ∧ T'.ht ≤ T.ht ∧ T.ht ≤ T'.ht + 1
theorem del_some (x : It) : ∀ T : Tr, srt T → x ∈ T.items → ∃ q T', del x T = some (q, T') ∧ Deleted x T q T'
  | nil, _, hx => by simp [items] at hx
  | node p l y r, hS, hx => by
    obtain ⟨s1, s2, s3, s4⟩ := srt_node hS
    unfold del
    by_cases hc : ordI x y < 0
    · rw [if_pos hc]
      have hyx : 0 < ordI y x := ordI_flip.1 hc
      have hxl : x ∈ l.items := by
        simp only [items, List.mem_append, List.mem_cons] at hx
        rcases hx with h | h | h
        · exact h
        · rw [h, ordI_zero.2 rfl] at hc; omega
        · have := ordI_flip.1 (s4 x h); omega
      obtain ⟨q, T', e, ⟨i1, i2, i3⟩⟩ := del_some x l s1 hxl
      rw [e]
      refine ⟨q, _, rfl, ?_, ?_, ?_⟩
      · have e2 : r.items.filter (fun y => decide (ordI y x ≠ 0)) = r.items := filter_all fun b hb => by
          have := ordI_flip.1 (ordI_trans hc (s4 b hb))
          simp; omega
        rw [items_mend, i1]
        simp only [items, List.filter_append, List.filter_cons]
        rw [if_pos (by simp; omega), e2]
      · refine (List.Perm.cons q (places_mend _ _ _ _)).trans ?_
        refine (List.Perm.swap _ _ _).trans (List.Perm.cons p ?_)
        exact i2.append_right r.places
      · intro ⟨hl, hr, h1, h2⟩
        obtain ⟨a1, a2, a3⟩ := i3 hl
        obtain ⟨b1, b2, b3, b4⟩ := mend_avl p T' y r a1 hr (by omega) (by omega)
        refine ⟨b1, ?_, ?_⟩
        · simp only [ht] at *; omega
        · by_cases hq : T'.ht - r.ht ≤ 1 ∧ r.ht - T'.ht ≤ 1
          · have := b4 hq; simp only [ht] at *; omega
          · simp only [ht] at *; omega
    · rw [if_neg hc]
      by_cases hd : 0 < ordI x y
      · rw [if_pos hd]
        have hyx : ordI y x < 0 := ordI_flip.2 hd
        have hxr : x ∈ r.items := by
          simp only [items, List.mem_append, List.mem_cons] at hx
          rcases hx with h | h | h
          · have := s3 x h; unfold Lt at this; omega
          · rw [h, ordI_zero.2 rfl] at hd; omega
          · exact h
        obtain ⟨q, T', e, ⟨i1, i2, i3⟩⟩ := del_some x r s2 hxr
        rw [e]
        refine ⟨q, _, rfl, ?_, ?_, ?_⟩
        · have e2 : l.items.filter (fun y => decide (ordI y x ≠ 0)) = l.items := filter_all fun b hb => by
            have := ordI_trans (s3 b hb) hyx
            simp; omega
          rw [items_mend, i1]
          simp only [items, List.filter_append, List.filter_cons]
          rw [if_pos (by simp; omega), e2]
        · refine (List.Perm.cons q (places_mend _ _ _ _)).trans ?_
          refine (List.Perm.swap _ _ _).trans (List.Perm.cons p ?_)
          exact List.perm_middle.symm.trans (i2.append_left l.places)
        · intro ⟨hl, hr, h1, h2⟩
          obtain ⟨a1, a2, a3⟩ := i3 hr
          obtain ⟨b1, b2, b3, b4⟩ := mend_avl p l y T' hl a1 (by omega) (by omega)
          refine ⟨b1, ?_, ?_⟩
          · simp only [ht] at *; omega
          · by_cases hq : l.ht - T'.ht ≤ 1 ∧ T'.ht - l.ht ≤ 1
            · have := b4 hq; simp only [ht] at *; omega
            · simp only [ht] at *; omega
      · rw [if_neg hd]
        have hxy : x = y := ordI_zero.1 (by omega)
        subst hxy
        have e1 : l.items.filter (fun y => decide (ordI y x ≠ 0)) = l.items := filter_all fun b hb => by
          have := s3 b hb
          unfold Lt at this
          simp; omega
        have e2 : r.items.filter (fun y => decide (ordI y x ≠ 0)) = r.items := filter_all fun b hb => by
          have := ordI_flip.1 (s4 b hb)
          simp; omega
        have ei : (node p l x r).items.filter (fun y => decide (ordI y x ≠ 0)) = l.items ++ r.items := by
          simp only [items, List.filter_append, List.filter_cons]
          rw [if_neg (by simp [ordI_zero]), e1, e2]
        match l, r, s1, s2, s3, s4, ei with
        | nil, r, _, _, _, _, ei =>
          refine ⟨p, r, rfl, by rw [ei]; simp [items], by simp [places], fun ⟨hl, hr, h1, h2⟩ => ?_⟩
          have := ht_nonneg r
          simp only [ht] at *
          exact ⟨hr, by omega, by omega⟩
        | node p1 l1 y1 r1, nil, _, _, _, _, ei =>
          refine ⟨p, node p1 l1 y1 r1, rfl, by rw [ei]; simp [items], by simp [places], fun ⟨hl, hr, h1, h2⟩ => ?_⟩
          have := ht_nonneg (node p1 l1 y1 r1)
          simp only [ht] at *
          exact ⟨hl, by omega, by omega⟩
        | node p1 l1 y1 r1, node q a z b, _, _, _, _, ei =>
          have hm := delMin_items a q z b
          have hp := delMin_places a q z b
          refine ⟨_, _, rfl, ?_, ?_, fun ⟨hl, hr, h1, h2⟩ => ?_⟩
          · rw [ei, items_mend, hm]
            simp [items]
          · refine (List.Perm.cons _ (places_mend _ _ _ _)).trans ?_
            refine (List.Perm.swap _ _ _).trans (List.Perm.cons p ?_)
            refine List.perm_middle.symm.trans ?_
            exact hp.append_left _
          · obtain ⟨a1, a2, a3⟩ := delMin_avl a q z b hr
            obtain ⟨b1, b2, b3, b4⟩ := mend_avl p (node p1 l1 y1 r1) (delMin q a z b).2.1 (delMin q a z b).2.2 hl a1 (by omega) (by omega)
            have hx1 : (node p (node p1 l1 y1 r1) x (node q a z b)).ht = 1 + max (node p1 l1 y1 r1).ht (node q a z b).ht := rfl
            refine ⟨b1, by omega, ?_⟩
            by_cases hq : (node p1 l1 y1 r1).ht - (delMin q a z b).2.2.ht ≤ 1 ∧ (delMin q a z b).2.2.ht - (node p1 l1 y1 r1).ht ≤ 1
            · have := b4 hq; omega
            · omega
end Tr
end Go.Proofs.YtngglpekdjhbdaaGreat
