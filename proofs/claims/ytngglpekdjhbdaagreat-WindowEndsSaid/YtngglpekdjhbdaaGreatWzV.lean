/- Layer 11 at values: a timeline of values in memory, its values by their numbers. -/
import Derived.Test.YtngglpekdjhbdaaGreatWzP
import Derived.Test.YtngglpekdjhbdaaGreatWzD
import Derived.Test.YtngglpekdjhbdaaGreatWzU
import Derived.WalkKit
import Derived.Test.YtngglpekdjhbdaaGreatWzT
namespace Go.Proofs.YtngglpekdjhbdaaGreat
set_option linter.unusedSimpArgs false
set_option linter.unusedVariables false

structure Sg where
  f : Int
  t : Int
  v : Int
deriving DecidableEq
def dis (a b : Sg) : Prop := a.t ≤ b.f ∨ b.t ≤ a.f
theorem dis.symm {a b : Sg} (h : dis a b) : dis b a := Or.symm h
structure SgOk (C : List Sg) : Prop where
  one : ∀ s ∈ C, 1 ≤ s.f ∧ s.f < s.t ∧ s.t ≤ 3652060 ∧ s.v ≠ 0
  pair : C.Pairwise dis
  unlike : ∀ s ∈ C, ∀ r ∈ C, s.t = r.f → s.v ≠ r.v
def Rep (C : List Sg) (g : Int → Int) : Prop := ∀ d, (∀ s ∈ C, s.f ≤ d → d < s.t → g d = s.v) ∧ ((∀ s ∈ C, ¬ (s.f ≤ d ∧ d < s.t)) → g d = 0)
theorem SgOk.perm {C D : List Sg} (h : SgOk C) (p : C.Perm D) : SgOk D :=
  ⟨fun s hs => h.one s (p.mem_iff.2 hs), (p.pairwise_iff (fun h => h.symm)).1 h.pair, fun s hs r hr => h.unlike s (p.mem_iff.2 hs) r (p.mem_iff.2 hr)⟩
theorem Rep.perm {C D : List Sg} {g : Int → Int} (h : Rep C g) (p : C.Perm D) : Rep D g := fun d =>
  ⟨fun s hs => (h d).1 s (p.mem_iff.2 hs), fun hn => (h d).2 fun s hs => hn s (p.mem_iff.1 hs)⟩
/-- what is left of a segment beside the days of a put -/
def pieces (a b v : Int) (e : Sg) : List Sg :=
  if e.v = v then [] else (if e.f < min e.t a then [⟨e.f, min e.t a, e.v⟩] else []) ++ (if max e.f b < e.t then [⟨max e.f b, e.t, e.v⟩] else [])
def frm (a v : Int) (X : List Sg) : Int := X.foldl (fun m e => if e.v = v then min m e.f else m) a
def too (b v : Int) (X : List Sg) : Int := X.foldl (fun m e => if e.v = v then max m e.t else m) b
theorem frm_spec (v : Int) : ∀ (X : List Sg) (a : Int), frm a v X ≤ a ∧ (frm a v X = a ∨ ∃ e ∈ X, e.v = v ∧ e.f = frm a v X) ∧ ∀ e ∈ X, e.v = v → frm a v X ≤ e.f
  | [], a => by simp [frm]
  | x :: X, a => by
    by_cases hx : x.v = v
    · have e : frm a v (x :: X) = frm (min a x.f) v X := by simp [frm, hx]
      obtain ⟨h1, h2, h3⟩ := frm_spec v X (min a x.f)
      rw [e]
      refine ⟨by omega, ?_, fun y hy hv => ?_⟩
      · rcases h2 with h2 | ⟨y, hy, h4, h5⟩
        · by_cases h6 : x.f < a
          · exact .inr ⟨x, by simp, hx, by omega⟩
          · exact .inl (by omega)
        · exact .inr ⟨y, by simp [hy], h4, h5⟩
      · rcases List.mem_cons.1 hy with rfl | hy
        · omega
        · exact h3 y hy hv
    · have e : frm a v (x :: X) = frm a v X := by simp [frm, hx]
      obtain ⟨h1, h2, h3⟩ := frm_spec v X a
      rw [e]
      refine ⟨h1, ?_, fun y hy hv => ?_⟩
      · rcases h2 with h2 | ⟨y, hy, h4, h5⟩
        · exact .inl h2
        · exact .inr ⟨y, by simp [hy], h4, h5⟩
      · rcases List.mem_cons.1 hy with rfl | hy
        · exact absurd hv hx
        · exact h3 y hy hv
theorem too_spec (v : Int) : ∀ (X : List Sg) (b : Int), b ≤ too b v X ∧ (too b v X = b ∨ ∃ e ∈ X, e.v = v ∧ e.t = too b v X) ∧ ∀ e ∈ X, e.v = v → e.t ≤ too b v X
  | [], a => by simp [too]
  | x :: X, a => by
    by_cases hx : x.v = v
    · have e : too a v (x :: X) = too (max a x.t) v X := by simp [too, hx]
      obtain ⟨h1, h2, h3⟩ := too_spec v X (max a x.t)
      rw [e]
      refine ⟨by omega, ?_, fun y hy hv => ?_⟩
      · rcases h2 with h2 | ⟨y, hy, h4, h5⟩
        · by_cases h6 : a < x.t
          · exact .inr ⟨x, by simp, hx, by omega⟩
          · exact .inl (by omega)
        · exact .inr ⟨y, by simp [hy], h4, h5⟩
      · rcases List.mem_cons.1 hy with rfl | hy
        · omega
        · exact h3 y hy hv
    · have e : too a v (x :: X) = too a v X := by simp [too, hx]
      obtain ⟨h1, h2, h3⟩ := too_spec v X a
      rw [e]
      refine ⟨h1, ?_, fun y hy hv => ?_⟩
      · rcases h2 with h2 | ⟨y, hy, h4, h5⟩
        · exact .inl h2
        · exact .inr ⟨y, by simp [hy], h4, h5⟩
      · rcases List.mem_cons.1 hy with rfl | hy
        · exact absurd hv hx
        · exact h3 y hy hv
theorem mem_pieces {a b v : Int} {e p : Sg} (ha : a ≤ e.t) (hb : e.f ≤ b) : p ∈ pieces a b v e ↔ e.v ≠ v ∧ ((e.f < a ∧ p = ⟨e.f, a, e.v⟩) ∨ (b < e.t ∧ p = ⟨b, e.t, e.v⟩)) := by
  unfold pieces
  rw [show min e.t a = a by omega, show max e.f b = b by omega]
  by_cases h1 : e.v = v
  · simp [h1]
  · rw [if_neg h1]
    by_cases h2 : e.f < a <;> by_cases h3 : b < e.t <;> simp [h1, h2, h3]
theorem count_one {α : Type} (p : α → Bool) : ∀ {l : List α}, l.Pairwise (fun x y => ¬ (p x = true ∧ p y = true)) → l.countP p ≤ 1
  | [], _ => by simp
  | x :: l, h => by
    obtain ⟨h1, h2⟩ := List.pairwise_cons.1 h
    rw [List.countP_cons]
    by_cases hx : p x = true
    · have : l.countP p = 0 := List.countP_eq_zero.2 fun y hy hp => h1 y hy ⟨hx, hp⟩
      simp [this, hx]
    · have := count_one p h2
      simp [hx, this]
theorem pieces_len {a b v : Int} {X : List Sg} (hX : ∀ e ∈ X, a ≤ e.t ∧ e.f ≤ b) (hp : X.Pairwise dis) : (X.flatMap (pieces a b v)).length ≤ 2 := by
  have h1 : ∀ Y : List Sg, (∀ e ∈ Y, a ≤ e.t ∧ e.f ≤ b) → (Y.flatMap (pieces a b v)).length ≤ Y.countP (fun e => decide (e.f < a)) + Y.countP (fun e => decide (b < e.t)) := fun Y => by
    induction Y with
    | nil => simp
    | cons e Y ih =>
      intro hY
      have := ih fun x hx => hY x (by simp [hx])
      obtain ⟨q1, q2⟩ := hY e (by simp)
      rw [List.flatMap_cons, List.length_append, List.countP_cons, List.countP_cons]
      have h3 : (pieces a b v e).length ≤ (if decide (e.f < a) = true then 1 else 0) + (if decide (b < e.t) = true then 1 else 0) := by
        unfold pieces
        rw [show min e.t a = a by omega, show max e.f b = b by omega]
        by_cases c1 : e.v = v <;> by_cases c2 : e.f < a <;> by_cases c3 : b < e.t <;> simp [c1, c2, c3]
      omega
  have h2 : X.countP (fun e => decide (e.f < a)) ≤ 1 := count_one _ (List.Pairwise.imp_of_mem (fun {x y} hx hy hd => by
    have := hX x hx
    have := hX y hy
    rintro ⟨c1, c2⟩
    simp at c1 c2
    rcases hd with hd | hd <;> omega) hp)
  have h3 : X.countP (fun e => decide (b < e.t)) ≤ 1 := count_one _ (List.Pairwise.imp_of_mem (fun {x y} hx hy hd => by
    have := hX x hx
    have := hX y hy
    rintro ⟨c1, c2⟩
    simp at c1 c2
    rcases hd with hd | hd <;> omega) hp)
  have := h1 X hX
  omega
theorem pair_ne {C : List Sg} (h : C.Pairwise dis) : ∀ e ∈ C, ∀ r ∈ C, e ≠ r → dis e r := by
  induction C with
  | nil => intro e he; cases he
  | cons x C ih =>
    obtain ⟨h1, h2⟩ := List.pairwise_cons.1 h
    intro e he r hr hne
    rcases List.mem_cons.1 he with he' | he' <;> rcases List.mem_cons.1 hr with hr' | hr'
    · exact absurd (he'.trans hr'.symm) hne
    · exact he' ▸ h1 r hr'
    · exact hr' ▸ (h1 e he').symm
    · exact ih h2 e he' r hr' hne
def midC (a b v : Int) (X : List Sg) : List Sg := if frm a v X < too b v X ∧ v ≠ 0 then [⟨frm a v X, too b v X, v⟩] else []
def upd (g : Int → Int) (a b v : Int) (d : Int) : Int := if a ≤ d ∧ d < b then v else g d
theorem put_ok {a b v : Int} (h1 : 1 ≤ a) (h2 : a < b) (h3 : b ≤ 3652060) {X Z : List Sg} (hC : SgOk (X ++ Z)) (hX : ∀ e ∈ X, a ≤ e.t ∧ e.f ≤ b) (hZ : ∀ e ∈ Z, ¬ (a ≤ e.t ∧ e.f ≤ b)) : SgOk (midC a b v X ++ (X.flatMap (pieces a b v) ++ Z)) := by
  obtain ⟨f1, f2, f3⟩ := frm_spec v X a
  obtain ⟨t1, t2, t3⟩ := too_spec v X b
  have hm : ∀ s, s ∈ midC a b v X ↔ v ≠ 0 ∧ s = ⟨frm a v X, too b v X, v⟩ := fun s => by
    unfold midC
    by_cases h : v = 0
    · simp [h]
    · rw [if_pos ⟨by omega, h⟩]; simp [h]
  have hpm : ∀ p, p ∈ X.flatMap (pieces a b v) ↔ ∃ e ∈ X, e.v ≠ v ∧ ((e.f < a ∧ p = ⟨e.f, a, e.v⟩) ∨ (b < e.t ∧ p = ⟨b, e.t, e.v⟩)) := fun p => by
    rw [List.mem_flatMap]
    constructor
    · rintro ⟨e, he, hp⟩
      exact ⟨e, he, (mem_pieces (hX e he).1 (hX e he).2).1 hp⟩
    · rintro ⟨e, he, hp⟩
      exact ⟨e, he, (mem_pieces (hX e he).1 (hX e he).2).2 hp⟩
  have one := hC.one
  obtain ⟨pX, pZ, pXZ⟩ := List.pairwise_append.1 hC.pair
  have dX := pair_ne pX
  have mids : v ≠ 0 → ∀ e ∈ X, e.v ≠ v → (e.f < a → frm a v X = a) ∧ (b < e.t → too b v X = b) := fun hv e he hev => by
    refine ⟨fun hlt => ?_, fun hlt => ?_⟩
    · rcases f2 with f2 | ⟨r, hr, hrv, hrf⟩
      · exact f2
      · have hne : e ≠ r := fun h => hev (h ▸ hrv)
        have := hX e he
        have := hX r hr
        have := one e (by simp [he])
        have := one r (by simp [hr])
        rcases dX e he r hr hne with d | d <;> omega
    · rcases t2 with t2 | ⟨r, hr, hrv, hrf⟩
      · exact t2
      · have hne : e ≠ r := fun h => hev (h ▸ hrv)
        have := hX e he
        have := hX r hr
        have := one e (by simp [he])
        have := one r (by simp [hr])
        rcases dX e he r hr hne with d | d <;> omega
  have zs : ∀ z ∈ Z, z.t < a ∨ b < z.f := fun z hz => by
    have := hZ z hz
    omega
  have fr1 : 1 ≤ frm a v X := by
    rcases f2 with f2 | ⟨r, hr, hrv, hrf⟩
    · omega
    · have := one r (by simp [hr]); omega
  have to1 : too b v X ≤ 3652060 := by
    rcases t2 with t2 | ⟨r, hr, hrv, hrf⟩
    · omega
    · have := one r (by simp [hr]); omega
  have dmz : ∀ z ∈ Z, dis ⟨frm a v X, too b v X, v⟩ z := fun z hz => by
    have hz1 := one z (by simp [hz])
    rcases zs z hz with h | h
    · refine .inr ?_
      show z.t ≤ frm a v X
      rcases f2 with f2 | ⟨r, hr, hrv, hrf⟩
      · omega
      · have := hX r hr
        rcases pXZ r hr z hz with d | d <;> omega
    · refine .inl ?_
      show too b v X ≤ z.f
      rcases t2 with t2 | ⟨r, hr, hrv, hrf⟩
      · omega
      · have := hX r hr
        rcases pXZ r hr z hz with d | d <;> omega
  refine ⟨fun s hs => ?_, ?_, ?_⟩
  · rcases List.mem_append.1 hs with hs | hs
    · obtain ⟨hv, rfl⟩ := (hm s).1 hs
      exact ⟨fr1, by show frm a v X < too b v X; omega, to1, hv⟩
    · rcases List.mem_append.1 hs with hs | hs
      · obtain ⟨e, he, hev, (⟨c, rfl⟩ | ⟨c, rfl⟩)⟩ := (hpm s).1 hs
        all_goals (have := one e (by simp [he]); have := hX e he; dsimp only; omega)
      · exact one s (by simp [hs])
  · refine List.pairwise_append.2 ⟨?_, List.pairwise_append.2 ⟨?_, pZ, ?_⟩, ?_⟩
    · unfold midC
      split
      · simp
      · simp
    · refine List.pairwise_flatMap.2 ⟨fun e he => ?_, List.Pairwise.imp_of_mem (fun {x y} hx hy hd p hp q hq => ?_) pX⟩
      · have h4 := hX e he
        unfold pieces
        rw [show min e.t a = a by omega, show max e.f b = b by omega]
        by_cases c1 : e.v = v <;> by_cases c2 : e.f < a <;> by_cases c3 : b < e.t <;> simp [c1, c2, c3, dis]
        omega
      · have h5 := hX x hx
        have h6 := hX y hy
        have := one x (by simp [hx])
        have := one y (by simp [hy])
        obtain ⟨_, (⟨c, rfl⟩ | ⟨c, rfl⟩)⟩ := (mem_pieces h5.1 h5.2).1 hp <;> obtain ⟨_, (⟨c', rfl⟩ | ⟨c', rfl⟩)⟩ := (mem_pieces h6.1 h6.2).1 hq
        all_goals (unfold dis at *; dsimp only; omega)
    · intro p hp z hz
      obtain ⟨e, he, hev, (⟨c, rfl⟩ | ⟨c, rfl⟩)⟩ := (hpm p).1 hp
      all_goals (have := hX e he; have := one e (by simp [he]); have := one z (by simp [hz]); have hd := pXZ e he z hz; have := zs z hz; unfold dis at *; dsimp only; omega)
    · intro s hs r hr
      obtain ⟨hv, rfl⟩ := (hm s).1 hs
      rcases List.mem_append.1 hr with hr | hr
      · obtain ⟨e, he, hev, (⟨c, rfl⟩ | ⟨c, rfl⟩)⟩ := (hpm r).1 hr
        · have := (mids hv e he hev).1 c
          exact .inr (by dsimp only; omega)
        · have := (mids hv e he hev).2 c
          exact .inl (by dsimp only; omega)
      · exact dmz r hr
  · intro s hs r hr hst
    have un := hC.unlike
    rcases List.mem_append.1 hs with hs | hs <;> rcases List.mem_append.1 hr with hr | hr
    · obtain ⟨hv, rfl⟩ := (hm s).1 hs
      obtain ⟨_, rfl⟩ := (hm r).1 hr
      dsimp only at hst
      omega
    · obtain ⟨hv, rfl⟩ := (hm s).1 hs
      dsimp only at hst ⊢
      rcases List.mem_append.1 hr with hr | hr
      · obtain ⟨e, he, hev, (⟨c, rfl⟩ | ⟨c, rfl⟩)⟩ := (hpm r).1 hr
        · exact Ne.symm hev
        · exact Ne.symm hev
      · have hr1 := one r (by simp [hr])
        rcases t2 with t2 | ⟨e, he, hev, het⟩
        · have := zs r hr; omega
        · rw [← hev]
          exact un e (by simp [he]) r (by simp [hr]) (by omega)
    · obtain ⟨hv, rfl⟩ := (hm r).1 hr
      dsimp only at hst ⊢
      rcases List.mem_append.1 hs with hs | hs
      · obtain ⟨e, he, hev, (⟨c, rfl⟩ | ⟨c, rfl⟩)⟩ := (hpm s).1 hs
        · exact hev
        · exact hev
      · have hs1 := one s (by simp [hs])
        rcases f2 with f2 | ⟨e, he, hev, het⟩
        · have := zs s hs; omega
        · rw [← hev]
          exact un s (by simp [hs]) e (by simp [he]) (by omega)
    · rcases List.mem_append.1 hs with hs | hs <;> rcases List.mem_append.1 hr with hr | hr
      · obtain ⟨e, he, hev, (⟨c, rfl⟩ | ⟨c, rfl⟩)⟩ := (hpm s).1 hs <;> obtain ⟨x, hx, hxv, (⟨c', rfl⟩ | ⟨c', rfl⟩)⟩ := (hpm r).1 hr
        · dsimp only at hst; omega
        · dsimp only at hst; omega
        · dsimp only at hst ⊢
          exact un e (by simp [he]) x (by simp [hx]) hst
        · dsimp only at hst; omega
      · obtain ⟨e, he, hev, (⟨c, rfl⟩ | ⟨c, rfl⟩)⟩ := (hpm s).1 hs
        · have := zs r hr
          have := one r (by simp [hr])
          dsimp only at hst; omega
        · dsimp only at hst ⊢
          exact un e (by simp [he]) r (by simp [hr]) hst
      · obtain ⟨e, he, hev, (⟨c, rfl⟩ | ⟨c, rfl⟩)⟩ := (hpm r).1 hr
        · dsimp only at hst ⊢
          exact un s (by simp [hs]) e (by simp [he]) hst
        · have := zs s hs
          have := one s (by simp [hs])
          dsimp only at hst; omega
      · exact un s (by simp [hs]) r (by simp [hr]) hst
theorem put_rep {a b v : Int} {g : Int → Int} (h2 : a < b) {X Z : List Sg} (hC : SgOk (X ++ Z)) (hR : Rep (X ++ Z) g) (hX : ∀ e ∈ X, a ≤ e.t ∧ e.f ≤ b) (hZ : ∀ e ∈ Z, ¬ (a ≤ e.t ∧ e.f ≤ b)) : Rep (midC a b v X ++ (X.flatMap (pieces a b v) ++ Z)) (upd g a b v) := by
  obtain ⟨f1, f2, f3⟩ := frm_spec v X a
  obtain ⟨t1, t2, t3⟩ := too_spec v X b
  have hm : ∀ s, s ∈ midC a b v X ↔ v ≠ 0 ∧ s = ⟨frm a v X, too b v X, v⟩ := fun s => by
    unfold midC
    by_cases h : v = 0
    · simp [h]
    · rw [if_pos ⟨by omega, h⟩]; simp [h]
  have hpm : ∀ p, p ∈ X.flatMap (pieces a b v) ↔ ∃ e ∈ X, e.v ≠ v ∧ ((e.f < a ∧ p = ⟨e.f, a, e.v⟩) ∨ (b < e.t ∧ p = ⟨b, e.t, e.v⟩)) := fun p => by
    rw [List.mem_flatMap]
    constructor
    · rintro ⟨e, he, hp⟩
      exact ⟨e, he, (mem_pieces (hX e he).1 (hX e he).2).1 hp⟩
    · rintro ⟨e, he, hp⟩
      exact ⟨e, he, (mem_pieces (hX e he).1 (hX e he).2).2 hp⟩
  have one := hC.one
  have zs : ∀ z ∈ Z, z.t < a ∨ b < z.f := fun z hz => by
    have := hZ z hz
    omega
  intro d
  refine ⟨fun s hs hd1 hd2 => ?_, fun hn => ?_⟩
  · rcases List.mem_append.1 hs with hs | hs
    · obtain ⟨hv, rfl⟩ := (hm s).1 hs
      dsimp only at hd1 hd2 ⊢
      unfold upd
      split
      · rfl
      · by_cases hda : d < a
        · rcases f2 with f2 | ⟨r, hr, hrv, hrf⟩
          · omega
          · rw [← hrv]
            have := hX r hr
            exact (hR d).1 r (by simp [hr]) (by omega) (by omega)
        · rcases t2 with t2 | ⟨r, hr, hrv, hrf⟩
          · omega
          · rw [← hrv]
            have := hX r hr
            exact (hR d).1 r (by simp [hr]) (by omega) (by omega)
    · rcases List.mem_append.1 hs with hs | hs
      · obtain ⟨e, he, hev, (⟨c, rfl⟩ | ⟨c, rfl⟩)⟩ := (hpm s).1 hs
        all_goals
          have := hX e he
          dsimp only at hd1 hd2 ⊢
          unfold upd
          rw [if_neg (by omega)]
          exact (hR d).1 e (by simp [he]) (by omega) (by omega)
      · have := zs s hs
        unfold upd
        rw [if_neg (by omega)]
        exact (hR d).1 s (by simp [hs]) hd1 hd2
  · unfold upd
    split
    · rename_i hab
      refine Classical.byContradiction fun hv => ?_
      exact hn ⟨frm a v X, too b v X, v⟩ (List.mem_append.2 (.inl ((hm _).2 ⟨hv, rfl⟩))) ⟨by dsimp only; omega, by dsimp only; omega⟩
    · rename_i hab
      refine (hR d).2 fun s hs hc => ?_
      rcases List.mem_append.1 hs with hs | hs
      · have h1 := one s (by simp [hs])
        have h5 := hX s hs
        by_cases hsv : s.v = v
        · have h6 := f3 s hs hsv
          have h7 := t3 s hs hsv
          exact hn ⟨frm a v X, too b v X, v⟩ (List.mem_append.2 (.inl ((hm _).2 ⟨by omega, rfl⟩))) ⟨by dsimp only; omega, by dsimp only; omega⟩
        · by_cases hda : d < a
          · exact hn ⟨s.f, a, s.v⟩ (List.mem_append.2 (.inr (List.mem_append.2 (.inl ((hpm _).2 ⟨s, hs, hsv, .inl ⟨by omega, rfl⟩⟩))))) ⟨by dsimp only; omega, by dsimp only; omega⟩
          · exact hn ⟨b, s.t, s.v⟩ (List.mem_append.2 (.inr (List.mem_append.2 (.inl ((hpm _).2 ⟨s, hs, hsv, .inr ⟨by omega, rfl⟩⟩))))) ⟨by dsimp only; omega, by dsimp only; omega⟩
      · exact hn s (by simp [hs]) hc
end Go.Proofs.YtngglpekdjhbdaaGreat
namespace Go.Proofs.YtngglpekdjhbdaaGreat
open Go.RowKit Go.ChangeMaps Go.Deep Tr
set_option linter.unusedSimpArgs false
set_option linter.unusedVariables false
set_option maxRecDepth 20000

/-- the days of a span that may be -/
def mayS (a b : Int) : Prop := 1 ≤ a ∧ a < b ∧ b ≤ 3652060
instance (a b : Int) : Decidable (mayS a b) := by unfold mayS; exact inferInstance
theorem tlMay_at (w : World) (a b : Int) : Calls Tryz.prog 26 #[.agg #[.int .i64 a, .int .i64 b]] w fun e w' => e = .returned (.bool (decide (mayS a b))) ∧ Mod [] w w' := by
  have hm := Lib.hid ((Mod.refl [] w).alloc (.cells #[.int .i64 a, .int .i64 b] 39))
  by_cases h1 : 1 ≤ a
  · by_cases h2 : a < b
    · by_cases h3 : b ≤ 3652060
      · have HD := Lib.hid (show decide (mayS a b) = true from decide_eq_true ⟨h1, h2, h3⟩)
        go_enter Tryz.func26, Tryz.ntmps26
        go_wp2_with fail
        go_ret
        exact ⟨by rw [HD.out]; rfl, hm.out⟩
      · have HD := Lib.hid (show decide (mayS a b) = false from decide_eq_false fun h => h3 h.2.2)
        go_enter Tryz.func26, Tryz.ntmps26
        go_wp2_with fail
        go_ret
        exact ⟨by rw [HD.out]; rfl, hm.out⟩
    · have HD := Lib.hid (show decide (mayS a b) = false from decide_eq_false fun h => h2 h.2.1)
      go_enter Tryz.func26, Tryz.ntmps26
      go_wp2_with fail
      go_ret
      exact ⟨by rw [HD.out]; rfl, hm.out⟩
  · have HD := Lib.hid (show decide (mayS a b) = false from decide_eq_false fun h => h1 h.1)
    go_enter Tryz.func26, Tryz.ntmps26
    go_wp2_with fail
    go_ret
    exact ⟨by rw [HD.out]; rfl, hm.out⟩
end Go.Proofs.YtngglpekdjhbdaaGreat
namespace Go.Proofs.YtngglpekdjhbdaaGreat
set_option linter.unusedVariables false

/-- a value: its kind, its number's two parts, its error -/
structure Vl where
  k : Int
  c : Int
  s : Int
  e : Int
deriving DecidableEq
def zz (n : Int) : Nat := if 0 ≤ n then 2 * n.toNat else 2 * (-n).toNat - 1
def un (m : Nat) : Int := if m % 2 = 0 then ((m / 2 : Nat) : Int) else -(((m + 1) / 2 : Nat) : Int)
theorem un_zz (n : Int) : un (zz n) = n := by
  unfold un zz
  by_cases h : 0 ≤ n
  · rw [if_pos h, if_pos (by omega)]; omega
  · rw [if_neg h, if_neg (by omega)]; omega
theorem zz_un (m : Nat) : zz (un m) = m := by
  unfold un zz
  by_cases h : m % 2 = 0
  · rw [if_pos h, if_pos (by omega)]; omega
  · rw [if_neg h, if_neg (by omega)]; omega
def pr : Nat → Nat → Nat
  | 0, b => 2 * b
  | a + 1, b => 2 * pr a b + 1
def upF : Nat → Nat → Nat × Nat
  | 0, _ => (0, 0)
  | f + 1, n => if n % 2 = 0 then (0, n / 2) else ((upF f ((n - 1) / 2)).1 + 1, (upF f ((n - 1) / 2)).2)
def up (n : Nat) : Nat × Nat := upF (n + 1) n
theorem upF_pr : ∀ (a b f : Nat), pr a b < f → upF f (pr a b) = (a, b)
  | 0, b, f + 1, h => by
    unfold pr upF
    rw [if_pos (by omega)]
    congr 1
    omega
  | a + 1, b, f + 1, h => by
    have h1 : pr (a + 1) b = 2 * pr a b + 1 := rfl
    rw [h1] at h
    rw [h1]
    unfold upF
    rw [if_neg (by omega), show (2 * pr a b + 1 - 1) / 2 = pr a b by omega, upF_pr a b f (by omega)]
theorem up_pr (a b : Nat) : up (pr a b) = (a, b) := upF_pr a b _ (by omega)
theorem pr_upF : ∀ (f n : Nat), n < f → pr (upF f n).1 (upF f n).2 = n
  | f + 1, n, h => by
    unfold upF
    by_cases h1 : n % 2 = 0
    · rw [if_pos h1]
      show 2 * (n / 2) = n
      omega
    · rw [if_neg h1]
      show 2 * pr (upF f ((n - 1) / 2)).1 (upF f ((n - 1) / 2)).2 + 1 = n
      rw [pr_upF f ((n - 1) / 2) (by omega)]
      omega
theorem pr_up (n : Nat) : pr (up n).1 (up n).2 = n := pr_upF _ n (by omega)
/-- the number of a value -/
def iv (v : Vl) : Int := un (pr (zz v.k) (pr (zz v.c) (pr (zz v.s) (zz v.e))))
/-- the value of a number -/
def vl (z : Int) : Vl := ⟨un (up (zz z)).1, un (up (up (zz z)).2).1, un (up (up (up (zz z)).2).2).1, un (up (up (up (zz z)).2).2).2⟩
theorem vl_iv (v : Vl) : vl (iv v) = v := by
  unfold vl iv
  simp only [zz_un, up_pr, un_zz]
theorem iv_vl (z : Int) : iv (vl z) = z := by
  unfold vl iv
  simp only [zz_un, pr_up, un_zz]
theorem iv_zero : iv ⟨0, 0, 0, 0⟩ = 0 := by rfl
theorem vl_zero : vl 0 = ⟨0, 0, 0, 0⟩ := by
  have := vl_iv ⟨0, 0, 0, 0⟩
  rw [iv_zero] at this
  exact this
theorem vl_inj {a b : Int} : vl a = vl b ↔ a = b := ⟨fun h => by rw [← iv_vl a, ← iv_vl b, h], fun h => by rw [h]⟩
end Go.Proofs.YtngglpekdjhbdaaGreat
namespace Go.Proofs.YtngglpekdjhbdaaGreat
open Go.RowKit Go.ChangeMaps Go.Deep Tr
set_option linter.unusedSimpArgs false
set_option linter.unusedVariables false
set_option maxRecDepth 20000

/-- a value by its number -/
def encZ (z : Int) : List Value := [.int .u8 (vl z).k, .int .i64 (vl z).c, .int .i64 (vl z).s, .int .i64 (vl z).e]
def valZ (z : Int) : Value := .agg #[.int .u8 (vl z).k, .int .i64 (vl z).c, .int .i64 (vl z).s, .int .i64 (vl z).e]
theorem encZ_len (z : Int) : (encZ z).length = 4 := rfl
theorem encZ_one (z : Int) : ∀ v ∈ encZ z, v.oneCell' = true := by intro v hv; simp [encZ] at hv; rcases hv with rfl | rfl | rfl | rfl <;> rfl
structure LvSt (w : World) (g b : Nat) (vv gv nv fv : Value) (ns : List Nd) (fr : List Int) (T : Tr) (vs fs : List Int) : Prop where
  blk : w.heap[g]? = some (.cells #[.pointer (some ⟨b, 0, none⟩), vv, gv] 68 (0, 0))
  vals : OwnR encZ 4 35 w 0 vv vs
  free : OwnR encI 1 3 w 0 gv fs
  tree : AvlSt w b nv fv ns fr T
  apart : (lnB g b vv gv nv fv).Nodup
  ids : ∀ x ∈ T.items, ∃ k : Nat, x.i = k ∧ k < vs.length ∧ x.i ∉ fs
  inj : ∀ x ∈ T.items, ∀ y ∈ T.items, x.i = y.i → x = y
  frs : ∀ i ∈ fs, ∃ k : Nat, i = k ∧ k < vs.length
  fnd : fs.Nodup
  full : vs.length = T.size + fs.length
  pos : ∀ x ∈ T.items, x.f < x.t
theorem LvSt.kept {l : List Nat} {w w' : World} {g b : Nat} {vv gv nv fv : Value} {ns : List Nd} {fr : List Int} {T : Tr} {vs fs : List Int} (h : LvSt w g b vv gv nv fv ns fr T vs fs) (m : Mod l w w') (hl : ∀ k ∈ lnB g b vv gv nv fv, k ∉ l) : LvSt w' g b vv gv nv fv ns fr T vs fs := by
  have hv : ∀ k, vv.ownBlock = some k → k ∉ l := fun k hk => hl k (by simp [lnB, mem_blk, hk])
  have hg : ∀ k, gv.ownBlock = some k → k ∉ l := fun k hk => hl k (by simp [lnB, mem_blk, hk])
  have hn : ∀ k, nv.ownBlock = some k → k ∉ l := fun k hk => hl k (by simp [lnB, mem_blk, hk])
  have hf : ∀ k, fv.ownBlock = some k → k ∉ l := fun k hk => hl k (by simp [lnB, mem_blk, hk])
  exact ⟨m.heap h.blk (hl g (by simp [lnB])), h.vals.kept m hv, h.free.kept m hg, ⟨h.tree.tree.keptL m (hl b (by simp [lnB])) hn hf, h.tree.rep, h.tree.avl, h.tree.srt, h.tree.nodup, h.tree.free, h.tree.fnd, h.tree.full⟩, h.apart, h.ids, h.inj, h.frs, h.fnd, h.full, h.pos⟩
theorem LvSt.lt {w : World} {g b : Nat} {vv gv nv fv : Value} {ns : List Nd} {fr : List Int} {T : Tr} {vs fs : List Int} (h1 : LvSt w g b vv gv nv fv ns fr T vs fs) : ∀ k ∈ lnB g b vv gv nv fv, k < w.heap.size := by
  intro k hk
  simp only [lnB, List.mem_cons, List.mem_append, mem_blk] at hk
  rcases hk with rfl | rfl | hk | hk | hk | hk
  · exact lt_of_heap h1.blk
  · exact lt_of_heap h1.tree.tree.blk
  · exact (World.ownsRow.lt h1.vals _ hk).2
  · exact (World.ownsRow.lt h1.free _ hk).2
  · exact (World.ownsRow.lt h1.tree.tree.row _ hk).2
  · exact (World.ownsRow.lt h1.tree.tree.free _ hk).2
/-- a timeline at block g: its own blocks B, its segments E (in whatever order), M: as many as it has ever had -/
def Lv (w : World) (g : Nat) (B : List Nat) (M : Nat) (E : List (It × Int)) : Prop :=
  ∃ b vv gv nv fv ns fr T vs fs, LvSt w g b vv gv nv fv ns fr T vs fs ∧ B = lnB g b vv gv nv fv ∧ (T.items.map (valOf vs)).Perm E ∧ ns.length ≤ M ∧ vs.length ≤ M
theorem Lv.kept {l : List Nat} {w w' : World} {g : Nat} {B : List Nat} {M : Nat} {E : List (It × Int)} (h : Lv w g B M E) (m : Mod l w w') (hl : ∀ k ∈ B, k ∉ l) : Lv w' g B M E := by
  obtain ⟨b, vv, gv, nv, fv, ns, fr, T, vs, fs, h1, rfl, h3, h4, h5⟩ := h
  exact ⟨b, vv, gv, nv, fv, ns, fr, T, vs, fs, h1.kept m hl, rfl, h3, h4, h5⟩
theorem Lv.perm {w : World} {g : Nat} {B : List Nat} {M : Nat} {E E' : List (It × Int)} (h : Lv w g B M E) (he : E.Perm E') : Lv w g B M E' := by
  obtain ⟨b, vv, gv, nv, fv, ns, fr, T, vs, fs, h1, h2, h3, h4, h5⟩ := h
  exact ⟨b, vv, gv, nv, fv, ns, fr, T, vs, fs, h1, h2, h3.trans he, h4, h5⟩
theorem Lv.mono {w : World} {g : Nat} {B : List Nat} {M M' : Nat} {E : List (It × Int)} (h : Lv w g B M E) (he : M ≤ M') : Lv w g B M' E := by
  obtain ⟨b, vv, gv, nv, fv, ns, fr, T, vs, fs, h1, h2, h3, h4, h5⟩ := h
  exact ⟨b, vv, gv, nv, fv, ns, fr, T, vs, fs, h1, h2, h3, by omega, by omega⟩
theorem Lv.lt {w : World} {g : Nat} {B : List Nat} {M : Nat} {E : List (It × Int)} (h : Lv w g B M E) : ∀ k ∈ B, k < w.heap.size := by
  obtain ⟨b, vv, gv, nv, fv, ns, fr, T, vs, fs, h1, rfl, h3, h4, h5⟩ := h
  intro k hk
  simp only [lnB, List.mem_cons, List.mem_append, mem_blk] at hk
  rcases hk with rfl | rfl | hk | hk | hk | hk
  · exact lt_of_heap h1.blk
  · exact lt_of_heap h1.tree.tree.blk
  · exact (World.ownsRow.lt h1.vals _ hk).2
  · exact (World.ownsRow.lt h1.free _ hk).2
  · exact (World.ownsRow.lt h1.tree.tree.row _ hk).2
  · exact (World.ownsRow.lt h1.tree.tree.free _ hk).2
theorem Lv.kept0 {w w' : World} {g : Nat} {B : List Nat} {M : Nat} {E : List (It × Int)} (h : Lv w g B M E) (m : Mod [] w w') : Lv w' g B M E := h.kept m (by simp)
theorem Lv.mem {w : World} {g : Nat} {B : List Nat} {M : Nat} {E : List (It × Int)} (h : Lv w g B M E) : g ∈ B := by
  obtain ⟨b, vv, gv, nv, fv, ns, fr, T, vs, fs, h1, rfl, h3, h4, h5⟩ := h
  simp [lnB]
theorem Lv.len {w : World} {g : Nat} {B : List Nat} {M : Nat} {E : List (It × Int)} (h : Lv w g B M E) : E.length ≤ M := by
  obtain ⟨b, vv, gv, nv, fv, ns, fr, T, vs, fs, h1, rfl, h3, h4, h5⟩ := h
  rw [← h3.length_eq, List.length_map, items_len]
  have := h1.full
  omega
end Go.Proofs.YtngglpekdjhbdaaGreat
