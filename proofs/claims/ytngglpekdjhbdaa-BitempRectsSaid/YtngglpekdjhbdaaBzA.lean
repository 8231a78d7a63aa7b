/- The law's last rectangle that has a day and a transaction is the first one that At finds (plain). -/
import Derived.WalkKit
namespace Go.Proofs.Ytngglpekdjhbdaa
set_option linter.unusedVariables false

/-- a rectangle: days from f on, below t; transactions from s on, below u (0: open); its value -/
structure Rc where
  f : Int
  t : Int
  s : Int
  u : Int
  v : Int
/-- rectangles by their places; those that lie in the tree; the open one's number, day by day -/
structure Bt (rs : List Rc) (lv : Nat → Prop) (g : Int → Int) (last : Int) : Prop where
  ok : ∀ i r, lv i → rs[i]? = some r → r.v ≠ 0 ∧ 1 ≤ r.f ∧ r.f < r.t ∧ r.t ≤ 3652060 ∧ 1 ≤ r.s ∧ r.s ≤ last ∧ (r.u = 0 ∨ (r.s < r.u ∧ r.u ≤ last))
  bnd : ∀ i, lv i → i < rs.length
  apart : ∀ i j ri rj, lv i → lv j → i ≠ j → rs[i]? = some ri → rs[j]? = some rj → ri.f < rj.t → rj.f < ri.t → (ri.u ≠ 0 ∧ ri.u ≤ rj.s) ∨ (rj.u ≠ 0 ∧ rj.u ≤ ri.s)
  shows : ∀ i r d, lv i → rs[i]? = some r → r.u = 0 → r.f ≤ d → d < r.t → g d = (i : Int) + 1
  back : ∀ d, g d ≠ 0 → ∃ i r, lv i ∧ rs[i]? = some r ∧ r.u = 0 ∧ r.f ≤ d ∧ d < r.t ∧ g d = (i : Int) + 1
/-- what lies over these days is closed ahead of a transaction -/
def Clear (rs : List Rc) (lv : Nat → Prop) (a b s : Int) : Prop := ∀ j rj, lv j → rs[j]? = some rj → rj.f < b → a < rj.t → rj.u ≠ 0 ∧ rj.u ≤ s
theorem Clear.sub {rs : List Rc} {lv : Nat → Prop} {a b s a' b' s' : Int} (h : Clear rs lv a b s) (ha : a ≤ a') (hb : b' ≤ b) (hs : s ≤ s') : Clear rs lv a' b' s' := fun j rj hj hr h1 h2 => by
  have := h j rj hj hr (by omega) (by omega)
  exact ⟨this.1, by omega⟩
def plusL (lv : Nat → Prop) (n : Nat) : Nat → Prop := fun i => lv i ∨ i = n
theorem Bt.later {rs : List Rc} {lv : Nat → Prop} {g : Int → Int} {last t : Int} (h : Bt rs lv g last) (ht : last ≤ t) : Bt rs lv g t :=
  { h with ok := fun i r hi hr => by have := h.ok i r hi hr; omega }
/-- a rectangle is taken off -/
theorem Bt.del {rs : List Rc} {lv : Nat → Prop} {g : Int → Int} {last : Int} (h : Bt rs lv g last) {i : Nat} {r : Rc} (hi : lv i) (hr : rs[i]? = some r) (hu : r.u = 0) :
    Bt rs (fun k => lv k ∧ k ≠ i) (fun d => if r.f ≤ d ∧ d < r.t then 0 else g d) last ∧ Clear rs (fun k => lv k ∧ k ≠ i) r.f r.t r.s := by
  have hc : Clear rs (fun k => lv k ∧ k ≠ i) r.f r.t r.s := fun j rj hj hrj h1 h2 => by
    rcases h.apart i j r rj hi hj.1 (fun e => hj.2 e.symm) hr hrj h2 h1 with ⟨a, _⟩ | a
    · exact absurd hu a
    · exact a
  refine ⟨⟨fun k rk hk => h.ok k rk hk.1, fun k hk => h.bnd k hk.1, fun a b ra rb ha hb => h.apart a b ra rb ha.1 hb.1, fun k rk d hk hrk huk h1 h2 => ?_, fun d hd => ?_⟩, hc⟩
  · have hg := h.shows k rk d hk.1 hrk huk h1 h2
    rw [if_neg]
    · exact hg
    · intro hh
      have := h.shows i r d hi hr hu hh.1 hh.2
      exact hk.2 (by omega)
  · by_cases hh : r.f ≤ d ∧ d < r.t
    · rw [if_pos hh] at hd; exact absurd rfl hd
    · rw [if_neg hh] at hd ⊢
      obtain ⟨k, rk, k1, k2, k3, k4, k5, k6⟩ := h.back d hd
      refine ⟨k, rk, ⟨k1, fun e => ?_⟩, k2, k3, k4, k5, k6⟩
      subst e
      rw [hr] at k2
      cases k2
      exact hh ⟨k4, k5⟩
theorem get_push {α : Type} {l : List α} {x y : α} {i : Nat} (h : (l ++ [x])[i]? = some y) : l[i]? = some y ∨ (i = l.length ∧ x = y) := by
  rcases Nat.lt_trichotomy i l.length with hi | hi | hi
  · rw [List.getElem?_append_left hi] at h; exact .inl h
  · subst hi
    rw [List.getElem?_append_right (Nat.le_refl _), Nat.sub_self] at h
    exact .inr ⟨rfl, by simpa using h⟩
  · rw [List.getElem?_eq_none (by simp; omega)] at h; cases h
/-- a rectangle is laid: open, or closed -/
theorem Bt.lay {rs : List Rc} {lv : Nat → Prop} {g : Int → Int} {last : Int} (h : Bt rs lv g last) {r : Rc} (hk : r.v ≠ 0 ∧ 1 ≤ r.f ∧ r.f < r.t ∧ r.t ≤ 3652060 ∧ 1 ≤ r.s ∧ r.s ≤ last ∧ (r.u = 0 ∨ (r.s < r.u ∧ r.u ≤ last))) (hc : Clear rs lv r.f r.t r.s) :
    Bt (rs ++ [r]) (plusL lv rs.length) (fun d => if r.u = 0 ∧ r.f ≤ d ∧ d < r.t then (rs.length : Int) + 1 else g d) last := by
  have hold : ∀ {i : Nat} {x : Rc}, lv i → (rs ++ [r])[i]? = some x → rs[i]? = some x := fun {i x} hi hx => by
    have := h.bnd i hi
    rwa [List.getElem?_append_left this] at hx
  have hnew : ∀ {x : Rc}, (rs ++ [r])[rs.length]? = some x → r = x := fun {x} hx => by
    rw [List.getElem?_append_right (Nat.le_refl _), Nat.sub_self] at hx
    simpa using hx
  have hput : ∀ {i : Nat} {x : Rc}, rs[i]? = some x → (rs ++ [r])[i]? = some x := fun {i x} hx => by
    have := (List.getElem?_eq_some_iff.1 hx).1
    rw [List.getElem?_append_left this]; exact hx
  refine ⟨fun i x hi hx => ?_, fun i hi => ?_, fun i j ri rj hi hj hne hri hrj h1 h2 => ?_, fun i x d hi hx hu h1 h2 => ?_, fun d hd => ?_⟩
  · rcases hi with hi | rfl
    · exact h.ok i x hi (hold hi hx)
    · rw [← hnew hx]; exact hk
  · rw [List.length_append, List.length_singleton]
    rcases hi with hi | rfl
    · have := h.bnd i hi; omega
    · omega
  · rcases hi with hi | rfl
    · rcases hj with hj | rfl
      · exact h.apart i j ri rj hi hj hne (hold hi hri) (hold hj hrj) h1 h2
      · have e := hnew hrj
        subst e
        exact .inl (hc i ri hi (hold hi hri) h1 h2)
    · have e := hnew hri
      subst e
      rcases hj with hj | rfl
      · exact .inr (hc j rj hj (hold hj hrj) h2 h1)
      · exact absurd rfl hne
  · rcases hi with hi | rfl
    · have hx2 := hold hi hx
      have hg := h.shows i x d hi hx2 hu h1 h2
      rw [if_neg]
      · exact hg
      · intro hh
        have := hc i x hi hx2 (by omega) (by omega)
        exact this.1 hu
    · have e := hnew hx
      subst e
      rw [if_pos ⟨hu, h1, h2⟩]
  · by_cases hh : r.u = 0 ∧ r.f ≤ d ∧ d < r.t
    · refine ⟨rs.length, r, .inr rfl, by rw [List.getElem?_append_right (Nat.le_refl _), Nat.sub_self]; rfl, hh.1, hh.2.1, hh.2.2, by rw [if_pos hh]⟩
    · rw [if_neg hh] at hd ⊢
      obtain ⟨k, rk, k1, k2, k3, k4, k5, k6⟩ := h.back d hd
      exact ⟨k, rk, .inl k1, hput k2, k3, k4, k5, k6⟩
/-- what is laid leaves other days clear, and its own from where it is closed -/
theorem Clear.lay {rs : List Rc} {lv : Nat → Prop} {a b s : Int} (h : Clear rs lv a b s) (hb : ∀ i, lv i → i < rs.length) {r : Rc} (hr : r.t ≤ a ∨ b ≤ r.f ∨ (r.u ≠ 0 ∧ r.u ≤ s)) : Clear (rs ++ [r]) (plusL lv rs.length) a b s := fun j rj hj hrj h1 h2 => by
  rcases hj with hj | rfl
  · have := hb j hj
    rw [List.getElem?_append_left this] at hrj
    exact h j rj hj hrj h1 h2
  · rw [List.getElem?_append_right (Nat.le_refl _), Nat.sub_self] at hrj
    have e : r = rj := by simpa using hrj
    subst e
    rcases hr with hr | hr | hr
    · omega
    · omega
    · exact hr
end Go.Proofs.Ytngglpekdjhbdaa
namespace Go.Proofs.Ytngglpekdjhbdaa
set_option linter.unusedVariables false

structure Bs where
  rs : List Rc
  lv : Nat → Prop
  g : Int → Int
def Bs.Ok (S : Bs) (last : Int) : Prop := Bt S.rs S.lv S.g last
def Bs.lay (S : Bs) (r : Rc) : Bs := ⟨S.rs ++ [r], plusL S.lv S.rs.length, fun d => if r.u = 0 ∧ r.f ≤ d ∧ d < r.t then (S.rs.length : Int) + 1 else S.g d⟩
def Bs.del (S : Bs) (i : Nat) (r : Rc) : Bs := ⟨S.rs, fun k => S.lv k ∧ k ≠ i, fun d => if r.f ≤ d ∧ d < r.t then 0 else S.g d⟩
def Bs.again (S : Bs) (r : Rc) (a b : Int) : Bs := if a < b then S.lay { r with f := a, t := b } else S
/-- the days of an open rectangle are closed -/
def Bs.split (S : Bs) (i : Nat) (r : Rc) (a b t : Int) : Bs :=
  if r.s < t then (((S.del i r).again r r.f a).again r b r.t).lay { r with f := a, t := b, u := t } else ((S.del i r).again r r.f a).again r b r.t
structure BsC (S : Bs) (last a b s : Int) : Prop where
  ok : S.Ok last
  clear : Clear S.rs S.lv a b s
theorem again_ok {S : Bs} {last : Int} {r : Rc} {a b a' b' : Int} (h : BsC S last r.f r.t r.s ∨ BsC S last a' b' r.s) (hx : BsC S last a b r.s) (hk : r.v ≠ 0 ∧ 1 ≤ r.f ∧ r.f < r.t ∧ r.t ≤ 3652060 ∧ 1 ≤ r.s ∧ r.s ≤ last) (hu : r.u = 0) (h1 : r.f ≤ a) (h2 : b ≤ r.t) : (S.again r a b).Ok last ∧ ∀ a' b', (b ≤ a' ∨ b' ≤ a) → Clear S.rs S.lv a' b' r.s → Clear (S.again r a b).rs (S.again r a b).lv a' b' r.s := by
  unfold Bs.again
  split
  · rename_i hab
    refine ⟨hx.ok.lay (r := { r with f := a, t := b }) ⟨hk.1, by show 1 ≤ a; omega, hab, by show b ≤ _; omega, hk.2.2.2.2.1, hk.2.2.2.2.2, .inl hu⟩ hx.clear, fun a' b' hd hc => ?_⟩
    exact hc.lay hx.ok.bnd (r := { r with f := a, t := b }) (by
      rcases hd with hd | hd
      · exact .inl hd
      · exact .inr (.inl hd))
  · exact ⟨hx.ok, fun a' b' _ hc => hc⟩
theorem split_ok {S : Bs} {last t a b : Int} {i : Nat} {r : Rc} (h : S.Ok last) (ht : last ≤ t) (hi : S.lv i) (hr : S.rs[i]? = some r) (hu : r.u = 0) (h1 : r.f ≤ a) (hab : a < b) (h2 : b ≤ r.t) :
    (S.split i r a b t).Ok t ∧ Clear (S.split i r a b t).rs (S.split i r a b t).lv a b t := by
  have hk := h.ok i r hi hr
  obtain ⟨d1, d2⟩ := Bt.del h hi hr hu
  have e1 : BsC (S.del i r) t r.f r.t r.s := ⟨Bt.later d1 ht, d2⟩
  have hk2 : r.v ≠ 0 ∧ 1 ≤ r.f ∧ r.f < r.t ∧ r.t ≤ 3652060 ∧ 1 ≤ r.s ∧ r.s ≤ t := ⟨hk.1, hk.2.1, hk.2.2.1, hk.2.2.2.1, hk.2.2.2.2.1, by omega⟩
  obtain ⟨f1, f2⟩ := again_ok (a := r.f) (b := a) (a' := 0) (b' := 0) (.inl e1) ⟨e1.ok, e1.clear.sub (Int.le_refl _) (by omega) (Int.le_refl _)⟩ hk2 hu (Int.le_refl _) (by omega)
  have c2 := f2 a r.t (.inl (Int.le_refl _)) (d2.sub h1 (Int.le_refl _) (Int.le_refl _))
  obtain ⟨g1, g2⟩ := again_ok (S := (S.del i r).again r r.f a) (a := b) (b := r.t) (a' := b) (b' := r.t) (.inr ⟨f1, c2.sub (by omega) (Int.le_refl _) (Int.le_refl _)⟩) ⟨f1, c2.sub (by omega) (Int.le_refl _) (Int.le_refl _)⟩ hk2 hu (by omega) (Int.le_refl _)
  have c3 := g2 a b (.inr (Int.le_refl _)) (c2.sub (Int.le_refl _) h2 (Int.le_refl _))
  unfold Bs.split
  split
  · rename_i hst
    refine ⟨g1.lay (r := { r with f := a, t := b, u := t }) ⟨hk.1, by show 1 ≤ a; omega, hab, by show b ≤ _; omega, hk.2.2.2.2.1, hk2.2.2.2.2.2, .inr ⟨hst, Int.le_refl _⟩⟩ c3, ?_⟩
    exact (c3.sub (Int.le_refl _) (Int.le_refl _) (by omega)).lay g1.bnd (r := { r with f := a, t := b, u := t }) (.inr (.inr ⟨by show t ≠ 0; omega, Int.le_refl _⟩))
  · exact ⟨g1, c3.sub (Int.le_refl _) (Int.le_refl _) hk2.2.2.2.2.2⟩
theorem begin_ok {S : Bs} {t a b v : Int} (h : S.Ok t) (hc : Clear S.rs S.lv a b t) (ht : 1 ≤ t) (h1 : 1 ≤ a) (hab : a < b) (h2 : b ≤ 3652060) (hv : v ≠ 0) : (S.lay ⟨a, b, t, 0, v⟩).Ok t :=
  Bt.lay h (r := ⟨a, b, t, 0, v⟩) ⟨hv, h1, hab, h2, ht, Int.le_refl _, .inl rfl⟩ hc
/-- days on which nothing is open are clear from the last transaction on -/
theorem clear_none {S : Bs} {last t a b : Int} (h : S.Ok last) (ht : last ≤ t) (hg : ∀ d, a ≤ d → d < b → S.g d = 0) (hab : a < b) : Clear S.rs S.lv a b t := fun j rj hj hr h1 h2 => by
  have hk := h.ok j rj hj hr
  by_cases hu : rj.u = 0
  · exfalso
    have hd := h.shows j rj (max a rj.f) hj hr hu (by omega) (by omega)
    have := hg (max a rj.f) (by omega) (by omega)
    omega
  · exact ⟨hu, by omega⟩
end Go.Proofs.Ytngglpekdjhbdaa
namespace Go.Proofs.Ytngglpekdjhbdaa
set_option linter.unusedVariables false

def Rc.has (r : Rc) (t d : Int) : Prop := r.f ≤ d ∧ d < r.t ∧ r.s ≤ t ∧ (r.u = 0 ∨ t < r.u)
theorem only_one {rs : List Rc} {lv : Nat → Prop} {g : Int → Int} {last t d : Int} (h : Bt rs lv g last) {i j : Nat} {ri rj : Rc} (hi : lv i) (hj : lv j) (e1 : rs[i]? = some ri) (e2 : rs[j]? = some rj) (h1 : ri.has t d) (h2 : rj.has t d) : i = j := by
  refine Decidable.byContradiction fun hne => ?_
  obtain ⟨a1, a2, a3, a4⟩ := h1
  obtain ⟨b1, b2, b3, b4⟩ := h2
  rcases h.apart i j ri rj hi hj hne e1 e2 (by omega) (by omega) with ⟨k1, k2⟩ | ⟨k1, k2⟩
  · rcases a4 with a4 | a4 <;> omega
  · rcases b4 with b4 | b4 <;> omega
/-- one segment of a put: its days, the number that is open there (0: none), the value that is put -/
def Bs.val (S : Bs) (id : Int) : Int := if 0 < id then ((S.rs[(id - 1).toNat]?).map Rc.v).getD 0 else 0
def Bs.step (S : Bs) (t v a b id : Int) : Bs :=
  if S.val id = v then S
  else
    let S1 := if 0 < id then (match S.rs[(id - 1).toNat]? with | some r => S.split (id - 1).toNat r a b t | none => S) else S
    if v = 0 then S1 else S1.lay ⟨a, b, t, 0, v⟩
/-- what a segment's number says -/
def SegId (S : Bs) (a b id : Int) : Prop := (id = 0 ∧ ∀ d, a ≤ d → d < b → S.g d = 0) ∨ (0 < id ∧ ∃ r, S.lv (id - 1).toNat ∧ S.rs[(id - 1).toNat]? = some r ∧ r.u = 0 ∧ r.f ≤ a ∧ b ≤ r.t)
theorem step_ok {S : Bs} {last t a b id v : Int} (h : S.Ok last) (ht : last ≤ t) (h0 : 1 ≤ t) (ha : 1 ≤ a) (hab : a < b) (hb : b ≤ 3652060) (hs : SegId S a b id) : (S.step t v a b id).Ok t := by
  unfold Bs.step
  split
  · exact Bt.later h ht
  · rcases hs with ⟨rfl, hg⟩ | ⟨hid, r, r1, r2, r3, r4, r5⟩
    · simp only [Int.lt_irrefl, if_false]
      split
      · exact Bt.later h ht
      · rename_i hv
        exact begin_ok (Bt.later h ht) (clear_none h ht hg hab) h0 ha hab hb hv
    · obtain ⟨s1, s2⟩ := split_ok h ht r1 r2 r3 r4 hab r5
      rw [if_pos hid, r2]
      dsimp only
      split
      · exact s1
      · rename_i hv
        exact begin_ok s1 s2 h0 ha hab hb hv
/-- what stays of rectangles: those that were, but one -/
structure Keeps (S S' : Bs) (i : Int) (a b : Int) : Prop where
  rs : ∀ (k : Nat) (r : Rc), S.rs[k]? = some r → S'.rs[k]? = some r
  lv : ∀ k : Nat, S.lv k → (k : Int) + 1 ≠ i → S'.lv k
  g : ∀ d, S.g d = 0 → ¬ (a ≤ d ∧ d < b) → S'.g d = 0
theorem Keeps.refl (S : Bs) (i a b : Int) : Keeps S S i a b := ⟨fun _ _ h => h, fun _ h _ => h, fun _ h _ => h⟩
theorem lay_keeps {S0 S : Bs} {i a b : Int} (h : Keeps S0 S i a b) {r : Rc} (hr : r.u = 0 → ∀ d, S0.g d = 0 → ¬ (a ≤ d ∧ d < b) → ¬ (r.f ≤ d ∧ d < r.t)) : Keeps S0 (S.lay r) i a b := by
  refine ⟨fun k x hx => ?_, fun k hk hne => .inl (h.lv k hk hne), fun d hd hn => ?_⟩
  · have h1 := h.rs k x hx
    have := (List.getElem?_eq_some_iff.1 h1).1
    show (S.rs ++ [r])[k]? = some x
    rw [List.getElem?_append_left this]; exact h1
  · show (if r.u = 0 ∧ r.f ≤ d ∧ d < r.t then (S.rs.length : Int) + 1 else S.g d) = 0
    rw [if_neg (fun hh => hr hh.1 d hd hn hh.2)]
    exact h.g d hd hn
theorem split_keeps {S : Bs} {last t a b : Int} {i : Nat} {r : Rc} (h : S.Ok last) (hi : S.lv i) (hr : S.rs[i]? = some r) (hu : r.u = 0) (h1 : r.f ≤ a) (hab : a < b) (h2 : b ≤ r.t) (h0 : 1 ≤ t) : Keeps S (S.split i r a b t) ((i : Int) + 1) a b := by
  have hd : ∀ d, S.g d = 0 → ¬ (a ≤ d ∧ d < b) → ¬ (r.f ≤ d ∧ d < r.t) := fun d hd _ hh => by
    have := h.shows i r d hi hr hu hh.1 hh.2
    omega
  have k1 : Keeps S (S.del i r) ((i : Int) + 1) a b := ⟨fun _ _ h => h, fun k hk hne => ⟨hk, fun e => hne (by omega)⟩, fun d hg _ => by
    show (if r.f ≤ d ∧ d < r.t then 0 else S.g d) = 0
    split
    · rfl
    · exact hg⟩
  have k2 : Keeps S ((S.del i r).again r r.f a) ((i : Int) + 1) a b := by
    unfold Bs.again
    split
    · exact lay_keeps k1 (fun _ d hg hn hh => hd d hg hn ⟨hh.1, by have : d < a := hh.2; omega⟩)
    · exact k1
  have k3 : Keeps S (((S.del i r).again r r.f a).again r b r.t) ((i : Int) + 1) a b := by
    rw [show ((S.del i r).again r r.f a).again r b r.t = if b < r.t then ((S.del i r).again r r.f a).lay { r with f := b, t := r.t } else (S.del i r).again r r.f a from rfl]
    split
    · exact lay_keeps k2 (fun _ d hg hn hh => hd d hg hn ⟨by have : b ≤ d := hh.1; omega, hh.2⟩)
    · exact k2
  unfold Bs.split
  split
  · exact lay_keeps k3 (fun hu2 => absurd hu2 (by show t ≠ 0; omega))
  · exact k3
theorem step_keeps {S : Bs} {last t v a b id : Int} (h : S.Ok last) (h0 : 1 ≤ t) (hab : a < b) (hs : SegId S a b id) : Keeps S (S.step t v a b id) id a b := by
  have hb : ∀ {S1 : Bs}, Keeps S S1 id a b → Keeps S (if v = 0 then S1 else S1.lay ⟨a, b, t, 0, v⟩) id a b := fun {S1} k => by
    split
    · exact k
    · exact lay_keeps k (fun _ d _ hn hh => hn hh)
  unfold Bs.step
  split
  · exact Keeps.refl _ _ _ _
  · rcases hs with ⟨rfl, hg⟩ | ⟨hid, r, r1, r2, r3, r4, r5⟩
    · simp only [Int.lt_irrefl, if_false]
      exact hb (Keeps.refl _ _ _ _)
    · rw [if_pos hid, r2]
      have := split_keeps (t := t) h r1 r2 r3 r4 hab r5 h0
      rw [show (((id - 1).toNat : Nat) : Int) + 1 = id from by omega] at this
      exact hb this
theorem segId_keeps {S S' : Bs} {i a b a' b' id' : Int} (h : Keeps S S' i a b) (hs : SegId S a' b' id') (hd : b ≤ a' ∨ b' ≤ a) (hne : id' = 0 ∨ id' ≠ i) : SegId S' a' b' id' := by
  rcases hs with ⟨rfl, hg⟩ | ⟨hid, r, r1, r2, r3, r4, r5⟩
  · exact .inl ⟨rfl, fun d h1 h2 => h.g d (hg d h1 h2) (by omega)⟩
  · refine .inr ⟨hid, r, h.lv _ r1 (by omega), h.rs _ _ r2, r3, r4, r5⟩
end Go.Proofs.Ytngglpekdjhbdaa
namespace Go.Proofs.Ytngglpekdjhbdaa
set_option linter.unusedVariables false

theorem fold_none {l : List Rc} {p : Rc → Bool} (w : Int) (h : ∀ r, r ∈ l → p r = false) : l.foldl (fun w r => if p r = true then r.v else w) w = w := by
  induction l generalizing w with
  | nil => rfl
  | cons x l ih =>
    rw [List.foldl_cons, h x (List.mem_cons_self ..)]
    exact ih _ fun r hr => h r (List.mem_cons_of_mem _ hr)
theorem fold_one {l : List Rc} {p : Rc → Bool} {v : Int} (w : Int) (h : ∀ r, r ∈ l → p r = true → r.v = v) (he : ∃ r, r ∈ l ∧ p r = true) : l.foldl (fun w r => if p r = true then r.v else w) w = v := by
  induction l generalizing w with
  | nil => obtain ⟨r, hr, _⟩ := he; exact absurd hr (List.not_mem_nil)
  | cons x l ih =>
    rw [List.foldl_cons]
    by_cases hl : ∃ r, r ∈ l ∧ p r = true
    · exact ih _ (fun r hr => h r (List.mem_cons_of_mem _ hr)) hl
    · rw [fold_none _ fun r hr => by
        cases hp : p r with
        | false => rfl
        | true => exact absurd ⟨r, hr, hp⟩ hl]
      obtain ⟨r, hr, hp⟩ := he
      rcases List.mem_cons.mp hr with e | hr
      · rw [← e, if_pos hp]
        exact h r (List.mem_cons.mpr (Or.inl e)) hp
      · exact absurd ⟨r, hr, hp⟩ hl
theorem find_one {l : List Rc} {p : Rc → Bool} {v : Int} (h : ∀ r, r ∈ l → p r = true → r.v = v) (he : ∃ r, r ∈ l ∧ p r = true) : ((l.find? p).map Rc.v).getD 0 = v := by
  cases hf : l.find? p with
  | none =>
    obtain ⟨r, hr, hp⟩ := he
    exact absurd hp (List.find?_eq_none.mp hf r hr)
  | some x => exact h x (List.mem_of_find?_eq_some hf) (List.find?_some hf)
/-- two lists, of which one has what the other has of the rectangles asked for: the last of one is the first of the other -/
theorem fold_find {l m : List Rc} {p q : Rc → Bool} (hs : ∀ r, (r ∈ l ∧ p r = true) ↔ (r ∈ m ∧ q r = true)) (hu : ∀ a b, a ∈ l → b ∈ l → p a = true → p b = true → a.v = b.v) :
    l.foldl (fun w r => if p r = true then r.v else w) 0 = ((m.find? q).map Rc.v).getD 0 := by
  by_cases he : ∃ r, r ∈ l ∧ p r = true
  · obtain ⟨x, hx, hp⟩ := he
    rw [fold_one (v := x.v) 0 (fun r hr h => hu r x hr hx h hp) ⟨x, hx, hp⟩]
    refine (find_one (fun r hr h => ?_) ⟨x, (hs x).mp ⟨hx, hp⟩⟩).symm
    obtain ⟨k1, k2⟩ := (hs r).mpr ⟨hr, h⟩
    exact hu r x k1 hx k2 hp
  · have hn : m.find? q = none := List.find?_eq_none.mpr fun r hr h => he ⟨r, (hs r).mpr ⟨hr, h⟩⟩
    rw [hn, fold_none 0 fun r hr => by
      cases hp : p r with
      | false => rfl
      | true => exact absurd ⟨r, hr, hp⟩ he]
    rfl
/-- no two of the live ones have a day and a transaction in common, as the law asks it -/
theorem apart_law {rs : List Rc} {lv : Nat → Prop} {g : Int → Int} {last : Int} (h : Bt rs lv g last) {i j : Nat} {x r : Rc} (hi : lv i) (hj : lv j) (hne : i ≠ j) (e1 : rs[i]? = some x) (e2 : rs[j]? = some r) :
    ¬ (x.f < r.t ∧ r.f < x.t ∧ (r.u = 0 ∨ x.s < r.u) ∧ (x.u = 0 ∨ r.s < x.u)) := by
  rintro ⟨h1, h2, h3, h4⟩
  rcases h.apart i j x r hi hj hne e1 e2 h1 h2 with ⟨k1, k2⟩ | ⟨k1, k2⟩
  · rcases h4 with h4 | h4 <;> omega
  · rcases h3 with h3 | h3 <;> omega

end Go.Proofs.Ytngglpekdjhbdaa
