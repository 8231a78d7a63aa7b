/- Graph, plain: the order of fields, taken one by one, the least first; rings; what stands on what. No program is named here. -/
import Derived.Test.YtefaihockgebeaaGreatSpB
namespace Go.Proofs.YtefaihockgebeaaGreat
set_option linter.unusedSimpArgs false
set_option linter.unusedVariables false

/-- links of each field, as pairs (To, Back) -/
abbrev Lks := List (List Sp)
def linksOf (L : Lks) (k : Nat) : List Sp := L.getD k []
/-- do all links of a field lead to such as are among some? -/
def freeB (l : List Sp) (out : List Int) : Bool := l.all fun x => out.contains x.1
/-- the least field below m that is not among out and whose links all lead there, or the one given -/
def nextR (L : Lks) (out : List Int) : Nat → Nat → Option Int
  | _, 0 => none
  | i, m + 1 => if !out.contains (i : Int) && freeB (linksOf L i) out then some (i : Int) else nextR L out (i + 1) m
def ordF (L : Lks) (n : Nat) : Nat → List Int → List Int
  | 0, out => out
  | m + 1, out => match nextR L out 0 n with | none => out | some i => ordF L n m (out ++ [i])
/-- a field that may come next -/
def Ready (L : Lks) (n : Nat) (out : List Int) (z : Int) : Prop := ∃ i : Nat, z = i ∧ i < n ∧ z ∉ out ∧ ∀ x ∈ linksOf L i, x.1 ∈ out
theorem freeB_iff {l : List Sp} {out : List Int} : freeB l out = true ↔ ∀ x ∈ l, x.1 ∈ out := by simp [freeB]
theorem nextR_some {L : Lks} {out : List Int} : ∀ {m i : Nat} {z : Int}, nextR L out i m = some z → (∃ k : Nat, z = k ∧ i ≤ k ∧ k < i + m ∧ z ∉ out ∧ ∀ x ∈ linksOf L k, x.1 ∈ out) ∧ ∀ k : Nat, i ≤ k → (k : Int) < z → ¬ ((k : Int) ∉ out ∧ ∀ x ∈ linksOf L k, x.1 ∈ out)
  | 0, i, z, h => by cases h
  | m + 1, i, z, h => by
    rw [nextR] at h
    by_cases hc : (!out.contains (i : Int) && freeB (linksOf L i) out) = true
    · rw [if_pos hc] at h
      cases h
      simp only [Bool.and_eq_true, Bool.not_eq_true', List.contains_eq_mem, decide_eq_false_iff_not, freeB_iff] at hc
      exact ⟨⟨i, rfl, Nat.le_refl _, by omega, hc.1, hc.2⟩, fun k h1 h2 => by omega⟩
    · rw [if_neg hc] at h
      obtain ⟨⟨k, h1, h2, h3, h4⟩, h5⟩ := nextR_some h
      simp only [Bool.and_eq_true, Bool.not_eq_true', List.contains_eq_mem, decide_eq_false_iff_not, freeB_iff] at hc
      refine ⟨⟨k, h1, by omega, by omega, h4⟩, fun j j1 j2 => ?_⟩
      by_cases hj : j = i
      · subst hj; exact hc
      · exact h5 j (by omega) j2
theorem nextR_none {L : Lks} {out : List Int} : ∀ {m i : Nat}, nextR L out i m = none → ∀ k : Nat, i ≤ k → k < i + m → ¬ ((k : Int) ∉ out ∧ ∀ x ∈ linksOf L k, x.1 ∈ out)
  | 0, i, _, k, h1, h2 => by omega
  | m + 1, i, h, k, h1, h2 => by
    rw [nextR] at h
    by_cases hc : (!out.contains (i : Int) && freeB (linksOf L i) out) = true
    · rw [if_pos hc] at h; cases h
    · rw [if_neg hc] at h
      simp only [Bool.and_eq_true, Bool.not_eq_true', List.contains_eq_mem, decide_eq_false_iff_not, freeB_iff] at hc
      by_cases hj : k = i
      · subst hj; exact hc
      · exact nextR_none h k (by omega) (by omega)
/-- the least that is ready comes next -/
theorem nextR_least {L : Lks} {out : List Int} {n : Nat} {z : Int} (h : Ready L n out z) (hl : ∀ y, Ready L n out y → z ≤ y) : nextR L out 0 n = some z := by
  cases hn : nextR L out 0 n with
  | none =>
    obtain ⟨i, rfl, h1, h2⟩ := h
    exact (nextR_none hn i (by omega) (by omega) h2).elim
  | some y =>
    obtain ⟨⟨k, rfl, k1, k2, k3⟩, h5⟩ := nextR_some hn
    have a := hl k ⟨k, rfl, by omega, k3⟩
    obtain ⟨i, rfl, h1, h2⟩ := h
    rcases Int.lt_or_eq_of_le a with hlt | he
    · exact (h5 i (by omega) hlt h2).elim
    · rw [he]
theorem nextR_stop {L : Lks} {out : List Int} {n : Nat} (h : ∀ y, ¬ Ready L n out y) : nextR L out 0 n = none := by
  cases hn : nextR L out 0 n with
  | none => rfl
  | some y =>
    obtain ⟨⟨k, rfl, k1, k2, k3⟩, h5⟩ := nextR_some hn
    exact (h k ⟨k, rfl, by omega, k3⟩).elim
theorem nextR_ready {L : Lks} {out : List Int} {n : Nat} {z : Int} (h : nextR L out 0 n = some z) : Ready L n out z := by
  obtain ⟨⟨k, rfl, k1, k2, k3⟩, _⟩ := nextR_some h
  exact ⟨k, rfl, by omega, k3⟩
theorem nextR_dry {L : Lks} {out : List Int} {n : Nat} (h : nextR L out 0 n = none) : ∀ y, ¬ Ready L n out y := by
  rintro y ⟨i, rfl, h1, h2⟩
  exact nextR_none h i (by omega) (by omega) h2
/-! ### numbers below n -/
theorem nodup_length : ∀ {l m : List Int}, l.Nodup → (∀ z ∈ l, z ∈ m) → l.length ≤ m.length
  | [], m, _, _ => by simp
  | x :: l, m, h, hs => by
    have hx := hs x (.head _)
    have h2 := List.nodup_cons.1 h
    have := nodup_length (l := l) (m := m.erase x) h2.2 (fun z hz => (List.mem_erase_of_ne (fun e => h2.1 (by rw [← e]; exact hz))).2 (hs z (.tail _ hz)))
    rw [List.length_erase_of_mem hx] at this
    have : 0 < m.length := List.length_pos_of_mem hx
    simp only [List.length_cons]
    omega
def upTo (n : Nat) : List Int := (List.range n).map fun i : Nat => (i : Int)
theorem mem_upTo {n : Nat} {z : Int} : z ∈ upTo n ↔ 0 ≤ z ∧ z < n := by
  simp only [upTo, List.mem_map, List.mem_range]
  constructor
  · rintro ⟨i, h, rfl⟩; omega
  · intro h; exact ⟨z.toNat, by omega, by omega⟩
theorem upTo_length (n : Nat) : (upTo n).length = n := by simp [upTo]
theorem below_length {l : List Int} {n : Nat} (h : l.Nodup) (hb : ∀ z ∈ l, 0 ≤ z ∧ z < n) : l.length ≤ n := by
  have := nodup_length (m := upTo n) h fun z hz => mem_upTo.2 (hb z hz)
  rwa [upTo_length] at this
theorem below_full {l : List Int} {n : Nat} (h : l.Nodup) (hb : ∀ z ∈ l, 0 ≤ z ∧ z < n) (hl : n ≤ l.length) {z : Int} (h0 : 0 ≤ z) (hz : z < n) : z ∈ l := by
  refine Classical.byContradiction fun hn => ?_
  have := below_length (l := z :: l) (n := n) (List.nodup_cons.2 ⟨hn, h⟩) (fun y hy => by
    rcases List.mem_cons.1 hy with rfl | hy
    · exact ⟨h0, hz⟩
    · exact hb y hy)
  simp at this; omega
/-! ### the order -/
/-- what stands in an order: each once, each behind all that it stands on -/
structure Ordered (L : Lks) (n : Nat) (out : List Int) : Prop where
  nodup : out.Nodup
  below : ∀ z ∈ out, 0 ≤ z ∧ z < n
  links : ∀ a i b, out = a ++ i :: b → ∀ x ∈ linksOf L i.toNat, x.1 ∈ a
theorem Ordered.nil (L : Lks) (n : Nat) : Ordered L n [] := ⟨.nil, by simp, fun a i b h => by cases a <;> cases h⟩
theorem Ordered.snoc {L : Lks} {n : Nat} {out : List Int} {z : Int} (h : Ordered L n out) (hz : Ready L n out z) : Ordered L n (out ++ [z]) := by
  obtain ⟨i, rfl, h1, h2, h3⟩ := hz
  refine ⟨?_, ?_, ?_⟩
  · rw [List.nodup_append]
    exact ⟨h.nodup, by simp, fun a ha b hb => by simp at hb; subst hb; exact fun e => h2 (e ▸ ha)⟩
  · intro z hz
    rcases List.mem_append.1 hz with hz | hz
    · exact h.below z hz
    · simp at hz; subst hz; omega
  · intro a k b e x hx
    rcases List.append_eq_append_iff.1 e with ⟨c, e1, e2⟩ | ⟨c, e1, e2⟩
    · cases c with
      | nil =>
        simp at e1 e2
        obtain ⟨rfl, rfl⟩ := e2
        subst e1
        simp at hx
        exact h3 x hx
      | cons y c =>
        simp at e2
    · cases c with
      | nil =>
        simp at e1 e2
        obtain ⟨rfl, rfl⟩ := e2
        subst e1
        simp at hx
        exact h3 x hx
      | cons y c =>
        simp at e2
        obtain ⟨rfl, e2⟩ := e2
        exact h.links a k c e1 x hx
theorem ordF_ordered {L : Lks} {n : Nat} : ∀ (m : Nat) {out : List Int}, Ordered L n out → Ordered L n (ordF L n m out)
  | 0, out, h => h
  | m + 1, out, h => by
    rw [ordF]
    cases hn : nextR L out 0 n with
    | none => exact h
    | some i => exact ordF_ordered m (h.snoc (nextR_ready hn))
theorem ordF_dry {L : Lks} {n : Nat} : ∀ (m : Nat) {out : List Int}, Ordered L n out → n ≤ out.length + m → ∀ y, ¬ Ready L n (ordF L n m out) y
  | 0, out, h, hl => by
    rintro y ⟨i, rfl, h1, h2, h3⟩
    exact h2 (below_full h.nodup h.below hl (by omega) (by omega))
  | m + 1, out, h, hl => by
    rw [ordF]
    cases hn : nextR L out 0 n with
    | none => exact nextR_dry hn
    | some i => exact ordF_dry m (h.snoc (nextR_ready hn)) (by simp; omega)
def orderR (L : Lks) (n : Nat) : List Int := ordF L n n []
theorem orderR_ordered (L : Lks) (n : Nat) : Ordered L n (orderR L n) := ordF_ordered n (.nil L n)
theorem orderR_dry (L : Lks) (n : Nat) : ∀ y, ¬ Ready L n (orderR L n) y := ordF_dry n (.nil L n) (by simp)
theorem orderR_length (L : Lks) (n : Nat) : (orderR L n).length ≤ n := below_length (orderR_ordered L n).nodup (orderR_ordered L n).below
/-- a part of the order as it grows -/
def Ripe (L : Lks) (n : Nat) (out : List Int) : Prop := Ordered L n out ∧ ordF L n (n - out.length) out = orderR L n
theorem Ripe.nil (L : Lks) (n : Nat) : Ripe L n [] := ⟨.nil L n, by simp [orderR]⟩
theorem Ripe.snoc {L : Lks} {n : Nat} {out : List Int} {z : Int} (h : Ripe L n out) (hz : Ready L n out z) (hl : ∀ y, Ready L n out y → z ≤ y) : Ripe L n (out ++ [z]) := by
  have ho := h.1.snoc hz
  refine ⟨ho, ?_⟩
  have h1 := below_length ho.nodup ho.below
  simp at h1
  rw [← h.2, show n - out.length = (n - (out ++ [z]).length) + 1 by simp; omega]
  conv => rhs; rw [ordF, nextR_least hz hl]
theorem Ripe.done {L : Lks} {n : Nat} {out : List Int} (h : Ripe L n out) (hd : ∀ y, ¬ Ready L n out y) : out = orderR L n := by
  rw [← h.2]
  cases n - out.length with
  | zero => rfl
  | succ m => rw [ordF, nextR_stop hd]
end Go.Proofs.YtefaihockgebeaaGreat
