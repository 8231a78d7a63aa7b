/- Graph, plain: what stands on a field, found along the order, and found by going over the links again and again. No program is named here. -/
import Derived.Test.YtefaihockgebeaaGrG
namespace Go.Proofs.Ytefaihockgebeaa
set_option linter.unusedSimpArgs false
set_option linter.unusedVariables false

/-- those of the first n numbers for which something holds -/
def selU (p : Nat → Bool) : Nat → List Int
  | 0 => []
  | k + 1 => selU p k ++ (if p k then [(k : Int)] else [])
theorem selU_len (p : Nat → Bool) : ∀ n, (selU p n).length ≤ n
  | 0 => by simp [selU]
  | n + 1 => by
    have := selU_len p n
    unfold selU
    split <;> simp <;> omega
theorem selU_congr {p q : Nat → Bool} : ∀ n, (∀ k, k < n → p k = q k) → selU p n = selU q n
  | 0, _ => rfl
  | n + 1, h => by
    unfold selU
    rw [selU_congr n fun k hk => h k (by omega), h n (by omega)]
theorem selU_mem {p : Nat → Bool} : ∀ {n : Nat} {z : Int}, z ∈ selU p n ↔ ∃ k : Nat, z = k ∧ k < n ∧ p k = true
  | 0, z => by simp [selU]
  | n + 1, z => by
    unfold selU
    rw [List.mem_append, selU_mem]
    constructor
    · rintro (⟨k, e, h1, h2⟩ | h)
      · exact ⟨k, e, by omega, h2⟩
      · by_cases hp : p n = true
        · rw [if_pos hp] at h; exact ⟨n, List.mem_singleton.1 h, by omega, hp⟩
        · rw [if_neg hp] at h; cases h
    · rintro ⟨k, e, h1, h2⟩
      by_cases hk : k = n
      · subst hk; rw [if_pos h2]; exact .inr (List.mem_singleton.2 e)
      · exact .inl ⟨k, e, by omega, h2⟩
theorem stands_iff {L : Lks} {k i : Int} : Stands L k i ↔ k = i ∨ ∃ x ∈ linksOf L k.toNat, Stands L x.1 i := by
  constructor
  · intro h
    cases h with
    | self => exact .inl rfl
    | step hx e h => subst e; exact .inr ⟨_, hx, h⟩
  · rintro (rfl | ⟨x, hx, h⟩)
    · exact .self _
    · exact .step hx rfl h
/-- which fields stand on one, by what is known of some of them -/
def AboveB (L : Lks) (n : Nat) (i : Int) (done : List Int) (A : List Bool) : Prop := A.length = n ∧ ∀ k : Nat, k < n → (A.getD k false = true ↔ ((k : Int) = i ∨ ((k : Int) ∈ done ∧ Stands L k i)))
theorem AboveB.start (L : Lks) {n i : Nat} (hi : i < n) : AboveB L n i [] ((List.replicate n false).set i true) := by
  refine ⟨by simp, fun k hk => ?_⟩
  by_cases e : i = k
  · subst e; simp [hk]
  · simp [List.getElem?_set, e, hk, Ne.symm e]
    omega
theorem AboveB.step {L : Lks} {n : Nat} {i : Int} {out done rest : List Int} {k : Nat} {A : List Bool} (h : AboveB L n i done A) (ho : Ordered L n out) (e : out = done ++ (k : Int) :: rest) :
    AboveB L n i (done ++ [(k : Int)]) (A.set k (A.getD k false || (linksOf L k).any fun x => A.getD x.1.toNat false)) := by
  have hk : k < n := by have := ho.below k (by rw [e]; simp); omega
  have hlinks : ∀ x ∈ linksOf L k, x.1 ∈ done := by
    have := ho.links done k rest e
    simpa using this
  have hany : ((linksOf L k).any fun x => A.getD x.1.toNat false) = true ↔ ∃ x ∈ linksOf L k, Stands L x.1 i := by
    rw [List.any_eq_true]
    constructor
    · rintro ⟨x, hx, ha⟩
      have hb := ho.below x.1 (by rw [e]; exact List.mem_append.2 (.inl (hlinks x hx)))
      have := (h.2 x.1.toNat (by omega)).1 ha
      rw [Int.toNat_of_nonneg hb.1] at this
      rcases this with hh | hh
      · exact ⟨x, hx, hh ▸ .self _⟩
      · exact ⟨x, hx, hh.2⟩
    · rintro ⟨x, hx, hs⟩
      have hb := ho.below x.1 (by rw [e]; exact List.mem_append.2 (.inl (hlinks x hx)))
      refine ⟨x, hx, (h.2 x.1.toNat (by omega)).2 ?_⟩
      rw [Int.toNat_of_nonneg hb.1]
      exact .inr ⟨hlinks x hx, hs⟩
  refine ⟨by simpa using h.1, fun j hj => ?_⟩
  by_cases ej : k = j
  · subst ej
    have : (A.set k (A.getD k false || (linksOf L k).any fun x => A.getD x.1.toNat false)).getD k false = (A.getD k false || (linksOf L k).any fun x => A.getD x.1.toNat false) := by
      simp [h.1, hk]
    rw [this, Bool.or_eq_true, hany, h.2 k hk, stands_iff]
    simp only [Int.toNat_natCast, List.mem_append, List.mem_singleton, or_true, true_and]
    constructor
    · rintro ((a | ⟨a, b⟩) | a)
      · exact .inl a
      · exact .inr b
      · exact .inr (.inr a)
    · rintro (a | a | a)
      · exact .inl (.inl a)
      · exact .inl (.inl a)
      · exact .inr a
  · have e1 : (A.set k (A.getD k false || (linksOf L k).any fun x => A.getD x.1.toNat false)).getD j false = A.getD j false := by simp [List.getElem?_set, ej]
    rw [e1, h.2 j hj]
    simp only [List.mem_append, List.mem_singleton, show ¬ (j : Int) = k by omega, or_false]
theorem AboveB.stop {L : Lks} {n : Nat} {i : Int} {out : List Int} {A : List Bool} (h : AboveB L n i out A) (hf : ∀ z : Int, 0 ≤ z → z < n → z ∈ out) {k : Nat} (hk : k < n) : A.getD k false = true ↔ Stands L k i := by
  rw [h.2 k hk]
  constructor
  · rintro (e | ⟨_, b⟩)
    · exact e ▸ .self _
    · exact b
  · intro hs
    exact .inr ⟨hf k (by omega) (by omega), hs⟩
/-- what has been found to stand on a field -/
structure Found (L : Lks) (n : Nat) (i : Int) (f : List Int) : Prop where
  nodup : f.Nodup
  mem : i ∈ f
  stand : ∀ z ∈ f, (0 ≤ z ∧ z < n) ∧ Stands L z i
theorem Found.start (L : Lks) {n : Nat} {i : Int} (h0 : 0 ≤ i) (hi : i < n) : Found L n i [i] := ⟨by simp, by simp, fun z hz => by simp at hz; subst hz; exact ⟨⟨h0, hi⟩, .self _⟩⟩
theorem Found.add {L : Lks} {n : Nat} {i : Int} {f : List Int} (h : Found L n i f) {k : Nat} (hk : k < n) (hn : (k : Int) ∉ f) {x : Sp} (hx : x ∈ linksOf L k) (hf : x.1 ∈ f) : Found L n i (f ++ [(k : Int)]) := by
  refine ⟨?_, List.mem_append.2 (.inl h.mem), fun z hz => ?_⟩
  · rw [List.nodup_append]
    exact ⟨h.nodup, by simp, fun a ha b hb => by simp at hb; subst hb; exact fun e => hn (e ▸ ha)⟩
  · rcases List.mem_append.1 hz with hz | hz
    · exact h.stand z hz
    · simp at hz; subst hz
      exact ⟨by omega, .step (by simpa using hx) rfl (h.stand _ hf).2⟩
theorem Found.len {L : Lks} {n : Nat} {i : Int} {f : List Int} (h : Found L n i f) : f.length ≤ n := below_length h.nodup fun z hz => (h.stand z hz).1
theorem Found.done {L : Lks} {n : Nat} {i : Int} {f : List Int} (h : Found L n i f) (hL : LinksIn L n) (hc : ∀ k : Nat, k < n → ∀ x ∈ linksOf L k, x.1 ∈ f → (k : Int) ∈ f) {z : Int} (h0 : 0 ≤ z) (hz : z < n) : z ∈ f ↔ Stands L z i := by
  constructor
  · exact fun hm => (h.stand z hm).2
  · intro hs
    induction hs with
    | self => exact h.mem
    | @step k j i x hx e hs ih =>
      subst e
      have hb := hL k.toNat (by omega) x hx
      have := hc k.toNat (by omega) x hx (ih h hb.1 hb.2)
      rwa [Int.toNat_of_nonneg h0] at this
end Go.Proofs.Ytefaihockgebeaa
