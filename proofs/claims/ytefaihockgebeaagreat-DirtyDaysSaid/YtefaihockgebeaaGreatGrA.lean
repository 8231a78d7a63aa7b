/- Graph, plain: a binary heap laid in a row: what up and down keep. No program is named here. -/
import Derived.Test.YtefaihockgebeaaGreatKit
namespace Go.Proofs.YtefaihockgebeaaGreat
set_option linter.unusedSimpArgs false
set_option linter.unusedVariables false

def at0 (l : List Int) (i : Nat) : Int := l.getD i 0
def swp (l : List Int) (i j : Nat) : List Int := (l.set i (at0 l j)).set j (at0 l i)
theorem swp_length (l : List Int) (i j : Nat) : (swp l i j).length = l.length := by simp [swp]
theorem at0_eq (l : List Int) (i : Nat) (h : i < l.length) : at0 l i = l[i] := by simp [at0, h]
theorem at0_mem {l : List Int} {i : Nat} (h : i < l.length) : at0 l i ∈ l := by rw [at0_eq _ _ h]; exact List.getElem_mem h
theorem swp_at {l : List Int} {i j : Nat} (hi : i < l.length) (hj : j < l.length) (k : Nat) : at0 (swp l i j) k = if k = j then at0 l i else if k = i then at0 l j else at0 l k := by
  unfold at0 swp
  simp only [List.getD_eq_getElem?_getD, List.getElem?_set, List.length_set]
  by_cases h1 : j = k
  · subst h1; simp [hj, at0]
  · have h1' : k ≠ j := fun e => h1 e.symm
    by_cases h2 : i = k
    · subst h2; simp [h1, h1', hi, at0]
    · have h2' : k ≠ i := fun e => h2 e.symm
      simp [h1, h2, h1', h2']
theorem swp_same {l : List Int} {i : Nat} (hi : i < l.length) : swp l i i = l := by
  apply List.ext_getElem
  · simp [swp]
  · intro k h1 h2
    simp only [swp, at0]
    by_cases h : k = i
    · subst h; simp [hi]
    · rw [List.getElem_set_ne (fun e => h e.symm), List.getElem_set_ne (fun e => h e.symm)]
theorem set_perm : ∀ (l : List Int) (i : Nat) (x : Int), i < l.length → (at0 l i :: l.set i x).Perm (x :: l)
  | [], i, x, h => by simp at h
  | y :: l, 0, x, _ => by simp only [at0, List.getD_cons_zero, List.set_cons_zero]; exact .swap _ _ _
  | y :: l, i + 1, x, h => by
    have ih := set_perm l i x (by simpa using h)
    simp only [at0, List.getD_cons_succ, List.set_cons_succ]
    exact (List.Perm.swap _ _ _).trans ((ih.cons y).trans (.swap _ _ _))
theorem swp_perm {l : List Int} {i j : Nat} (hi : i < l.length) (hj : j < l.length) : (swp l i j).Perm l := by
  have h1 := set_perm l i (at0 l j) hi
  have h2 := set_perm (l.set i (at0 l j)) j (at0 l i) (by simpa using hj)
  have e : at0 (l.set i (at0 l j)) j = at0 l j := by
    by_cases h : i = j
    · subst h; simp [at0, hi]
    · simp [at0, List.getElem?_set, h]
  rw [e] at h2
  exact (List.perm_cons (at0 l j)).1 (h2.trans h1)
def Heap (l : List Int) : Prop := ∀ k, 1 ≤ k → k < l.length → at0 l ((k - 1) / 2) ≤ at0 l k
def UpInv (l : List Int) (j : Nat) : Prop := ∀ k, 1 ≤ k → k < l.length → (k ≠ j → at0 l ((k - 1) / 2) ≤ at0 l k) ∧ ((k - 1) / 2 = j → 1 ≤ j → at0 l ((j - 1) / 2) ≤ at0 l k)
def DownInv (l : List Int) (i n : Nat) : Prop := ∀ k, 1 ≤ k → k < n → ((k - 1) / 2 ≠ i → at0 l ((k - 1) / 2) ≤ at0 l k) ∧ ((k - 1) / 2 = i → 1 ≤ i → at0 l ((i - 1) / 2) ≤ at0 l k)
theorem UpInv.push {l : List Int} (h : Heap l) (x : Int) : UpInv (l ++ [x]) l.length := by
  intro k h1 h2
  simp at h2
  have e : ∀ i, i < l.length → at0 (l ++ [x]) i = at0 l i := fun i hi => by simp [at0, List.getElem?_append, hi]
  refine ⟨fun hne => ?_, fun he => by omega⟩
  rw [e _ (by omega), e _ (by omega)]
  exact h k h1 (by omega)
theorem UpInv.step {l : List Int} {j : Nat} (h : UpInv l j) (hj : 1 ≤ j) (hl : j < l.length) (hlt : at0 l j < at0 l ((j - 1) / 2)) : UpInv (swp l ((j - 1) / 2) j) ((j - 1) / 2) := by
  have hi : (j - 1) / 2 < l.length := by omega
  have hij : (j - 1) / 2 < j := by omega
  intro k h1 h2
  rw [swp_length] at h2
  refine ⟨fun hne => ?_, fun he h3 => ?_⟩
  · rw [swp_at hi hl, swp_at hi hl]
    by_cases hk : k = j
    · subst hk
      rw [if_neg (by omega), if_pos rfl, if_pos rfl]; omega
    · rw [if_neg hk, if_neg hne]
      by_cases hp : (k - 1) / 2 = j
      · rw [if_pos hp]
        exact (h k h1 h2).2 hp hj
      · rw [if_neg hp]
        by_cases hq : (k - 1) / 2 = (j - 1) / 2
        · rw [if_pos hq]
          have := (h k h1 h2).1 hk
          rw [hq] at this; omega
        · rw [if_neg hq]
          exact (h k h1 h2).1 hk
  · rw [swp_at hi hl, swp_at hi hl, if_neg (by omega), if_neg (by omega)]
    have a1 := (h ((j - 1) / 2) h3 hi).1 (by omega)
    by_cases hk : k = j
    · rw [if_pos hk]; exact a1
    · rw [if_neg hk, if_neg (by omega)]
      have := (h k h1 h2).1 hk
      rw [he] at this; omega
theorem UpInv.stop {l : List Int} {j : Nat} (h : UpInv l j) (hs : 1 ≤ j → ¬ at0 l j < at0 l ((j - 1) / 2)) : Heap l := by
  intro k h1 h2
  by_cases hk : k = j
  · subst hk; have := hs h1; omega
  · exact (h k h1 h2).1 hk
theorem DownInv.step {l : List Int} {i n j : Nat} (h : DownInv l i n) (hn : n ≤ l.length) (hj : j < n) (hp : (j - 1) / 2 = i) (h1j : 1 ≤ j) (hlt : at0 l j < at0 l i)
    (hm : ∀ k, 1 ≤ k → k < n → (k - 1) / 2 = i → at0 l j ≤ at0 l k) : DownInv (swp l i j) j n := by
  have hi : i < l.length := by omega
  have hjl : j < l.length := by omega
  have hij : i < j := by omega
  intro k h1 h2
  refine ⟨fun hne => ?_, fun he h3 => ?_⟩
  · rw [swp_at hi hjl, swp_at hi hjl, if_neg hne]
    by_cases hk : k = j
    · subst hk
      rw [if_pos hp, if_pos rfl]; omega
    · rw [if_neg hk]
      by_cases hq : (k - 1) / 2 = i
      · rw [if_pos hq, if_neg (by omega)]
        exact hm k h1 h2 hq
      · rw [if_neg hq]
        by_cases hki : k = i
        · rw [if_pos hki]
          subst hki
          have := (h j h1j hj).2 hp h1
          exact this
        · rw [if_neg hki]
          exact (h k h1 h2).1 hq
  · rw [hp, swp_at hi hjl, swp_at hi hjl, if_neg (by omega), if_pos rfl, if_neg (by omega), if_neg (by omega)]
    have := (h k h1 h2).1 (by omega)
    rwa [he] at this
theorem DownInv.stop {l : List Int} {i n : Nat} (h : DownInv l i n) (hs : ∀ k, 1 ≤ k → k < n → (k - 1) / 2 = i → at0 l i ≤ at0 l k) : ∀ k, 1 ≤ k → k < n → at0 l ((k - 1) / 2) ≤ at0 l k := by
  intro k h1 h2
  by_cases hk : (k - 1) / 2 = i
  · rw [hk]; exact hs k h1 h2 hk
  · exact (h k h1 h2).1 hk
theorem Heap.root {l : List Int} (h : Heap l) : ∀ k, k < l.length → at0 l 0 ≤ at0 l k := by
  intro k
  induction k using Nat.strongRecOn with
  | _ k ih =>
    intro hk
    by_cases h0 : k = 0
    · subst h0; exact Int.le_refl _
    · exact Int.le_trans (ih ((k - 1) / 2) (by omega) (by omega)) (h k (by omega) hk)
theorem Heap.least {l : List Int} (h : Heap l) {x : Int} (hx : x ∈ l) : at0 l 0 ≤ x := by
  obtain ⟨k, hk, rfl⟩ := List.mem_iff_getElem.1 hx
  rw [← at0_eq l k hk]
  exact h.root k hk
theorem DownInv.pop {l : List Int} {n : Nat} (h : Heap l) (hn : l.length = n + 1) : DownInv (swp l 0 n) 0 n := by
  intro k h1 h2
  refine ⟨fun hne => ?_, fun _ h3 => by omega⟩
  rw [swp_at (by omega) (by omega), swp_at (by omega) (by omega), if_neg (by omega), if_neg hne, if_neg (by omega), if_neg (by omega)]
  exact h k h1 (by omega)
theorem heap_take {l : List Int} {n : Nat} (hn : n ≤ l.length) (h : ∀ k, 1 ≤ k → k < n → at0 l ((k - 1) / 2) ≤ at0 l k) : Heap (l.take n) := by
  have e : ∀ i, i < n → at0 (l.take n) i = at0 l i := fun i hi => by simp [at0, List.getElem?_take, hi]
  intro k h1 h2
  simp at h2
  rw [e _ (by omega), e _ (by omega)]
  exact h k h1 (by omega)
theorem take_last {l : List Int} {n : Nat} (h : l.length = n + 1) : l = l.take n ++ [at0 l n] := by
  have : l.drop n = [at0 l n] := by
    rw [at0_eq _ _ (by omega)]
    rw [← List.getElem_cons_drop (show n < l.length by omega), List.drop_of_length_le (by omega)]
  rw [← this, List.take_append_drop]
end Go.Proofs.YtefaihockgebeaaGreat
