/- Graph, plain: slices.CompactFunc over links, in place. No program is named here. -/
import Derived.Test.YtefaihockgebeaaGreatGrG
namespace Go.Proofs.YtefaihockgebeaaGreat
set_option linter.unusedSimpArgs false
set_option linter.unusedVariables false

theorem cutUp_full {l : List Sp} : ∀ {k : Nat}, k ≤ l.length → (∀ p, p < k → keepsL l p = true) → cutUp l k = l.take k
  | 0, _, _ => by simp [cutUp]
  | k + 1, hk, h => by
    unfold cutUp
    rw [cutUp_full (by omega) fun p hp => h p (by omega), if_pos (h k (by omega)), List.take_succ_eq_append_getElem (by omega)]
    simp [show k < l.length by omega]
/-- the row m while l is cut down in it: p looked at, k kept -/
structure CutInv (l m : List Sp) (p k : Nat) : Prop where
  len : m.length = l.length
  kk : k = (cutUp l p).length
  head : m.take k = cutUp l p
  tail : ∀ j, p - 1 ≤ j → m.getD j (0, 0) = l.getD j (0, 0)
  lt : k < p
theorem CutInv.start {l : List Sp} {k : Nat} (hk : k < l.length) (h : ∀ p, p < k → keepsL l p = true) (hd : keepsL l k = false) : CutInv l l (k + 1) k := by
  have e : cutUp l (k + 1) = l.take k := by
    unfold cutUp
    rw [hd, cutUp_full (by omega) h]
    simp
  exact ⟨rfl, by rw [e, List.length_take]; omega, e.symm, fun _ _ => rfl, by omega⟩
theorem CutInv.keep {l m : List Sp} {p k : Nat} (h : CutInv l m p k) (hp : p < l.length) (hk : keepsL l p = true) : CutInv l (m.set k (l.getD p (0, 0))) (p + 1) (k + 1) := by
  have e : cutUp l (p + 1) = cutUp l p ++ [l.getD p (0, 0)] := by
    rw [cutUp, if_pos hk]
  have hl := h.lt
  refine ⟨by simpa using h.len, by rw [e, List.length_append, ← h.kk]; rfl, ?_, fun j hj => ?_, by omega⟩
  · have hkm : k < m.length := by rw [h.len]; omega
    rw [e, List.take_succ_eq_append_getElem (by simpa using hkm)]
    rw [List.take_set_of_le (Nat.le_refl _), h.head]
    simp
  · have := h.tail j (by omega)
    rw [← this]
    simp [List.getElem?_set, show ¬ k = j by omega]
theorem CutInv.skip {l m : List Sp} {p k : Nat} (h : CutInv l m p k) (hk : keepsL l p = false) : CutInv l m (p + 1) k := by
  have e : cutUp l (p + 1) = cutUp l p := by
    rw [cutUp, hk]; simp
  have := h.lt
  exact ⟨h.len, by rw [e]; exact h.kk, by rw [e]; exact h.head, fun j hj => h.tail j (by omega), by omega⟩
theorem keepsL_iff {l : List Sp} {p : Nat} (hp : 0 < p) : keepsL l p = !decide ((l.getD p (0, 0)).1 = (l.getD (p - 1) (0, 0)).1) := by
  unfold keepsL
  rw [decide_eq_false (by omega), Bool.false_or]
end Go.Proofs.YtefaihockgebeaaGreat
