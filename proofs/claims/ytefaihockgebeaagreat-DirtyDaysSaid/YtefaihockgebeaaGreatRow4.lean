/- Slices of the call's own: the end of them cleared. No program is named here. -/
import Derived.Test.YtefaihockgebeaaGreatRow1
import Derived.Laws.CopyRow
namespace Go.Proofs.YtefaihockgebeaaGreat
open Go.RowKit
set_option linter.unusedSimpArgs false
set_option linter.unusedVariables false

theorem own_clear {α : Type} {enc : α → List Value} {k : Nat} {w : World} {l : List α} {E : TypeId} {base : Nat} {P : Program} {t : TypeId} (ht : P.underlying t = some (.slice E)) (hk : ∀ x, (enc x).length = k) (z : Value) (hv : ∀ w, (zeroValue E).run P w = .ok z w) (hz : z.cells.size = k) (h1 : ∀ v ∈ z.cells.toList, v.oneCell' = true) (h0 : 0 < k)
    {g cap : Nat} (h : OwnR enc k E w base (.slice (some ⟨g, 0, none⟩) l.length cap) l) (n : Nat) (hn : n ≤ l.length) :
    ∃ w', (∀ ty c, (Builtin.clear_ #[t] ty #[.slice (some ⟨g, n * k, none⟩) (l.length - n) c]).run P w = .ok (.tuple #[]) w') ∧ OwnR enc k E w' base (.slice (some ⟨g, 0, none⟩) n cap) (l.take n) ∧ Mod [g] w w' := by
  rcases h.2 with ⟨e, _⟩ | ⟨g', cap', cur, e, hb, hg, hc, hcm, hcs, htake⟩
  · cases e
  simp only [Value.slice.injEq, Option.some.injEq, Addr.mk.injEq, and_true, true_and] at e
  obtain ⟨rfl, rfl⟩ := e
  have hl : (l.take n).length = n := by rw [List.length_take]; omega
  have hnk : n * k ≤ l.length * k := Nat.mul_le_mul_right _ hn
  have hck : l.length * k ≤ cap * k := Nat.mul_le_mul_right _ hc
  by_cases hd : l.length - n = 0
  · refine ⟨w, fun ty c => ?_, ⟨flat_length hk _, .inr ⟨g, cap, cur, by rw [hl], hb, hg, by omega, hcm, hcs, ?_⟩⟩, Mod.refl _ _⟩
    · rw [hd]; simp [Builtin.clear_, run_underlying ht]
    · rw [hl, flat_take hk, ← htake, List.take_take, Nat.min_eq_left hnk]
  · have hzl : (Builtin.zeroCells z.cells (l.length - n)).toList.length = (l.length - n) * k := by simp [Builtin.zeroCells, hz]
    have hadd : n * k + (l.length - n) * k = l.length * k := by rw [← Nat.add_mul]; congr 1; omega
    have hst := run_storeCells_at P g (n * k) E (Builtin.zeroCells z.cells (l.length - n)).toList 0 cur w hg (by rw [hzl, hcs]; omega) (by
      intro v hv
      simp only [Builtin.zeroCells, Array.toList_map, List.mem_map] at hv
      obtain ⟨i, _, rfl⟩ := hv
      have hlt : i % z.cells.size < z.cells.size := Nat.mod_lt _ (by omega)
      refine h1 _ ?_
      rw [getElem!_pos z.cells _ hlt]
      exact Array.getElem_mem_toList hlt)
    simp only [Nat.add_zero] at hst
    refine ⟨w.setRow g (cur.toList.take (n * k) ++ (Builtin.zeroCells z.cells (l.length - n)).toList ++ cur.toList.drop (n * k + (Builtin.zeroCells z.cells (l.length - n)).toList.length)).toArray, fun ty c => ?_, ⟨flat_length hk _, .inr ⟨g, cap, _, by rw [hl], hb, setRow_heap _ _ _ _ _ _ hg, by omega, hcm, ?_, ?_⟩⟩, ?_⟩
    · obtain ⟨m, hm⟩ : ∃ m, l.length - n = m + 1 := ⟨l.length - n - 1, by omega⟩
      rw [hm] at hst ⊢
      simp [Builtin.clear_, run_underlying ht, hv, hst]
    · simp only [List.size_toArray, List.length_append, List.length_take, List.length_drop, Array.length_toList, hzl]
      omega
    · have e1 : (cur.toList.take (n * k)).length = n * k := by rw [List.length_take, Array.length_toList]; omega
      rw [hl]
      show List.take (n * k) (cur.toList.take (n * k) ++ _ ++ _) = _
      rw [List.append_assoc, List.take_append_of_le_length (by omega), List.take_take, Nat.min_self, flat_take hk, ← htake, List.take_take, Nat.min_eq_left hnk]
    · exact ⟨rfl, rfl, rfl, by simp, fun i _ hi => setRow_other _ _ _ _ (by simpa using hi)⟩
end Go.Proofs.YtefaihockgebeaaGreat
