/- Arguments opened: slices of whatever elements, as rows. -/
import Derived.Test.YtngglpekdjhbdaaArgs
import Derived.Test.YtngglpekdjhbdaaRow1
namespace Go.Proofs.Ytngglpekdjhbdaa
open Go.ChangeShapes Go.WideShapes Go.ChangeAt Go.RowKit Go.Deep
set_option linter.unusedSimpArgs false
set_option linter.unusedVariables false
section
variable {H : Type} {henc : TypeId × Value → H} {P : Program} {w : World}
/-- A slice reads as a row, if each element does. -/
theorem rows_cells {α : Type} [Inhabited α] {enc : α → List Value} {Q : α → Prop} {t e : TypeId} (ht : P.underlying t = some (.slice e)) (hc : 0 < P.cellsOf e) (hk : ∀ x, (enc x).length = P.cellsOf e)
    (hdec : ∀ n xs d pl, DataW.trod henc P w 0 (fun _ => true) true n e xs = some (d, pl) → Lite P e d → xs.length = P.cellsOf e → ∃ x, xs = enc x ∧ Q x)
    {fuel : Nat} {cs : List Value} {d : DataW H} {ps : List MemPlace} (h : DataW.trod henc P w 0 (fun _ => true) true fuel t cs = some (d, ps)) (hw : Lite P t d) :
    ∃ v l, cs = [v] ∧ RowAt enc w v l ∧ (∀ x ∈ l, Q x) ∧ l.length * P.bytesOf e ≤ reachBytes := by
  obtain ⟨a, len, cap, n, rfl, hl, hm, hb, h0, hi⟩ := slice_cells ht hc h hw
  have each : ∀ i, i < len → ∃ x : α, Q x ∧ ∃ b o, a = some ⟨b, o, none⟩ ∧ w.rangeAt b (o + i * P.cellsOf e) (enc x) := fun i hlt => by
    obtain ⟨b, o, xs, di, pl, ha, hr, hlen, htr, hli⟩ := hi i (by omega)
    obtain ⟨x, rfl, hq⟩ := hdec n xs di pl htr (hli hlt) hlen
    exact ⟨x, hq, b, o, ha, hr⟩
  obtain ⟨X, hX⟩ := choose_lt each
  refine ⟨_, (List.range len).map X, rfl, ?_, ?_, ?_⟩
  · by_cases hn : len = 0
    · subst hn; exact .nil a cap
    · obtain ⟨_, b, o, ha, _⟩ := hX 0 (by omega)
      subst ha
      have hlen : ((List.range len).map X).length = len := by simp
      have : RowAt enc w (.slice (some ⟨b, o, none⟩) ((List.range len).map X).length cap) ((List.range len).map X) := .at_ b o cap _ (by rw [hlen]; exact hl) (fun j u hj => by
        have hjl : j < len * P.cellsOf e := by
          have := (List.getElem?_eq_some_iff.1 hj).1
          rw [flat_length hk, hlen] at this
          exact this
        have hdm : j / P.cellsOf e < len := Nat.div_lt_of_lt_mul (by rw [Nat.mul_comm]; exact hjl)
        have hmm : j % P.cellsOf e < P.cellsOf e := Nat.mod_lt _ hc
        have e1 := flat_get hk ((List.range len).map X) (j / P.cellsOf e) (j % P.cellsOf e) (by rw [hlen]; exact hdm) hmm
        have e2 : j / P.cellsOf e * P.cellsOf e + j % P.cellsOf e = j := by rw [Nat.mul_comm]; exact Nat.div_add_mod j _
        rw [e2] at e1
        rw [e1] at hj
        obtain ⟨_, b', o', ha', hr⟩ := hX (j / P.cellsOf e) hdm
        simp only [Option.some.injEq, Addr.mk.injEq, and_true] at ha'
        obtain ⟨rfl, rfl⟩ := ha'
        have := hr (j % P.cellsOf e) u (by simpa using hj)
        rwa [Nat.add_assoc, e2] at this)
      rwa [hlen] at this
  · intro x hx
    obtain ⟨i, hi, rfl⟩ := List.mem_map.1 hx
    exact (hX i (List.mem_range.1 hi)).1
  · simp only [List.length_map, List.length_range]
    exact Nat.le_trans (Nat.mul_le_mul_right _ hl) hb
end
end Go.Proofs.Ytngglpekdjhbdaa
