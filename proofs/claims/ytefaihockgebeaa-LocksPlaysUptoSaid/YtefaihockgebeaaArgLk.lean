/- Arguments opened: a span. -/
import Derived.Test.YtefaihockgebeaaArgSp
namespace Go.Proofs.Ytefaihockgebeaa
open Go.ChangeShapes Go.WideShapes Go.ChangeAt Go.RowKit Go.Deep
set_option linter.unusedSimpArgs false
set_option linter.unusedVariables false
theorem okWide_struct {P : Program} {W : World} {r : Reach} {base : Nat} {t : TypeId} {fs : Array Field} {v : Value} (ht : P.underlying t = some (.struct fs)) (h : Value.okWide P W r base t v) : ∃ cs, v = .agg cs ∧ cs.size = P.cellsOf t := by
  unfold Value.okWide at h
  rw [ht] at h
  obtain ⟨cs, h1, h2, _⟩ := h
  exact ⟨cs, h1, h2⟩
section
variable {H : Type} {enc : TypeId × Value → H} {w : World}
theorem span_arg {v : Value} {d : DataW H} {pl : List MemPlace} (hv : ∃ cs, v = .agg cs ∧ cs.size = Try.prog.cellsOf 64) (h : DataW.Trod enc Try.prog w 0 (fun _ => true) true 64 v d pl) :
    ∃ l : Sp, v = .agg #[.int .i64 l.1, .int .i64 l.2] ∧ Sp64 l := by
  obtain ⟨cs, rfl, hl⟩ := hv
  obtain ⟨fuel, hf⟩ := h
  rw [cS_Span] at hl
  obtain ⟨x, e, hx⟩ := span_cells hf (by simpa [Value.cells] using hl)
  refine ⟨x, ?_, hx⟩
  have : cs = (encS x).toArray := by
    simp only [Value.cells] at e
    rw [← e]
  rw [this]
  rfl
end
end Go.Proofs.Ytefaihockgebeaa
