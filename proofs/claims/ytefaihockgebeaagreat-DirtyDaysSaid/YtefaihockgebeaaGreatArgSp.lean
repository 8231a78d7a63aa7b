/- Arguments opened: slices of spans. -/
import Derived.Test.YtefaihockgebeaaGreatArgR
import Derived.Test.YtefaihockgebeaaGreatSpD
namespace Go.Proofs.YtefaihockgebeaaGreat
open Go.ChangeShapes Go.WideShapes Go.ChangeAt Go.RowKit Go.Deep
set_option linter.unusedSimpArgs false
set_option linter.unusedVariables false
theorem cS_int : Tryz.prog.cellsOf 3 = 1 := by kernel_rfl
theorem cS_Span : Tryz.prog.cellsOf 45 = 2 := by kernel_rfl
theorem bS_Span : Tryz.prog.bytesOf 45 = 16 := by kernel_rfl
theorem list_two {l : List Value} (h : l.length = 2) : ∃ a b, l = [a, b] := by
  match l, h with
  | [a, b], _ => exact ⟨a, b, rfl⟩
section
variable {H : Type} {enc : TypeId × Value → H} {w : World}
def Sp64 (x : Sp) : Prop := (-9223372036854775808 ≤ x.1 ∧ x.1 ≤ 9223372036854775807) ∧ -9223372036854775808 ≤ x.2 ∧ x.2 ≤ 9223372036854775807
theorem span_cells {n : Nat} {xs : List Value} {d : DataW H × List MemPlace} (h : DataW.trod enc Tryz.prog w 0 (fun _ => true) true n 45 xs = some d) (hl : xs.length = 2) : ∃ x : Sp, xs = encS x ∧ Sp64 x := by
  obtain ⟨x, y, rfl⟩ := list_two hl
  obtain ⟨y0, y1, m, rfl', _, h0, h1⟩ := trod_struct2 Tryz.underlying45 h
  simp only [cS_int, List.drop_zero, List.drop_succ_cons, List.take_succ_cons, List.take_zero] at h0 h1
  obtain ⟨a, e0, _, w0⟩ := DataW.trod_int Tryz.underlying3 h0
  obtain ⟨b, e1, _, w1⟩ := DataW.trod_int Tryz.underlying3 h1
  simp at e0 e1
  exact ⟨(a, b), by rw [e0, e1]; rfl, i64_le w0, i64_le w1⟩
theorem spans_arg {v : Value} {d : DataW H} {pl : List MemPlace} (hv : ∃ a n c, v = .slice a n c) (h : DataW.Trod enc Tryz.prog w 0 (fun _ => true) true 30 v d pl) (hw : Lite Tryz.prog 30 d) :
    ∃ l, SpansAt w v l ∧ (∀ x ∈ l, Sp64 x) ∧ l.length ≤ 140737488355328 := by
  obtain ⟨a, n, c, rfl⟩ := hv
  obtain ⟨fuel, hf⟩ := h
  obtain ⟨v, l, e, hr, hq, hb⟩ := rows_cells (enc := encS) (Q := Sp64) Tryz.underlying30 (by rw [cS_Span]; omega) (fun x => by rw [cS_Span]; rfl) (fun n xs d pl h hw hl => span_cells h (by rw [cS_Span] at hl; exact hl)) hf hw
  simp [Value.cells] at e
  subst e
  refine ⟨l, hr, hq, ?_⟩
  rw [bS_Span] at hb
  simp [reachBytes] at hb
  omega
end
end Go.Proofs.YtefaihockgebeaaGreat
