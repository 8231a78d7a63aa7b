/- Arguments opened: slices of puts (a span and a value). -/
import Derived.Test.YtngglpekdjhbdaaArgR
import Derived.Test.YtngglpekdjhbdaaRmM
namespace Go.Proofs.Ytngglpekdjhbdaa
open Go.ChangeShapes Go.WideShapes Go.ChangeAt Go.RowKit Go.Deep
set_option linter.unusedSimpArgs false
set_option linter.unusedVariables false
theorem cL_int : Try.prog.cellsOf 3 = 1 := by kernel_rfl
theorem cL_Span : Try.prog.cellsOf 24 = 2 := by kernel_rfl
theorem cL_Op : Try.prog.cellsOf 66 = 3 := by kernel_rfl
theorem bL_Op : Try.prog.bytesOf 66 = 24 := by kernel_rfl
theorem list_twoL {l : List Value} (h : l.length = 2) : ∃ a b, l = [a, b] := by
  match l, h with
  | [a, b], _ => exact ⟨a, b, rfl⟩
theorem list_threeL {l : List Value} (h : l.length = 3) : ∃ a b c, l = [a, b, c] := by
  match l, h with
  | [a, b, c], _ => exact ⟨a, b, c, rfl⟩
instance : Inhabited Sg := ⟨⟨0, 0, 0⟩⟩
section
variable {H : Type} {enc : TypeId × Value → H} {w : World}
theorem spanL_cells {n : Nat} {xs : List Value} {d : DataW H × List MemPlace} (h : DataW.trod enc Try.prog w 0 (fun _ => true) true n 24 xs = some d) (hl : xs.length = 2) : ∃ x y : Int, xs = [.int .i64 x, .int .i64 y] := by
  obtain ⟨x, y, rfl⟩ := list_twoL hl
  obtain ⟨y0, y1, m, rfl', _, h0, h1⟩ := trod_struct2 Try.underlying24 h
  simp only [cL_int, List.drop_zero, List.drop_succ_cons, List.take_succ_cons, List.take_zero] at h0 h1
  obtain ⟨a, e0, _, w0⟩ := DataW.trod_int Try.underlying3 h0
  obtain ⟨b, e1, _, w1⟩ := DataW.trod_int Try.underlying3 h1
  simp at e0 e1
  exact ⟨a, b, by rw [e0, e1]⟩
theorem put_cells {n : Nat} {xs : List Value} {d : DataW H × List MemPlace} (h : DataW.trod enc Try.prog w 0 (fun _ => true) true n 66 xs = some d) (hl : xs.length = 3) : ∃ x : Sg, xs = encSg x := by
  obtain ⟨x, y, z, rfl⟩ := list_threeL hl
  obtain ⟨y0, y1, m, rfl', _, h0, h1⟩ := trod_struct2 Try.underlying66 h
  simp only [cL_int, cL_Span, List.drop_zero, List.drop_succ_cons, List.take_succ_cons, List.take_zero] at h0 h1
  obtain ⟨a, b, e0⟩ := spanL_cells h0 rfl
  obtain ⟨c, e1, _, w1⟩ := DataW.trod_int Try.underlying3 h1
  simp at e0 e1
  exact ⟨⟨a, b, c⟩, by rw [e0.1, e0.2, e1]; rfl⟩
theorem puts_arg {v : Value} {d : DataW H} {pl : List MemPlace} (hv : ∃ a n c, v = .slice a n c) (h : DataW.Trod enc Try.prog w 0 (fun _ => true) true 30 v d pl) (hw : Lite Try.prog 30 d) :
    ∃ a m c l, v = .slice a m c ∧ RowAt encSg w (.slice a m c) l ∧ m ≤ 140737488355328 := by
  obtain ⟨a, n, c, rfl⟩ := hv
  obtain ⟨fuel, hf⟩ := h
  obtain ⟨v, l, e, hr, hq, hb⟩ := rows_cells (enc := encSg) (Q := fun _ => True) Try.underlying30 (by rw [cL_Op]; omega) (fun x => by rw [cL_Op]; rfl) (fun n xs d pl h hw hl => by
    obtain ⟨x, e⟩ := put_cells h (by rw [cL_Op] at hl; exact hl)
    exact ⟨x, e, trivial⟩) hf hw
  simp [Value.cells] at e
  subst e
  obtain ⟨y, z, e⟩ := hr.form
  cases e
  refine ⟨a, l.length, c, l, rfl, hr, ?_⟩
  rw [bL_Op] at hb
  simp [reachBytes] at hb
  omega
end
end Go.Proofs.Ytngglpekdjhbdaa
