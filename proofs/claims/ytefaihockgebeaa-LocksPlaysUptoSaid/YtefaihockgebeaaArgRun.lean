/- Arguments opened: runs, calls of locks. -/
import Derived.Test.YtefaihockgebeaaArgLk
import Derived.Test.YtefaihockgebeaaLkH
import Derived.Deep.Strs
namespace Go.Proofs.Ytefaihockgebeaa
open Go.ChangeShapes Go.WideShapes Go.ChangeAt Go.RowKit Go.Deep
set_option linter.unusedSimpArgs false
set_option linter.unusedVariables false
theorem cT_u8 : Try.prog.cellsOf 5 = 1 := by kernel_rfl
theorem cT_i64 : Try.prog.cellsOf 2 = 1 := by kernel_rfl
theorem cT_Errno : Try.prog.cellsOf 26 = 1 := by kernel_rfl
theorem cT_Dec : Try.prog.cellsOf 99 = 2 := by kernel_rfl
theorem cT_Value : Try.prog.cellsOf 114 = 4 := by kernel_rfl
theorem cT_Seg : Try.prog.cellsOf 116 = 6 := by kernel_rfl
theorem cT_Segs : Try.prog.cellsOf 78 = 1 := by kernel_rfl
theorem cT_Run : Try.prog.cellsOf 80 = 2 := by kernel_rfl
theorem bT_Seg : Try.prog.bytesOf 116 = 48 := by kernel_rfl
theorem bT_Run : Try.prog.bytesOf 80 = 32 := by kernel_rfl
theorem list6 {l : List Value} (h : l.length = 6) : ∃ a b c d e f, l = [a, b, c, d, e, f] := by
  match l, h with
  | [a, b, c, d, e, f], _ => exact ⟨a, b, c, d, e, f, rfl⟩
instance : Inhabited Sg := ⟨⟨0, 0, 0, 0, 0, 0⟩⟩
instance : Inhabited Rn := ⟨⟨0, []⟩⟩
section
variable {H : Type} {enc : TypeId × Value → H} {w : World}
theorem dec_cells {n : Nat} {x y : Value} {d : DataW H × List MemPlace} (h : DataW.trod enc Try.prog w 0 (fun _ => true) true n 99 [x, y] = some d) : ∃ a b : Int, x = .int .i64 a ∧ y = .int .i64 b := by
  obtain ⟨y0, y1, m, rfl', hl, h0, h1⟩ := trod_struct2 Try.underlying99 h
  simp only [cS_int, cT_i64, List.drop_zero, List.drop_succ_cons, List.take_succ_cons, List.take_zero] at h0 h1
  obtain ⟨a, e0, _, w0⟩ := DataW.trod_int Try.underlying2 h0
  obtain ⟨b, e1, _, _⟩ := DataW.trod_int Try.underlying3 h1
  simp at e0 e1
  exact ⟨a, b, e0, e1⟩
theorem value_cells {n : Nat} {x y z u : Value} {d : DataW H × List MemPlace} (h : DataW.trod enc Try.prog w 0 (fun _ => true) true n 114 [x, y, z, u] = some d) :
    ∃ k c s e : Int, x = .int .u8 k ∧ y = .int .i64 c ∧ z = .int .i64 s ∧ u = .int .i64 e := by
  obtain ⟨y0, y1, y2, m, rfl', hl, h0, h1, h2⟩ := trod_struct3 Try.underlying114 h
  simp only [cT_u8, cT_Dec, cT_Errno, List.drop_zero, List.drop_succ_cons, List.take_succ_cons, List.take_zero] at h0 h1 h2
  obtain ⟨k, e0, _, w0⟩ := DataW.trod_int Try.underlying5 h0
  obtain ⟨c, s, e1, e2⟩ := dec_cells h1
  obtain ⟨e, e3, _, _⟩ := DataW.trod_int Try.underlying26 h2
  simp at e0 e3
  exact ⟨k, c, s, e, e0, e1, e2, e3⟩
theorem seg_cells {n : Nat} {xs : List Value} {d : DataW H × List MemPlace} (h : DataW.trod enc Try.prog w 0 (fun _ => true) true n 116 xs = some d) (hl : xs.length = 6) : ∃ x : Sg, xs = encG x := by
  obtain ⟨a, b, c, e, f, g, rfl⟩ := list6 hl
  obtain ⟨y0, y1, y2, m, rfl', _, h0, h1, h2⟩ := trod_struct3 Try.underlying116 h
  simp only [cS_int, cT_Value, List.drop_zero, List.drop_succ_cons, List.take_succ_cons, List.take_zero] at h0 h1 h2
  obtain ⟨u, e0, _, _⟩ := DataW.trod_int Try.underlying3 h0
  obtain ⟨v, e1, _, _⟩ := DataW.trod_int Try.underlying3 h1
  obtain ⟨k, c', s, e', e2, e3, e4, e5⟩ := value_cells h2
  simp at e0 e1
  subst e0 e1 e2 e3 e4 e5
  exact ⟨⟨u, v, k, c', s, e'⟩, rfl⟩
theorem segs_cells {n : Nat} {cs : List Value} {d : DataW H} {pl : List MemPlace} (h : DataW.trod enc Try.prog w 0 (fun _ => true) true n 78 cs = some (d, pl)) (hw : Lite Try.prog 78 d) :
    ∃ (v : Value) (l : List Sg), cs = [v] ∧ SegsAt w v l ∧ l.length ≤ 140737488355328 := by
  obtain ⟨v, l, e, hr, _, hb⟩ := rows_cells (enc := encG) (Q := fun _ => True) Try.underlying78 (by rw [cT_Seg]; omega) (fun x => by rw [cT_Seg]; rfl) (fun n xs d pl h hw hl => by
    obtain ⟨x, rfl⟩ := seg_cells h (by rw [cT_Seg] at hl; exact hl)
    exact ⟨x, rfl, trivial⟩) h hw
  refine ⟨v, l, e, hr, ?_⟩
  rw [bT_Seg] at hb
  simp [reachBytes] at hb
  omega
def RunQ (w : World) (x : Int × Value) : Prop := ∃ l : List Sg, SegsAt w x.2 l ∧ l.length ≤ 140737488355328
theorem run_cells {n : Nat} {xs : List Value} {d : DataW H} {pl : List MemPlace} (h : DataW.trod enc Try.prog w 0 (fun _ => true) true n 80 xs = some (d, pl)) (hw : Lite Try.prog 80 d) (hl : xs.length = 2) : ∃ x : Int × Value, xs = encU x ∧ RunQ w x := by
  obtain ⟨a, b, rfl⟩ := list_two hl
  obtain ⟨y0, y1, m, he, _, h0, h1⟩ := trod_struct2 Try.underlying80 h
  simp only [cS_int, cT_Segs, List.drop_zero, List.drop_succ_cons, List.take_succ_cons, List.take_zero] at h0 h1
  simp only [Prod.mk.injEq] at he
  obtain ⟨rfl, _⟩ := he
  obtain ⟨u, e0, _, _⟩ := DataW.trod_int Try.underlying3 h0
  obtain ⟨y1d, y1p⟩ := y1
  obtain ⟨v, l, e1, hs, hn⟩ := segs_cells h1 (hw.field (j := 1) Try.underlying80 rfl rfl)
  simp at e0 e1
  subst e0 e1
  exact ⟨(u, b), rfl, l, hs, hn⟩
instance : Inhabited Value := ⟨.slice none 0 0⟩
theorem runs_row {v : Value} {us : List (Int × Value)} (h : RowAt encU w v us) (hq : ∀ x ∈ us, RunQ w x) : ∃ rs, RunsAt w v us rs ∧ ∀ r ∈ rs, r.segs.length ≤ 140737488355328 := by
  have each : ∀ i, i < us.length → ∃ l : List Sg, SegsAt w (us.getD i (0, .slice none 0 0)).2 l ∧ l.length ≤ 140737488355328 := fun i hi => by
    have := hq us[i] (List.getElem_mem hi)
    simpa [RunQ, List.getD_eq_getElem?_getD, hi] using this
  obtain ⟨X, hX⟩ := choose_lt each
  refine ⟨(List.range us.length).map fun i => ⟨(us.getD i (0, .slice none 0 0)).1, X i⟩, ⟨h, by simp, fun j hj hj' => ?_⟩, fun r hr => ?_⟩
  · have h1 := (hX j hj).1
    simp only [List.getElem_map, List.getElem_range]
    simp only [List.getD_eq_getElem?_getD, List.getElem?_eq_getElem hj, Option.getD_some] at h1 ⊢
    exact ⟨trivial, h1⟩
  · obtain ⟨i, hi, rfl⟩ := List.mem_map.1 hr
    exact (hX i (List.mem_range.1 hi)).2
theorem runs_cells {n : Nat} {cs : List Value} {d : DataW H} {pl : List MemPlace} (h : DataW.trod enc Try.prog w 0 (fun _ => true) true n 65 cs = some (d, pl)) (hw : Lite Try.prog 65 d) :
    ∃ (v : Value) (us : List (Int × Value)) (rs : List Rn), cs = [v] ∧ RunsAt w v us rs ∧ rs.length ≤ 140737488355328 ∧ ∀ r ∈ rs, r.segs.length ≤ 140737488355328 := by
  obtain ⟨v, us, e, hr, hq, hb⟩ := rows_cells (enc := encU) (Q := RunQ w) Try.underlying65 (by rw [cT_Run]; omega) (fun x => by rw [cT_Run]; rfl) (fun n xs d pl h hw hl => run_cells h hw (by rw [cT_Run] at hl; exact hl)) h hw
  obtain ⟨rs, h1, h2⟩ := runs_row hr hq
  refine ⟨v, us, rs, e, h1, ?_, h2⟩
  rw [bT_Run] at hb
  simp [reachBytes] at hb
  have := h1.len
  omega
theorem runs_arg {v : Value} {d : DataW H} {pl : List MemPlace} (hv : ∃ a n c, v = .slice a n c) (h : DataW.Trod enc Try.prog w 0 (fun _ => true) true 65 v d pl) (hw : Lite Try.prog 65 d) :
    ∃ us rs, RunsAt w v us rs ∧ rs.length ≤ 140737488355328 ∧ ∀ r ∈ rs, r.segs.length ≤ 140737488355328 := by
  obtain ⟨a, n, c, rfl⟩ := hv
  obtain ⟨fuel, hf⟩ := h
  obtain ⟨v, us, rs, e, h1, h2, h3⟩ := runs_cells hf hw
  simp [Value.cells] at e
  subst e
  exact ⟨us, rs, h1, h2, h3⟩
end
end Go.Proofs.Ytefaihockgebeaa
