/- Layer 25: arguments opened: operations, records. -/
import Derived.Test.YtnoookcfacmdkaaArgs
import Derived.Test.YtnoookcfacmdkaaReqC
namespace Go.Proofs.Ytnoookcfacmdkaa
open Go.ChangeShapes Go.WideShapes Go.ChangeAt Go.RowKit Go.Deep
set_option linter.unusedSimpArgs false
set_option linter.unusedVariables false
theorem cT_u8 : Try.prog.cellsOf 5 = 1 := by kernel_rfl
theorem cT_int : Try.prog.cellsOf 3 = 1 := by kernel_rfl
theorem cT_i64 : Try.prog.cellsOf 2 = 1 := by kernel_rfl
theorem cT_string : Try.prog.cellsOf 9 = 1 := by kernel_rfl
theorem cT_Errno : Try.prog.cellsOf 26 = 1 := by kernel_rfl
theorem cT_Span : Try.prog.cellsOf 52 = 2 := by kernel_rfl
theorem cT_Dec : Try.prog.cellsOf 74 = 2 := by kernel_rfl
theorem cT_Value : Try.prog.cellsOf 76 = 4 := by kernel_rfl
theorem cT_Do : Try.prog.cellsOf 78 = 11 := by kernel_rfl
theorem cT_Dos : Try.prog.cellsOf 50 = 1 := by kernel_rfl
theorem cT_Record : Try.prog.cellsOf 54 = 4 := by kernel_rfl
theorem bT_Do : Try.prog.bytesOf 78 = 104 := by kernel_rfl
theorem u8_in {n : Int} (h : (Lit.int .u8 n).wf = true) : 0 ≤ n ∧ n < 256 := by
  simp only [Lit.wf, IntKind.min, IntKind.max, IntKind.signed, IntKind.bits, Bool.and_eq_true, decide_eq_true_eq] at h
  have h1 := h.1
  have h2 := h.2
  simp at h1 h2
  omega
theorem list11 {l : List Value} (h : l.length = 11) : ∃ a b c d e f g i j k m, l = [a, b, c, d, e, f, g, i, j, k, m] := by
  match l, h with
  | [a, b, c, d, e, f, g, i, j, k, m], _ => exact ⟨a, b, c, d, e, f, g, i, j, k, m, rfl⟩
theorem list4 {l : List Value} (h : l.length = 4) : ∃ a b c d, l = [a, b, c, d] := by
  match l, h with
  | [a, b, c, d], _ => exact ⟨a, b, c, d, rfl⟩
theorem trod_struct7 {H : Type} {enc : TypeId × Value → H} {P : Program} {w : World} {base : Nat} {spare : Nat → Bool} {held : Bool} {t : TypeId} {f0 f1 f2 f3 f4 f5 f6 : Field} {fuel : Nat} {cs : List Value} {x : DataW H × List MemPlace} (ht : P.underlying t = some (.struct #[f0, f1, f2, f3, f4, f5, f6])) (h : DataW.trod enc P w base spare held fuel t cs = some x) :
    ∃ y0 y1 y2 y3 y4 y5 y6 n, x.1 = .agg [y0.1, y1.1, y2.1, y3.1, y4.1, y5.1, y6.1] ∧ cs.length = P.cellsOf t ∧ DataW.trod enc P w base spare held n f0.type ((cs.drop f0.offset).take (P.cellsOf f0.type)) = some y0 ∧
      DataW.trod enc P w base spare held n f1.type ((cs.drop f1.offset).take (P.cellsOf f1.type)) = some y1 ∧ DataW.trod enc P w base spare held n f2.type ((cs.drop f2.offset).take (P.cellsOf f2.type)) = some y2 ∧
      DataW.trod enc P w base spare held n f3.type ((cs.drop f3.offset).take (P.cellsOf f3.type)) = some y3 ∧ DataW.trod enc P w base spare held n f4.type ((cs.drop f4.offset).take (P.cellsOf f4.type)) = some y4 ∧
      DataW.trod enc P w base spare held n f5.type ((cs.drop f5.offset).take (P.cellsOf f5.type)) = some y5 ∧ DataW.trod enc P w base spare held n f6.type ((cs.drop f6.offset).take (P.cellsOf f6.type)) = some y6 := by
  obtain ⟨xs, n, _, rfl, hl, hlen, hf⟩ := DataW.trod_struct ht h
  match xs, hlen with
  | [y0, y1, y2, y3, y4, y5, y6], _ => exact ⟨y0, y1, y2, y3, y4, y5, y6, n, by simp, hl, by simpa using hf 0 f0 rfl, by simpa using hf 1 f1 rfl, by simpa using hf 2 f2 rfl, by simpa using hf 3 f3 rfl, by simpa using hf 4 f4 rfl, by simpa using hf 5 f5 rfl, by simpa using hf 6 f6 rfl⟩
section
variable {H : Type} {enc : TypeId × Value → H} {w : World}
theorem span_cells {n : Nat} {x y : Value} {d : DataW H × List MemPlace} (h : DataW.trod enc Try.prog w 0 (fun _ => true) true n 52 [x, y] = some d) : ∃ a b : Int, x = .int .i64 a ∧ y = .int .i64 b := by
  obtain ⟨y0, y1, m, rfl', hl, h0, h1⟩ := trod_struct2 Try.underlying52 h
  simp only [cT_int, List.drop_zero, List.drop_succ_cons, List.take_succ_cons, List.take_zero] at h0 h1
  obtain ⟨a, e0, _, _⟩ := DataW.trod_int Try.underlying3 h0
  obtain ⟨b, e1, _, _⟩ := DataW.trod_int Try.underlying3 h1
  simp at e0 e1
  exact ⟨a, b, e0, e1⟩
theorem dec_cells {n : Nat} {x y : Value} {d : DataW H × List MemPlace} (h : DataW.trod enc Try.prog w 0 (fun _ => true) true n 74 [x, y] = some d) : ∃ a b : Int, x = .int .i64 a ∧ y = .int .i64 b ∧ -9223372036854775808 ≤ a ∧ a ≤ 9223372036854775807 := by
  obtain ⟨y0, y1, m, rfl', hl, h0, h1⟩ := trod_struct2 Try.underlying74 h
  simp only [cT_int, cT_i64, List.drop_zero, List.drop_succ_cons, List.take_succ_cons, List.take_zero] at h0 h1
  obtain ⟨a, e0, _, w0⟩ := DataW.trod_int Try.underlying2 h0
  obtain ⟨b, e1, _, _⟩ := DataW.trod_int Try.underlying3 h1
  simp at e0 e1
  exact ⟨a, b, e0, e1, i64_le w0⟩
theorem value_cells {n : Nat} {x y z u : Value} {d : DataW H × List MemPlace} (h : DataW.trod enc Try.prog w 0 (fun _ => true) true n 76 [x, y, z, u] = some d) :
    ∃ k c s e : Int, x = .int .u8 k ∧ y = .int .i64 c ∧ z = .int .i64 s ∧ u = .int .i64 e ∧ (0 ≤ k ∧ k < 256) ∧ -9223372036854775808 ≤ c ∧ c ≤ 9223372036854775807 := by
  obtain ⟨y0, y1, y2, m, rfl', hl, h0, h1, h2⟩ := trod_struct3 Try.underlying76 h
  simp only [cT_u8, cT_Dec, cT_Errno, List.drop_zero, List.drop_succ_cons, List.take_succ_cons, List.take_zero] at h0 h1 h2
  obtain ⟨k, e0, _, w0⟩ := DataW.trod_int Try.underlying5 h0
  obtain ⟨c, s, e1, e2, hc⟩ := dec_cells h1
  obtain ⟨e, e3, _, _⟩ := DataW.trod_int Try.underlying26 h2
  simp at e0 e3
  exact ⟨k, c, s, e, e0, e1, e2, e3, u8_in w0, hc⟩
theorem do_cells {n : Nat} {xs : List Value} {d : DataW H} {pl : List MemPlace} (h : DataW.trod enc Try.prog w 0 (fun _ => true) true n 78 xs = some (d, pl)) (hw : Lite Try.prog 78 d) : ∃ q : DoR, xs = q.cells ∧ q.Wf ∧ q.Fit := by
  obtain ⟨y0, y1, y2, y3, y4, y5, y6, m, he, hl, g0, g1, g2, g3, g4, g5, g6⟩ := trod_struct7 Try.underlying78 h
  rw [cT_Do] at hl
  obtain ⟨x0, x1, x2, x3, x4, x5, x6, x7, x8, x9, x10, rfl⟩ := list11 hl
  simp only [cT_u8, cT_int, cT_string, cT_Span, cT_Value, List.drop_zero, List.drop_succ_cons, List.take_succ_cons, List.take_zero] at g0 g1 g2 g3 g4 g5 g6
  dsimp only at he
  subst he
  obtain ⟨k, e0, _, w0⟩ := DataW.trod_int Try.underlying5 g0
  obtain ⟨f, e1, _, _⟩ := DataW.trod_int Try.underlying3 g1
  obtain ⟨nm, e2, z2, _⟩ := DataW.trod_string Try.underlying9 g2
  obtain ⟨fk, e3, _, w3⟩ := DataW.trod_int Try.underlying5 g3
  obtain ⟨a, b, e4, e5⟩ := span_cells g4
  obtain ⟨vk, c, s, e, e6, e7, e8, e9, hv, hc⟩ := value_cells g5
  obtain ⟨tx, e10, z6, _⟩ := DataW.trod_string Try.underlying9 g6
  simp at e0 e1 e2 e3 e10
  subst e0 e1 e2 e3 e4 e5 e6 e7 e8 e9 e10
  have r : reachBytes = 140737488351232 := rfl
  have l2 := (hw.field (j := 2) Try.underlying78 rfl rfl)
  have l6 := (hw.field (j := 6) Try.underlying78 rfl rfl)
  rw [z2] at l2
  rw [z6] at l6
  have m2 := l2.str
  have m6 := l6.str
  have s2 : nm.data.toList.length = nm.size := Array.length_toList
  have s6 : tx.data.toList.length = tx.size := Array.length_toList
  exact ⟨⟨k, f, nm, fk, a, b, vk, c, s, e, tx⟩, rfl, ⟨(u8_in w0).1, (u8_in w0).2, (u8_in w3).1, (u8_in w3).2, hv.1, hv.2, hc.1, hc.2⟩, ⟨by dsimp only; omega, by dsimp only; omega⟩⟩
theorem dos_cells {n : Nat} {cs : List Value} {d : DataW H} {pl : List MemPlace} (h : DataW.trod enc Try.prog w 0 (fun _ => true) true n 50 cs = some (d, pl)) (hw : Lite Try.prog 50 d) :
    ∃ (v : Value) (ds : List DoR), cs = [v] ∧ DosAt w v ds ∧ ds.length ≤ 140737488355328 ∧ ∀ d ∈ ds, d.Wf ∧ d.Fit := by
  obtain ⟨a, len, cap, m, rfl, hl, hm, hb, hn, hi⟩ := slice_cells Try.underlying50 (by rw [cT_Do]; omega) h hw
  rw [cT_Do] at hi
  rw [bT_Do] at hb
  have r : reachBytes = 140737488351232 := rfl
  have each : ∀ i, i < len → ∃ q : DoR, ∃ b o, a = some ⟨b, o, none⟩ ∧ w.rangeAt b (o + i * 11) q.cells ∧ q.Wf ∧ q.Fit := fun i hlt => by
    obtain ⟨b, o, xs, di, pl, ha, hr, hlen, htr, hli⟩ := hi i (by omega)
    obtain ⟨q, rfl, h1, h2⟩ := do_cells htr (hli hlt)
    exact ⟨q, b, o, ha, hr, h1, h2⟩
  haveI : Inhabited DoR := ⟨DoR.zero⟩
  obtain ⟨Q, hQ⟩ := choose_lt each
  refine ⟨_, (List.range len).map Q, rfl, ⟨a, cap, by simp, fun i q hq => ?_⟩, by simp; omega, fun q hq => ?_⟩
  · have hlt := (List.getElem?_eq_some_iff.1 hq).1
    simp at hlt
    obtain ⟨b, o, ha, ho, _⟩ := hQ i hlt
    refine ⟨b, o, ha, ?_⟩
    simp [hlt] at hq
    subst hq
    exact ho
  · obtain ⟨i, hi, rfl⟩ := List.mem_map.1 hq
    obtain ⟨b, o, _, _, h1, h2⟩ := hQ i (List.mem_range.1 hi)
    exact ⟨h1, h2⟩
/-- A record that is handed in. -/
theorem record_arg {v : Value} {d : DataW H} {pl : List MemPlace} (hv : ∃ cs, v = .agg cs ∧ cs.size = Try.prog.cellsOf 54) (h : DataW.Trod enc Try.prog w 0 (fun _ => true) true 54 v d pl) (hw : Lite Try.prog 54 d) :
    ∃ (r : RecR) (s : Value), v = .agg #[.int .u8 r.k, s, .int .i64 r.a, .int .i64 r.b] ∧ DosAt w s r.ds ∧ r.ds.length ≤ 140737488355328 ∧ r.Wf ∧ ∀ d ∈ r.ds, d.Fit := by
  obtain ⟨cs, rfl, hs⟩ := hv
  obtain ⟨fuel, hf⟩ := h
  have hf' : DataW.trod enc Try.prog w 0 (fun _ => true) true fuel 54 cs.toList = some (d, pl) := hf
  obtain ⟨y0, y1, y2, m, he, hl, g0, g1, g2⟩ := trod_struct3 Try.underlying54 hf'
  rw [cT_Record] at hl
  obtain ⟨x0, x1, x2, x3, hx⟩ := list4 hl
  rw [hx] at g0 g1 g2
  simp only [cT_u8, cT_Dos, cT_Span, List.drop_zero, List.drop_succ_cons, List.take_succ_cons, List.take_zero] at g0 g1 g2
  simp only [Prod.mk.injEq] at he
  obtain ⟨rfl, _⟩ := he
  obtain ⟨k, e0, _, w0⟩ := DataW.trod_int Try.underlying5 g0
  obtain ⟨y1d, y1p⟩ := y1
  obtain ⟨s, ds, e1, hd, hlen, hall⟩ := dos_cells g1 (hw.field (j := 1) Try.underlying54 rfl rfl)
  obtain ⟨a, b, e2, e3⟩ := span_cells g2
  simp at e0 e1
  subst e0 e1 e2 e3
  exact ⟨⟨k, ds, a, b⟩, x1, by congr 1; exact Array.ext' hx, hd, hlen, ⟨u8_in w0, fun d hd => (hall d hd).1⟩, fun d hd => (hall d hd).2⟩
end
end Go.Proofs.Ytnoookcfacmdkaa
