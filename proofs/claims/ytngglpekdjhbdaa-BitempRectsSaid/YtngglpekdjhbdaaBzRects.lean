/- The rectangles of a store behind any puts have no zero value, no two have a day and a transaction in common, and at any transaction and day the value is that of the one that has both. No condition. -/
import Derived.Test.YtngglpekdjhbdaaArgR
import Derived.Test.YtngglpekdjhbdaaBzV
import Derived.Test.YtngglpekdjhbdaaBzZ
import Derived.Test.YtngglpekdjhbdaaLift
namespace Go.Proofs.Ytngglpekdjhbdaa
open Go.ChangeShapes Go.WideShapes Go.ChangeAt Go.RowKit Go.Deep
set_option linter.unusedSimpArgs false
set_option linter.unusedVariables false
theorem cB_int : Try.prog.cellsOf 3 = 1 := by kernel_rfl
theorem cB_Span : Try.prog.cellsOf 24 = 2 := by kernel_rfl
theorem bB_Span : Try.prog.bytesOf 24 = 16 := by kernel_rfl
theorem cB_Put : Try.prog.cellsOf 55 = 4 := by kernel_rfl
theorem bB_Put : Try.prog.bytesOf 55 = 32 := by kernel_rfl
theorem list_twoB {l : List Value} (h : l.length = 2) : ∃ a b, l = [a, b] := by
  match l, h with
  | [a, b], _ => exact ⟨a, b, rfl⟩
theorem list_fourB {l : List Value} (h : l.length = 4) : ∃ a b c d, l = [a, b, c, d] := by
  match l, h with
  | [a, b, c, d], _ => exact ⟨a, b, c, d, rfl⟩
instance : Inhabited Pt := ⟨⟨0, 0, 0, 0⟩⟩
instance : Inhabited Tw := ⟨⟨0, 0⟩⟩
def Tw64 (p : Tw) : Prop := -9223372036854775808 ≤ p.b ∧ p.b ≤ 9223372036854775807
section
variable {H : Type} {enc : TypeId × Value → H} {w : World}
theorem tw_cells {n : Nat} {xs : List Value} {d : DataW H × List MemPlace} (h : DataW.trod enc Try.prog w 0 (fun _ => true) true n 24 xs = some d) (hl : xs.length = 2) : ∃ x : Tw, xs = encTw x ∧ Tw64 x := by
  obtain ⟨x, y, rfl⟩ := list_twoB hl
  obtain ⟨y0, y1, m, rfl', _, h0, h1⟩ := trod_struct2 Try.underlying24 h
  simp only [cB_int, List.drop_zero, List.drop_succ_cons, List.take_succ_cons, List.take_zero] at h0 h1
  obtain ⟨a, e0, _, w0⟩ := DataW.trod_int Try.underlying3 h0
  obtain ⟨b, e1, _, w1⟩ := DataW.trod_int Try.underlying3 h1
  simp at e0 e1
  exact ⟨⟨a, b⟩, by rw [e0, e1]; rfl, i64_le w1⟩
theorem pt_cells {n : Nat} {xs : List Value} {d : DataW H × List MemPlace} (h : DataW.trod enc Try.prog w 0 (fun _ => true) true n 55 xs = some d) (hl : xs.length = 4) : ∃ x : Pt, xs = encPt x := by
  obtain ⟨x, y, z, u, rfl⟩ := list_fourB hl
  obtain ⟨y0, y1, y2, m, rfl', _, h0, h1, h2⟩ := trod_struct3 Try.underlying55 h
  simp only [cB_int, cB_Span, List.drop_zero, List.drop_succ_cons, List.take_succ_cons, List.take_zero] at h0 h1 h2
  obtain ⟨a, e0, _, w0⟩ := DataW.trod_int Try.underlying3 h0
  obtain ⟨b, e1, _⟩ := tw_cells h1 rfl
  obtain ⟨c, e2, _, w2⟩ := DataW.trod_int Try.underlying3 h2
  simp [encTw] at e0 e1 e2
  exact ⟨⟨a, b.a, b.b, c⟩, by rw [e0, e1.1, e1.2, e2]; rfl⟩
theorem pts_arg {v : Value} {d : DataW H} {pl : List MemPlace} (hv : ∃ a n c, v = .slice a n c) (h : DataW.Trod enc Try.prog w 0 (fun _ => true) true 51 v d pl) (hw : Lite Try.prog 51 d) :
    ∃ a m c l, v = .slice a m c ∧ RowAt encPt w (.slice a m c) l ∧ m ≤ 140737488355328 := by
  obtain ⟨a, n, c, rfl⟩ := hv
  obtain ⟨fuel, hf⟩ := h
  obtain ⟨v, l, e, hr, hq, hb⟩ := rows_cells (enc := encPt) (Q := fun _ => True) Try.underlying51 (by rw [cB_Put]; omega) (fun x => by rw [cB_Put]; rfl) (fun n xs d pl h hw hl => by
    obtain ⟨x, e⟩ := pt_cells h (by rw [cB_Put] at hl; exact hl)
    exact ⟨x, e, trivial⟩) hf hw
  simp [Value.cells] at e
  subst e
  obtain ⟨y, z, e⟩ := hr.form
  cases e
  refine ⟨a, l.length, c, l, rfl, hr, ?_⟩
  rw [bB_Put] at hb
  simp [reachBytes] at hb
  omega
theorem tws_arg {v : Value} {d : DataW H} {pl : List MemPlace} (hv : ∃ a n c, v = .slice a n c) (h : DataW.Trod enc Try.prog w 0 (fun _ => true) true 41 v d pl) (hw : Lite Try.prog 41 d) :
    ∃ a m c l, v = .slice a m c ∧ RowAt encTw w (.slice a m c) l ∧ (∀ p ∈ l, Tw64 p) ∧ m ≤ 140737488355328 := by
  obtain ⟨a, n, c, rfl⟩ := hv
  obtain ⟨fuel, hf⟩ := h
  obtain ⟨v, l, e, hr, hq, hb⟩ := rows_cells (enc := encTw) (Q := Tw64) Try.underlying41 (by rw [cB_Span]; omega) (fun x => by rw [cB_Span]; rfl) (fun n xs d pl h hw hl => tw_cells h (by rw [cB_Span] at hl; exact hl)) hf hw
  simp [Value.cells] at e
  subst e
  obtain ⟨y, z, e⟩ := hr.form
  cases e
  refine ⟨a, l.length, c, l, rfl, hr, hq, ?_⟩
  rw [bB_Span] at hb
  simp [reachBytes] at hb
  omega
end
end Go.Proofs.Ytngglpekdjhbdaa
namespace Go.Proofs.Ytngglpekdjhbdaa
open Go.ChangeShapes Go.WideShapes Go.ChangeAt Go.RowKit Go.ChangeMaps Go.Deep
set_option linter.unusedSimpArgs false
set_option linter.unusedVariables false
set_option maxRecDepth 100000 in
theorem bitempRects_lifted (os : Os) (started : os.Started) (H : Type) (enc : TypeId × Value → H) :
    ReturnsInHanded {} Try.checked os 6 .any (Rows.bitempRectsSpec.pre6 enc Try.prog Try.f6 Rows.bitempRectsRow.domain false) (Rows.bitempRectsSpec.post enc Try.prog Try.f6 false true false false) := by
  refine returnsInHanded_of_change_sized (C := Try.checked) own started (by kernel_rfl) Try.func6
    (ChangeSpec.witness6 (enc := enc) (C := Try.checked) false ⟨#[], #[.slice none 0 0, .slice none 0 0], []⟩ 8 (by kernel_rfl) (by kernel_rfl) (by kernel_rfl) (by kernel_rfl)) ?_
  intro W base args ds gs before hval0 hW hcnd hsz _
  have hval : ∀ (j : Nat) t v, Try.f6.params[j]? = some t → args[j]? = some v → Value.okWide Try.prog W .any base t v := hval0
  have hW' := hW
  obtain ⟨p, q, hA0, hV, rfl, hfz, hnd⟩ := hW
  have hA : DataW.TrodAll enc Try.prog W 0 (fun _ => true) true Try.f6.params.toList args.toList ds p := hA0
  have hsz' : (DataW.weightsEach Try.prog (Try.f6.params.toList ++ (ChangeSpec.plain Rows.bitempRectsSpec).varTypes Try.prog) (ds ++ gs)).all (· ≤ reachBytes) = true := hsz
  rw [Try.params6] at hA hval hsz'
  obtain ⟨v0, vs0, d0, ds0, p0, q0, hargs, rfl, rfl, h0, r0⟩ := trodAll_cons hA
  obtain ⟨v1, vs1, d1, ds1, p1, q1, rfl, rfl, rfl, h1, r1⟩ := trodAll_cons r0
  obtain ⟨rfl, rfl, rfl⟩ := trodAll_nil r1
  obtain rfl : args = #[v0, v1] := by cases args; simp_all
  obtain ⟨rfl, rfl⟩ := trodVars_none hV
  have hl0 : Lite Try.prog 51 d0 := Lite.of hsz' (j := 0) rfl rfl
  have hl1 : Lite Try.prog 41 d1 := Lite.of hsz' (j := 1) rfl rfl
  obtain ⟨b0, m0, c0, l0, rfl, x0, n0⟩ := pts_arg (okWide_slice Try.underlying51 (hval 0 51 v0 rfl rfl)) h0 hl0
  obtain ⟨b1, m1, c1, l1, rfl, x1, y1, n1⟩ := tws_arg (okWide_slice Try.underlying41 (hval 1 41 v1 rfl rfl)) h1 hl1
  clear hA0 hval0
  refine (law13_at known13_at x0 x1 n0 n1 y1).mono fun e W' ⟨he, hg⟩ => ⟨_, he, law_post ?_ hW' hg.toBelow rfl rfl rfl⟩
  rw [Try.params6]
  simp only [List.mem_cons, List.not_mem_nil, or_false]
  rintro t (rfl | rfl)
  all_goals exact ⟨by kernel_rfl, of_decide_eq_true (by kernel_rfl)⟩
theorem bitempRects_holds : Rows.BitempRectsSaid :=
  OpenClaim.holds_of_wide 6 Try.f6 rfl rfl rfl rfl rfl rfl rfl ⟨rfl, rfl, rfl, rfl, rfl⟩ rfl rfl rfl rfl rfl (by kernel_rfl) Try.func6 (by kernel_rfl)
    (of_decide_eq_true (by kernel_rfl)) (by unfold Func.isWrapper; first | (rw [if_pos (by decide +kernel)]; kernel_rfl) | (rw [if_neg (by decide +kernel)]; exact ⟨rfl, rfl⟩))
    (fun os started H enc _ => bitempRects_lifted os started H enc)
#print axioms bitempRects_holds
end Go.Proofs.Ytngglpekdjhbdaa
