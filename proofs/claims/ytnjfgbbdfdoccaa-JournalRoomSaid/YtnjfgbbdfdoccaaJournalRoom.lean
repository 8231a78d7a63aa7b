/- A record is taken just where there is room for it; what is left falls by its sectors; a checkpoint keeps all records, and is of the next epoch, or is refused unchanged. No condition. -/
import Derived.Test.YtnjfgbbdfdoccaaJnY
import Derived.Test.YtnjfgbbdfdoccaaArgs
import Derived.Test.YtnjfgbbdfdoccaaLift
import Derived.Lib.SmallJoins
namespace Go.Proofs.Ytnjfgbbdfdoccaa
open Go.ChangeShapes Go.WideShapes Go.ChangeAt Go.RowKit Go.ChangeMaps Go.Deep
set_option linter.unusedSimpArgs false
set_option linter.unusedVariables false
theorem cellsOpJ : Try.prog.cellsOf 35 = 4 := by kernel_rfl
theorem cellsIntJ : Try.prog.cellsOf 3 = 1 := by kernel_rfl
theorem cellsBytesJ : Try.prog.cellsOf 33 = 1 := by kernel_rfl
theorem cellsU8J : Try.prog.cellsOf 5 = 1 := by kernel_rfl
theorem bytesOfU8J : Try.prog.bytesOf 5 = 1 := by kernel_rfl
theorem list_four {l : List Value} (h : l.length = 4) : ∃ a b c d, l = [a, b, c, d] := by
  match l, h with
  | [a, b, c, d], _ => exact ⟨a, b, c, d, rfl⟩
theorem opj_cells {H : Type} {enc : TypeId × Value → H} {w : World} {n : Nat} {xs : List Value} {d : DataW H} {pl : List MemPlace} (h : DataW.trod enc Try.prog w 0 (fun _ => true) true n 35 xs = some (d, pl)) (hw : Lite Try.prog 35 d) :
    ∃ q : OpJ, xs = [.int .i64 q.kind, .int .i64 q.at_, .int .i64 q.after, q.v] ∧ RowAt enc8 w q.v q.l ∧ IsB q.l ∧ q.l.length ≤ 140737488355328 := by
  obtain ⟨y0, y1, y2, y3, m, rfl', hl, h0, h1, h2, h3⟩ := Go.Joins.trod_struct4 Try.underlying35 h
  simp at rfl'
  obtain ⟨rfl, rfl⟩ := rfl'
  rw [cellsOpJ] at hl
  obtain ⟨x0, x1, x2, x3, rfl⟩ := list_four hl
  simp only [cellsIntJ, cellsBytesJ, List.drop_zero, List.drop_succ_cons, List.take_succ_cons, List.take_zero] at h0 h1 h2 h3
  obtain ⟨k, e0, hy0, _⟩ := DataW.trod_int Try.underlying3 h0
  obtain ⟨t, e1, hy1, _⟩ := DataW.trod_int Try.underlying3 h1
  obtain ⟨u, e2, hy2, _⟩ := DataW.trod_int Try.underlying3 h2
  obtain ⟨y3d, y3p⟩ := y3
  obtain ⟨a, l, cap, e3, hlc, _, hb, hwf, hr⟩ := ints_cells Try.underlying33 Try.underlying5 cellsU8J h3 (hw.field (j := 3) Try.underlying35 rfl rfl)
  simp at e0 e1 e2 e3
  subst e0 e1 e2 e3
  refine ⟨⟨k, t, u, .slice a l.length cap, l⟩, rfl, ?_, fun x hx => ?_, ?_⟩
  · rcases hr with rfl | ⟨b, o, rfl, hr⟩
    · exact .nil a cap
    · exact .at_ b o cap l hlc (by rw [flat8]; exact hr)
  · have := bounds_u8 (hwf x hx)
    omega
  · rw [bytesOfU8J] at hb
    have : reachBytes = 140737488351232 := rfl
    show l.length ≤ _
    omega
theorem opsj_arg {H : Type} {enc : TypeId × Value → H} {w : World} {v : Value} {d : DataW H} {pl : List MemPlace} (h : DataW.Trod enc Try.prog w 0 (fun _ => true) true 22 v d pl) (hv : ∃ a n c, v = .slice a n c) (hw : Lite Try.prog 22 d) :
    ∃ (a : Option Addr) (L : List OpJ) (cap : Nat), v = .slice a L.length cap ∧ L.length ≤ 140737488355328 ∧ OpsJ w a L := by
  obtain ⟨a, n, c, rfl⟩ := hv
  obtain ⟨fuel, hf⟩ := h
  obtain ⟨a', len, cap, m, e, hl, hm, hb, hn, hi⟩ := slice_cells Try.underlying22 (by rw [cellsOpJ]; omega) hf hw
  simp [Value.cells] at e
  obtain ⟨rfl, rfl, rfl⟩ := e
  rw [cellsOpJ] at hi
  have each : ∀ i, i < n → ∃ q : OpJ, ∃ b o, a = some ⟨b, o, none⟩ ∧ OpJAt w b (o + i * 4) q := fun i hlt => by
    obtain ⟨b, o, xs, di, pl, ha, hr, hlen, htr, hli⟩ := hi i (by omega)
    obtain ⟨q, rfl, h1, h2, h3⟩ := opj_cells htr (hli hlt)
    exact ⟨q, b, o, ha, hr, h1, h2, h3⟩
  have hb8 : Try.prog.bytesOf 35 = 48 := by kernel_rfl
  rw [hb8] at hb
  have hrb : reachBytes = 140737488351232 := rfl
  haveI : Inhabited OpJ := ⟨⟨0, 0, 0, .bool true, []⟩⟩
  obtain ⟨Q, hQ⟩ := choose_lt each
  refine ⟨a, (List.range n).map Q, c, by simp, by simp; omega, ⟨fun i q hq => ?_⟩⟩
  have hlt := (List.getElem?_eq_some_iff.1 hq).1
  simp at hlt
  obtain ⟨b, o, ha, ho⟩ := hQ i hlt
  refine ⟨b, o, ha, ?_⟩
  simp [hlt] at hq
  subst hq
  exact ho
set_option maxRecDepth 100000 in
theorem journalRoom_lifted (os : Os) (started : os.Started) (H : Type) (enc : TypeId × Value → H) :
    ReturnsInHanded {} Try.checked os 3 .any (Rows.journalRoomSpec.pre6 enc Try.prog Try.f3 Rows.journalRoomRow.domain false) (Rows.journalRoomSpec.post enc Try.prog Try.f3 false true false false) := by
  refine returnsInHanded_of_change_sized (C := Try.checked) own started (by kernel_rfl) Try.func3
    (ChangeSpec.witness6 (enc := enc) (C := Try.checked) false ⟨#[], #[.int .i64 0, .slice none 0 0], []⟩ 8 (by kernel_rfl) (by kernel_rfl) (by kernel_rfl) (by kernel_rfl)) ?_
  intro W base args ds gs before hval0 hW hcnd hsz _
  have hval : ∀ (j : Nat) t v, Try.f3.params[j]? = some t → args[j]? = some v → Value.okWide Try.prog W .any base t v := hval0
  have hW' := hW
  obtain ⟨p, q, hA0, hV, rfl, hfz, hnd⟩ := hW
  have hA : DataW.TrodAll enc Try.prog W 0 (fun _ => true) true Try.f3.params.toList args.toList ds p := hA0
  have hsz' : (DataW.weightsEach Try.prog (Try.f3.params.toList ++ (ChangeSpec.plain Rows.journalRoomSpec).varTypes Try.prog) (ds ++ gs)).all (· ≤ reachBytes) = true := hsz
  rw [Try.params3] at hA hval hsz'
  obtain ⟨v0, vs0, d0, ds0, p0, q0, hargs, rfl, rfl, h0, r0⟩ := trodAll_cons hA
  obtain ⟨v1, vs1, d1, ds1, p1, q1, rfl, rfl, rfl, h1, r1⟩ := trodAll_cons r0
  obtain ⟨rfl, rfl, rfl⟩ := trodAll_nil r1
  obtain rfl : args = #[v0, v1] := by cases args; simp_all
  obtain ⟨rfl, rfl⟩ := trodVars_none hV
  have hl1 : Lite Try.prog 22 d1 := Lite.of hsz' (j := 1) rfl rfl
  obtain ⟨a0, rfl, rfl, rfl, w0⟩ := open_int Try.underlying3 (hval 0 3 v0 rfl rfl) h0
  obtain ⟨a, L, cap, rfl, hm, hL⟩ := opsj_arg h1 (okWide_slice Try.underlying22 (hval 1 22 v1 rfl rfl)) hl1
  clear hA0 hval0
  refine (room_walk (cap := cap) a0 hL hm).mono fun e W' ⟨he, hg⟩ => ⟨_, he, law_post ?_ hW' hg.toBelow rfl rfl rfl⟩
  rw [Try.params3]
  simp only [List.mem_cons, List.not_mem_nil, or_false]
  rintro t (rfl | rfl)
  all_goals exact ⟨by kernel_rfl, of_decide_eq_true (by kernel_rfl)⟩
theorem journalRoom_holds : Rows.JournalRoomSaid :=
  OpenClaim.holds_of_wide 3 Try.f3 rfl rfl rfl rfl rfl rfl rfl ⟨rfl, rfl, rfl, rfl, rfl⟩ rfl rfl rfl rfl rfl (by kernel_rfl) Try.func3 (by kernel_rfl)
    (of_decide_eq_true (by kernel_rfl)) (by unfold Func.isWrapper; first | (rw [if_pos (by decide +kernel)]; kernel_rfl) | (rw [if_neg (by decide +kernel)]; exact ⟨rfl, rfl⟩))
    (fun os started H enc _ => journalRoom_lifted os started H enc)
#print axioms journalRoom_holds
end Go.Proofs.Ytnjfgbbdfdoccaa
