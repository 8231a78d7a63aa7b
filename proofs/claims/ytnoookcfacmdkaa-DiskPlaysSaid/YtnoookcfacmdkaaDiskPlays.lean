/- Whatever is asked of a disk, call by call: each answer, and whether it is down, and what was written, are the document's; what is handed in is not kept, what is told may be written over. No condition. -/
import Derived.Test.YtnoookcfacmdkaaPlaysB
import Derived.Test.YtnoookcfacmdkaaArgs
namespace Go.Proofs.Ytnoookcfacmdkaa
open Go.ChangeShapes Go.WideShapes Go.ChangeAt Go.RowKit Go.ChangeMaps Go.Deep
set_option linter.unusedSimpArgs false
set_option linter.unusedVariables false
theorem cellsOp : Try.prog.cellsOf 43 = 3 := by kernel_rfl
theorem cellsInt : Try.prog.cellsOf 3 = 1 := by kernel_rfl
theorem cellsBytes : Try.prog.cellsOf 23 = 1 := by kernel_rfl
theorem cellsU8 : Try.prog.cellsOf 5 = 1 := by kernel_rfl
theorem bytesOfU8 : Try.prog.bytesOf 5 = 1 := by kernel_rfl
theorem list_three {l : List Value} (h : l.length = 3) : ∃ a b c, l = [a, b, c] := by
  match l, h with
  | [a, b, c], _ => exact ⟨a, b, c, rfl⟩
theorem op_cells {H : Type} {enc : TypeId × Value → H} {w : World} {n : Nat} {xs : List Value} {d : DataW H} {pl : List MemPlace} (h : DataW.trod enc Try.prog w 0 (fun _ => true) true n 43 xs = some (d, pl)) (hw : Lite Try.prog 43 d) :
    ∃ q : Op3, xs = [.int .i64 q.kind, .int .i64 q.at_, q.v] ∧ BytesAt w q.v q.l ∧ q.l.length ≤ 140737488355328 ∧ q.at_ ≤ 9223372036854775807 := by
  obtain ⟨y0, y1, y2, m, rfl', hl, h0, h1, h2⟩ := trod_struct3 Try.underlying43 h
  simp at rfl'
  obtain ⟨rfl, rfl⟩ := rfl'
  rw [cellsOp] at hl
  obtain ⟨x0, x1, x2, rfl⟩ := list_three hl
  simp only [cellsInt, cellsBytes, List.drop_zero, List.drop_succ_cons, List.take_succ_cons, List.take_zero] at h0 h1 h2
  obtain ⟨k, e0, hy0, _⟩ := DataW.trod_int Try.underlying3 h0
  obtain ⟨t, e1, hy1, ht⟩ := DataW.trod_int Try.underlying3 h1
  obtain ⟨y2d, y2p⟩ := y2
  obtain ⟨a, l, cap, e2, hlc, _, hb, _, hr⟩ := ints_cells Try.underlying23 Try.underlying5 cellsU8 h2 (hw.field (j := 2) Try.underlying43 rfl rfl)
  simp at e0 e1 e2
  subst e0 e1 e2
  refine ⟨⟨k, t, .slice a l.length cap, l⟩, rfl, ?_, ?_, (i64_le ht).2⟩
  · rcases hr with rfl | ⟨b, o, rfl, hr⟩
    · exact .nil a cap
    · exact .at_ b o cap l hr
  · rw [bytesOfU8] at hb
    have : reachBytes = 140737488351232 := rfl
    show l.length ≤ _
    omega
theorem ops_arg {H : Type} {enc : TypeId × Value → H} {w : World} {v : Value} {d : DataW H} {pl : List MemPlace} (h : DataW.Trod enc Try.prog w 0 (fun _ => true) true 37 v d pl) (hv : ∃ a n c, v = .slice a n c) (hw : Lite Try.prog 37 d) :
    ∃ (a : Option Addr) (L : List Op3) (cap : Nat), v = .slice a L.length cap ∧ L.length ≤ 140737488355328 ∧ OpsAt w a L := by
  obtain ⟨a, n, c, rfl⟩ := hv
  obtain ⟨fuel, hf⟩ := h
  obtain ⟨a', len, cap, m, e, hl, hm, hb, hn, hi⟩ := slice_cells Try.underlying37 (by rw [cellsOp]; omega) hf hw
  simp [Value.cells] at e
  obtain ⟨rfl, rfl, rfl⟩ := e
  rw [cellsOp] at hi
  have each : ∀ i, i < n → ∃ q : Op3, ∃ b o, a = some ⟨b, o, none⟩ ∧ OpAt w b (o + i * 3) q := fun i hlt => by
    obtain ⟨b, o, xs, di, pl, ha, hr, hlen, htr, hli⟩ := hi i (by omega)
    obtain ⟨q, rfl, h1, h2, h3⟩ := op_cells htr (hli hlt)
    exact ⟨q, b, o, ha, hr, h1, h2, h3⟩
  have hb8 : Try.prog.bytesOf 43 = 40 := by kernel_rfl
  rw [hb8] at hb
  have hrb : reachBytes = 140737488351232 := rfl
  haveI : Inhabited Op3 := ⟨⟨0, 0, .bool true, []⟩⟩
  obtain ⟨Q, hQ⟩ := choose_lt each
  refine ⟨a, (List.range n).map Q, c, by simp, by simp; omega, ⟨fun i q hq => ?_⟩⟩
  have hlt := (List.getElem?_eq_some_iff.1 hq).1
  simp at hlt
  obtain ⟨b, o, ha, ho⟩ := hQ i hlt
  refine ⟨b, o, ha, ?_⟩
  simp [hlt] at hq
  subst hq
  exact ho
theorem plays_walk (a : Option Addr) (L : List Op3) (cap : Nat) (n : Int) (w : World) (hm : L.length ≤ 140737488355328) (hL : OpsAt w a L) :
    Calls Try.prog 4 #[.int .i64 n, .slice a L.length cap] w fun e w' => e = .returned (.bool true) ∧ Mod [] w w' := by
  by_cases h : L.length ≤ 200
  · by_cases hn : 1 ≤ n ∧ n ≤ 65536
    · exact plays_main a L cap n w h hn.1 hn.2 hL
    · exact plays_no a L cap n w h (by omega)
  · exact plays_long a L cap n w (by omega) hm
set_option maxRecDepth 100000 in
theorem plays_lifted (os : Os) (started : os.Started) (H : Type) (enc : TypeId × Value → H) :
    ReturnsInHanded {} Try.checked os 4 .any (Rows.diskPlaysSpec.pre6 enc Try.prog Try.f4 Rows.diskPlaysRow.domain false) (Rows.diskPlaysSpec.post enc Try.prog Try.f4 false true false false) := by
  refine returnsInHanded_of_change_sized (C := Try.checked) own started (by kernel_rfl) Try.func4
    (ChangeSpec.witness6 (enc := enc) (C := Try.checked) false ⟨#[], #[.int .i64 0, .slice none 0 0], []⟩ 8 (by kernel_rfl) (by kernel_rfl) (by kernel_rfl) (by kernel_rfl)) ?_
  intro W base args ds gs before hval0 hW hcnd hsz _
  have hval : ∀ (j : Nat) t v, Try.f4.params[j]? = some t → args[j]? = some v → Value.okWide Try.prog W .any base t v := hval0
  have hW' := hW
  obtain ⟨p, q, hA0, hV, rfl, hfz, hnd⟩ := hW
  have hA : DataW.TrodAll enc Try.prog W 0 (fun _ => true) true Try.f4.params.toList args.toList ds p := hA0
  have hsz' : (DataW.weightsEach Try.prog (Try.f4.params.toList ++ (ChangeSpec.plain Rows.diskPlaysSpec).varTypes Try.prog) (ds ++ gs)).all (· ≤ reachBytes) = true := hsz
  rw [Try.params4] at hA hval hsz'
  obtain ⟨v0, vs0, d0, ds0, p0, q0, hargs, rfl, rfl, h0, r0⟩ := trodAll_cons hA
  obtain ⟨v1, vs1, d1, ds1, p1, q1, rfl, rfl, rfl, h1, r1⟩ := trodAll_cons r0
  obtain ⟨rfl, rfl, rfl⟩ := trodAll_nil r1
  obtain rfl : args = #[v0, v1] := by cases args; simp_all
  obtain ⟨rfl, rfl⟩ := trodVars_none hV
  have hl1 : Lite Try.prog 37 d1 := Lite.of hsz' (j := 1) rfl rfl
  obtain ⟨a0, rfl, rfl, rfl, w0⟩ := open_int Try.underlying3 (hval 0 3 v0 rfl rfl) h0
  obtain ⟨a, L, cap, rfl, hm, hL⟩ := ops_arg h1 (okWide_slice Try.underlying37 (hval 1 37 v1 rfl rfl)) hl1
  clear hA0 hval0
  refine (plays_walk a L cap a0 W hm hL).mono fun e W' ⟨he, hg⟩ => ⟨_, he, law_post ?_ hW' hg.toBelow rfl rfl rfl⟩
  rw [Try.params4]
  simp only [List.mem_cons, List.not_mem_nil, or_false]
  rintro t (rfl | rfl)
  all_goals exact ⟨by kernel_rfl, of_decide_eq_true (by kernel_rfl)⟩
theorem plays_holds : Rows.DiskPlaysSaid :=
  OpenClaim.holds_of_wide 4 Try.f4 rfl rfl rfl rfl rfl rfl rfl ⟨rfl, rfl, rfl, rfl, rfl⟩ rfl rfl rfl rfl rfl (by kernel_rfl) Try.func4 (by kernel_rfl)
    (of_decide_eq_true (by kernel_rfl)) (by unfold Func.isWrapper; first | (rw [if_pos (by decide +kernel)]; kernel_rfl) | (rw [if_neg (by decide +kernel)]; exact ⟨rfl, rfl⟩))
    (fun os started H enc _ => plays_lifted os started H enc)
#print axioms plays_holds
end Go.Proofs.Ytnoookcfacmdkaa
