/- The common parts of any timelines over any span, and any span cut at any days, are the document's. No condition. -/
import Derived.Test.YtngglpekdjhbdaaRmZ
import Derived.Test.YtngglpekdjhbdaaRmY
import Derived.Test.YtngglpekdjhbdaaLift
namespace Go.Proofs.Ytngglpekdjhbdaa
open Go.ChangeShapes Go.WideShapes Go.ChangeAt Go.RowKit Go.ChangeMaps Go.Deep
set_option linter.unusedSimpArgs false
set_option linter.unusedVariables false
set_option maxRecDepth 100000 in
theorem refineParts_lifted (os : Os) (started : os.Started) (H : Type) (enc : TypeId × Value → H) :
    ReturnsInHanded {} Try.checked os 3 .any (Rows.refinePartsSpec.pre6 enc Try.prog Try.f3 Rows.refinePartsRow.domain false) (Rows.refinePartsSpec.post enc Try.prog Try.f3 false true false false) := by
  refine returnsInHanded_of_change_sized (C := Try.checked) own started (by kernel_rfl) Try.func3
    (ChangeSpec.witness6 (enc := enc) (C := Try.checked) false ⟨#[], #[.slice none 0 0, .agg #[.int .i64 0, .int .i64 0], .slice none 0 0], []⟩ 8 (by kernel_rfl) (by kernel_rfl) (by kernel_rfl) (by kernel_rfl)) ?_
  intro W base args ds gs before hval0 hW hcnd hsz _
  have hval : ∀ (j : Nat) t v, Try.f3.params[j]? = some t → args[j]? = some v → Value.okWide Try.prog W .any base t v := hval0
  have hW' := hW
  obtain ⟨p, q, hA0, hV, rfl, hfz, hnd⟩ := hW
  have hA : DataW.TrodAll enc Try.prog W 0 (fun _ => true) true Try.f3.params.toList args.toList ds p := hA0
  have hsz' : (DataW.weightsEach Try.prog (Try.f3.params.toList ++ (ChangeSpec.plain Rows.refinePartsSpec).varTypes Try.prog) (ds ++ gs)).all (· ≤ reachBytes) = true := hsz
  rw [Try.params3] at hA hval hsz'
  obtain ⟨v0, vs0, d0, ds0, p0, q0, hargs, rfl, rfl, h0, r0⟩ := trodAll_cons hA
  obtain ⟨v1, vs1, d1, ds1, p1, q1, rfl, rfl, rfl, h1, r1⟩ := trodAll_cons r0
  obtain ⟨v2, vs2, d2, ds2, p2, q2, rfl, rfl, rfl, h2, r2⟩ := trodAll_cons r1
  obtain ⟨rfl, rfl, rfl⟩ := trodAll_nil r2
  obtain rfl : args = #[v0, v1, v2] := by cases args; simp_all
  obtain ⟨rfl, rfl⟩ := trodVars_none hV
  have hl0 : Lite Try.prog 22 d0 := Lite.of hsz' (j := 0) rfl rfl
  have hl1 : Lite Try.prog 24 d1 := Lite.of hsz' (j := 1) rfl rfl
  have hl2 : Lite Try.prog 25 d2 := Lite.of hsz' (j := 2) rfl rfl
  obtain ⟨hs0, os0, x0, n0, m0⟩ := putss_arg (okWide_slice Try.underlying22 (hval 0 22 v0 rfl rfl)) h0 hl0
  obtain ⟨a1, b1, rfl⟩ := spanL_arg (okWide_structL Try.underlying24 (hval 1 24 v1 rfl rfl)) h1
  obtain ⟨l2, x2, n2⟩ := intsL_arg (okWide_slice Try.underlying25 (hval 2 25 v2 rfl rfl)) h2 hl2
  clear hA0 hval0
  refine (parts_law x0 n0 m0 a1 b1 x2 n2).mono fun e W' ⟨he, hg⟩ => ⟨_, he, law_post ?_ hW' hg.toBelow rfl rfl rfl⟩
  rw [Try.params3]
  simp only [List.mem_cons, List.not_mem_nil, or_false]
  rintro t (rfl | rfl | rfl)
  all_goals exact ⟨by kernel_rfl, of_decide_eq_true (by kernel_rfl)⟩
theorem refineParts_holds : Rows.RefinePartsSaid :=
  OpenClaim.holds_of_wide 3 Try.f3 rfl rfl rfl rfl rfl rfl rfl ⟨rfl, rfl, rfl, rfl, rfl⟩ rfl rfl rfl rfl rfl (by kernel_rfl) Try.func3 (by kernel_rfl)
    (of_decide_eq_true (by kernel_rfl)) (by unfold Func.isWrapper; first | (rw [if_pos (by decide +kernel)]; kernel_rfl) | (rw [if_neg (by decide +kernel)]; exact ⟨rfl, rfl⟩))
    (fun os started H enc _ => refineParts_lifted os started H enc)
#print axioms refineParts_holds
end Go.Proofs.Ytngglpekdjhbdaa
