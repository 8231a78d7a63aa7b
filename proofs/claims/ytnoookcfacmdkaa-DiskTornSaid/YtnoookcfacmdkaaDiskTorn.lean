/- Behind any writes, of which a crash comes at one, each sector has what was last written to it whole, or noughts; the torn one alone has the torn bytes. No condition. -/
import Derived.Test.YtnoookcfacmdkaaTornX
import Derived.Test.YtnoookcfacmdkaaLift
namespace Go.Proofs.Ytnoookcfacmdkaa
open Go.ChangeShapes Go.WideShapes Go.ChangeAt Go.RowKit Go.ChangeMaps
set_option linter.unusedSimpArgs false
set_option linter.unusedVariables false
theorem torn_cells3 : Try.prog.cellsOf 3 = 1 := by kernel_rfl
theorem torn_cells5 : Try.prog.cellsOf 5 = 1 := by kernel_rfl

theorem torn_walk (a0 a1 : Option Addr) (A Y : List Int) (c0 c1 : Nat) (af t : Int) (w : World) (hA : A = [] ∨ ∃ b o, a0 = some ⟨b, o, none⟩ ∧ w.rangeAt b o (iv A)) (hY : Y = [] ∨ ∃ b o, a1 = some ⟨b, o, none⟩ ∧ w.rangeAt b o (bv Y))
    (hAm : A.length ≤ maxLen) (hYm : Y.length ≤ maxLen) (haf2 : af ≤ 9223372036854775807) :
    Calls Try.prog 3 #[.slice a0 A.length c0, .slice a1 Y.length c1, .int .i64 af, .int .u8 t] w fun e w' => e = .returned (.bool true) ∧ Mod [] w w' := by
  by_cases hg : 60 < A.length ∨ Y.length < A.length ∨ af < 0
  · exact torn_great a0 a1 A.length c0 Y.length c1 af t hAm hYm w hg
  · rcases hA with rfl | ⟨ab, ao, rfl, hA⟩
    · exact torn_none a0 a1 c0 Y.length c1 af t w (by omega) haf2 hYm
    · by_cases h0 : A = []
      · subst h0
        exact torn_none _ a1 c0 Y.length c1 af t w (by omega) haf2 hYm
      · have hl : 0 < A.length := List.length_pos_iff.2 h0
        rcases hY with rfl | ⟨yb, yo, rfl, hY⟩
        · simp only [List.length_nil] at hg; omega
        · exact torn_some ab ao c0 yb yo c1 A Y af t w hA hY h0 (by omega) (by omega) (by omega) haf2 hYm

set_option maxRecDepth 100000 in
theorem torn_lifted (os : Os) (started : os.Started) (H : Type) (enc : TypeId × Value → H) :
    ReturnsInHanded {} Try.checked os 3 .any (Rows.diskTornSpec.pre6 enc Try.prog Try.f3 Rows.diskTornRow.domain false) (Rows.diskTornSpec.post enc Try.prog Try.f3 false true false false) := by
  refine returnsInHanded_of_change (C := Try.checked) own started (by kernel_rfl) Try.func3
    (ChangeSpec.witness6 (enc := enc) (C := Try.checked) false ⟨#[], #[.slice none 0 0, .slice none 0 0, .int .i64 0, .int .u8 0], []⟩ 8 (by kernel_rfl) (by kernel_rfl) (by kernel_rfl) (by kernel_rfl)) ?_
  intro W base args ds gs before hval0 hW hcnd _
  have hval : ∀ (j : Nat) t v, Try.f3.params[j]? = some t → args[j]? = some v → Value.okWide Try.prog W .any base t v := hval0
  have hW' := hW
  obtain ⟨p, q, hA0, hV, rfl, hfz, hnd⟩ := hW
  have hA : DataW.TrodAll enc Try.prog W 0 (fun _ => true) true Try.f3.params.toList args.toList ds p := hA0
  rw [Try.params3] at hA hval
  obtain ⟨v0, vs0, d0, ds0, p0, q0, hargs, rfl, rfl, h0, r0⟩ := trodAll_cons hA
  obtain ⟨v1, vs1, d1, ds1, p1, q1, rfl, rfl, rfl, h1, r1⟩ := trodAll_cons r0
  obtain ⟨v2, vs2, d2, ds2, p2, q2, rfl, rfl, rfl, h2, r2⟩ := trodAll_cons r1
  obtain ⟨v3, vs3, d3, ds3, p3, q3, rfl, rfl, rfl, h3, r3⟩ := trodAll_cons r2
  obtain ⟨rfl, rfl, rfl⟩ := trodAll_nil r3
  obtain rfl : args = #[v0, v1, v2, v3] := by cases args; simp_all
  obtain ⟨rfl, rfl⟩ := trodVars_none hV
  obtain ⟨a2, rfl, rfl, rfl, w2⟩ := open_int Try.underlying3 (hval 2 3 v2 rfl rfl) h2
  obtain ⟨a3, rfl, rfl, rfl, w3⟩ := open_int Try.underlying5 (hval 3 5 v3 rfl rfl) h3
  obtain ⟨x0, A, c0, rfl, hAm, hAw, hAr⟩ := ints_arg Try.underlying22 Try.underlying3 torn_cells3 (okWide_slice Try.underlying22 (hval 0 22 v0 rfl rfl)) h0
  obtain ⟨x1, Y, c1, rfl, hYm, hYw, hYr⟩ := ints_arg Try.underlying23 Try.underlying5 torn_cells5 (okWide_slice Try.underlying23 (hval 1 23 v1 rfl rfl)) h1
  clear hA0 hval0
  have hb2 : a2 ≤ 9223372036854775807 := by
    simp only [Lit.wf, IntKind.min, IntKind.max, IntKind.signed, IntKind.bits, Bool.and_eq_true, decide_eq_true_eq] at w2
    have := w2.2
    simp at this
    omega
  refine (torn_walk x0 x1 A Y c0 c1 a2 a3 W hAr hYr hAm hYm hb2).mono fun e W' ⟨he, hg⟩ => ⟨_, he, law_post ?_ hW' hg.toBelow rfl rfl rfl⟩
  rw [Try.params3]
  simp only [List.mem_cons, List.not_mem_nil, or_false]
  rintro t (rfl | rfl | rfl | rfl)
  all_goals exact ⟨by kernel_rfl, of_decide_eq_true (by kernel_rfl)⟩

theorem torn_holds : Rows.DiskTornSaid :=
  OpenClaim.holds_of_wide 3 Try.f3 rfl rfl rfl rfl rfl rfl rfl ⟨rfl, rfl, rfl, rfl, rfl⟩ rfl rfl rfl rfl rfl (by kernel_rfl) Try.func3 (by kernel_rfl)
    (of_decide_eq_true (by kernel_rfl)) (by unfold Func.isWrapper; first | (rw [if_pos (by decide +kernel)]; kernel_rfl) | (rw [if_neg (by decide +kernel)]; exact ⟨rfl, rfl⟩))
    (fun os started H enc _ => torn_lifted os started H enc)
#print axioms torn_holds
end Go.Proofs.Ytnoookcfacmdkaa
