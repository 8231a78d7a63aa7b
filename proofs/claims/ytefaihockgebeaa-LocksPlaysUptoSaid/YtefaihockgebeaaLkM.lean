/- Locks: known's three answers, joined. -/
import Derived.Test.YtefaihockgebeaaLkL
import Derived.Test.YtefaihockgebeaaLkK
namespace Go.Proofs.Ytefaihockgebeaa
open Go.RowKit Go.ChangeMaps Go.Deep
set_option linter.unusedSimpArgs false
set_option linter.unusedVariables false
set_option maxRecDepth 20000

set_option maxHeartbeats 8000000 in
theorem known28_any (w : World) : Calls Try.prog 48 #[] w fun e w' => e = .returned (.bool true) ∧ Mod [] w w' := by
  have HCN := Lib.hid (lkNew_any w)
  go_enter Try.func48, Try.ntmps48
  go_wp2_with fail
  refine HCN.out.mono ?_
  rintro e w1 ⟨rfl, rfl⟩
  go_wp2_with fail
  obtain ⟨A1, hA1, n1, s1, m1⟩ := alloc_named w (.cells #[.slice none 0 0] 119)
  obtain ⟨W, hA2, n2, s2, m2⟩ := alloc_named A1 (.cells #[.int .i64 1, .int .i64 10] 64)
  rw [hA1, hA2]
  rw [s1] at n2 s2
  have HL := Lib.hid (m2.heap n1 (by simp))
  have HT := Lib.hid n2
  have HM := Lib.hid (m1.trans m2)
  have HA := Lib.hid (show SpansAt W (.slice none 0 0) [] from .nil none 0)
  clear n1 s1 m1 n2 s2 m2 hA1 hA2 HCN
  have h3 := known_r3 w.heap.size (.slice none 0 0) []
  simp only [regOps, Try.f48, findR, Option.bind_some, Nat.reduceBEq, Bool.false_eq_true, Option.getD_some, ↓reduceIte, reduceCtorEq] at h3
  refine wp_mono (h3 _ _ _ _ _ _ _ _ _ _ _ _ _ _ _ _ _ _ _ _ _ _ _ _ _ _ _ _ _ _ _ _ _ _ _ _ _ _ _ _ _ _ _ _ _ _ _ _ _ _ _ _ _ _ _ _ _ _ _ _ _ _ _ _ _ _ _ _ _ _ _ _ _ _ _ _ _ _ _ _ _ _ _ _ W HL.out HT.out HA.out (by simp) (by simp [Value.ownBlock])) ?_
  clear h3
  rintro e a3 W3 ⟨rfl, P3, sv3, out3, u14, u15, u16, u17, u18, u19, u20, u21, u22, u23, u24, hP3, hT3, hL3, hA3, hO3, hl3, hb3, hm3, rfl⟩
  have he3 : out3 = [(1, 10)] := hb3.one (isOf_self (l := [(1, 10)]) ⟨by decide, by decide, by decide, trivial⟩).both (fun d _ _ => by simp [inB])
  subst he3
  have HL3 := Lib.hid hL3
  have HT3 := Lib.hid hT3
  have HA3 := Lib.hid hA3
  have HO3 := Lib.hid hO3
  have HB3 := Lib.hid hb3
  have HLN := Lib.hid (show ([((1 : Int), (10 : Int))] : List Sp).length ≤ 100000 by simp)
  have HMX := Lib.hid (HM.out.newer hm3 (by simp))
  clear hL3 hT3 hA3 hO3 hl3 hb3 hm3 hP3
  go_wp2_with fail
  have h4 := known_r4 w.heap.size sv3 [(1, 10)]
  simp only [regOps, Try.f48, findR, Option.bind_some, Nat.reduceBEq, Bool.false_eq_true, Option.getD_some, ↓reduceIte, reduceCtorEq] at h4
  refine wp_mono (h4 _ _ _ _ _ _ _ _ _ _ _ _ _ _ _ _ _ _ _ _ _ _ _ _ _ _ _ _ _ _ _ _ _ _ _ _ _ _ _ _ _ _ _ _ _ _ _ _ _ _ _ _ _ _ _ _ _ _ _ _ _ _ _ _ _ _ _ _ _ _ _ _ _ _ _ _ _ _ _ _ _ _ _ _ W3 HL3.out HT3.out HA3.out HLN.out HO3.out) ?_
  clear h4
  rintro e a4 W4 ⟨rfl, P4, u25, u26, u27, u28, u29, u30, u31, u32, u33, u34, u35, u36, hP4, hT4, hL4, hA4, hO4, hm4, rfl⟩
  have HL4 := Lib.hid hL4
  have HT4 := Lib.hid hT4
  have HA4 := Lib.hid hA4
  have HO4 := Lib.hid hO4
  have HP4 := Lib.hid hP4
  have HMX4 := Lib.hid (HMX.out.trans hm4)
  clear hL4 hT4 hA4 hO4 hm4 hP4
  go_wp2_with fail
  have h5 := known_r5 w.heap.size sv3 [(1, 10)]
  simp only [regOps, Try.f48, findR, Option.bind_some, Nat.reduceBEq, Bool.false_eq_true, Option.getD_some, ↓reduceIte, reduceCtorEq] at h5
  refine wp_mono (h5 _ _ _ _ _ _ _ _ _ _ _ _ _ _ _ _ _ _ _ _ _ _ _ _ _ _ _ _ _ _ _ _ _ _ _ _ _ _ _ _ _ _ _ _ _ _ _ _ _ _ _ _ _ _ _ _ _ _ _ _ _ _ _ _ _ _ _ _ _ _ _ _ _ _ _ _ _ _ _ _ _ _ _ _ W4 HL4.out HT4.out HA4.out HLN.out HO4.out) ?_
  clear h5
  rintro e a5 W5 ⟨rfl, P5, u37, u38, u39, u40, u41, u42, u43, u44, u45, u46, u47, hP5, hT5, hL5, hA5, hO5, hm5, rfl⟩
  have HL5 := Lib.hid hL5
  have HA5 := Lib.hid hA5
  have HMX5 := Lib.hid (HMX4.out.trans hm5)
  have hP4 := hm5.heap HP4.out (by simp)
  have HP4 := Lib.hid hP4
  have HP5 := Lib.hid hP5
  have HT5 := Lib.hid hT5
  clear hL5 hT5 hA5 hO5 hm5 hP5 hP4
  go_wp2_with fail
  have h6 := known_r6 w.heap.size P4 P5 sv3
  simp only [regOps, Try.f48, findR, Option.bind_some, Nat.reduceBEq, Bool.false_eq_true, Option.getD_some, ↓reduceIte, reduceCtorEq] at h6
  refine wp_mono (h6 _ _ _ _ _ _ _ _ _ _ _ _ _ _ _ _ _ _ _ _ _ _ _ _ _ _ _ _ _ _ _ _ _ _ _ _ _ _ _ _ _ _ _ _ _ _ _ _ _ _ _ _ _ _ _ _ _ _ _ _ _ _ _ _ _ _ _ _ _ _ _ _ _ _ _ _ W5 HL5.out HT5.out HP4.out HP5.out HA5.out) ?_
  clear h6
  rintro e a6 W6 ⟨rfl, hm6, u48, u49, u50, u51, u52, u53, u54, u55, u56, u57, u58, u59, u60, u61, u62, u63, u64, u65, u66, u67, u68, u69, u70, u71, u72, u73, u74, u75, u76, u77, u78, u79, u80, u81, u82, u83, u84, u85, rfl⟩
  have HMX6 := Lib.hid (HMX5.out.trans hm6)
  clear hm6
  go_wp2_with fail
  go_ret
  exact ⟨rfl, HMX6.out⟩
end Go.Proofs.Ytefaihockgebeaa
