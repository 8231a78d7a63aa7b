/- Locks: known's region 6, in both orders. Printed by gen/lkn.py. -/
import Derived.Test.YtefaihockgebeaaLkE
import Derived.Test.YtefaihockgebeaaLkD
import Derived.Test.YtefaihockgebeaaRegJ
namespace Go.Proofs.Ytefaihockgebeaa
open Go.RowKit Go.ChangeMaps Go.Deep
set_option linter.unusedSimpArgs false
set_option linter.unusedVariables false
set_option maxRecDepth 20000
theorem eq_fail (x y : Int × Int) (w : World) : (binOp .eql 75 (.agg #[.int .i64 x.1, .int .i64 x.2]) (.agg #[.int .i64 y.1, .int .i64 y.2])).run Try.prog w = .ok (.bool (decide (x = y))) w := by
  obtain ⟨a, b⟩ := x
  obtain ⟨c, d⟩ := y
  go_simp
  repeat' split
  all_goals simp [*]
theorem guard_fail : Try.prog.eqGuardType Try.prog.depth 75 = false := by kernel_rfl
set_option maxHeartbeats 8000000 in
theorem known_r6 (S P4 P5 : Nat) (sv : Value) (v0 v3 v12 v13 v14 v15 v16 v17 v18 v19 v20 v21 v22 v23 v24 v25 v26 v27 v28 v29 v30 v31 v32 v33 v34 v35 v36 v37 v38 v39 v40 v41 v42 v43 v44 v45 v46 v47 v48 v49 v50 v51 v52 v53 v54 v55 v56 v57 v58 v59 v60 v61 v62 v63 v64 v65 v66 v67 v68 v69 v70 v71 v72 v73 v74 v75 v76 v77 v78 v79 v80 v81 v82 v83 v84 v85 : Value) (W : World) (hL : W.heap[S]? = some (.cells #[sv] 119 (0, 0))) (hT : W.heap[S + 1]? = some (.cells #[.int .i64 1, .int .i64 10] 64 (0, 0))) (h4 : W.heap[P4]? = some (.cells #[.int .i64 5, .int .i64 2] 75 (0, 0))) (h5 : W.heap[P5]? = some (.cells #[.int .i64 9, .int .i64 2] 75 (0, 0))) (hA : SpansAt W sv [(1, 10)]) :
    (Code.region 6 (regOps Try.f48 6) true).wp Try.prog (fun e a' w' => e = .normal ∧ Mod [] W w' ∧ ∃ (u48 u49 u50 u51 u52 u53 u54 u55 u56 u57 u58 u59 u60 u61 u62 u63 u64 u65 u66 u67 u68 u69 u70 u71 u72 u73 u74 u75 u76 u77 u78 u79 u80 u81 u82 u83 u84 u85 : Value), a' = { tmps := #[.bool true, .pointer (some ⟨S, 0, none⟩), .pointer (some ⟨S + 1, 0, none⟩), v3, .bool true, .int .i64 0, .pointer (some ⟨P4, 0, none⟩), .bool false, .int .i64 0, .pointer (some ⟨P5, 0, none⟩), .bool false, .int .i64 0, v12, v13, v14, v15, v16, v17, v18, v19, v20, v21, v22, v23, v24, v25, v26, v27, v28, v29, v30, v31, v32, v33, v34, v35, v36, v37, v38, v39, v40, v41, v42, v43, v44, v45, v46, v47, u48, u49, u50, u51, u52, u53, u54, u55, u56, u57, u58, u59, u60, u61, u62, u63, u64, u65, u66, u67, u68, u69, u70, u71, u72, u73, u74, u75, u76, u77, u78, u79, u80, u81, u82, u83, u84, u85], defers := [] }) { tmps := #[v0, .pointer (some ⟨S, 0, none⟩), .pointer (some ⟨S + 1, 0, none⟩), v3, .bool true, .int .i64 0, .pointer (some ⟨P4, 0, none⟩), .bool false, .int .i64 0, .pointer (some ⟨P5, 0, none⟩), .bool false, .int .i64 0, v12, v13, v14, v15, v16, v17, v18, v19, v20, v21, v22, v23, v24, v25, v26, v27, v28, v29, v30, v31, v32, v33, v34, v35, v36, v37, v38, v39, v40, v41, v42, v43, v44, v45, v46, v47, v48, v49, v50, v51, v52, v53, v54, v55, v56, v57, v58, v59, v60, v61, v62, v63, v64, v65, v66, v67, v68, v69, v70, v71, v72, v73, v74, v75, v76, v77, v78, v79, v80, v81, v82, v83, v84, v85], defers := [] } W := by
  simp only [regOps, Try.f48, findR, Option.bind_some, Nat.reduceBEq, Bool.false_eq_true, Option.getD_some, ↓reduceIte, reduceCtorEq]
  have HL := Lib.hid hL
  have HT := Lib.hid hT
  have HA := Lib.hid hA
  have c0 := cell_blk hT 0
  have c1 := cell_blk hT 1
  have d0 := cell_blk h4 0
  have d1 := cell_blk h4 1
  have e0 := cell_blk h5 0
  have e1 := cell_blk h5 1
  simp only [List.getElem?_toArray, List.getElem?_cons_succ, List.getElem?_cons_zero] at c0 c1 d0 d1 e0 e1
  have HQ1 := Lib.hid (fun W => eq_fail (5, 2) (5, 2) W)
  have HQ2 := Lib.hid (fun W => eq_fail (9, 2) (9, 2) W)
  rw [decide_eq_true rfl] at HQ1 HQ2
  dsimp only at HQ1 HQ2
  refine wp_sched (by kernel_rfl) (sched_either 33 35 (by decide) (sched_plan1 [([0, 1, 2, 3, 4, 5, 6, 7, 8, 9, 10, 11, 12, 13, 14, 15, 16, 17, 18, 19, 20, 21, 22], 23, [22]), ([24, 25, 26, 27], 28, [27]), ([29, 30, 31, 32, 34], 33, [34]), ([], 35, []), ([], 36, [])] [37, 38] (by kernel_rfl) ?o1) (sched_plan1 [([0, 1, 2, 3, 4, 5, 6, 7, 8, 9, 10, 11, 12, 13, 14, 15, 16, 17, 18, 19, 20, 21, 22], 23, [22]), ([24, 25, 26, 27], 28, [27]), ([29, 30, 31, 32, 34], 35, []), ([], 33, [34]), ([], 36, [])] [37, 38] (by kernel_rfl) ?o2))
  case o1 =>
    simp only [wpSegs, opsOf, List.map_cons, List.map_nil, opN, List.getD_cons_zero, List.getD_cons_succ]
    go_wp2_with (first | ((with_reducible refine xEqAgg (t := 75) rfl (HQ1.out _) guard_fail ?_ ?_ ?_ ?_); exact rfl; exact rfl; exact rfl) | ((with_reducible refine xEqAgg (t := 75) rfl (HQ2.out _) guard_fail ?_ ?_ ?_ ?_); exact rfl; exact rfl; exact rfl))
    refine ⟨by first | trivial | rfl, ?_⟩
    go_wp2_with fail
    refine ⟨?ag11, ?_⟩
    case ag11 =>
      intro i hi hw
      simp only [List.mem_cons, List.not_mem_nil, or_false] at hi
      subst hi
      all_goals (simp only [opN, List.getD_cons_zero, List.getD_cons_succ, slotOf]; go_simp)
    go_wp2_with (first | ((with_reducible refine xEqAgg (t := 75) rfl (HQ1.out _) guard_fail ?_ ?_ ?_ ?_); exact rfl; exact rfl; exact rfl) | ((with_reducible refine xEqAgg (t := 75) rfl (HQ2.out _) guard_fail ?_ ?_ ?_ ?_); exact rfl; exact rfl; exact rfl))
    refine ⟨by first | trivial | rfl, ?_⟩
    go_wp2_with fail
    refine ⟨?ag12, ?_⟩
    case ag12 =>
      intro i hi hw
      simp only [List.mem_cons, List.not_mem_nil, or_false] at hi
      subst hi
      all_goals (simp only [opN, List.getD_cons_zero, List.getD_cons_succ, slotOf]; go_simp)
    go_wp2_with (first | ((with_reducible refine xEqAgg (t := 75) rfl (HQ1.out _) guard_fail ?_ ?_ ?_ ?_); exact rfl; exact rfl; exact rfl) | ((with_reducible refine xEqAgg (t := 75) rfl (HQ2.out _) guard_fail ?_ ?_ ?_ ?_); exact rfl; exact rfl; exact rfl))
    refine ⟨by first | trivial | rfl, ?_⟩
    go_wp2_with fail
    have HM0 := Lib.hid ((Mod.refl [] W).drew)
    refine (lkDays_any S sv [(1, 10)] _ (HM0.out.heap HL.out (by simp)) (HA.out.kept0 HM0.out) (by simp)).mono ?_
    rintro e Wd ⟨vd, out, rfl, od, md, ho, lo⟩
    obtain ⟨da, dc, rfl⟩ := od.row.form
    have HM1 := Lib.hid (HM0.out.trans md)
    have HD := Lib.hid od.row
    have HO := Lib.hid (show out = [(1, 10)] from (ho.one (isOf_self ⟨by decide, by decide, by decide, trivial⟩) (fun _ _ _ => Iff.rfl)))
    clear od md ho lo
    have hTx := HM1.out.heap HT.out (by simp)
    have c0 := cell_blk hTx 0
    have c1 := cell_blk hTx 1
    simp only [List.getElem?_toArray, List.getElem?_cons_succ, List.getElem?_cons_zero] at c0 c1
    clear hTx
    go_wp2_with fail
    refine ⟨?ag13, ?_⟩
    case ag13 =>
      intro i hi hw
      simp only [List.mem_cons, List.not_mem_nil, or_false] at hi
      subst hi
      all_goals (simp only [opN, List.getD_cons_zero, List.getD_cons_succ, slotOf]; go_simp)
    go_wp2_with (first | ((with_reducible refine xEqAgg (t := 75) rfl (HQ1.out _) guard_fail ?_ ?_ ?_ ?_); exact rfl; exact rfl; exact rfl) | ((with_reducible refine xEqAgg (t := 75) rfl (HQ2.out _) guard_fail ?_ ?_ ?_ ?_); exact rfl; exact rfl; exact rfl))
    refine ⟨by first | trivial | rfl, ?_⟩
    go_wp2_with fail
    obtain ⟨Wb, hWb, mb, hLit⟩ : ∃ Wb, Wd.alloc (.cells #[.int .i64 1, .int .i64 10] 64) = Wb ∧ Mod [] Wd Wb ∧ SpansAt Wb (.slice (some ⟨Wd.heap.size, 0, none⟩) 1 1) [(1, 10)] := ⟨_, rfl, (Mod.refl [] Wd).alloc _, spans_lit Wd [(1, 10)] _ 1 rfl rfl⟩
    rw [hWb]
    have HM1 := Lib.hid (HM1.out.trans mb)
    have HD := Lib.hid (HD.out.kept0 mb)
    clear hWb mb
    refine ⟨again_nil, ?_⟩
    go_wp2_with (first | ((with_reducible refine xEqAgg (t := 75) rfl (HQ1.out _) guard_fail ?_ ?_ ?_ ?_); exact rfl; exact rfl; exact rfl) | ((with_reducible refine xEqAgg (t := 75) rfl (HQ2.out _) guard_fail ?_ ?_ ?_ ?_); exact rfl; exact rfl; exact rfl))
    refine ⟨by first | trivial | rfl, ?_⟩
    go_wp2_with fail
    have HSM := Lib.hid (rSame_any _ _ out [(1, 10)] _ HD.out hLit (by rw [HO.out]; simp) (by simp))
    rw [decide_eq_true HO.out] at HSM
    refine HSM.out.mono ?_
    rintro e We ⟨rfl, me⟩
    have HM2 := Lib.hid (HM1.out.trans me)
    clear me HSM
    go_wp2_with fail
    refine ⟨again_nil, ?_⟩
    go_wp2_with (first | ((with_reducible refine xEqAgg (t := 75) rfl (HQ1.out _) guard_fail ?_ ?_ ?_ ?_); exact rfl; exact rfl; exact rfl) | ((with_reducible refine xEqAgg (t := 75) rfl (HQ2.out _) guard_fail ?_ ?_ ?_ ?_); exact rfl; exact rfl; exact rfl))
    refine ⟨by first | trivial | rfl, ?_⟩
    go_wp2_with fail
    exact ⟨by first | trivial | rfl, HM2.out, _, _, _, _, _, _, _, _, _, _, _, _, _, _, _, _, _, _, _, _, _, _, _, _, _, _, _, _, _, _, _, _, _, _, _, _, _, _, rfl⟩
  case o2 =>
    simp only [wpSegs, opsOf, List.map_cons, List.map_nil, opN, List.getD_cons_zero, List.getD_cons_succ]
    go_wp2_with (first | ((with_reducible refine xEqAgg (t := 75) rfl (HQ1.out _) guard_fail ?_ ?_ ?_ ?_); exact rfl; exact rfl; exact rfl) | ((with_reducible refine xEqAgg (t := 75) rfl (HQ2.out _) guard_fail ?_ ?_ ?_ ?_); exact rfl; exact rfl; exact rfl))
    refine ⟨by first | trivial | rfl, ?_⟩
    go_wp2_with fail
    refine ⟨?ag21, ?_⟩
    case ag21 =>
      intro i hi hw
      simp only [List.mem_cons, List.not_mem_nil, or_false] at hi
      subst hi
      all_goals (simp only [opN, List.getD_cons_zero, List.getD_cons_succ, slotOf]; go_simp)
    go_wp2_with (first | ((with_reducible refine xEqAgg (t := 75) rfl (HQ1.out _) guard_fail ?_ ?_ ?_ ?_); exact rfl; exact rfl; exact rfl) | ((with_reducible refine xEqAgg (t := 75) rfl (HQ2.out _) guard_fail ?_ ?_ ?_ ?_); exact rfl; exact rfl; exact rfl))
    refine ⟨by first | trivial | rfl, ?_⟩
    go_wp2_with fail
    refine ⟨?ag22, ?_⟩
    case ag22 =>
      intro i hi hw
      simp only [List.mem_cons, List.not_mem_nil, or_false] at hi
      subst hi
      all_goals (simp only [opN, List.getD_cons_zero, List.getD_cons_succ, slotOf]; go_simp)
    go_wp2_with (first | ((with_reducible refine xEqAgg (t := 75) rfl (HQ1.out _) guard_fail ?_ ?_ ?_ ?_); exact rfl; exact rfl; exact rfl) | ((with_reducible refine xEqAgg (t := 75) rfl (HQ2.out _) guard_fail ?_ ?_ ?_ ?_); exact rfl; exact rfl; exact rfl))
    refine ⟨by first | trivial | rfl, ?_⟩
    go_wp2_with fail
    have HM0 := Lib.hid ((Mod.refl [] W).drew)
    obtain ⟨Wb, hWb, mb, hLit⟩ : ∃ Wb, (W.alloc (.cells #[.int .i64 1, .int .i64 10] 64)).drew = Wb ∧ Mod [] W Wb ∧ SpansAt Wb (.slice (some ⟨W.heap.size, 0, none⟩) 1 1) [(1, 10)] := ⟨_, rfl, ((Mod.refl [] W).alloc _).drew, (spans_lit W [(1, 10)] _ 1 rfl rfl).kept0 ((Mod.refl [] _).drew)⟩
    rw [hWb]
    have HM0 := Lib.hid mb
    clear hWb mb
    refine ⟨again_nil, ?_⟩
    go_wp2_with (first | ((with_reducible refine xEqAgg (t := 75) rfl (HQ1.out _) guard_fail ?_ ?_ ?_ ?_); exact rfl; exact rfl; exact rfl) | ((with_reducible refine xEqAgg (t := 75) rfl (HQ2.out _) guard_fail ?_ ?_ ?_ ?_); exact rfl; exact rfl; exact rfl))
    refine ⟨by first | trivial | rfl, ?_⟩
    go_wp2_with fail
    refine (lkDays_any S sv [(1, 10)] _ (HM0.out.heap HL.out (by simp)) (HA.out.kept0 HM0.out) (by simp)).mono ?_
    rintro e Wd ⟨vd, out, rfl, od, md, ho, lo⟩
    obtain ⟨da, dc, rfl⟩ := od.row.form
    have HM1 := Lib.hid (HM0.out.trans md)
    have HD := Lib.hid od.row
    have HO := Lib.hid (show out = [(1, 10)] from (ho.one (isOf_self ⟨by decide, by decide, by decide, trivial⟩) (fun _ _ _ => Iff.rfl)))
    have hLit := hLit.kept0 md
    clear od md ho lo
    have hTx := HM1.out.heap HT.out (by simp)
    have c0 := cell_blk hTx 0
    have c1 := cell_blk hTx 1
    simp only [List.getElem?_toArray, List.getElem?_cons_succ, List.getElem?_cons_zero] at c0 c1
    clear hTx
    go_wp2_with fail
    refine ⟨?ag23, ?_⟩
    case ag23 =>
      intro i hi hw
      simp only [List.mem_cons, List.not_mem_nil, or_false] at hi
      subst hi
      all_goals (simp only [opN, List.getD_cons_zero, List.getD_cons_succ, slotOf]; go_simp)
    go_wp2_with (first | ((with_reducible refine xEqAgg (t := 75) rfl (HQ1.out _) guard_fail ?_ ?_ ?_ ?_); exact rfl; exact rfl; exact rfl) | ((with_reducible refine xEqAgg (t := 75) rfl (HQ2.out _) guard_fail ?_ ?_ ?_ ?_); exact rfl; exact rfl; exact rfl))
    refine ⟨by first | trivial | rfl, ?_⟩
    go_wp2_with fail
    have HSM := Lib.hid (rSame_any _ _ out [(1, 10)] _ HD.out hLit (by rw [HO.out]; simp) (by simp))
    rw [decide_eq_true HO.out] at HSM
    refine HSM.out.mono ?_
    rintro e We ⟨rfl, me⟩
    have HM2 := Lib.hid (HM1.out.trans me)
    clear me HSM
    go_wp2_with fail
    refine ⟨again_nil, ?_⟩
    go_wp2_with (first | ((with_reducible refine xEqAgg (t := 75) rfl (HQ1.out _) guard_fail ?_ ?_ ?_ ?_); exact rfl; exact rfl; exact rfl) | ((with_reducible refine xEqAgg (t := 75) rfl (HQ2.out _) guard_fail ?_ ?_ ?_ ?_); exact rfl; exact rfl; exact rfl))
    refine ⟨by first | trivial | rfl, ?_⟩
    go_wp2_with fail
    exact ⟨by first | trivial | rfl, HM2.out, _, _, _, _, _, _, _, _, _, _, _, _, _, _, _, _, _, _, _, _, _, _, _, _, _, _, _, _, _, _, _, _, _, _, _, _, _, _, rfl⟩
end Go.Proofs.Ytefaihockgebeaa
