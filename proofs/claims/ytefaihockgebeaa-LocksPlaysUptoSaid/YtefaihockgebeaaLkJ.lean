/- Locks: known's region 4, in each order. Printed by gen/lki.py. -/
import Derived.Test.YtefaihockgebeaaLkI
import Derived.Test.YtefaihockgebeaaRegJ
namespace Go.Proofs.Ytefaihockgebeaa
open Go.RowKit Go.ChangeMaps Go.Deep
set_option linter.unusedSimpArgs false
set_option linter.unusedVariables false
set_option maxRecDepth 20000
set_option maxHeartbeats 8000000 in
theorem known_r4 (S : Nat) (sv : Value) (A : List Sp) (v0 v3 v4 v5 v6 v7 v8 v9 v10 v11 v12 v13 v14 v15 v16 v17 v18 v19 v20 v21 v22 v23 v24 v25 v26 v27 v28 v29 v30 v31 v32 v33 v34 v35 v36 v37 v38 v39 v40 v41 v42 v43 v44 v45 v46 v47 v48 v49 v50 v51 v52 v53 v54 v55 v56 v57 v58 v59 v60 v61 v62 v63 v64 v65 v66 v67 v68 v69 v70 v71 v72 v73 v74 v75 v76 v77 v78 v79 v80 v81 v82 v83 v84 v85 : Value) (W : World) (hL : W.heap[S]? = some (.cells #[sv] 119 (0, 0))) (hT : W.heap[S + 1]? = some (.cells #[.int .i64 1, .int .i64 10] 64 (0, 0))) (hA : SpansAt W sv A) (hAL : A.length ≤ 100000) (hAO : ∀ b, sv.ownBlock = some b → b < W.heap.size) :
    (Code.region 4 (regOps Try.f48 4) true).wp Try.prog (fun e a' w' => e = .normal ∧ ∃ (P : Nat) (u25 u26 u27 u28 u29 u30 u31 u32 u33 u34 u35 u36 : Value), w'.heap[P]? = some (.cells #[.int .i64 5, .int .i64 2] 75 (0, 0)) ∧ w'.heap[S + 1]? = some (.cells #[.int .i64 1, .int .i64 10] 64 (0, 0)) ∧ w'.heap[S]? = some (.cells #[sv] 119 (0, 0)) ∧ SpansAt w' sv A ∧ (∀ b, sv.ownBlock = some b → b < w'.heap.size) ∧ Mod [] W w' ∧ a' = { tmps := #[v0, .pointer (some ⟨S, 0, none⟩), .pointer (some ⟨S + 1, 0, none⟩), v3, v4, v5, .pointer (some ⟨P, 0, none⟩), .bool false, .int .i64 0, v9, v10, v11, v12, v13, v14, v15, v16, v17, v18, v19, v20, v21, v22, v23, v24, u25, u26, u27, u28, u29, u30, u31, u32, u33, u34, u35, u36, v37, v38, v39, v40, v41, v42, v43, v44, v45, v46, v47, v48, v49, v50, v51, v52, v53, v54, v55, v56, v57, v58, v59, v60, v61, v62, v63, v64, v65, v66, v67, v68, v69, v70, v71, v72, v73, v74, v75, v76, v77, v78, v79, v80, v81, v82, v83, v84, v85], defers := [] }) { tmps := #[v0, .pointer (some ⟨S, 0, none⟩), .pointer (some ⟨S + 1, 0, none⟩), v3, v4, v5, v6, v7, v8, v9, v10, v11, v12, v13, v14, v15, v16, v17, v18, v19, v20, v21, v22, v23, v24, v25, v26, v27, v28, v29, v30, v31, v32, v33, v34, v35, v36, v37, v38, v39, v40, v41, v42, v43, v44, v45, v46, v47, v48, v49, v50, v51, v52, v53, v54, v55, v56, v57, v58, v59, v60, v61, v62, v63, v64, v65, v66, v67, v68, v69, v70, v71, v72, v73, v74, v75, v76, v77, v78, v79, v80, v81, v82, v83, v84, v85], defers := [] } W := by
  simp only [regOps, Try.f48, findR, Option.bind_some, Nat.reduceBEq, Bool.false_eq_true, Option.getD_some, ↓reduceIte, reduceCtorEq]
  obtain ⟨a0, c0, rfl⟩ := hA.form
  generalize hsv : Value.slice a0 A.length c0 = sv at hL hA hAO ⊢
  have HL := Lib.hid hL
  have HT := Lib.hid hT
  have HA := Lib.hid hA
  have HAL := Lib.hid hAL
  have HAO := Lib.hid hAO
  clear hA hAL hAO
  have t0 := cell_blk HT.out 0
  have t1 := cell_blk HT.out 1
  simp only [List.getElem?_toArray, List.getElem?_cons_succ, List.getElem?_cons_zero] at t0 t1
  clear hL hT
  refine wp_sched (by kernel_rfl) (sched_either 2 12 (by decide) (sched_either 3 12 (by decide) (sched_either 4 12 (by decide) (sched_either 5 12 (by decide) (sched_either 6 12 (by decide) (sched_either 7 12 (by decide) (sched_plan6 [([0, 1], 2, [1]), ([], 3, [1]), ([], 4, [1]), ([], 5, [1]), ([], 6, [1]), ([], 7, []), ([8, 9, 10, 11], 12, []), ([], 13, [])] [14, 15] (by kernel_rfl) ?o1) (sched_plan6 [([0, 1], 2, [1]), ([], 3, [1]), ([], 4, [1]), ([], 5, [1]), ([], 6, [1]), ([], 12, [1]), ([], 7, []), ([8, 9, 10, 11], 13, [])] [14, 15] (by kernel_rfl) ?o2)) (sched_plan5 [([0, 1], 2, [1]), ([], 3, [1]), ([], 4, [1]), ([], 5, [1]), ([], 12, [1]), ([], 6, [1]), ([], 7, []), ([8, 9, 10, 11], 13, [])] [14, 15] (by kernel_rfl) ?o3)) (sched_plan4 [([0, 1], 2, [1]), ([], 3, [1]), ([], 4, [1]), ([], 12, [1]), ([], 5, [1]), ([], 6, [1]), ([], 7, []), ([8, 9, 10, 11], 13, [])] [14, 15] (by kernel_rfl) ?o4)) (sched_plan3 [([0, 1], 2, [1]), ([], 3, [1]), ([], 12, [1]), ([], 4, [1]), ([], 5, [1]), ([], 6, [1]), ([], 7, []), ([8, 9, 10, 11], 13, [])] [14, 15] (by kernel_rfl) ?o5)) (sched_plan2 [([0, 1], 2, [1]), ([], 12, [1]), ([], 3, [1]), ([], 4, [1]), ([], 5, [1]), ([], 6, [1]), ([], 7, []), ([8, 9, 10, 11], 13, [])] [14, 15] (by kernel_rfl) ?o6)) (sched_plan1 [([0, 1], 12, [1]), ([], 2, [1]), ([], 3, [1]), ([], 4, [1]), ([], 5, [1]), ([], 6, [1]), ([], 7, []), ([8, 9, 10, 11], 13, [])] [14, 15] (by kernel_rfl) ?o7))
  case o1 =>
    simp only [wpSegs, opsOf, List.map_cons, List.map_nil, opN, List.getD_cons_zero, List.getD_cons_succ]
    obtain ⟨Wd, hWd, md⟩ : ∃ Wd, W.drew = Wd ∧ Mod [] W Wd := ⟨_, rfl, (Mod.refl [] W).drew⟩
    rw [hWd]
    have hT := md.heap HT.out (by simp)
    have hL := md.heap HL.out (by simp)
    have HMX := Lib.hid md
    have hA := HA.out.kept0 md
    have hAS : Hid (∀ b, sv.ownBlock = some b → b < Wd.heap.size) := Lib.hid (fun b h => Nat.lt_of_lt_of_le (HAO.out b h) md.size)
    clear hWd md
    have t0 := cell_blk hT 0
    have t1 := cell_blk hT 1
    simp only [List.getElem?_toArray, List.getElem?_cons_succ, List.getElem?_cons_zero] at t0 t1
    go_wp2_with fail
    refine ⟨by first | trivial | rfl, ?_⟩
    go_wp2_with fail
    refine (seg28_any 1 5 2 _).mono ?_
    rintro e X1 ⟨rfl, m⟩
    have hT := m.heap hT (by simp)
    have hL := m.heap hL (by simp)
    have hA := hA.kept0 m
    have HMX := Lib.hid (HMX.out.trans m)
    have hAS := Lib.hid (fun b h => Nat.lt_of_lt_of_le (hAS.out b h) m.size)
    clear m
    have t0 := cell_blk hT 0
    have t1 := cell_blk hT 1
    simp only [List.getElem?_toArray, List.getElem?_cons_succ, List.getElem?_cons_zero] at t0 t1
    go_wp2_with fail
    refine ⟨?aga11, ?_⟩
    case aga11 =>
      intro i hi hw
      simp only [List.mem_cons, List.not_mem_nil, or_false] at hi
      subst hi
      all_goals (simp only [opN, List.getD_cons_zero, List.getD_cons_succ, slotOf]; go_simp)
    go_wp2_with fail
    refine ⟨by first | trivial | rfl, ?_⟩
    go_wp2_with fail
    refine (seg28_any 5 10 3 _).mono ?_
    rintro e X2 ⟨rfl, m⟩
    have hT := m.heap hT (by simp)
    have hL := m.heap hL (by simp)
    have hA := hA.kept0 m
    have HMX := Lib.hid (HMX.out.trans m)
    have hAS := Lib.hid (fun b h => Nat.lt_of_lt_of_le (hAS.out b h) m.size)
    clear m
    have t0 := cell_blk hT 0
    have t1 := cell_blk hT 1
    simp only [List.getElem?_toArray, List.getElem?_cons_succ, List.getElem?_cons_zero] at t0 t1
    go_wp2_with fail
    refine ⟨?aga12, ?_⟩
    case aga12 =>
      intro i hi hw
      simp only [List.mem_cons, List.not_mem_nil, or_false] at hi
      subst hi
      all_goals (simp only [opN, List.getD_cons_zero, List.getD_cons_succ, slotOf]; go_simp)
    go_wp2_with fail
    refine ⟨by first | trivial | rfl, ?_⟩
    go_wp2_with fail
    obtain ⟨X3, hX, n, s, m⟩ := alloc_named X2 (.cells #[.int .i64 1, .int .i64 5, .int .u8 2, .int .i64 0, .int .i64 0, .int .i64 0, .int .i64 5, .int .i64 10, .int .u8 3, .int .i64 0, .int .i64 0, .int .i64 0] 116)
    have hSeg := segs_lit X2 [⟨1, 5, 2, 0, 0, 0⟩, ⟨5, 10, 3, 0, 0, 0⟩] _ 2 rfl rfl
    rw [show ((flat encG [⟨1, 5, 2, 0, 0, 0⟩, ⟨5, 10, 3, 0, 0, 0⟩]).toArray : Array Value) = #[.int .i64 1, .int .i64 5, .int .u8 2, .int .i64 0, .int .i64 0, .int .i64 0, .int .i64 5, .int .i64 10, .int .u8 3, .int .i64 0, .int .i64 0, .int .i64 0] from rfl, hX] at hSeg
    rw [hX]
    have hT := m.heap hT (by simp)
    have hL := m.heap hL (by simp)
    have hA := hA.kept0 m
    have HMX := Lib.hid (HMX.out.trans m)
    have hAS := Lib.hid (fun b h => Nat.lt_of_lt_of_le (hAS.out b h) m.size)
    clear m hX n s
    have t0 := cell_blk hT 0
    have t1 := cell_blk hT 1
    simp only [List.getElem?_toArray, List.getElem?_cons_succ, List.getElem?_cons_zero] at t0 t1
    refine ⟨?aga13, ?_⟩
    case aga13 =>
      intro i hi hw
      simp only [List.mem_cons, List.not_mem_nil, or_false] at hi
      subst hi
      all_goals (simp only [opN, List.getD_cons_zero, List.getD_cons_succ, slotOf]; go_simp)
    go_wp2_with fail
    refine ⟨by first | trivial | rfl, ?_⟩
    go_wp2_with fail
    refine ⟨?aga14, ?_⟩
    case aga14 =>
      intro i hi hw
      simp only [List.mem_cons, List.not_mem_nil, or_false] at hi
      subst hi
      all_goals (simp only [opN, List.getD_cons_zero, List.getD_cons_succ, slotOf]; go_simp)
    go_wp2_with fail
    refine ⟨by first | trivial | rfl, ?_⟩
    go_wp2_with fail
    have hRuns := runs_one X3 2 _ _ hSeg
    obtain ⟨X4, hX, n, s, m⟩ := alloc_named X3 (.cells #[.int .i64 2, _] 80)
    rw [hX] at hRuns ⊢
    have hT := m.heap hT (by simp)
    have hL := m.heap hL (by simp)
    have hA := hA.kept0 m
    have HMX := Lib.hid (HMX.out.trans m)
    have hAS := Lib.hid (fun b h => Nat.lt_of_lt_of_le (hAS.out b h) m.size)
    have hSeg := hSeg.kept0 m
    clear m hX n s
    have t0 := cell_blk hT 0
    have t1 := cell_blk hT 1
    simp only [List.getElem?_toArray, List.getElem?_cons_succ, List.getElem?_cons_zero] at t0 t1
    refine ⟨?aga15, ?_⟩
    case aga15 =>
      intro i hi hw
      simp only [List.mem_cons, List.not_mem_nil, or_false] at hi
      subst hi
      all_goals (simp only [opN, List.getD_cons_zero, List.getD_cons_succ, slotOf]; go_simp)
    go_wp2_with fail
    refine ⟨by first | trivial | rfl, ?_⟩
    go_wp2_with fail
    refine (lkSubmit_go _ 1 10 _ _ _ _ _ X4 hL hA HAL.out hRuns (by simp) (by simp) (by decide) (by decide)).mono ?_
    rintro e X5 (⟨x, hx, rfl, m⟩ | ⟨hn, rfl, m, sv', out, hL', ho, hb, hl⟩)
    rotate_left 1
    · simp [leastL, failsL, firstG, takeO] at hn
    obtain rfl : x = (5, 2) := by simpa [leastL, failsL, firstG, takeO] using hx.symm
    simp only [encF]
    have hT := m.heap hT (by simp)
    have hL := m.heap hL (by simp)
    have hA := hA.kept0 m
    have HMX := Lib.hid (HMX.out.trans m)
    have hAS := Lib.hid (fun b h => Nat.lt_of_lt_of_le (hAS.out b h) m.size)
    have hSeg := hSeg.kept0 m
    have hRuns := hRuns.kept0 m
    clear m hx
    have t0 := cell_blk hT 0
    have t1 := cell_blk hT 1
    simp only [List.getElem?_toArray, List.getElem?_cons_succ, List.getElem?_cons_zero] at t0 t1
    go_wp2_with fail
    refine ⟨again_nil, ?_⟩
    go_wp2_with fail
    refine ⟨by first | trivial | rfl, ?_⟩
    go_wp2_with fail
    obtain ⟨X6, hX, hP, s, m⟩ := alloc_named X5 (.cells #[.int .i64 0, .int .i64 0] 75)
    rw [hX]
    have hPge : W.heap.size ≤ X5.heap.size := HMX.out.size
    have hPne : X5.heap.size ≠ S := by have := lt_of_heap hL; omega
    have hPnt : X5.heap.size ≠ S + 1 := by have := lt_of_heap hT; omega
    have hAP : ∀ b, sv.ownBlock = some b → b ≠ X5.heap.size := fun b hb2 e => by have h1 := hAS.out b hb2; omega
    generalize hPb : X5.heap.size = Pb at hP hPge hPne hPnt hAP ⊢
    have hT := m.heap hT (by simp)
    have hL := m.heap hL (by simp)
    have hA := hA.kept0 m
    have HMX := Lib.hid (HMX.out.trans m)
    have hAS := Lib.hid (fun b h => Nat.lt_of_lt_of_le (hAS.out b h) m.size)
    clear m hX s hPb
    have t0 := cell_blk hT 0
    have t1 := cell_blk hT 1
    simp only [List.getElem?_toArray, List.getElem?_cons_succ, List.getElem?_cons_zero] at t0 t1
    refine ⟨again_nil, ?_⟩
    go_wp2_with fail
    refine ⟨by first | trivial | rfl, ?_⟩
    have r0 := cell_blk hP 0
    have r1 := cell_blk hP 1
    have r2 := frozen_blk hP 0
    have r3 := frozen_blk hP 1
    simp only [List.getElem?_toArray, List.getElem?_cons_succ, List.getElem?_cons_zero] at r0 r1
    have hms := ((Mod.refl [Pb] X6).setCell (p := ⟨Pb, 0, none⟩) (by simp) (.int .i64 5)).setCell (p := ⟨Pb, 1, none⟩) (by simp) (.int .i64 2)
    have hPP := heap_setCell_blk (heap_setCell_blk hP 0 (.int .i64 5)) 1 (.int .i64 2)
    have hTT := hms.heap hT (by simpa using fun e => hPnt e.symm)
    have hLL := hms.heap hL (by simpa using fun e => hPne e.symm)
    have hAA := hA.kept hms (fun b hb2 e2 => by simp at hb2; subst hb2; exact hAP _ e2 rfl)
    have hSS : ∀ b, sv.ownBlock = some b → b < ((X6.setCell ⟨Pb, 0, none⟩ (.int .i64 5)).setCell ⟨Pb, 1, none⟩ (.int .i64 2)).heap.size := fun b h => by have := hAS.out b h; simpa using this
    have HMM := Lib.hid ((HMX.out.setCellNew (p := ⟨Pb, 0, none⟩) hPge (.int .i64 5)).setCellNew (p := ⟨Pb, 1, none⟩) hPge (.int .i64 2))
    have HO := Lib.hid (And.intro hPP (And.intro hTT (And.intro hLL (And.intro hAA hSS))))
    clear hms hPP hTT hLL hAA hSS
    go_wp2_with fail
    refine ⟨again_nil, ?_⟩
    go_wp2_with fail
    refine ⟨by first | trivial | rfl, ?_⟩
    go_wp2_with fail
    exact ⟨by first | trivial | rfl, Pb, _, _, _, _, _, _, _, _, _, _, _, _, by simpa using HO.out.1, HO.out.2.1, HO.out.2.2.1, HO.out.2.2.2.1, HO.out.2.2.2.2, HMM.out, rfl⟩
  case o2 =>
    simp only [wpSegs, opsOf, List.map_cons, List.map_nil, opN, List.getD_cons_zero, List.getD_cons_succ]
    obtain ⟨Wd, hWd, md⟩ : ∃ Wd, W.drew = Wd ∧ Mod [] W Wd := ⟨_, rfl, (Mod.refl [] W).drew⟩
    rw [hWd]
    have hT := md.heap HT.out (by simp)
    have hL := md.heap HL.out (by simp)
    have HMX := Lib.hid md
    have hA := HA.out.kept0 md
    have hAS : Hid (∀ b, sv.ownBlock = some b → b < Wd.heap.size) := Lib.hid (fun b h => Nat.lt_of_lt_of_le (HAO.out b h) md.size)
    clear hWd md
    have t0 := cell_blk hT 0
    have t1 := cell_blk hT 1
    simp only [List.getElem?_toArray, List.getElem?_cons_succ, List.getElem?_cons_zero] at t0 t1
    go_wp2_with fail
    refine ⟨by first | trivial | rfl, ?_⟩
    go_wp2_with fail
    refine (seg28_any 1 5 2 _).mono ?_
    rintro e X1 ⟨rfl, m⟩
    have hT := m.heap hT (by simp)
    have hL := m.heap hL (by simp)
    have hA := hA.kept0 m
    have HMX := Lib.hid (HMX.out.trans m)
    have hAS := Lib.hid (fun b h => Nat.lt_of_lt_of_le (hAS.out b h) m.size)
    clear m
    have t0 := cell_blk hT 0
    have t1 := cell_blk hT 1
    simp only [List.getElem?_toArray, List.getElem?_cons_succ, List.getElem?_cons_zero] at t0 t1
    go_wp2_with fail
    refine ⟨?aga21, ?_⟩
    case aga21 =>
      intro i hi hw
      simp only [List.mem_cons, List.not_mem_nil, or_false] at hi
      subst hi
      all_goals (simp only [opN, List.getD_cons_zero, List.getD_cons_succ, slotOf]; go_simp)
    go_wp2_with fail
    refine ⟨by first | trivial | rfl, ?_⟩
    go_wp2_with fail
    refine (seg28_any 5 10 3 _).mono ?_
    rintro e X2 ⟨rfl, m⟩
    have hT := m.heap hT (by simp)
    have hL := m.heap hL (by simp)
    have hA := hA.kept0 m
    have HMX := Lib.hid (HMX.out.trans m)
    have hAS := Lib.hid (fun b h => Nat.lt_of_lt_of_le (hAS.out b h) m.size)
    clear m
    have t0 := cell_blk hT 0
    have t1 := cell_blk hT 1
    simp only [List.getElem?_toArray, List.getElem?_cons_succ, List.getElem?_cons_zero] at t0 t1
    go_wp2_with fail
    refine ⟨?aga22, ?_⟩
    case aga22 =>
      intro i hi hw
      simp only [List.mem_cons, List.not_mem_nil, or_false] at hi
      subst hi
      all_goals (simp only [opN, List.getD_cons_zero, List.getD_cons_succ, slotOf]; go_simp)
    go_wp2_with fail
    refine ⟨by first | trivial | rfl, ?_⟩
    go_wp2_with fail
    obtain ⟨X3, hX, n, s, m⟩ := alloc_named X2 (.cells #[.int .i64 1, .int .i64 5, .int .u8 2, .int .i64 0, .int .i64 0, .int .i64 0, .int .i64 5, .int .i64 10, .int .u8 3, .int .i64 0, .int .i64 0, .int .i64 0] 116)
    have hSeg := segs_lit X2 [⟨1, 5, 2, 0, 0, 0⟩, ⟨5, 10, 3, 0, 0, 0⟩] _ 2 rfl rfl
    rw [show ((flat encG [⟨1, 5, 2, 0, 0, 0⟩, ⟨5, 10, 3, 0, 0, 0⟩]).toArray : Array Value) = #[.int .i64 1, .int .i64 5, .int .u8 2, .int .i64 0, .int .i64 0, .int .i64 0, .int .i64 5, .int .i64 10, .int .u8 3, .int .i64 0, .int .i64 0, .int .i64 0] from rfl, hX] at hSeg
    rw [hX]
    have hT := m.heap hT (by simp)
    have hL := m.heap hL (by simp)
    have hA := hA.kept0 m
    have HMX := Lib.hid (HMX.out.trans m)
    have hAS := Lib.hid (fun b h => Nat.lt_of_lt_of_le (hAS.out b h) m.size)
    clear m hX n s
    have t0 := cell_blk hT 0
    have t1 := cell_blk hT 1
    simp only [List.getElem?_toArray, List.getElem?_cons_succ, List.getElem?_cons_zero] at t0 t1
    refine ⟨?aga23, ?_⟩
    case aga23 =>
      intro i hi hw
      simp only [List.mem_cons, List.not_mem_nil, or_false] at hi
      subst hi
      all_goals (simp only [opN, List.getD_cons_zero, List.getD_cons_succ, slotOf]; go_simp)
    go_wp2_with fail
    refine ⟨by first | trivial | rfl, ?_⟩
    go_wp2_with fail
    refine ⟨?aga24, ?_⟩
    case aga24 =>
      intro i hi hw
      simp only [List.mem_cons, List.not_mem_nil, or_false] at hi
      subst hi
      all_goals (simp only [opN, List.getD_cons_zero, List.getD_cons_succ, slotOf]; go_simp)
    go_wp2_with fail
    refine ⟨by first | trivial | rfl, ?_⟩
    go_wp2_with fail
    have hRuns := runs_one X3 2 _ _ hSeg
    obtain ⟨X4, hX, n, s, m⟩ := alloc_named X3 (.cells #[.int .i64 2, _] 80)
    rw [hX] at hRuns ⊢
    have hT := m.heap hT (by simp)
    have hL := m.heap hL (by simp)
    have hA := hA.kept0 m
    have HMX := Lib.hid (HMX.out.trans m)
    have hAS := Lib.hid (fun b h => Nat.lt_of_lt_of_le (hAS.out b h) m.size)
    have hSeg := hSeg.kept0 m
    clear m hX n s
    have t0 := cell_blk hT 0
    have t1 := cell_blk hT 1
    simp only [List.getElem?_toArray, List.getElem?_cons_succ, List.getElem?_cons_zero] at t0 t1
    refine ⟨?aga25, ?_⟩
    case aga25 =>
      intro i hi hw
      simp only [List.mem_cons, List.not_mem_nil, or_false] at hi
      subst hi
      all_goals (simp only [opN, List.getD_cons_zero, List.getD_cons_succ, slotOf]; go_simp)
    go_wp2_with fail
    refine ⟨by first | trivial | rfl, ?_⟩
    go_wp2_with fail
    obtain ⟨X5, hX, hP, s, m⟩ := alloc_named X4 (.cells #[.int .i64 0, .int .i64 0] 75)
    rw [hX]
    have hPge : W.heap.size ≤ X4.heap.size := HMX.out.size
    have hPne : X4.heap.size ≠ S := by have := lt_of_heap hL; omega
    have hPnt : X4.heap.size ≠ S + 1 := by have := lt_of_heap hT; omega
    have hAP : ∀ b, sv.ownBlock = some b → b ≠ X4.heap.size := fun b hb2 e => by have h1 := hAS.out b hb2; omega
    generalize hPb : X4.heap.size = Pb at hP hPge hPne hPnt hAP ⊢
    have hT := m.heap hT (by simp)
    have hL := m.heap hL (by simp)
    have hA := hA.kept0 m
    have HMX := Lib.hid (HMX.out.trans m)
    have hAS := Lib.hid (fun b h => Nat.lt_of_lt_of_le (hAS.out b h) m.size)
    have hSeg := hSeg.kept0 m
    have hRuns := hRuns.kept0 m
    clear m hX s hPb
    have t0 := cell_blk hT 0
    have t1 := cell_blk hT 1
    simp only [List.getElem?_toArray, List.getElem?_cons_succ, List.getElem?_cons_zero] at t0 t1
    refine ⟨?aga26, ?_⟩
    case aga26 =>
      intro i hi hw
      simp only [List.mem_cons, List.not_mem_nil, or_false] at hi
      subst hi
      all_goals (simp only [opN, List.getD_cons_zero, List.getD_cons_succ, slotOf]; go_simp)
    go_wp2_with fail
    refine ⟨by first | trivial | rfl, ?_⟩
    go_wp2_with fail
    refine (lkSubmit_go _ 1 10 _ _ _ _ _ X5 hL hA HAL.out hRuns (by simp) (by simp) (by decide) (by decide)).mono ?_
    rintro e X6 (⟨x, hx, rfl, m⟩ | ⟨hn, rfl, m, sv', out, hL', ho, hb, hl⟩)
    rotate_left 1
    · simp [leastL, failsL, firstG, takeO] at hn
    obtain rfl : x = (5, 2) := by simpa [leastL, failsL, firstG, takeO] using hx.symm
    simp only [encF]
    have hT := m.heap hT (by simp)
    have hL := m.heap hL (by simp)
    have hA := hA.kept0 m
    have HMX := Lib.hid (HMX.out.trans m)
    have hAS := Lib.hid (fun b h => Nat.lt_of_lt_of_le (hAS.out b h) m.size)
    have hSeg := hSeg.kept0 m
    have hRuns := hRuns.kept0 m
    have hP := m.heap hP (by simp)
    clear m hx
    have t0 := cell_blk hT 0
    have t1 := cell_blk hT 1
    simp only [List.getElem?_toArray, List.getElem?_cons_succ, List.getElem?_cons_zero] at t0 t1
    go_wp2_with fail
    refine ⟨again_nil, ?_⟩
    go_wp2_with fail
    refine ⟨by first | trivial | rfl, ?_⟩
    have r0 := cell_blk hP 0
    have r1 := cell_blk hP 1
    have r2 := frozen_blk hP 0
    have r3 := frozen_blk hP 1
    simp only [List.getElem?_toArray, List.getElem?_cons_succ, List.getElem?_cons_zero] at r0 r1
    have hms := ((Mod.refl [Pb] X6).setCell (p := ⟨Pb, 0, none⟩) (by simp) (.int .i64 5)).setCell (p := ⟨Pb, 1, none⟩) (by simp) (.int .i64 2)
    have hPP := heap_setCell_blk (heap_setCell_blk hP 0 (.int .i64 5)) 1 (.int .i64 2)
    have hTT := hms.heap hT (by simpa using fun e => hPnt e.symm)
    have hLL := hms.heap hL (by simpa using fun e => hPne e.symm)
    have hAA := hA.kept hms (fun b hb2 e2 => by simp at hb2; subst hb2; exact hAP _ e2 rfl)
    have hSS : ∀ b, sv.ownBlock = some b → b < ((X6.setCell ⟨Pb, 0, none⟩ (.int .i64 5)).setCell ⟨Pb, 1, none⟩ (.int .i64 2)).heap.size := fun b h => by have := hAS.out b h; simpa using this
    have HMM := Lib.hid ((HMX.out.setCellNew (p := ⟨Pb, 0, none⟩) hPge (.int .i64 5)).setCellNew (p := ⟨Pb, 1, none⟩) hPge (.int .i64 2))
    have HO := Lib.hid (And.intro hPP (And.intro hTT (And.intro hLL (And.intro hAA hSS))))
    clear hms hPP hTT hLL hAA hSS
    go_wp2_with fail
    refine ⟨again_nil, ?_⟩
    go_wp2_with fail
    refine ⟨by first | trivial | rfl, ?_⟩
    go_wp2_with fail
    exact ⟨by first | trivial | rfl, Pb, _, _, _, _, _, _, _, _, _, _, _, _, by simpa using HO.out.1, HO.out.2.1, HO.out.2.2.1, HO.out.2.2.2.1, HO.out.2.2.2.2, HMM.out, rfl⟩
  case o3 =>
    simp only [wpSegs, opsOf, List.map_cons, List.map_nil, opN, List.getD_cons_zero, List.getD_cons_succ]
    obtain ⟨Wd, hWd, md⟩ : ∃ Wd, W.drew = Wd ∧ Mod [] W Wd := ⟨_, rfl, (Mod.refl [] W).drew⟩
    rw [hWd]
    have hT := md.heap HT.out (by simp)
    have hL := md.heap HL.out (by simp)
    have HMX := Lib.hid md
    have hA := HA.out.kept0 md
    have hAS : Hid (∀ b, sv.ownBlock = some b → b < Wd.heap.size) := Lib.hid (fun b h => Nat.lt_of_lt_of_le (HAO.out b h) md.size)
    clear hWd md
    have t0 := cell_blk hT 0
    have t1 := cell_blk hT 1
    simp only [List.getElem?_toArray, List.getElem?_cons_succ, List.getElem?_cons_zero] at t0 t1
    go_wp2_with fail
    refine ⟨by first | trivial | rfl, ?_⟩
    go_wp2_with fail
    refine (seg28_any 1 5 2 _).mono ?_
    rintro e X1 ⟨rfl, m⟩
    have hT := m.heap hT (by simp)
    have hL := m.heap hL (by simp)
    have hA := hA.kept0 m
    have HMX := Lib.hid (HMX.out.trans m)
    have hAS := Lib.hid (fun b h => Nat.lt_of_lt_of_le (hAS.out b h) m.size)
    clear m
    have t0 := cell_blk hT 0
    have t1 := cell_blk hT 1
    simp only [List.getElem?_toArray, List.getElem?_cons_succ, List.getElem?_cons_zero] at t0 t1
    go_wp2_with fail
    refine ⟨?aga31, ?_⟩
    case aga31 =>
      intro i hi hw
      simp only [List.mem_cons, List.not_mem_nil, or_false] at hi
      subst hi
      all_goals (simp only [opN, List.getD_cons_zero, List.getD_cons_succ, slotOf]; go_simp)
    go_wp2_with fail
    refine ⟨by first | trivial | rfl, ?_⟩
    go_wp2_with fail
    refine (seg28_any 5 10 3 _).mono ?_
    rintro e X2 ⟨rfl, m⟩
    have hT := m.heap hT (by simp)
    have hL := m.heap hL (by simp)
    have hA := hA.kept0 m
    have HMX := Lib.hid (HMX.out.trans m)
    have hAS := Lib.hid (fun b h => Nat.lt_of_lt_of_le (hAS.out b h) m.size)
    clear m
    have t0 := cell_blk hT 0
    have t1 := cell_blk hT 1
    simp only [List.getElem?_toArray, List.getElem?_cons_succ, List.getElem?_cons_zero] at t0 t1
    go_wp2_with fail
    refine ⟨?aga32, ?_⟩
    case aga32 =>
      intro i hi hw
      simp only [List.mem_cons, List.not_mem_nil, or_false] at hi
      subst hi
      all_goals (simp only [opN, List.getD_cons_zero, List.getD_cons_succ, slotOf]; go_simp)
    go_wp2_with fail
    refine ⟨by first | trivial | rfl, ?_⟩
    go_wp2_with fail
    obtain ⟨X3, hX, n, s, m⟩ := alloc_named X2 (.cells #[.int .i64 1, .int .i64 5, .int .u8 2, .int .i64 0, .int .i64 0, .int .i64 0, .int .i64 5, .int .i64 10, .int .u8 3, .int .i64 0, .int .i64 0, .int .i64 0] 116)
    have hSeg := segs_lit X2 [⟨1, 5, 2, 0, 0, 0⟩, ⟨5, 10, 3, 0, 0, 0⟩] _ 2 rfl rfl
    rw [show ((flat encG [⟨1, 5, 2, 0, 0, 0⟩, ⟨5, 10, 3, 0, 0, 0⟩]).toArray : Array Value) = #[.int .i64 1, .int .i64 5, .int .u8 2, .int .i64 0, .int .i64 0, .int .i64 0, .int .i64 5, .int .i64 10, .int .u8 3, .int .i64 0, .int .i64 0, .int .i64 0] from rfl, hX] at hSeg
    rw [hX]
    have hT := m.heap hT (by simp)
    have hL := m.heap hL (by simp)
    have hA := hA.kept0 m
    have HMX := Lib.hid (HMX.out.trans m)
    have hAS := Lib.hid (fun b h => Nat.lt_of_lt_of_le (hAS.out b h) m.size)
    clear m hX n s
    have t0 := cell_blk hT 0
    have t1 := cell_blk hT 1
    simp only [List.getElem?_toArray, List.getElem?_cons_succ, List.getElem?_cons_zero] at t0 t1
    refine ⟨?aga33, ?_⟩
    case aga33 =>
      intro i hi hw
      simp only [List.mem_cons, List.not_mem_nil, or_false] at hi
      subst hi
      all_goals (simp only [opN, List.getD_cons_zero, List.getD_cons_succ, slotOf]; go_simp)
    go_wp2_with fail
    refine ⟨by first | trivial | rfl, ?_⟩
    go_wp2_with fail
    refine ⟨?aga34, ?_⟩
    case aga34 =>
      intro i hi hw
      simp only [List.mem_cons, List.not_mem_nil, or_false] at hi
      subst hi
      all_goals (simp only [opN, List.getD_cons_zero, List.getD_cons_succ, slotOf]; go_simp)
    go_wp2_with fail
    refine ⟨by first | trivial | rfl, ?_⟩
    go_wp2_with fail
    obtain ⟨X4, hX, hP, s, m⟩ := alloc_named X3 (.cells #[.int .i64 0, .int .i64 0] 75)
    rw [hX]
    have hPge : W.heap.size ≤ X3.heap.size := HMX.out.size
    have hPne : X3.heap.size ≠ S := by have := lt_of_heap hL; omega
    have hPnt : X3.heap.size ≠ S + 1 := by have := lt_of_heap hT; omega
    have hAP : ∀ b, sv.ownBlock = some b → b ≠ X3.heap.size := fun b hb2 e => by have h1 := hAS.out b hb2; omega
    generalize hPb : X3.heap.size = Pb at hP hPge hPne hPnt hAP ⊢
    have hT := m.heap hT (by simp)
    have hL := m.heap hL (by simp)
    have hA := hA.kept0 m
    have HMX := Lib.hid (HMX.out.trans m)
    have hAS := Lib.hid (fun b h => Nat.lt_of_lt_of_le (hAS.out b h) m.size)
    have hSeg := hSeg.kept0 m
    clear m hX s hPb
    have t0 := cell_blk hT 0
    have t1 := cell_blk hT 1
    simp only [List.getElem?_toArray, List.getElem?_cons_succ, List.getElem?_cons_zero] at t0 t1
    refine ⟨?aga35, ?_⟩
    case aga35 =>
      intro i hi hw
      simp only [List.mem_cons, List.not_mem_nil, or_false] at hi
      subst hi
      all_goals (simp only [opN, List.getD_cons_zero, List.getD_cons_succ, slotOf]; go_simp)
    go_wp2_with fail
    refine ⟨by first | trivial | rfl, ?_⟩
    go_wp2_with fail
    have hRuns := runs_one X4 2 _ _ hSeg
    obtain ⟨X5, hX, n, s, m⟩ := alloc_named X4 (.cells #[.int .i64 2, _] 80)
    rw [hX] at hRuns ⊢
    have hT := m.heap hT (by simp)
    have hL := m.heap hL (by simp)
    have hA := hA.kept0 m
    have HMX := Lib.hid (HMX.out.trans m)
    have hAS := Lib.hid (fun b h => Nat.lt_of_lt_of_le (hAS.out b h) m.size)
    have hSeg := hSeg.kept0 m
    have hP := m.heap hP (by simp)
    clear m hX n s
    have t0 := cell_blk hT 0
    have t1 := cell_blk hT 1
    simp only [List.getElem?_toArray, List.getElem?_cons_succ, List.getElem?_cons_zero] at t0 t1
    refine ⟨?aga36, ?_⟩
    case aga36 =>
      intro i hi hw
      simp only [List.mem_cons, List.not_mem_nil, or_false] at hi
      subst hi
      all_goals (simp only [opN, List.getD_cons_zero, List.getD_cons_succ, slotOf]; go_simp)
    go_wp2_with fail
    refine ⟨by first | trivial | rfl, ?_⟩
    go_wp2_with fail
    refine (lkSubmit_go _ 1 10 _ _ _ _ _ X5 hL hA HAL.out hRuns (by simp) (by simp) (by decide) (by decide)).mono ?_
    rintro e X6 (⟨x, hx, rfl, m⟩ | ⟨hn, rfl, m, sv', out, hL', ho, hb, hl⟩)
    rotate_left 1
    · simp [leastL, failsL, firstG, takeO] at hn
    obtain rfl : x = (5, 2) := by simpa [leastL, failsL, firstG, takeO] using hx.symm
    simp only [encF]
    have hT := m.heap hT (by simp)
    have hL := m.heap hL (by simp)
    have hA := hA.kept0 m
    have HMX := Lib.hid (HMX.out.trans m)
    have hAS := Lib.hid (fun b h => Nat.lt_of_lt_of_le (hAS.out b h) m.size)
    have hSeg := hSeg.kept0 m
    have hP := m.heap hP (by simp)
    have hRuns := hRuns.kept0 m
    clear m hx
    have t0 := cell_blk hT 0
    have t1 := cell_blk hT 1
    simp only [List.getElem?_toArray, List.getElem?_cons_succ, List.getElem?_cons_zero] at t0 t1
    go_wp2_with fail
    refine ⟨again_nil, ?_⟩
    go_wp2_with fail
    refine ⟨by first | trivial | rfl, ?_⟩
    have r0 := cell_blk hP 0
    have r1 := cell_blk hP 1
    have r2 := frozen_blk hP 0
    have r3 := frozen_blk hP 1
    simp only [List.getElem?_toArray, List.getElem?_cons_succ, List.getElem?_cons_zero] at r0 r1
    have hms := ((Mod.refl [Pb] X6).setCell (p := ⟨Pb, 0, none⟩) (by simp) (.int .i64 5)).setCell (p := ⟨Pb, 1, none⟩) (by simp) (.int .i64 2)
    have hPP := heap_setCell_blk (heap_setCell_blk hP 0 (.int .i64 5)) 1 (.int .i64 2)
    have hTT := hms.heap hT (by simpa using fun e => hPnt e.symm)
    have hLL := hms.heap hL (by simpa using fun e => hPne e.symm)
    have hAA := hA.kept hms (fun b hb2 e2 => by simp at hb2; subst hb2; exact hAP _ e2 rfl)
    have hSS : ∀ b, sv.ownBlock = some b → b < ((X6.setCell ⟨Pb, 0, none⟩ (.int .i64 5)).setCell ⟨Pb, 1, none⟩ (.int .i64 2)).heap.size := fun b h => by have := hAS.out b h; simpa using this
    have HMM := Lib.hid ((HMX.out.setCellNew (p := ⟨Pb, 0, none⟩) hPge (.int .i64 5)).setCellNew (p := ⟨Pb, 1, none⟩) hPge (.int .i64 2))
    have HO := Lib.hid (And.intro hPP (And.intro hTT (And.intro hLL (And.intro hAA hSS))))
    clear hms hPP hTT hLL hAA hSS
    go_wp2_with fail
    refine ⟨again_nil, ?_⟩
    go_wp2_with fail
    refine ⟨by first | trivial | rfl, ?_⟩
    go_wp2_with fail
    exact ⟨by first | trivial | rfl, Pb, _, _, _, _, _, _, _, _, _, _, _, _, by simpa using HO.out.1, HO.out.2.1, HO.out.2.2.1, HO.out.2.2.2.1, HO.out.2.2.2.2, HMM.out, rfl⟩
  case o4 =>
    simp only [wpSegs, opsOf, List.map_cons, List.map_nil, opN, List.getD_cons_zero, List.getD_cons_succ]
    obtain ⟨Wd, hWd, md⟩ : ∃ Wd, W.drew = Wd ∧ Mod [] W Wd := ⟨_, rfl, (Mod.refl [] W).drew⟩
    rw [hWd]
    have hT := md.heap HT.out (by simp)
    have hL := md.heap HL.out (by simp)
    have HMX := Lib.hid md
    have hA := HA.out.kept0 md
    have hAS : Hid (∀ b, sv.ownBlock = some b → b < Wd.heap.size) := Lib.hid (fun b h => Nat.lt_of_lt_of_le (HAO.out b h) md.size)
    clear hWd md
    have t0 := cell_blk hT 0
    have t1 := cell_blk hT 1
    simp only [List.getElem?_toArray, List.getElem?_cons_succ, List.getElem?_cons_zero] at t0 t1
    go_wp2_with fail
    refine ⟨by first | trivial | rfl, ?_⟩
    go_wp2_with fail
    refine (seg28_any 1 5 2 _).mono ?_
    rintro e X1 ⟨rfl, m⟩
    have hT := m.heap hT (by simp)
    have hL := m.heap hL (by simp)
    have hA := hA.kept0 m
    have HMX := Lib.hid (HMX.out.trans m)
    have hAS := Lib.hid (fun b h => Nat.lt_of_lt_of_le (hAS.out b h) m.size)
    clear m
    have t0 := cell_blk hT 0
    have t1 := cell_blk hT 1
    simp only [List.getElem?_toArray, List.getElem?_cons_succ, List.getElem?_cons_zero] at t0 t1
    go_wp2_with fail
    refine ⟨?aga41, ?_⟩
    case aga41 =>
      intro i hi hw
      simp only [List.mem_cons, List.not_mem_nil, or_false] at hi
      subst hi
      all_goals (simp only [opN, List.getD_cons_zero, List.getD_cons_succ, slotOf]; go_simp)
    go_wp2_with fail
    refine ⟨by first | trivial | rfl, ?_⟩
    go_wp2_with fail
    refine (seg28_any 5 10 3 _).mono ?_
    rintro e X2 ⟨rfl, m⟩
    have hT := m.heap hT (by simp)
    have hL := m.heap hL (by simp)
    have hA := hA.kept0 m
    have HMX := Lib.hid (HMX.out.trans m)
    have hAS := Lib.hid (fun b h => Nat.lt_of_lt_of_le (hAS.out b h) m.size)
    clear m
    have t0 := cell_blk hT 0
    have t1 := cell_blk hT 1
    simp only [List.getElem?_toArray, List.getElem?_cons_succ, List.getElem?_cons_zero] at t0 t1
    go_wp2_with fail
    refine ⟨?aga42, ?_⟩
    case aga42 =>
      intro i hi hw
      simp only [List.mem_cons, List.not_mem_nil, or_false] at hi
      subst hi
      all_goals (simp only [opN, List.getD_cons_zero, List.getD_cons_succ, slotOf]; go_simp)
    go_wp2_with fail
    refine ⟨by first | trivial | rfl, ?_⟩
    go_wp2_with fail
    obtain ⟨X3, hX, n, s, m⟩ := alloc_named X2 (.cells #[.int .i64 1, .int .i64 5, .int .u8 2, .int .i64 0, .int .i64 0, .int .i64 0, .int .i64 5, .int .i64 10, .int .u8 3, .int .i64 0, .int .i64 0, .int .i64 0] 116)
    have hSeg := segs_lit X2 [⟨1, 5, 2, 0, 0, 0⟩, ⟨5, 10, 3, 0, 0, 0⟩] _ 2 rfl rfl
    rw [show ((flat encG [⟨1, 5, 2, 0, 0, 0⟩, ⟨5, 10, 3, 0, 0, 0⟩]).toArray : Array Value) = #[.int .i64 1, .int .i64 5, .int .u8 2, .int .i64 0, .int .i64 0, .int .i64 0, .int .i64 5, .int .i64 10, .int .u8 3, .int .i64 0, .int .i64 0, .int .i64 0] from rfl, hX] at hSeg
    rw [hX]
    have hT := m.heap hT (by simp)
    have hL := m.heap hL (by simp)
    have hA := hA.kept0 m
    have HMX := Lib.hid (HMX.out.trans m)
    have hAS := Lib.hid (fun b h => Nat.lt_of_lt_of_le (hAS.out b h) m.size)
    clear m hX n s
    have t0 := cell_blk hT 0
    have t1 := cell_blk hT 1
    simp only [List.getElem?_toArray, List.getElem?_cons_succ, List.getElem?_cons_zero] at t0 t1
    refine ⟨?aga43, ?_⟩
    case aga43 =>
      intro i hi hw
      simp only [List.mem_cons, List.not_mem_nil, or_false] at hi
      subst hi
      all_goals (simp only [opN, List.getD_cons_zero, List.getD_cons_succ, slotOf]; go_simp)
    go_wp2_with fail
    refine ⟨by first | trivial | rfl, ?_⟩
    go_wp2_with fail
    obtain ⟨X4, hX, hP, s, m⟩ := alloc_named X3 (.cells #[.int .i64 0, .int .i64 0] 75)
    rw [hX]
    have hPge : W.heap.size ≤ X3.heap.size := HMX.out.size
    have hPne : X3.heap.size ≠ S := by have := lt_of_heap hL; omega
    have hPnt : X3.heap.size ≠ S + 1 := by have := lt_of_heap hT; omega
    have hAP : ∀ b, sv.ownBlock = some b → b ≠ X3.heap.size := fun b hb2 e => by have h1 := hAS.out b hb2; omega
    generalize hPb : X3.heap.size = Pb at hP hPge hPne hPnt hAP ⊢
    have hT := m.heap hT (by simp)
    have hL := m.heap hL (by simp)
    have hA := hA.kept0 m
    have HMX := Lib.hid (HMX.out.trans m)
    have hAS := Lib.hid (fun b h => Nat.lt_of_lt_of_le (hAS.out b h) m.size)
    have hSeg := hSeg.kept0 m
    clear m hX s hPb
    have t0 := cell_blk hT 0
    have t1 := cell_blk hT 1
    simp only [List.getElem?_toArray, List.getElem?_cons_succ, List.getElem?_cons_zero] at t0 t1
    refine ⟨?aga44, ?_⟩
    case aga44 =>
      intro i hi hw
      simp only [List.mem_cons, List.not_mem_nil, or_false] at hi
      subst hi
      all_goals (simp only [opN, List.getD_cons_zero, List.getD_cons_succ, slotOf]; go_simp)
    go_wp2_with fail
    refine ⟨by first | trivial | rfl, ?_⟩
    go_wp2_with fail
    refine ⟨?aga45, ?_⟩
    case aga45 =>
      intro i hi hw
      simp only [List.mem_cons, List.not_mem_nil, or_false] at hi
      subst hi
      all_goals (simp only [opN, List.getD_cons_zero, List.getD_cons_succ, slotOf]; go_simp)
    go_wp2_with fail
    refine ⟨by first | trivial | rfl, ?_⟩
    go_wp2_with fail
    have hRuns := runs_one X4 2 _ _ hSeg
    obtain ⟨X5, hX, n, s, m⟩ := alloc_named X4 (.cells #[.int .i64 2, _] 80)
    rw [hX] at hRuns ⊢
    have hT := m.heap hT (by simp)
    have hL := m.heap hL (by simp)
    have hA := hA.kept0 m
    have HMX := Lib.hid (HMX.out.trans m)
    have hAS := Lib.hid (fun b h => Nat.lt_of_lt_of_le (hAS.out b h) m.size)
    have hSeg := hSeg.kept0 m
    have hP := m.heap hP (by simp)
    clear m hX n s
    have t0 := cell_blk hT 0
    have t1 := cell_blk hT 1
    simp only [List.getElem?_toArray, List.getElem?_cons_succ, List.getElem?_cons_zero] at t0 t1
    refine ⟨?aga46, ?_⟩
    case aga46 =>
      intro i hi hw
      simp only [List.mem_cons, List.not_mem_nil, or_false] at hi
      subst hi
      all_goals (simp only [opN, List.getD_cons_zero, List.getD_cons_succ, slotOf]; go_simp)
    go_wp2_with fail
    refine ⟨by first | trivial | rfl, ?_⟩
    go_wp2_with fail
    refine (lkSubmit_go _ 1 10 _ _ _ _ _ X5 hL hA HAL.out hRuns (by simp) (by simp) (by decide) (by decide)).mono ?_
    rintro e X6 (⟨x, hx, rfl, m⟩ | ⟨hn, rfl, m, sv', out, hL', ho, hb, hl⟩)
    rotate_left 1
    · simp [leastL, failsL, firstG, takeO] at hn
    obtain rfl : x = (5, 2) := by simpa [leastL, failsL, firstG, takeO] using hx.symm
    simp only [encF]
    have hT := m.heap hT (by simp)
    have hL := m.heap hL (by simp)
    have hA := hA.kept0 m
    have HMX := Lib.hid (HMX.out.trans m)
    have hAS := Lib.hid (fun b h => Nat.lt_of_lt_of_le (hAS.out b h) m.size)
    have hSeg := hSeg.kept0 m
    have hP := m.heap hP (by simp)
    have hRuns := hRuns.kept0 m
    clear m hx
    have t0 := cell_blk hT 0
    have t1 := cell_blk hT 1
    simp only [List.getElem?_toArray, List.getElem?_cons_succ, List.getElem?_cons_zero] at t0 t1
    go_wp2_with fail
    refine ⟨again_nil, ?_⟩
    go_wp2_with fail
    refine ⟨by first | trivial | rfl, ?_⟩
    have r0 := cell_blk hP 0
    have r1 := cell_blk hP 1
    have r2 := frozen_blk hP 0
    have r3 := frozen_blk hP 1
    simp only [List.getElem?_toArray, List.getElem?_cons_succ, List.getElem?_cons_zero] at r0 r1
    have hms := ((Mod.refl [Pb] X6).setCell (p := ⟨Pb, 0, none⟩) (by simp) (.int .i64 5)).setCell (p := ⟨Pb, 1, none⟩) (by simp) (.int .i64 2)
    have hPP := heap_setCell_blk (heap_setCell_blk hP 0 (.int .i64 5)) 1 (.int .i64 2)
    have hTT := hms.heap hT (by simpa using fun e => hPnt e.symm)
    have hLL := hms.heap hL (by simpa using fun e => hPne e.symm)
    have hAA := hA.kept hms (fun b hb2 e2 => by simp at hb2; subst hb2; exact hAP _ e2 rfl)
    have hSS : ∀ b, sv.ownBlock = some b → b < ((X6.setCell ⟨Pb, 0, none⟩ (.int .i64 5)).setCell ⟨Pb, 1, none⟩ (.int .i64 2)).heap.size := fun b h => by have := hAS.out b h; simpa using this
    have HMM := Lib.hid ((HMX.out.setCellNew (p := ⟨Pb, 0, none⟩) hPge (.int .i64 5)).setCellNew (p := ⟨Pb, 1, none⟩) hPge (.int .i64 2))
    have HO := Lib.hid (And.intro hPP (And.intro hTT (And.intro hLL (And.intro hAA hSS))))
    clear hms hPP hTT hLL hAA hSS
    go_wp2_with fail
    refine ⟨again_nil, ?_⟩
    go_wp2_with fail
    refine ⟨by first | trivial | rfl, ?_⟩
    go_wp2_with fail
    exact ⟨by first | trivial | rfl, Pb, _, _, _, _, _, _, _, _, _, _, _, _, by simpa using HO.out.1, HO.out.2.1, HO.out.2.2.1, HO.out.2.2.2.1, HO.out.2.2.2.2, HMM.out, rfl⟩
  case o5 =>
    simp only [wpSegs, opsOf, List.map_cons, List.map_nil, opN, List.getD_cons_zero, List.getD_cons_succ]
    obtain ⟨Wd, hWd, md⟩ : ∃ Wd, W.drew = Wd ∧ Mod [] W Wd := ⟨_, rfl, (Mod.refl [] W).drew⟩
    rw [hWd]
    have hT := md.heap HT.out (by simp)
    have hL := md.heap HL.out (by simp)
    have HMX := Lib.hid md
    have hA := HA.out.kept0 md
    have hAS : Hid (∀ b, sv.ownBlock = some b → b < Wd.heap.size) := Lib.hid (fun b h => Nat.lt_of_lt_of_le (HAO.out b h) md.size)
    clear hWd md
    have t0 := cell_blk hT 0
    have t1 := cell_blk hT 1
    simp only [List.getElem?_toArray, List.getElem?_cons_succ, List.getElem?_cons_zero] at t0 t1
    go_wp2_with fail
    refine ⟨by first | trivial | rfl, ?_⟩
    go_wp2_with fail
    refine (seg28_any 1 5 2 _).mono ?_
    rintro e X1 ⟨rfl, m⟩
    have hT := m.heap hT (by simp)
    have hL := m.heap hL (by simp)
    have hA := hA.kept0 m
    have HMX := Lib.hid (HMX.out.trans m)
    have hAS := Lib.hid (fun b h => Nat.lt_of_lt_of_le (hAS.out b h) m.size)
    clear m
    have t0 := cell_blk hT 0
    have t1 := cell_blk hT 1
    simp only [List.getElem?_toArray, List.getElem?_cons_succ, List.getElem?_cons_zero] at t0 t1
    go_wp2_with fail
    refine ⟨?aga51, ?_⟩
    case aga51 =>
      intro i hi hw
      simp only [List.mem_cons, List.not_mem_nil, or_false] at hi
      subst hi
      all_goals (simp only [opN, List.getD_cons_zero, List.getD_cons_succ, slotOf]; go_simp)
    go_wp2_with fail
    refine ⟨by first | trivial | rfl, ?_⟩
    go_wp2_with fail
    refine (seg28_any 5 10 3 _).mono ?_
    rintro e X2 ⟨rfl, m⟩
    have hT := m.heap hT (by simp)
    have hL := m.heap hL (by simp)
    have hA := hA.kept0 m
    have HMX := Lib.hid (HMX.out.trans m)
    have hAS := Lib.hid (fun b h => Nat.lt_of_lt_of_le (hAS.out b h) m.size)
    clear m
    have t0 := cell_blk hT 0
    have t1 := cell_blk hT 1
    simp only [List.getElem?_toArray, List.getElem?_cons_succ, List.getElem?_cons_zero] at t0 t1
    go_wp2_with fail
    refine ⟨?aga52, ?_⟩
    case aga52 =>
      intro i hi hw
      simp only [List.mem_cons, List.not_mem_nil, or_false] at hi
      subst hi
      all_goals (simp only [opN, List.getD_cons_zero, List.getD_cons_succ, slotOf]; go_simp)
    go_wp2_with fail
    refine ⟨by first | trivial | rfl, ?_⟩
    go_wp2_with fail
    obtain ⟨X3, hX, hP, s, m⟩ := alloc_named X2 (.cells #[.int .i64 0, .int .i64 0] 75)
    rw [hX]
    have hPge : W.heap.size ≤ X2.heap.size := HMX.out.size
    have hPne : X2.heap.size ≠ S := by have := lt_of_heap hL; omega
    have hPnt : X2.heap.size ≠ S + 1 := by have := lt_of_heap hT; omega
    have hAP : ∀ b, sv.ownBlock = some b → b ≠ X2.heap.size := fun b hb2 e => by have h1 := hAS.out b hb2; omega
    generalize hPb : X2.heap.size = Pb at hP hPge hPne hPnt hAP ⊢
    have hT := m.heap hT (by simp)
    have hL := m.heap hL (by simp)
    have hA := hA.kept0 m
    have HMX := Lib.hid (HMX.out.trans m)
    have hAS := Lib.hid (fun b h => Nat.lt_of_lt_of_le (hAS.out b h) m.size)
    clear m hX s hPb
    have t0 := cell_blk hT 0
    have t1 := cell_blk hT 1
    simp only [List.getElem?_toArray, List.getElem?_cons_succ, List.getElem?_cons_zero] at t0 t1
    refine ⟨?aga53, ?_⟩
    case aga53 =>
      intro i hi hw
      simp only [List.mem_cons, List.not_mem_nil, or_false] at hi
      subst hi
      all_goals (simp only [opN, List.getD_cons_zero, List.getD_cons_succ, slotOf]; go_simp)
    go_wp2_with fail
    refine ⟨by first | trivial | rfl, ?_⟩
    go_wp2_with fail
    obtain ⟨X4, hX, n, s, m⟩ := alloc_named X3 (.cells #[.int .i64 1, .int .i64 5, .int .u8 2, .int .i64 0, .int .i64 0, .int .i64 0, .int .i64 5, .int .i64 10, .int .u8 3, .int .i64 0, .int .i64 0, .int .i64 0] 116)
    have hSeg := segs_lit X3 [⟨1, 5, 2, 0, 0, 0⟩, ⟨5, 10, 3, 0, 0, 0⟩] _ 2 rfl rfl
    rw [show ((flat encG [⟨1, 5, 2, 0, 0, 0⟩, ⟨5, 10, 3, 0, 0, 0⟩]).toArray : Array Value) = #[.int .i64 1, .int .i64 5, .int .u8 2, .int .i64 0, .int .i64 0, .int .i64 0, .int .i64 5, .int .i64 10, .int .u8 3, .int .i64 0, .int .i64 0, .int .i64 0] from rfl, hX] at hSeg
    rw [hX]
    have hT := m.heap hT (by simp)
    have hL := m.heap hL (by simp)
    have hA := hA.kept0 m
    have HMX := Lib.hid (HMX.out.trans m)
    have hAS := Lib.hid (fun b h => Nat.lt_of_lt_of_le (hAS.out b h) m.size)
    have hP := m.heap hP (by simp)
    clear m hX n s
    have t0 := cell_blk hT 0
    have t1 := cell_blk hT 1
    simp only [List.getElem?_toArray, List.getElem?_cons_succ, List.getElem?_cons_zero] at t0 t1
    refine ⟨?aga54, ?_⟩
    case aga54 =>
      intro i hi hw
      simp only [List.mem_cons, List.not_mem_nil, or_false] at hi
      subst hi
      all_goals (simp only [opN, List.getD_cons_zero, List.getD_cons_succ, slotOf]; go_simp)
    go_wp2_with fail
    refine ⟨by first | trivial | rfl, ?_⟩
    go_wp2_with fail
    refine ⟨?aga55, ?_⟩
    case aga55 =>
      intro i hi hw
      simp only [List.mem_cons, List.not_mem_nil, or_false] at hi
      subst hi
      all_goals (simp only [opN, List.getD_cons_zero, List.getD_cons_succ, slotOf]; go_simp)
    go_wp2_with fail
    refine ⟨by first | trivial | rfl, ?_⟩
    go_wp2_with fail
    have hRuns := runs_one X4 2 _ _ hSeg
    obtain ⟨X5, hX, n, s, m⟩ := alloc_named X4 (.cells #[.int .i64 2, _] 80)
    rw [hX] at hRuns ⊢
    have hT := m.heap hT (by simp)
    have hL := m.heap hL (by simp)
    have hA := hA.kept0 m
    have HMX := Lib.hid (HMX.out.trans m)
    have hAS := Lib.hid (fun b h => Nat.lt_of_lt_of_le (hAS.out b h) m.size)
    have hP := m.heap hP (by simp)
    have hSeg := hSeg.kept0 m
    clear m hX n s
    have t0 := cell_blk hT 0
    have t1 := cell_blk hT 1
    simp only [List.getElem?_toArray, List.getElem?_cons_succ, List.getElem?_cons_zero] at t0 t1
    refine ⟨?aga56, ?_⟩
    case aga56 =>
      intro i hi hw
      simp only [List.mem_cons, List.not_mem_nil, or_false] at hi
      subst hi
      all_goals (simp only [opN, List.getD_cons_zero, List.getD_cons_succ, slotOf]; go_simp)
    go_wp2_with fail
    refine ⟨by first | trivial | rfl, ?_⟩
    go_wp2_with fail
    refine (lkSubmit_go _ 1 10 _ _ _ _ _ X5 hL hA HAL.out hRuns (by simp) (by simp) (by decide) (by decide)).mono ?_
    rintro e X6 (⟨x, hx, rfl, m⟩ | ⟨hn, rfl, m, sv', out, hL', ho, hb, hl⟩)
    rotate_left 1
    · simp [leastL, failsL, firstG, takeO] at hn
    obtain rfl : x = (5, 2) := by simpa [leastL, failsL, firstG, takeO] using hx.symm
    simp only [encF]
    have hT := m.heap hT (by simp)
    have hL := m.heap hL (by simp)
    have hA := hA.kept0 m
    have HMX := Lib.hid (HMX.out.trans m)
    have hAS := Lib.hid (fun b h => Nat.lt_of_lt_of_le (hAS.out b h) m.size)
    have hP := m.heap hP (by simp)
    have hSeg := hSeg.kept0 m
    have hRuns := hRuns.kept0 m
    clear m hx
    have t0 := cell_blk hT 0
    have t1 := cell_blk hT 1
    simp only [List.getElem?_toArray, List.getElem?_cons_succ, List.getElem?_cons_zero] at t0 t1
    go_wp2_with fail
    refine ⟨again_nil, ?_⟩
    go_wp2_with fail
    refine ⟨by first | trivial | rfl, ?_⟩
    have r0 := cell_blk hP 0
    have r1 := cell_blk hP 1
    have r2 := frozen_blk hP 0
    have r3 := frozen_blk hP 1
    simp only [List.getElem?_toArray, List.getElem?_cons_succ, List.getElem?_cons_zero] at r0 r1
    have hms := ((Mod.refl [Pb] X6).setCell (p := ⟨Pb, 0, none⟩) (by simp) (.int .i64 5)).setCell (p := ⟨Pb, 1, none⟩) (by simp) (.int .i64 2)
    have hPP := heap_setCell_blk (heap_setCell_blk hP 0 (.int .i64 5)) 1 (.int .i64 2)
    have hTT := hms.heap hT (by simpa using fun e => hPnt e.symm)
    have hLL := hms.heap hL (by simpa using fun e => hPne e.symm)
    have hAA := hA.kept hms (fun b hb2 e2 => by simp at hb2; subst hb2; exact hAP _ e2 rfl)
    have hSS : ∀ b, sv.ownBlock = some b → b < ((X6.setCell ⟨Pb, 0, none⟩ (.int .i64 5)).setCell ⟨Pb, 1, none⟩ (.int .i64 2)).heap.size := fun b h => by have := hAS.out b h; simpa using this
    have HMM := Lib.hid ((HMX.out.setCellNew (p := ⟨Pb, 0, none⟩) hPge (.int .i64 5)).setCellNew (p := ⟨Pb, 1, none⟩) hPge (.int .i64 2))
    have HO := Lib.hid (And.intro hPP (And.intro hTT (And.intro hLL (And.intro hAA hSS))))
    clear hms hPP hTT hLL hAA hSS
    go_wp2_with fail
    refine ⟨again_nil, ?_⟩
    go_wp2_with fail
    refine ⟨by first | trivial | rfl, ?_⟩
    go_wp2_with fail
    exact ⟨by first | trivial | rfl, Pb, _, _, _, _, _, _, _, _, _, _, _, _, by simpa using HO.out.1, HO.out.2.1, HO.out.2.2.1, HO.out.2.2.2.1, HO.out.2.2.2.2, HMM.out, rfl⟩
  case o6 =>
    simp only [wpSegs, opsOf, List.map_cons, List.map_nil, opN, List.getD_cons_zero, List.getD_cons_succ]
    obtain ⟨Wd, hWd, md⟩ : ∃ Wd, W.drew = Wd ∧ Mod [] W Wd := ⟨_, rfl, (Mod.refl [] W).drew⟩
    rw [hWd]
    have hT := md.heap HT.out (by simp)
    have hL := md.heap HL.out (by simp)
    have HMX := Lib.hid md
    have hA := HA.out.kept0 md
    have hAS : Hid (∀ b, sv.ownBlock = some b → b < Wd.heap.size) := Lib.hid (fun b h => Nat.lt_of_lt_of_le (HAO.out b h) md.size)
    clear hWd md
    have t0 := cell_blk hT 0
    have t1 := cell_blk hT 1
    simp only [List.getElem?_toArray, List.getElem?_cons_succ, List.getElem?_cons_zero] at t0 t1
    go_wp2_with fail
    refine ⟨by first | trivial | rfl, ?_⟩
    go_wp2_with fail
    refine (seg28_any 1 5 2 _).mono ?_
    rintro e X1 ⟨rfl, m⟩
    have hT := m.heap hT (by simp)
    have hL := m.heap hL (by simp)
    have hA := hA.kept0 m
    have HMX := Lib.hid (HMX.out.trans m)
    have hAS := Lib.hid (fun b h => Nat.lt_of_lt_of_le (hAS.out b h) m.size)
    clear m
    have t0 := cell_blk hT 0
    have t1 := cell_blk hT 1
    simp only [List.getElem?_toArray, List.getElem?_cons_succ, List.getElem?_cons_zero] at t0 t1
    go_wp2_with fail
    refine ⟨?aga61, ?_⟩
    case aga61 =>
      intro i hi hw
      simp only [List.mem_cons, List.not_mem_nil, or_false] at hi
      subst hi
      all_goals (simp only [opN, List.getD_cons_zero, List.getD_cons_succ, slotOf]; go_simp)
    go_wp2_with fail
    refine ⟨by first | trivial | rfl, ?_⟩
    go_wp2_with fail
    obtain ⟨X2, hX, hP, s, m⟩ := alloc_named X1 (.cells #[.int .i64 0, .int .i64 0] 75)
    rw [hX]
    have hPge : W.heap.size ≤ X1.heap.size := HMX.out.size
    have hPne : X1.heap.size ≠ S := by have := lt_of_heap hL; omega
    have hPnt : X1.heap.size ≠ S + 1 := by have := lt_of_heap hT; omega
    have hAP : ∀ b, sv.ownBlock = some b → b ≠ X1.heap.size := fun b hb2 e => by have h1 := hAS.out b hb2; omega
    generalize hPb : X1.heap.size = Pb at hP hPge hPne hPnt hAP ⊢
    have hT := m.heap hT (by simp)
    have hL := m.heap hL (by simp)
    have hA := hA.kept0 m
    have HMX := Lib.hid (HMX.out.trans m)
    have hAS := Lib.hid (fun b h => Nat.lt_of_lt_of_le (hAS.out b h) m.size)
    clear m hX s hPb
    have t0 := cell_blk hT 0
    have t1 := cell_blk hT 1
    simp only [List.getElem?_toArray, List.getElem?_cons_succ, List.getElem?_cons_zero] at t0 t1
    refine ⟨?aga62, ?_⟩
    case aga62 =>
      intro i hi hw
      simp only [List.mem_cons, List.not_mem_nil, or_false] at hi
      subst hi
      all_goals (simp only [opN, List.getD_cons_zero, List.getD_cons_succ, slotOf]; go_simp)
    go_wp2_with fail
    refine ⟨by first | trivial | rfl, ?_⟩
    go_wp2_with fail
    refine (seg28_any 5 10 3 _).mono ?_
    rintro e X3 ⟨rfl, m⟩
    have hT := m.heap hT (by simp)
    have hL := m.heap hL (by simp)
    have hA := hA.kept0 m
    have HMX := Lib.hid (HMX.out.trans m)
    have hAS := Lib.hid (fun b h => Nat.lt_of_lt_of_le (hAS.out b h) m.size)
    have hP := m.heap hP (by simp)
    clear m
    have t0 := cell_blk hT 0
    have t1 := cell_blk hT 1
    simp only [List.getElem?_toArray, List.getElem?_cons_succ, List.getElem?_cons_zero] at t0 t1
    go_wp2_with fail
    refine ⟨?aga63, ?_⟩
    case aga63 =>
      intro i hi hw
      simp only [List.mem_cons, List.not_mem_nil, or_false] at hi
      subst hi
      all_goals (simp only [opN, List.getD_cons_zero, List.getD_cons_succ, slotOf]; go_simp)
    go_wp2_with fail
    refine ⟨by first | trivial | rfl, ?_⟩
    go_wp2_with fail
    obtain ⟨X4, hX, n, s, m⟩ := alloc_named X3 (.cells #[.int .i64 1, .int .i64 5, .int .u8 2, .int .i64 0, .int .i64 0, .int .i64 0, .int .i64 5, .int .i64 10, .int .u8 3, .int .i64 0, .int .i64 0, .int .i64 0] 116)
    have hSeg := segs_lit X3 [⟨1, 5, 2, 0, 0, 0⟩, ⟨5, 10, 3, 0, 0, 0⟩] _ 2 rfl rfl
    rw [show ((flat encG [⟨1, 5, 2, 0, 0, 0⟩, ⟨5, 10, 3, 0, 0, 0⟩]).toArray : Array Value) = #[.int .i64 1, .int .i64 5, .int .u8 2, .int .i64 0, .int .i64 0, .int .i64 0, .int .i64 5, .int .i64 10, .int .u8 3, .int .i64 0, .int .i64 0, .int .i64 0] from rfl, hX] at hSeg
    rw [hX]
    have hT := m.heap hT (by simp)
    have hL := m.heap hL (by simp)
    have hA := hA.kept0 m
    have HMX := Lib.hid (HMX.out.trans m)
    have hAS := Lib.hid (fun b h => Nat.lt_of_lt_of_le (hAS.out b h) m.size)
    have hP := m.heap hP (by simp)
    clear m hX n s
    have t0 := cell_blk hT 0
    have t1 := cell_blk hT 1
    simp only [List.getElem?_toArray, List.getElem?_cons_succ, List.getElem?_cons_zero] at t0 t1
    refine ⟨?aga64, ?_⟩
    case aga64 =>
      intro i hi hw
      simp only [List.mem_cons, List.not_mem_nil, or_false] at hi
      subst hi
      all_goals (simp only [opN, List.getD_cons_zero, List.getD_cons_succ, slotOf]; go_simp)
    go_wp2_with fail
    refine ⟨by first | trivial | rfl, ?_⟩
    go_wp2_with fail
    refine ⟨?aga65, ?_⟩
    case aga65 =>
      intro i hi hw
      simp only [List.mem_cons, List.not_mem_nil, or_false] at hi
      subst hi
      all_goals (simp only [opN, List.getD_cons_zero, List.getD_cons_succ, slotOf]; go_simp)
    go_wp2_with fail
    refine ⟨by first | trivial | rfl, ?_⟩
    go_wp2_with fail
    have hRuns := runs_one X4 2 _ _ hSeg
    obtain ⟨X5, hX, n, s, m⟩ := alloc_named X4 (.cells #[.int .i64 2, _] 80)
    rw [hX] at hRuns ⊢
    have hT := m.heap hT (by simp)
    have hL := m.heap hL (by simp)
    have hA := hA.kept0 m
    have HMX := Lib.hid (HMX.out.trans m)
    have hAS := Lib.hid (fun b h => Nat.lt_of_lt_of_le (hAS.out b h) m.size)
    have hP := m.heap hP (by simp)
    have hSeg := hSeg.kept0 m
    clear m hX n s
    have t0 := cell_blk hT 0
    have t1 := cell_blk hT 1
    simp only [List.getElem?_toArray, List.getElem?_cons_succ, List.getElem?_cons_zero] at t0 t1
    refine ⟨?aga66, ?_⟩
    case aga66 =>
      intro i hi hw
      simp only [List.mem_cons, List.not_mem_nil, or_false] at hi
      subst hi
      all_goals (simp only [opN, List.getD_cons_zero, List.getD_cons_succ, slotOf]; go_simp)
    go_wp2_with fail
    refine ⟨by first | trivial | rfl, ?_⟩
    go_wp2_with fail
    refine (lkSubmit_go _ 1 10 _ _ _ _ _ X5 hL hA HAL.out hRuns (by simp) (by simp) (by decide) (by decide)).mono ?_
    rintro e X6 (⟨x, hx, rfl, m⟩ | ⟨hn, rfl, m, sv', out, hL', ho, hb, hl⟩)
    rotate_left 1
    · simp [leastL, failsL, firstG, takeO] at hn
    obtain rfl : x = (5, 2) := by simpa [leastL, failsL, firstG, takeO] using hx.symm
    simp only [encF]
    have hT := m.heap hT (by simp)
    have hL := m.heap hL (by simp)
    have hA := hA.kept0 m
    have HMX := Lib.hid (HMX.out.trans m)
    have hAS := Lib.hid (fun b h => Nat.lt_of_lt_of_le (hAS.out b h) m.size)
    have hP := m.heap hP (by simp)
    have hSeg := hSeg.kept0 m
    have hRuns := hRuns.kept0 m
    clear m hx
    have t0 := cell_blk hT 0
    have t1 := cell_blk hT 1
    simp only [List.getElem?_toArray, List.getElem?_cons_succ, List.getElem?_cons_zero] at t0 t1
    go_wp2_with fail
    refine ⟨again_nil, ?_⟩
    go_wp2_with fail
    refine ⟨by first | trivial | rfl, ?_⟩
    have r0 := cell_blk hP 0
    have r1 := cell_blk hP 1
    have r2 := frozen_blk hP 0
    have r3 := frozen_blk hP 1
    simp only [List.getElem?_toArray, List.getElem?_cons_succ, List.getElem?_cons_zero] at r0 r1
    have hms := ((Mod.refl [Pb] X6).setCell (p := ⟨Pb, 0, none⟩) (by simp) (.int .i64 5)).setCell (p := ⟨Pb, 1, none⟩) (by simp) (.int .i64 2)
    have hPP := heap_setCell_blk (heap_setCell_blk hP 0 (.int .i64 5)) 1 (.int .i64 2)
    have hTT := hms.heap hT (by simpa using fun e => hPnt e.symm)
    have hLL := hms.heap hL (by simpa using fun e => hPne e.symm)
    have hAA := hA.kept hms (fun b hb2 e2 => by simp at hb2; subst hb2; exact hAP _ e2 rfl)
    have hSS : ∀ b, sv.ownBlock = some b → b < ((X6.setCell ⟨Pb, 0, none⟩ (.int .i64 5)).setCell ⟨Pb, 1, none⟩ (.int .i64 2)).heap.size := fun b h => by have := hAS.out b h; simpa using this
    have HMM := Lib.hid ((HMX.out.setCellNew (p := ⟨Pb, 0, none⟩) hPge (.int .i64 5)).setCellNew (p := ⟨Pb, 1, none⟩) hPge (.int .i64 2))
    have HO := Lib.hid (And.intro hPP (And.intro hTT (And.intro hLL (And.intro hAA hSS))))
    clear hms hPP hTT hLL hAA hSS
    go_wp2_with fail
    refine ⟨again_nil, ?_⟩
    go_wp2_with fail
    refine ⟨by first | trivial | rfl, ?_⟩
    go_wp2_with fail
    exact ⟨by first | trivial | rfl, Pb, _, _, _, _, _, _, _, _, _, _, _, _, by simpa using HO.out.1, HO.out.2.1, HO.out.2.2.1, HO.out.2.2.2.1, HO.out.2.2.2.2, HMM.out, rfl⟩
  case o7 =>
    simp only [wpSegs, opsOf, List.map_cons, List.map_nil, opN, List.getD_cons_zero, List.getD_cons_succ]
    obtain ⟨Wd, hWd, md⟩ : ∃ Wd, W.drew = Wd ∧ Mod [] W Wd := ⟨_, rfl, (Mod.refl [] W).drew⟩
    rw [hWd]
    have hT := md.heap HT.out (by simp)
    have hL := md.heap HL.out (by simp)
    have HMX := Lib.hid md
    have hA := HA.out.kept0 md
    have hAS : Hid (∀ b, sv.ownBlock = some b → b < Wd.heap.size) := Lib.hid (fun b h => Nat.lt_of_lt_of_le (HAO.out b h) md.size)
    clear hWd md
    have t0 := cell_blk hT 0
    have t1 := cell_blk hT 1
    simp only [List.getElem?_toArray, List.getElem?_cons_succ, List.getElem?_cons_zero] at t0 t1
    go_wp2_with fail
    refine ⟨by first | trivial | rfl, ?_⟩
    go_wp2_with fail
    obtain ⟨X1, hX, hP, s, m⟩ := alloc_named Wd (.cells #[.int .i64 0, .int .i64 0] 75)
    rw [hX]
    have hPge : W.heap.size ≤ Wd.heap.size := HMX.out.size
    have hPne : Wd.heap.size ≠ S := by have := lt_of_heap hL; omega
    have hPnt : Wd.heap.size ≠ S + 1 := by have := lt_of_heap hT; omega
    have hAP : ∀ b, sv.ownBlock = some b → b ≠ Wd.heap.size := fun b hb2 e => by have h1 := hAS.out b hb2; omega
    generalize hPb : Wd.heap.size = Pb at hP hPge hPne hPnt hAP ⊢
    have hT := m.heap hT (by simp)
    have hL := m.heap hL (by simp)
    have hA := hA.kept0 m
    have HMX := Lib.hid (HMX.out.trans m)
    have hAS := Lib.hid (fun b h => Nat.lt_of_lt_of_le (hAS.out b h) m.size)
    clear m hX s hPb
    have t0 := cell_blk hT 0
    have t1 := cell_blk hT 1
    simp only [List.getElem?_toArray, List.getElem?_cons_succ, List.getElem?_cons_zero] at t0 t1
    refine ⟨?aga71, ?_⟩
    case aga71 =>
      intro i hi hw
      simp only [List.mem_cons, List.not_mem_nil, or_false] at hi
      subst hi
      all_goals (simp only [opN, List.getD_cons_zero, List.getD_cons_succ, slotOf]; go_simp)
    go_wp2_with fail
    refine ⟨by first | trivial | rfl, ?_⟩
    go_wp2_with fail
    refine (seg28_any 1 5 2 _).mono ?_
    rintro e X2 ⟨rfl, m⟩
    have hT := m.heap hT (by simp)
    have hL := m.heap hL (by simp)
    have hA := hA.kept0 m
    have HMX := Lib.hid (HMX.out.trans m)
    have hAS := Lib.hid (fun b h => Nat.lt_of_lt_of_le (hAS.out b h) m.size)
    have hP := m.heap hP (by simp)
    clear m
    have t0 := cell_blk hT 0
    have t1 := cell_blk hT 1
    simp only [List.getElem?_toArray, List.getElem?_cons_succ, List.getElem?_cons_zero] at t0 t1
    go_wp2_with fail
    refine ⟨?aga72, ?_⟩
    case aga72 =>
      intro i hi hw
      simp only [List.mem_cons, List.not_mem_nil, or_false] at hi
      subst hi
      all_goals (simp only [opN, List.getD_cons_zero, List.getD_cons_succ, slotOf]; go_simp)
    go_wp2_with fail
    refine ⟨by first | trivial | rfl, ?_⟩
    go_wp2_with fail
    refine (seg28_any 5 10 3 _).mono ?_
    rintro e X3 ⟨rfl, m⟩
    have hT := m.heap hT (by simp)
    have hL := m.heap hL (by simp)
    have hA := hA.kept0 m
    have HMX := Lib.hid (HMX.out.trans m)
    have hAS := Lib.hid (fun b h => Nat.lt_of_lt_of_le (hAS.out b h) m.size)
    have hP := m.heap hP (by simp)
    clear m
    have t0 := cell_blk hT 0
    have t1 := cell_blk hT 1
    simp only [List.getElem?_toArray, List.getElem?_cons_succ, List.getElem?_cons_zero] at t0 t1
    go_wp2_with fail
    refine ⟨?aga73, ?_⟩
    case aga73 =>
      intro i hi hw
      simp only [List.mem_cons, List.not_mem_nil, or_false] at hi
      subst hi
      all_goals (simp only [opN, List.getD_cons_zero, List.getD_cons_succ, slotOf]; go_simp)
    go_wp2_with fail
    refine ⟨by first | trivial | rfl, ?_⟩
    go_wp2_with fail
    obtain ⟨X4, hX, n, s, m⟩ := alloc_named X3 (.cells #[.int .i64 1, .int .i64 5, .int .u8 2, .int .i64 0, .int .i64 0, .int .i64 0, .int .i64 5, .int .i64 10, .int .u8 3, .int .i64 0, .int .i64 0, .int .i64 0] 116)
    have hSeg := segs_lit X3 [⟨1, 5, 2, 0, 0, 0⟩, ⟨5, 10, 3, 0, 0, 0⟩] _ 2 rfl rfl
    rw [show ((flat encG [⟨1, 5, 2, 0, 0, 0⟩, ⟨5, 10, 3, 0, 0, 0⟩]).toArray : Array Value) = #[.int .i64 1, .int .i64 5, .int .u8 2, .int .i64 0, .int .i64 0, .int .i64 0, .int .i64 5, .int .i64 10, .int .u8 3, .int .i64 0, .int .i64 0, .int .i64 0] from rfl, hX] at hSeg
    rw [hX]
    have hT := m.heap hT (by simp)
    have hL := m.heap hL (by simp)
    have hA := hA.kept0 m
    have HMX := Lib.hid (HMX.out.trans m)
    have hAS := Lib.hid (fun b h => Nat.lt_of_lt_of_le (hAS.out b h) m.size)
    have hP := m.heap hP (by simp)
    clear m hX n s
    have t0 := cell_blk hT 0
    have t1 := cell_blk hT 1
    simp only [List.getElem?_toArray, List.getElem?_cons_succ, List.getElem?_cons_zero] at t0 t1
    refine ⟨?aga74, ?_⟩
    case aga74 =>
      intro i hi hw
      simp only [List.mem_cons, List.not_mem_nil, or_false] at hi
      subst hi
      all_goals (simp only [opN, List.getD_cons_zero, List.getD_cons_succ, slotOf]; go_simp)
    go_wp2_with fail
    refine ⟨by first | trivial | rfl, ?_⟩
    go_wp2_with fail
    refine ⟨?aga75, ?_⟩
    case aga75 =>
      intro i hi hw
      simp only [List.mem_cons, List.not_mem_nil, or_false] at hi
      subst hi
      all_goals (simp only [opN, List.getD_cons_zero, List.getD_cons_succ, slotOf]; go_simp)
    go_wp2_with fail
    refine ⟨by first | trivial | rfl, ?_⟩
    go_wp2_with fail
    have hRuns := runs_one X4 2 _ _ hSeg
    obtain ⟨X5, hX, n, s, m⟩ := alloc_named X4 (.cells #[.int .i64 2, _] 80)
    rw [hX] at hRuns ⊢
    have hT := m.heap hT (by simp)
    have hL := m.heap hL (by simp)
    have hA := hA.kept0 m
    have HMX := Lib.hid (HMX.out.trans m)
    have hAS := Lib.hid (fun b h => Nat.lt_of_lt_of_le (hAS.out b h) m.size)
    have hP := m.heap hP (by simp)
    have hSeg := hSeg.kept0 m
    clear m hX n s
    have t0 := cell_blk hT 0
    have t1 := cell_blk hT 1
    simp only [List.getElem?_toArray, List.getElem?_cons_succ, List.getElem?_cons_zero] at t0 t1
    refine ⟨?aga76, ?_⟩
    case aga76 =>
      intro i hi hw
      simp only [List.mem_cons, List.not_mem_nil, or_false] at hi
      subst hi
      all_goals (simp only [opN, List.getD_cons_zero, List.getD_cons_succ, slotOf]; go_simp)
    go_wp2_with fail
    refine ⟨by first | trivial | rfl, ?_⟩
    go_wp2_with fail
    refine (lkSubmit_go _ 1 10 _ _ _ _ _ X5 hL hA HAL.out hRuns (by simp) (by simp) (by decide) (by decide)).mono ?_
    rintro e X6 (⟨x, hx, rfl, m⟩ | ⟨hn, rfl, m, sv', out, hL', ho, hb, hl⟩)
    rotate_left 1
    · simp [leastL, failsL, firstG, takeO] at hn
    obtain rfl : x = (5, 2) := by simpa [leastL, failsL, firstG, takeO] using hx.symm
    simp only [encF]
    have hT := m.heap hT (by simp)
    have hL := m.heap hL (by simp)
    have hA := hA.kept0 m
    have HMX := Lib.hid (HMX.out.trans m)
    have hAS := Lib.hid (fun b h => Nat.lt_of_lt_of_le (hAS.out b h) m.size)
    have hP := m.heap hP (by simp)
    have hSeg := hSeg.kept0 m
    have hRuns := hRuns.kept0 m
    clear m hx
    have t0 := cell_blk hT 0
    have t1 := cell_blk hT 1
    simp only [List.getElem?_toArray, List.getElem?_cons_succ, List.getElem?_cons_zero] at t0 t1
    go_wp2_with fail
    refine ⟨again_nil, ?_⟩
    go_wp2_with fail
    refine ⟨by first | trivial | rfl, ?_⟩
    have r0 := cell_blk hP 0
    have r1 := cell_blk hP 1
    have r2 := frozen_blk hP 0
    have r3 := frozen_blk hP 1
    simp only [List.getElem?_toArray, List.getElem?_cons_succ, List.getElem?_cons_zero] at r0 r1
    have hms := ((Mod.refl [Pb] X6).setCell (p := ⟨Pb, 0, none⟩) (by simp) (.int .i64 5)).setCell (p := ⟨Pb, 1, none⟩) (by simp) (.int .i64 2)
    have hPP := heap_setCell_blk (heap_setCell_blk hP 0 (.int .i64 5)) 1 (.int .i64 2)
    have hTT := hms.heap hT (by simpa using fun e => hPnt e.symm)
    have hLL := hms.heap hL (by simpa using fun e => hPne e.symm)
    have hAA := hA.kept hms (fun b hb2 e2 => by simp at hb2; subst hb2; exact hAP _ e2 rfl)
    have hSS : ∀ b, sv.ownBlock = some b → b < ((X6.setCell ⟨Pb, 0, none⟩ (.int .i64 5)).setCell ⟨Pb, 1, none⟩ (.int .i64 2)).heap.size := fun b h => by have := hAS.out b h; simpa using this
    have HMM := Lib.hid ((HMX.out.setCellNew (p := ⟨Pb, 0, none⟩) hPge (.int .i64 5)).setCellNew (p := ⟨Pb, 1, none⟩) hPge (.int .i64 2))
    have HO := Lib.hid (And.intro hPP (And.intro hTT (And.intro hLL (And.intro hAA hSS))))
    clear hms hPP hTT hLL hAA hSS
    go_wp2_with fail
    refine ⟨again_nil, ?_⟩
    go_wp2_with fail
    refine ⟨by first | trivial | rfl, ?_⟩
    go_wp2_with fail
    exact ⟨by first | trivial | rfl, Pb, _, _, _, _, _, _, _, _, _, _, _, _, by simpa using HO.out.1, HO.out.2.1, HO.out.2.2.1, HO.out.2.2.2.1, HO.out.2.2.2.2, HMM.out, rfl⟩
end Go.Proofs.Ytefaihockgebeaa
