/- Rows of thousands: Small. -/
import Derived.Test.YtnoookcfacmdkaaRqA
import Derived.Test.YtnoookcfacmdkaaRegI
import Derived.Test.YtnoookcfacmdkaaRegJ
import Derived.Deep.CutRange
import Derived.Deep.DeepCutAuto
namespace Go.Proofs.Ytnoookcfacmdkaa
open Go.RowKit Go.ChangeMaps Go.Deep
set_option linter.unusedSimpArgs false
set_option linter.unusedVariables false
set_option maxRecDepth 20000

def evenZ (a b : Int) : Int := if b < a % b + a % b ∨ (a % b + a % b = b ∧ (a / b) % 2 ≠ 0) then a / b + 1 else a / b
set_option maxHeartbeats 16000000 in
theorem neven_any (x y : Value) (a b : Int) (w : World) (hx : NAt w x a) (hy : NAt w y b) (hb : 0 < b) (sa : Big a) (sb : Big (1000 * b)) :
    Calls Try.prog 79 #[x, y] w fun e w' => ∃ v, e = .returned v ∧ NAt w' v (evenZ a b) ∧ Mod [] w w' := by
  obtain ⟨nx, s1, lx, rfl, h1⟩ := hx
  obtain ⟨ny, s2, ly, rfl, h2⟩ := hy
  obtain ⟨ax, cx, rfl⟩ := h1.ints.form
  obtain ⟨ay, cy, rfl⟩ := h2.ints.form
  obtain ⟨A1, hA1, k1, z1, m1⟩ := alloc_named2 w (.cells #[.bool nx, .slice ax lx.length cx] 120)
  obtain ⟨A2, hA2, k2, z2, m2⟩ := alloc_named2 A1 (.cells #[.bool ny, .slice ay ly.length cy] 120)
  obtain ⟨A3, hA3, k3, z3, m3⟩ := alloc_named2 A2 (.cells #[.bool false, .slice none 0 0] 120)
  rw [z1] at k2 z2
  rw [z2] at k3 z3
  have hM3 := m1.trans (m2.trans m3)
  have hbx : BoxZ A3 w.heap.size nx ax lx cx a := ⟨(m2.trans m3).heap k1 (by simp), h1.kept0 hM3⟩
  have hby : BoxZ A3 (w.heap.size + 1) ny ay ly cy b := ⟨m3.heap k2 (by simp), h2.kept0 hM3⟩
  obtain ⟨x0, x1, _, _⟩ := hbx.cells
  obtain ⟨y0, y1, _, _⟩ := hby.cells
  have HBY := Lib.hid hby
  have HR := Lib.hid k3
  have HZ3 := Lib.hid z3
  have HSB := Lib.hid (fun (z : Int) (h : z.natAbs ≤ (1000 * b).natAbs) => sb.le h)
  have HBQ := Lib.hid (show Big (a / b) from sa.le (by
    have h1 := Int.natAbs_ediv_le_natAbs a b
    exact h1))
  have HBP := Lib.hid hb
  have HC := Lib.hid (ndown_any _ _ a b A3 hbx.nat hby.nat hb sa sb)
  have HM3 := Lib.hid hM3
  clear h1 h2 k1 k2 k3 m1 m2 m3 hM3 hbx hby sa sb z3
  go_enter Try.func79, Try.ntmps79
  go_wp2_with fail
  refine HC.out.mono ?_
  rintro e w1 ⟨v1, v2, rfl, hv1, hv2, m4⟩
  obtain ⟨qn, qs, ql, rfl, hq⟩ := hv1
  obtain ⟨qa, qc, rfl⟩ := hq.ints.form
  obtain ⟨rn, rs, rl, rfl, hr⟩ := hv2
  obtain ⟨ra, rc, rfl⟩ := hr.ints.form
  obtain ⟨B1, hB1, hbq, zB1, mB1⟩ := BoxZ.made hq
  obtain ⟨B2, hB2, hbr, zB2, mB2⟩ := BoxZ.made (hr.kept0 mB1)
  rw [zB1] at hbr zB2
  have hbq2 := hbq.kept0 mB2
  have hby2 := HBY.out.kept0 (m4.trans (mB1.trans mB2))
  obtain ⟨q0, q1, _, _⟩ := hbq2.cells
  obtain ⟨r0, r1, _, _⟩ := hbr.cells
  obtain ⟨y0', y1', _, _⟩ := hby2.cells
  have hr0 : 0 ≤ a % b := Int.emod_nonneg _ (by omega)
  have hr1 : a % b < b := Int.emod_lt_of_pos _ hb
  have HR2 := Lib.hid ((m4.trans (mB1.trans mB2)).heap HR.out (by simp))
  have HLW := Lib.hid (show w.heap.size + 1 + 1 < w1.heap.size by have := m4.size; have := HZ3.out; omega)
  have HCA := Lib.hid (nadd_any _ _ (a % b) (a % b) B2.drew (hbr.nat.kept0 (Mod.refl [] B2).drew) (hbr.nat.kept0 (Mod.refl [] B2).drew) (HSB.out _ (by omega)) (HSB.out _ (by omega)))
  have HM2 := Lib.hid (HM3.out.trans (m4.trans (mB1.trans mB2)))
  have HQ2 := Lib.hid hbq2
  have HY2 := Lib.hid hby2
  clear hq hr hbq hbr hbq2 hby2 m4 mB1 mB2 HC HM3 HBY HR zB2
  go_wp2_with fail
  refine wp_plan [([0, 1, 3], 2, [3]), ([], 4, [])] [5] (by kernel_rfl) (by kernel_rfl) ?_
  simp only [wpSegs, opsOf, List.map_cons, List.map_nil, opN, List.getD_cons_zero, List.getD_cons_succ]
  go_wp2_with fail
  refine ⟨by first | trivial | rfl, ?_⟩
  go_wp2_with fail
  refine HCA.out.mono ?_
  rintro e w2 ⟨v2, rfl, hv2, m5⟩
  have m5' := (Mod.refl [] B2).drew.trans m5
  have hy5 := HY2.out.kept0 m5'
  obtain ⟨y0a, y1a, _, _⟩ := hy5.cells
  have HCC := Lib.hid (ncmp_any v2 _ (a % b + a % b) b w2 hv2 hy5.nat (HSB.out _ (by omega)) (HSB.out _ (by omega)))
  have HM5 := Lib.hid m5'
  obtain ⟨v2n, v2s, v2l, rfl, hv2'⟩ := hv2
  obtain ⟨v2a, v2c, rfl⟩ := hv2'.ints.form
  clear hv2' hy5 m5 m5' HCA
  obtain ⟨g, hg⟩ : ∃ g, Hid (sgnI (a % b + a % b) b = g) := ⟨_, Lib.hid rfl⟩
  rw [hg.out] at HCC
  go_wp2_with fail
  refine ⟨?agA, ?_⟩
  case agA =>
    intro i hi hw
    simp only [List.mem_cons, List.not_mem_nil, or_false] at hi
    subst hi
    all_goals (simp only [opN, List.getD_cons_zero, List.getD_cons_succ, slotOf]; go_simp)
  go_wp2_with fail
  refine ⟨by first | trivial | rfl, ?_⟩
  go_wp2_with fail
  refine HCC.out.mono ?_
  rintro e w3 ⟨rfl, m6⟩
  have HM6 := Lib.hid (HM5.out.trans m6)
  clear m6 HCC
  go_wp2_with fail
  refine ⟨again_nil, ?_⟩
  go_wp2_with fail
  refine ⟨by first | trivial | rfl, ?_⟩
  go_upto_region 3 with fail
  have HQB := Lib.hid (HQ2.out.kept0 HM6.out)
  have HM63 := Lib.hid (HM2.out.trans HM6.out)
  have HR3 := Lib.hid (HM6.out.heap HR2.out (by simp))
  have HS3 := Lib.hid HM6.out.size
  clear HM5 HM6 HY2 HQ2 HR2 hB1 hB2 hA1 hA2 hA3 q0 q1 r0 r1 y0 y1 y0' y1' y0a y1a x0 x1 HM2
  go_cut [9] (fun s9 wx => ∃ g9 : Nat, s9 = .pointer (some ⟨g9, 0, none⟩) ∧ Hid (∃ neg p l c, BoxZ wx g9 neg p l c (a / b % 2)) ∧ Hid (Mod [] w3 wx))
  case first =>
    refine wp_sched (by kernel_rfl) (sched_either 1 6 (by decide) (sched_either 1 7 (by decide) (sched_either 2 6 (by decide) (sched_either 2 7 (by decide) (sched_either 6 7 (by decide) (sched_plan5 [([0], 1, [0]), ([], 2, []), ([3, 4, 5], 6, []), ([], 7, []), ([], 8, []), ([], 9, [])] [] (by kernel_rfl) ?L1) (sched_plan5 [([0], 1, [0]), ([], 2, []), ([3, 4, 5], 7, []), ([], 6, []), ([], 8, []), ([], 9, [])] [] (by kernel_rfl) ?L2)) (sched_plan4 [([0], 1, [0]), ([], 7, [0]), ([], 2, []), ([3, 4, 5], 6, []), ([], 8, []), ([], 9, [])] [] (by kernel_rfl) ?L3)) (sched_either 2 7 (by decide) (sched_plan4 [([0], 1, [0]), ([], 6, [0]), ([], 2, []), ([3, 4, 5], 7, []), ([], 8, []), ([], 9, [])] [] (by kernel_rfl) ?L4) (sched_either 6 7 (by decide) (sched_plan5 [([0], 1, [0]), ([], 6, [0]), ([], 7, [0]), ([], 2, []), ([3, 4, 5], 8, []), ([], 9, [])] [] (by kernel_rfl) ?L5) (sched_plan5 [([0], 1, [0]), ([], 7, [0]), ([], 6, [0]), ([], 2, []), ([3, 4, 5], 8, []), ([], 9, [])] [] (by kernel_rfl) ?L6)))) (sched_either 2 6 (by decide) (sched_plan3 [([0], 7, [0]), ([], 1, [0]), ([], 2, []), ([3, 4, 5], 6, []), ([], 8, []), ([], 9, [])] [] (by kernel_rfl) ?L7) (sched_plan3 [([0], 7, [0]), ([], 1, [0]), ([], 6, [0]), ([], 2, []), ([3, 4, 5], 8, []), ([], 9, [])] [] (by kernel_rfl) ?L8))) (sched_either 1 7 (by decide) (sched_either 2 7 (by decide) (sched_plan3 [([0], 6, [0]), ([], 1, [0]), ([], 2, []), ([3, 4, 5], 7, []), ([], 8, []), ([], 9, [])] [] (by kernel_rfl) ?L9) (sched_plan3 [([0], 6, [0]), ([], 1, [0]), ([], 7, [0]), ([], 2, []), ([3, 4, 5], 8, []), ([], 9, [])] [] (by kernel_rfl) ?L10)) (sched_either 6 7 (by decide) (sched_plan3 [([0], 6, [0]), ([], 7, [0]), ([], 1, [0]), ([], 2, []), ([3, 4, 5], 8, []), ([], 9, [])] [] (by kernel_rfl) ?L11) (sched_plan3 [([0], 7, [0]), ([], 6, [0]), ([], 1, [0]), ([], 2, []), ([3, 4, 5], 8, []), ([], 9, [])] [] (by kernel_rfl) ?L12))))
    case L1 =>
      simp only [wpSegs, opsOf, List.map_cons, List.map_nil, opN, List.getD_cons_zero, List.getD_cons_succ]
      obtain ⟨D0, hD0, mD0⟩ : ∃ D, w3.drew = D ∧ Mod [] w3 D := ⟨_, rfl, (Mod.refl [] w3).drew⟩
      rw [hD0]
      have HMc := Lib.hid mD0
      have HQc := Lib.hid (HQB.out.kept0 mD0)
      obtain ⟨c0, c1, _, _⟩ := HQc.out.cells
      clear hD0 mD0
      have HC := Lib.hid (nword_any 2 (by omega) D0)
      go_wp2_with fail
      refine ⟨by first | trivial | rfl, ?_⟩
      go_wp2_with fail
      refine HC.out.mono ?_
      rintro e W1_0 ⟨v, rfl, hv, mA⟩
      obtain ⟨tn, ts, tl, rfl, ht⟩ := hv
      obtain ⟨ta, tc, rfl⟩ := ht.ints.form
      have HMc := Lib.hid (HMc.out.trans mA)
      have HQc := Lib.hid (HQc.out.kept0 mA)
      obtain ⟨c0, c1, _, _⟩ := HQc.out.cells
      have HT := Lib.hid ht
      clear HC mA ht
      go_wp2_with fail
      refine ⟨?ag1_0, ?_⟩
      case ag1_0 =>
        intro i hi hw
        simp only [List.mem_cons, List.not_mem_nil, or_false] at hi
        subst hi
        all_goals (simp only [opN, List.getD_cons_zero, List.getD_cons_succ, slotOf]; go_simp)
      have HC := Lib.hid (ndown_any _ _ (a / b) 2 W1_0 HQc.out.nat ⟨_, _, _, rfl, HT.out⟩ (by omega) HBQ.out (big_of 2 (by omega) (by decide)))
      go_wp2_with fail
      refine ⟨by first | trivial | rfl, ?_⟩
      go_wp2_with fail
      refine HC.out.mono ?_
      rintro e W1_1 ⟨v, v', rfl, hv, hv', mA⟩
      obtain ⟨d1n, d1s, d1l, rfl, hd1⟩ := hv
      obtain ⟨d1a, d1c, rfl⟩ := hd1.ints.form
      obtain ⟨d2n, d2s, d2l, rfl, hd2⟩ := hv'
      obtain ⟨d2a, d2c, rfl⟩ := hd2.ints.form
      have HMc := Lib.hid (HMc.out.trans mA)
      have HQc := Lib.hid (HQc.out.kept0 mA)
      obtain ⟨c0, c1, _, _⟩ := HQc.out.cells
      have HT := Lib.hid (HT.out.kept0 mA)
      have HD1 := Lib.hid hd1
      have HD2 := Lib.hid hd2
      clear HC mA hd1 hd2
      go_wp2_with fail
      refine ⟨again_nil, ?_⟩
      have hge := HMc.out.size
      obtain ⟨W1_2, hA2, kA, sA, mA⟩ := alloc_named2 W1_1 (.cells #[.bool false, .slice none 0 0] 120)
      obtain ⟨g6, hG6⟩ : ∃ g, W1_1.heap.size = g := ⟨_, rfl⟩
      rw [hG6] at kA hge
      have HMc := Lib.hid (HMc.out.trans mA)
      have HQc := Lib.hid (HQc.out.kept0 mA)
      obtain ⟨c0, c1, _, _⟩ := HQc.out.cells
      have HT := Lib.hid (HT.out.kept0 mA)
      have HD1 := Lib.hid (HD1.out.kept0 mA)
      have HD2 := Lib.hid (HD2.out.kept0 mA)
      have HX6 : Hid (BoxZ W1_2 g6 false none [] 0 0) := Lib.hid ⟨kA, ⟨.nil none 0, .nil, .nil, by simp [zOf, rv], by simp⟩⟩
      have HGE6 := Lib.hid hge
      clear kA mA sA hge
      go_wp2_with fail
      refine ⟨by first | trivial | rfl, ?_⟩
      go_wp2_with fail
      refine ⟨again_nil, ?_⟩
      have hlt := lt_of_heap HX6.out.box
      have hge := HMc.out.size
      obtain ⟨W1_3, hA3, kA, sA, mA⟩ := alloc_named2 W1_2 (.cells #[.bool false, .slice none 0 0] 120)
      obtain ⟨g7, hG7⟩ : ∃ g, W1_2.heap.size = g := ⟨_, rfl⟩
      rw [hG7] at kA hge hlt
      have HMc := Lib.hid (HMc.out.trans mA)
      have HQc := Lib.hid (HQc.out.kept0 mA)
      obtain ⟨c0, c1, _, _⟩ := HQc.out.cells
      have HX6 := Lib.hid (HX6.out.kept0 mA)
      have HT := Lib.hid (HT.out.kept0 mA)
      have HD1 := Lib.hid (HD1.out.kept0 mA)
      have HD2 := Lib.hid (HD2.out.kept0 mA)
      have HX7 : Hid (BoxZ W1_3 g7 false none [] 0 0) := Lib.hid ⟨kA, ⟨.nil none 0, .nil, .nil, by simp [zOf, rv], by simp⟩⟩
      have HGE7 := Lib.hid hge
      have HNE := Lib.hid hlt
      clear kA mA sA hge hlt
      go_wp2_with fail
      refine ⟨by first | trivial | rfl, ?_⟩
      go_wp2_with fail
      refine ⟨again_nil, ?_⟩
      obtain ⟨r0, r1, s0, s1⟩ := HX6.out.cells
      obtain ⟨W1_4, hW4⟩ : ∃ W, (W1_3.setCell ⟨g6, 0, none⟩ (.bool d1n)).setCell ⟨g6, 1, none⟩ (.slice d1a d1l.length d1c) = W := ⟨_, rfl⟩
      have hst := HX6.out.set HD1.out
      have hot := HX7.out.other HX6.out.isBox (by have := HNE.out; omega) (.bool d1n) (.slice d1a d1l.length d1c)
      have hd2 := HD2.out.other HX6.out.isBox (.bool d1n) (.slice d1a d1l.length d1c)
      have hmc := (HMc.out.setCellNew (p := ⟨g6, 0, none⟩) (by exact HGE6.out) (.bool d1n)).setCellNew (p := ⟨g6, 1, none⟩) (by exact HGE6.out) (.slice d1a d1l.length d1c)
      rw [hW4] at hst hot hd2 hmc
      have HX6 := Lib.hid hst
      have HX7 := Lib.hid hot
      have HD2 := Lib.hid hd2
      have HMc := Lib.hid hmc
      clear hst hot hd2 hmc
      go_wp2_with fail
      refine ⟨by first | trivial | rfl, ?_⟩
      go_wp2_with fail
      refine ⟨again_nil, ?_⟩
      obtain ⟨r0, r1, s0, s1⟩ := HX7.out.cells
      obtain ⟨W1_5, hW5⟩ : ∃ W, (W1_4.setCell ⟨g7, 0, none⟩ (.bool d2n)).setCell ⟨g7, 1, none⟩ (.slice d2a d2l.length d2c) = W := ⟨_, rfl⟩
      have hst := HX7.out.set HD2.out
      have hot := HX6.out.other HX7.out.isBox (by have := HNE.out; omega) (.bool d2n) (.slice d2a d2l.length d2c)
      have hd2 := HD2.out.other HX7.out.isBox (.bool d2n) (.slice d2a d2l.length d2c)
      have hmc := (HMc.out.setCellNew (p := ⟨g7, 0, none⟩) (by exact HGE7.out) (.bool d2n)).setCellNew (p := ⟨g7, 1, none⟩) (by exact HGE7.out) (.slice d2a d2l.length d2c)
      rw [hW5] at hst hot hd2 hmc
      have HX7 := Lib.hid hst
      have HX6 := Lib.hid hot
      have HD2 := Lib.hid hd2
      have HMc := Lib.hid hmc
      clear hst hot hd2 hmc
      go_wp2_with fail
      refine ⟨by first | trivial | rfl, ?_⟩
      go_wp2_with fail
      refine ⟨again_nil, ?_⟩
      go_wp2_with fail
      refine ⟨by first | trivial | rfl, ?_⟩
      go_wp2_with fail
      go_meet
      exact ⟨g7, by first | rfl | trivial, Lib.hid ⟨_, _, _, _, HX7.out⟩, HMc⟩
    case L2 =>
      simp only [wpSegs, opsOf, List.map_cons, List.map_nil, opN, List.getD_cons_zero, List.getD_cons_succ]
      obtain ⟨D0, hD0, mD0⟩ : ∃ D, w3.drew = D ∧ Mod [] w3 D := ⟨_, rfl, (Mod.refl [] w3).drew⟩
      rw [hD0]
      have HMc := Lib.hid mD0
      have HQc := Lib.hid (HQB.out.kept0 mD0)
      obtain ⟨c0, c1, _, _⟩ := HQc.out.cells
      clear hD0 mD0
      have HC := Lib.hid (nword_any 2 (by omega) D0)
      go_wp2_with fail
      refine ⟨by first | trivial | rfl, ?_⟩
      go_wp2_with fail
      refine HC.out.mono ?_
      rintro e W2_0 ⟨v, rfl, hv, mA⟩
      obtain ⟨tn, ts, tl, rfl, ht⟩ := hv
      obtain ⟨ta, tc, rfl⟩ := ht.ints.form
      have HMc := Lib.hid (HMc.out.trans mA)
      have HQc := Lib.hid (HQc.out.kept0 mA)
      obtain ⟨c0, c1, _, _⟩ := HQc.out.cells
      have HT := Lib.hid ht
      clear HC mA ht
      go_wp2_with fail
      refine ⟨?ag2_0, ?_⟩
      case ag2_0 =>
        intro i hi hw
        simp only [List.mem_cons, List.not_mem_nil, or_false] at hi
        subst hi
        all_goals (simp only [opN, List.getD_cons_zero, List.getD_cons_succ, slotOf]; go_simp)
      have HC := Lib.hid (ndown_any _ _ (a / b) 2 W2_0 HQc.out.nat ⟨_, _, _, rfl, HT.out⟩ (by omega) HBQ.out (big_of 2 (by omega) (by decide)))
      go_wp2_with fail
      refine ⟨by first | trivial | rfl, ?_⟩
      go_wp2_with fail
      refine HC.out.mono ?_
      rintro e W2_1 ⟨v, v', rfl, hv, hv', mA⟩
      obtain ⟨d1n, d1s, d1l, rfl, hd1⟩ := hv
      obtain ⟨d1a, d1c, rfl⟩ := hd1.ints.form
      obtain ⟨d2n, d2s, d2l, rfl, hd2⟩ := hv'
      obtain ⟨d2a, d2c, rfl⟩ := hd2.ints.form
      have HMc := Lib.hid (HMc.out.trans mA)
      have HQc := Lib.hid (HQc.out.kept0 mA)
      obtain ⟨c0, c1, _, _⟩ := HQc.out.cells
      have HT := Lib.hid (HT.out.kept0 mA)
      have HD1 := Lib.hid hd1
      have HD2 := Lib.hid hd2
      clear HC mA hd1 hd2
      go_wp2_with fail
      refine ⟨again_nil, ?_⟩
      have hge := HMc.out.size
      obtain ⟨W2_2, hA2, kA, sA, mA⟩ := alloc_named2 W2_1 (.cells #[.bool false, .slice none 0 0] 120)
      obtain ⟨g7, hG7⟩ : ∃ g, W2_1.heap.size = g := ⟨_, rfl⟩
      rw [hG7] at kA hge
      have HMc := Lib.hid (HMc.out.trans mA)
      have HQc := Lib.hid (HQc.out.kept0 mA)
      obtain ⟨c0, c1, _, _⟩ := HQc.out.cells
      have HT := Lib.hid (HT.out.kept0 mA)
      have HD1 := Lib.hid (HD1.out.kept0 mA)
      have HD2 := Lib.hid (HD2.out.kept0 mA)
      have HX7 : Hid (BoxZ W2_2 g7 false none [] 0 0) := Lib.hid ⟨kA, ⟨.nil none 0, .nil, .nil, by simp [zOf, rv], by simp⟩⟩
      have HGE7 := Lib.hid hge
      clear kA mA sA hge
      go_wp2_with fail
      refine ⟨by first | trivial | rfl, ?_⟩
      go_wp2_with fail
      refine ⟨again_nil, ?_⟩
      have hlt := lt_of_heap HX7.out.box
      have hge := HMc.out.size
      obtain ⟨W2_3, hA3, kA, sA, mA⟩ := alloc_named2 W2_2 (.cells #[.bool false, .slice none 0 0] 120)
      obtain ⟨g6, hG6⟩ : ∃ g, W2_2.heap.size = g := ⟨_, rfl⟩
      rw [hG6] at kA hge hlt
      have HMc := Lib.hid (HMc.out.trans mA)
      have HQc := Lib.hid (HQc.out.kept0 mA)
      obtain ⟨c0, c1, _, _⟩ := HQc.out.cells
      have HX7 := Lib.hid (HX7.out.kept0 mA)
      have HT := Lib.hid (HT.out.kept0 mA)
      have HD1 := Lib.hid (HD1.out.kept0 mA)
      have HD2 := Lib.hid (HD2.out.kept0 mA)
      have HX6 : Hid (BoxZ W2_3 g6 false none [] 0 0) := Lib.hid ⟨kA, ⟨.nil none 0, .nil, .nil, by simp [zOf, rv], by simp⟩⟩
      have HGE6 := Lib.hid hge
      have HNE := Lib.hid hlt
      clear kA mA sA hge hlt
      go_wp2_with fail
      refine ⟨by first | trivial | rfl, ?_⟩
      go_wp2_with fail
      refine ⟨again_nil, ?_⟩
      obtain ⟨r0, r1, s0, s1⟩ := HX6.out.cells
      obtain ⟨W2_4, hW4⟩ : ∃ W, (W2_3.setCell ⟨g6, 0, none⟩ (.bool d1n)).setCell ⟨g6, 1, none⟩ (.slice d1a d1l.length d1c) = W := ⟨_, rfl⟩
      have hst := HX6.out.set HD1.out
      have hot := HX7.out.other HX6.out.isBox (by have := HNE.out; omega) (.bool d1n) (.slice d1a d1l.length d1c)
      have hd2 := HD2.out.other HX6.out.isBox (.bool d1n) (.slice d1a d1l.length d1c)
      have hmc := (HMc.out.setCellNew (p := ⟨g6, 0, none⟩) (by exact HGE6.out) (.bool d1n)).setCellNew (p := ⟨g6, 1, none⟩) (by exact HGE6.out) (.slice d1a d1l.length d1c)
      rw [hW4] at hst hot hd2 hmc
      have HX6 := Lib.hid hst
      have HX7 := Lib.hid hot
      have HD2 := Lib.hid hd2
      have HMc := Lib.hid hmc
      clear hst hot hd2 hmc
      go_wp2_with fail
      refine ⟨by first | trivial | rfl, ?_⟩
      go_wp2_with fail
      refine ⟨again_nil, ?_⟩
      obtain ⟨r0, r1, s0, s1⟩ := HX7.out.cells
      obtain ⟨W2_5, hW5⟩ : ∃ W, (W2_4.setCell ⟨g7, 0, none⟩ (.bool d2n)).setCell ⟨g7, 1, none⟩ (.slice d2a d2l.length d2c) = W := ⟨_, rfl⟩
      have hst := HX7.out.set HD2.out
      have hot := HX6.out.other HX7.out.isBox (by have := HNE.out; omega) (.bool d2n) (.slice d2a d2l.length d2c)
      have hd2 := HD2.out.other HX7.out.isBox (.bool d2n) (.slice d2a d2l.length d2c)
      have hmc := (HMc.out.setCellNew (p := ⟨g7, 0, none⟩) (by exact HGE7.out) (.bool d2n)).setCellNew (p := ⟨g7, 1, none⟩) (by exact HGE7.out) (.slice d2a d2l.length d2c)
      rw [hW5] at hst hot hd2 hmc
      have HX7 := Lib.hid hst
      have HX6 := Lib.hid hot
      have HD2 := Lib.hid hd2
      have HMc := Lib.hid hmc
      clear hst hot hd2 hmc
      go_wp2_with fail
      refine ⟨by first | trivial | rfl, ?_⟩
      go_wp2_with fail
      refine ⟨again_nil, ?_⟩
      go_wp2_with fail
      refine ⟨by first | trivial | rfl, ?_⟩
      go_wp2_with fail
      go_meet
      exact ⟨g7, by first | rfl | trivial, Lib.hid ⟨_, _, _, _, HX7.out⟩, HMc⟩
    case L3 =>
      simp only [wpSegs, opsOf, List.map_cons, List.map_nil, opN, List.getD_cons_zero, List.getD_cons_succ]
      obtain ⟨D0, hD0, mD0⟩ : ∃ D, w3.drew = D ∧ Mod [] w3 D := ⟨_, rfl, (Mod.refl [] w3).drew⟩
      rw [hD0]
      have HMc := Lib.hid mD0
      have HQc := Lib.hid (HQB.out.kept0 mD0)
      obtain ⟨c0, c1, _, _⟩ := HQc.out.cells
      clear hD0 mD0
      have HC := Lib.hid (nword_any 2 (by omega) D0)
      go_wp2_with fail
      refine ⟨by first | trivial | rfl, ?_⟩
      go_wp2_with fail
      refine HC.out.mono ?_
      rintro e W3_0 ⟨v, rfl, hv, mA⟩
      obtain ⟨tn, ts, tl, rfl, ht⟩ := hv
      obtain ⟨ta, tc, rfl⟩ := ht.ints.form
      have HMc := Lib.hid (HMc.out.trans mA)
      have HQc := Lib.hid (HQc.out.kept0 mA)
      obtain ⟨c0, c1, _, _⟩ := HQc.out.cells
      have HT := Lib.hid ht
      clear HC mA ht
      go_wp2_with fail
      refine ⟨?ag3_0, ?_⟩
      case ag3_0 =>
        intro i hi hw
        simp only [List.mem_cons, List.not_mem_nil, or_false] at hi
        subst hi
        all_goals (simp only [opN, List.getD_cons_zero, List.getD_cons_succ, slotOf]; go_simp)
      have hge := HMc.out.size
      obtain ⟨W3_1, hA1, kA, sA, mA⟩ := alloc_named2 W3_0 (.cells #[.bool false, .slice none 0 0] 120)
      obtain ⟨g7, hG7⟩ : ∃ g, W3_0.heap.size = g := ⟨_, rfl⟩
      rw [hG7] at kA hge
      have HMc := Lib.hid (HMc.out.trans mA)
      have HQc := Lib.hid (HQc.out.kept0 mA)
      obtain ⟨c0, c1, _, _⟩ := HQc.out.cells
      have HT := Lib.hid (HT.out.kept0 mA)
      have HX7 : Hid (BoxZ W3_1 g7 false none [] 0 0) := Lib.hid ⟨kA, ⟨.nil none 0, .nil, .nil, by simp [zOf, rv], by simp⟩⟩
      have HGE7 := Lib.hid hge
      clear kA mA sA hge
      go_wp2_with fail
      refine ⟨by first | trivial | rfl, ?_⟩
      go_wp2_with fail
      refine ⟨?ag3_1, ?_⟩
      case ag3_1 =>
        intro i hi hw
        simp only [List.mem_cons, List.not_mem_nil, or_false] at hi
        subst hi
        all_goals (simp only [opN, List.getD_cons_zero, List.getD_cons_succ, slotOf]; go_simp)
      have HC := Lib.hid (ndown_any _ _ (a / b) 2 W3_1 HQc.out.nat ⟨_, _, _, rfl, HT.out⟩ (by omega) HBQ.out (big_of 2 (by omega) (by decide)))
      go_wp2_with fail
      refine ⟨by first | trivial | rfl, ?_⟩
      go_wp2_with fail
      refine HC.out.mono ?_
      rintro e W3_2 ⟨v, v', rfl, hv, hv', mA⟩
      obtain ⟨d1n, d1s, d1l, rfl, hd1⟩ := hv
      obtain ⟨d1a, d1c, rfl⟩ := hd1.ints.form
      obtain ⟨d2n, d2s, d2l, rfl, hd2⟩ := hv'
      obtain ⟨d2a, d2c, rfl⟩ := hd2.ints.form
      have HMc := Lib.hid (HMc.out.trans mA)
      have HQc := Lib.hid (HQc.out.kept0 mA)
      obtain ⟨c0, c1, _, _⟩ := HQc.out.cells
      have HX7 := Lib.hid (HX7.out.kept0 mA)
      have HT := Lib.hid (HT.out.kept0 mA)
      have HD1 := Lib.hid hd1
      have HD2 := Lib.hid hd2
      clear HC mA hd1 hd2
      go_wp2_with fail
      refine ⟨again_nil, ?_⟩
      have hlt := lt_of_heap HX7.out.box
      have hge := HMc.out.size
      obtain ⟨W3_3, hA3, kA, sA, mA⟩ := alloc_named2 W3_2 (.cells #[.bool false, .slice none 0 0] 120)
      obtain ⟨g6, hG6⟩ : ∃ g, W3_2.heap.size = g := ⟨_, rfl⟩
      rw [hG6] at kA hge hlt
      have HMc := Lib.hid (HMc.out.trans mA)
      have HQc := Lib.hid (HQc.out.kept0 mA)
      obtain ⟨c0, c1, _, _⟩ := HQc.out.cells
      have HX7 := Lib.hid (HX7.out.kept0 mA)
      have HT := Lib.hid (HT.out.kept0 mA)
      have HD1 := Lib.hid (HD1.out.kept0 mA)
      have HD2 := Lib.hid (HD2.out.kept0 mA)
      have HX6 : Hid (BoxZ W3_3 g6 false none [] 0 0) := Lib.hid ⟨kA, ⟨.nil none 0, .nil, .nil, by simp [zOf, rv], by simp⟩⟩
      have HGE6 := Lib.hid hge
      have HNE := Lib.hid hlt
      clear kA mA sA hge hlt
      go_wp2_with fail
      refine ⟨by first | trivial | rfl, ?_⟩
      go_wp2_with fail
      refine ⟨again_nil, ?_⟩
      obtain ⟨r0, r1, s0, s1⟩ := HX6.out.cells
      obtain ⟨W3_4, hW4⟩ : ∃ W, (W3_3.setCell ⟨g6, 0, none⟩ (.bool d1n)).setCell ⟨g6, 1, none⟩ (.slice d1a d1l.length d1c) = W := ⟨_, rfl⟩
      have hst := HX6.out.set HD1.out
      have hot := HX7.out.other HX6.out.isBox (by have := HNE.out; omega) (.bool d1n) (.slice d1a d1l.length d1c)
      have hd2 := HD2.out.other HX6.out.isBox (.bool d1n) (.slice d1a d1l.length d1c)
      have hmc := (HMc.out.setCellNew (p := ⟨g6, 0, none⟩) (by exact HGE6.out) (.bool d1n)).setCellNew (p := ⟨g6, 1, none⟩) (by exact HGE6.out) (.slice d1a d1l.length d1c)
      rw [hW4] at hst hot hd2 hmc
      have HX6 := Lib.hid hst
      have HX7 := Lib.hid hot
      have HD2 := Lib.hid hd2
      have HMc := Lib.hid hmc
      clear hst hot hd2 hmc
      go_wp2_with fail
      refine ⟨by first | trivial | rfl, ?_⟩
      go_wp2_with fail
      refine ⟨again_nil, ?_⟩
      obtain ⟨r0, r1, s0, s1⟩ := HX7.out.cells
      obtain ⟨W3_5, hW5⟩ : ∃ W, (W3_4.setCell ⟨g7, 0, none⟩ (.bool d2n)).setCell ⟨g7, 1, none⟩ (.slice d2a d2l.length d2c) = W := ⟨_, rfl⟩
      have hst := HX7.out.set HD2.out
      have hot := HX6.out.other HX7.out.isBox (by have := HNE.out; omega) (.bool d2n) (.slice d2a d2l.length d2c)
      have hd2 := HD2.out.other HX7.out.isBox (.bool d2n) (.slice d2a d2l.length d2c)
      have hmc := (HMc.out.setCellNew (p := ⟨g7, 0, none⟩) (by exact HGE7.out) (.bool d2n)).setCellNew (p := ⟨g7, 1, none⟩) (by exact HGE7.out) (.slice d2a d2l.length d2c)
      rw [hW5] at hst hot hd2 hmc
      have HX7 := Lib.hid hst
      have HX6 := Lib.hid hot
      have HD2 := Lib.hid hd2
      have HMc := Lib.hid hmc
      clear hst hot hd2 hmc
      go_wp2_with fail
      refine ⟨by first | trivial | rfl, ?_⟩
      go_wp2_with fail
      refine ⟨again_nil, ?_⟩
      go_wp2_with fail
      refine ⟨by first | trivial | rfl, ?_⟩
      go_wp2_with fail
      go_meet
      exact ⟨g7, by first | rfl | trivial, Lib.hid ⟨_, _, _, _, HX7.out⟩, HMc⟩
    case L4 =>
      simp only [wpSegs, opsOf, List.map_cons, List.map_nil, opN, List.getD_cons_zero, List.getD_cons_succ]
      obtain ⟨D0, hD0, mD0⟩ : ∃ D, w3.drew = D ∧ Mod [] w3 D := ⟨_, rfl, (Mod.refl [] w3).drew⟩
      rw [hD0]
      have HMc := Lib.hid mD0
      have HQc := Lib.hid (HQB.out.kept0 mD0)
      obtain ⟨c0, c1, _, _⟩ := HQc.out.cells
      clear hD0 mD0
      have HC := Lib.hid (nword_any 2 (by omega) D0)
      go_wp2_with fail
      refine ⟨by first | trivial | rfl, ?_⟩
      go_wp2_with fail
      refine HC.out.mono ?_
      rintro e W4_0 ⟨v, rfl, hv, mA⟩
      obtain ⟨tn, ts, tl, rfl, ht⟩ := hv
      obtain ⟨ta, tc, rfl⟩ := ht.ints.form
      have HMc := Lib.hid (HMc.out.trans mA)
      have HQc := Lib.hid (HQc.out.kept0 mA)
      obtain ⟨c0, c1, _, _⟩ := HQc.out.cells
      have HT := Lib.hid ht
      clear HC mA ht
      go_wp2_with fail
      refine ⟨?ag4_0, ?_⟩
      case ag4_0 =>
        intro i hi hw
        simp only [List.mem_cons, List.not_mem_nil, or_false] at hi
        subst hi
        all_goals (simp only [opN, List.getD_cons_zero, List.getD_cons_succ, slotOf]; go_simp)
      have hge := HMc.out.size
      obtain ⟨W4_1, hA1, kA, sA, mA⟩ := alloc_named2 W4_0 (.cells #[.bool false, .slice none 0 0] 120)
      obtain ⟨g6, hG6⟩ : ∃ g, W4_0.heap.size = g := ⟨_, rfl⟩
      rw [hG6] at kA hge
      have HMc := Lib.hid (HMc.out.trans mA)
      have HQc := Lib.hid (HQc.out.kept0 mA)
      obtain ⟨c0, c1, _, _⟩ := HQc.out.cells
      have HT := Lib.hid (HT.out.kept0 mA)
      have HX6 : Hid (BoxZ W4_1 g6 false none [] 0 0) := Lib.hid ⟨kA, ⟨.nil none 0, .nil, .nil, by simp [zOf, rv], by simp⟩⟩
      have HGE6 := Lib.hid hge
      clear kA mA sA hge
      go_wp2_with fail
      refine ⟨by first | trivial | rfl, ?_⟩
      go_wp2_with fail
      refine ⟨?ag4_1, ?_⟩
      case ag4_1 =>
        intro i hi hw
        simp only [List.mem_cons, List.not_mem_nil, or_false] at hi
        subst hi
        all_goals (simp only [opN, List.getD_cons_zero, List.getD_cons_succ, slotOf]; go_simp)
      have HC := Lib.hid (ndown_any _ _ (a / b) 2 W4_1 HQc.out.nat ⟨_, _, _, rfl, HT.out⟩ (by omega) HBQ.out (big_of 2 (by omega) (by decide)))
      go_wp2_with fail
      refine ⟨by first | trivial | rfl, ?_⟩
      go_wp2_with fail
      refine HC.out.mono ?_
      rintro e W4_2 ⟨v, v', rfl, hv, hv', mA⟩
      obtain ⟨d1n, d1s, d1l, rfl, hd1⟩ := hv
      obtain ⟨d1a, d1c, rfl⟩ := hd1.ints.form
      obtain ⟨d2n, d2s, d2l, rfl, hd2⟩ := hv'
      obtain ⟨d2a, d2c, rfl⟩ := hd2.ints.form
      have HMc := Lib.hid (HMc.out.trans mA)
      have HQc := Lib.hid (HQc.out.kept0 mA)
      obtain ⟨c0, c1, _, _⟩ := HQc.out.cells
      have HX6 := Lib.hid (HX6.out.kept0 mA)
      have HT := Lib.hid (HT.out.kept0 mA)
      have HD1 := Lib.hid hd1
      have HD2 := Lib.hid hd2
      clear HC mA hd1 hd2
      go_wp2_with fail
      refine ⟨again_nil, ?_⟩
      have hlt := lt_of_heap HX6.out.box
      have hge := HMc.out.size
      obtain ⟨W4_3, hA3, kA, sA, mA⟩ := alloc_named2 W4_2 (.cells #[.bool false, .slice none 0 0] 120)
      obtain ⟨g7, hG7⟩ : ∃ g, W4_2.heap.size = g := ⟨_, rfl⟩
      rw [hG7] at kA hge hlt
      have HMc := Lib.hid (HMc.out.trans mA)
      have HQc := Lib.hid (HQc.out.kept0 mA)
      obtain ⟨c0, c1, _, _⟩ := HQc.out.cells
      have HX6 := Lib.hid (HX6.out.kept0 mA)
      have HT := Lib.hid (HT.out.kept0 mA)
      have HD1 := Lib.hid (HD1.out.kept0 mA)
      have HD2 := Lib.hid (HD2.out.kept0 mA)
      have HX7 : Hid (BoxZ W4_3 g7 false none [] 0 0) := Lib.hid ⟨kA, ⟨.nil none 0, .nil, .nil, by simp [zOf, rv], by simp⟩⟩
      have HGE7 := Lib.hid hge
      have HNE := Lib.hid hlt
      clear kA mA sA hge hlt
      go_wp2_with fail
      refine ⟨by first | trivial | rfl, ?_⟩
      go_wp2_with fail
      refine ⟨again_nil, ?_⟩
      obtain ⟨r0, r1, s0, s1⟩ := HX6.out.cells
      obtain ⟨W4_4, hW4⟩ : ∃ W, (W4_3.setCell ⟨g6, 0, none⟩ (.bool d1n)).setCell ⟨g6, 1, none⟩ (.slice d1a d1l.length d1c) = W := ⟨_, rfl⟩
      have hst := HX6.out.set HD1.out
      have hot := HX7.out.other HX6.out.isBox (by have := HNE.out; omega) (.bool d1n) (.slice d1a d1l.length d1c)
      have hd2 := HD2.out.other HX6.out.isBox (.bool d1n) (.slice d1a d1l.length d1c)
      have hmc := (HMc.out.setCellNew (p := ⟨g6, 0, none⟩) (by exact HGE6.out) (.bool d1n)).setCellNew (p := ⟨g6, 1, none⟩) (by exact HGE6.out) (.slice d1a d1l.length d1c)
      rw [hW4] at hst hot hd2 hmc
      have HX6 := Lib.hid hst
      have HX7 := Lib.hid hot
      have HD2 := Lib.hid hd2
      have HMc := Lib.hid hmc
      clear hst hot hd2 hmc
      go_wp2_with fail
      refine ⟨by first | trivial | rfl, ?_⟩
      go_wp2_with fail
      refine ⟨again_nil, ?_⟩
      obtain ⟨r0, r1, s0, s1⟩ := HX7.out.cells
      obtain ⟨W4_5, hW5⟩ : ∃ W, (W4_4.setCell ⟨g7, 0, none⟩ (.bool d2n)).setCell ⟨g7, 1, none⟩ (.slice d2a d2l.length d2c) = W := ⟨_, rfl⟩
      have hst := HX7.out.set HD2.out
      have hot := HX6.out.other HX7.out.isBox (by have := HNE.out; omega) (.bool d2n) (.slice d2a d2l.length d2c)
      have hd2 := HD2.out.other HX7.out.isBox (.bool d2n) (.slice d2a d2l.length d2c)
      have hmc := (HMc.out.setCellNew (p := ⟨g7, 0, none⟩) (by exact HGE7.out) (.bool d2n)).setCellNew (p := ⟨g7, 1, none⟩) (by exact HGE7.out) (.slice d2a d2l.length d2c)
      rw [hW5] at hst hot hd2 hmc
      have HX7 := Lib.hid hst
      have HX6 := Lib.hid hot
      have HD2 := Lib.hid hd2
      have HMc := Lib.hid hmc
      clear hst hot hd2 hmc
      go_wp2_with fail
      refine ⟨by first | trivial | rfl, ?_⟩
      go_wp2_with fail
      refine ⟨again_nil, ?_⟩
      go_wp2_with fail
      refine ⟨by first | trivial | rfl, ?_⟩
      go_wp2_with fail
      go_meet
      exact ⟨g7, by first | rfl | trivial, Lib.hid ⟨_, _, _, _, HX7.out⟩, HMc⟩
    case L5 =>
      simp only [wpSegs, opsOf, List.map_cons, List.map_nil, opN, List.getD_cons_zero, List.getD_cons_succ]
      obtain ⟨D0, hD0, mD0⟩ : ∃ D, w3.drew = D ∧ Mod [] w3 D := ⟨_, rfl, (Mod.refl [] w3).drew⟩
      rw [hD0]
      have HMc := Lib.hid mD0
      have HQc := Lib.hid (HQB.out.kept0 mD0)
      obtain ⟨c0, c1, _, _⟩ := HQc.out.cells
      clear hD0 mD0
      have HC := Lib.hid (nword_any 2 (by omega) D0)
      go_wp2_with fail
      refine ⟨by first | trivial | rfl, ?_⟩
      go_wp2_with fail
      refine HC.out.mono ?_
      rintro e W5_0 ⟨v, rfl, hv, mA⟩
      obtain ⟨tn, ts, tl, rfl, ht⟩ := hv
      obtain ⟨ta, tc, rfl⟩ := ht.ints.form
      have HMc := Lib.hid (HMc.out.trans mA)
      have HQc := Lib.hid (HQc.out.kept0 mA)
      obtain ⟨c0, c1, _, _⟩ := HQc.out.cells
      have HT := Lib.hid ht
      clear HC mA ht
      go_wp2_with fail
      refine ⟨?ag5_0, ?_⟩
      case ag5_0 =>
        intro i hi hw
        simp only [List.mem_cons, List.not_mem_nil, or_false] at hi
        subst hi
        all_goals (simp only [opN, List.getD_cons_zero, List.getD_cons_succ, slotOf]; go_simp)
      have hge := HMc.out.size
      obtain ⟨W5_1, hA1, kA, sA, mA⟩ := alloc_named2 W5_0 (.cells #[.bool false, .slice none 0 0] 120)
      obtain ⟨g6, hG6⟩ : ∃ g, W5_0.heap.size = g := ⟨_, rfl⟩
      rw [hG6] at kA hge
      have HMc := Lib.hid (HMc.out.trans mA)
      have HQc := Lib.hid (HQc.out.kept0 mA)
      obtain ⟨c0, c1, _, _⟩ := HQc.out.cells
      have HT := Lib.hid (HT.out.kept0 mA)
      have HX6 : Hid (BoxZ W5_1 g6 false none [] 0 0) := Lib.hid ⟨kA, ⟨.nil none 0, .nil, .nil, by simp [zOf, rv], by simp⟩⟩
      have HGE6 := Lib.hid hge
      clear kA mA sA hge
      go_wp2_with fail
      refine ⟨by first | trivial | rfl, ?_⟩
      go_wp2_with fail
      refine ⟨?ag5_1, ?_⟩
      case ag5_1 =>
        intro i hi hw
        simp only [List.mem_cons, List.not_mem_nil, or_false] at hi
        subst hi
        all_goals (simp only [opN, List.getD_cons_zero, List.getD_cons_succ, slotOf]; go_simp)
      have hlt := lt_of_heap HX6.out.box
      have hge := HMc.out.size
      obtain ⟨W5_2, hA2, kA, sA, mA⟩ := alloc_named2 W5_1 (.cells #[.bool false, .slice none 0 0] 120)
      obtain ⟨g7, hG7⟩ : ∃ g, W5_1.heap.size = g := ⟨_, rfl⟩
      rw [hG7] at kA hge hlt
      have HMc := Lib.hid (HMc.out.trans mA)
      have HQc := Lib.hid (HQc.out.kept0 mA)
      obtain ⟨c0, c1, _, _⟩ := HQc.out.cells
      have HX6 := Lib.hid (HX6.out.kept0 mA)
      have HT := Lib.hid (HT.out.kept0 mA)
      have HX7 : Hid (BoxZ W5_2 g7 false none [] 0 0) := Lib.hid ⟨kA, ⟨.nil none 0, .nil, .nil, by simp [zOf, rv], by simp⟩⟩
      have HGE7 := Lib.hid hge
      have HNE := Lib.hid hlt
      clear kA mA sA hge hlt
      go_wp2_with fail
      refine ⟨by first | trivial | rfl, ?_⟩
      go_wp2_with fail
      refine ⟨?ag5_2, ?_⟩
      case ag5_2 =>
        intro i hi hw
        simp only [List.mem_cons, List.not_mem_nil, or_false] at hi
        subst hi
        all_goals (simp only [opN, List.getD_cons_zero, List.getD_cons_succ, slotOf]; go_simp)
      have HC := Lib.hid (ndown_any _ _ (a / b) 2 W5_2 HQc.out.nat ⟨_, _, _, rfl, HT.out⟩ (by omega) HBQ.out (big_of 2 (by omega) (by decide)))
      go_wp2_with fail
      refine ⟨by first | trivial | rfl, ?_⟩
      go_wp2_with fail
      refine HC.out.mono ?_
      rintro e W5_3 ⟨v, v', rfl, hv, hv', mA⟩
      obtain ⟨d1n, d1s, d1l, rfl, hd1⟩ := hv
      obtain ⟨d1a, d1c, rfl⟩ := hd1.ints.form
      obtain ⟨d2n, d2s, d2l, rfl, hd2⟩ := hv'
      obtain ⟨d2a, d2c, rfl⟩ := hd2.ints.form
      have HMc := Lib.hid (HMc.out.trans mA)
      have HQc := Lib.hid (HQc.out.kept0 mA)
      obtain ⟨c0, c1, _, _⟩ := HQc.out.cells
      have HX6 := Lib.hid (HX6.out.kept0 mA)
      have HX7 := Lib.hid (HX7.out.kept0 mA)
      have HT := Lib.hid (HT.out.kept0 mA)
      have HD1 := Lib.hid hd1
      have HD2 := Lib.hid hd2
      clear HC mA hd1 hd2
      go_wp2_with fail
      refine ⟨again_nil, ?_⟩
      obtain ⟨r0, r1, s0, s1⟩ := HX6.out.cells
      obtain ⟨W5_4, hW4⟩ : ∃ W, (W5_3.setCell ⟨g6, 0, none⟩ (.bool d1n)).setCell ⟨g6, 1, none⟩ (.slice d1a d1l.length d1c) = W := ⟨_, rfl⟩
      have hst := HX6.out.set HD1.out
      have hot := HX7.out.other HX6.out.isBox (by have := HNE.out; omega) (.bool d1n) (.slice d1a d1l.length d1c)
      have hd2 := HD2.out.other HX6.out.isBox (.bool d1n) (.slice d1a d1l.length d1c)
      have hmc := (HMc.out.setCellNew (p := ⟨g6, 0, none⟩) (by exact HGE6.out) (.bool d1n)).setCellNew (p := ⟨g6, 1, none⟩) (by exact HGE6.out) (.slice d1a d1l.length d1c)
      rw [hW4] at hst hot hd2 hmc
      have HX6 := Lib.hid hst
      have HX7 := Lib.hid hot
      have HD2 := Lib.hid hd2
      have HMc := Lib.hid hmc
      clear hst hot hd2 hmc
      go_wp2_with fail
      refine ⟨by first | trivial | rfl, ?_⟩
      go_wp2_with fail
      refine ⟨again_nil, ?_⟩
      obtain ⟨r0, r1, s0, s1⟩ := HX7.out.cells
      obtain ⟨W5_5, hW5⟩ : ∃ W, (W5_4.setCell ⟨g7, 0, none⟩ (.bool d2n)).setCell ⟨g7, 1, none⟩ (.slice d2a d2l.length d2c) = W := ⟨_, rfl⟩
      have hst := HX7.out.set HD2.out
      have hot := HX6.out.other HX7.out.isBox (by have := HNE.out; omega) (.bool d2n) (.slice d2a d2l.length d2c)
      have hd2 := HD2.out.other HX7.out.isBox (.bool d2n) (.slice d2a d2l.length d2c)
      have hmc := (HMc.out.setCellNew (p := ⟨g7, 0, none⟩) (by exact HGE7.out) (.bool d2n)).setCellNew (p := ⟨g7, 1, none⟩) (by exact HGE7.out) (.slice d2a d2l.length d2c)
      rw [hW5] at hst hot hd2 hmc
      have HX7 := Lib.hid hst
      have HX6 := Lib.hid hot
      have HD2 := Lib.hid hd2
      have HMc := Lib.hid hmc
      clear hst hot hd2 hmc
      go_wp2_with fail
      refine ⟨by first | trivial | rfl, ?_⟩
      go_wp2_with fail
      refine ⟨again_nil, ?_⟩
      go_wp2_with fail
      refine ⟨by first | trivial | rfl, ?_⟩
      go_wp2_with fail
      go_meet
      exact ⟨g7, by first | rfl | trivial, Lib.hid ⟨_, _, _, _, HX7.out⟩, HMc⟩
    case L6 =>
      simp only [wpSegs, opsOf, List.map_cons, List.map_nil, opN, List.getD_cons_zero, List.getD_cons_succ]
      obtain ⟨D0, hD0, mD0⟩ : ∃ D, w3.drew = D ∧ Mod [] w3 D := ⟨_, rfl, (Mod.refl [] w3).drew⟩
      rw [hD0]
      have HMc := Lib.hid mD0
      have HQc := Lib.hid (HQB.out.kept0 mD0)
      obtain ⟨c0, c1, _, _⟩ := HQc.out.cells
      clear hD0 mD0
      have HC := Lib.hid (nword_any 2 (by omega) D0)
      go_wp2_with fail
      refine ⟨by first | trivial | rfl, ?_⟩
      go_wp2_with fail
      refine HC.out.mono ?_
      rintro e W6_0 ⟨v, rfl, hv, mA⟩
      obtain ⟨tn, ts, tl, rfl, ht⟩ := hv
      obtain ⟨ta, tc, rfl⟩ := ht.ints.form
      have HMc := Lib.hid (HMc.out.trans mA)
      have HQc := Lib.hid (HQc.out.kept0 mA)
      obtain ⟨c0, c1, _, _⟩ := HQc.out.cells
      have HT := Lib.hid ht
      clear HC mA ht
      go_wp2_with fail
      refine ⟨?ag6_0, ?_⟩
      case ag6_0 =>
        intro i hi hw
        simp only [List.mem_cons, List.not_mem_nil, or_false] at hi
        subst hi
        all_goals (simp only [opN, List.getD_cons_zero, List.getD_cons_succ, slotOf]; go_simp)
      have hge := HMc.out.size
      obtain ⟨W6_1, hA1, kA, sA, mA⟩ := alloc_named2 W6_0 (.cells #[.bool false, .slice none 0 0] 120)
      obtain ⟨g7, hG7⟩ : ∃ g, W6_0.heap.size = g := ⟨_, rfl⟩
      rw [hG7] at kA hge
      have HMc := Lib.hid (HMc.out.trans mA)
      have HQc := Lib.hid (HQc.out.kept0 mA)
      obtain ⟨c0, c1, _, _⟩ := HQc.out.cells
      have HT := Lib.hid (HT.out.kept0 mA)
      have HX7 : Hid (BoxZ W6_1 g7 false none [] 0 0) := Lib.hid ⟨kA, ⟨.nil none 0, .nil, .nil, by simp [zOf, rv], by simp⟩⟩
      have HGE7 := Lib.hid hge
      clear kA mA sA hge
      go_wp2_with fail
      refine ⟨by first | trivial | rfl, ?_⟩
      go_wp2_with fail
      refine ⟨?ag6_1, ?_⟩
      case ag6_1 =>
        intro i hi hw
        simp only [List.mem_cons, List.not_mem_nil, or_false] at hi
        subst hi
        all_goals (simp only [opN, List.getD_cons_zero, List.getD_cons_succ, slotOf]; go_simp)
      have hlt := lt_of_heap HX7.out.box
      have hge := HMc.out.size
      obtain ⟨W6_2, hA2, kA, sA, mA⟩ := alloc_named2 W6_1 (.cells #[.bool false, .slice none 0 0] 120)
      obtain ⟨g6, hG6⟩ : ∃ g, W6_1.heap.size = g := ⟨_, rfl⟩
      rw [hG6] at kA hge hlt
      have HMc := Lib.hid (HMc.out.trans mA)
      have HQc := Lib.hid (HQc.out.kept0 mA)
      obtain ⟨c0, c1, _, _⟩ := HQc.out.cells
      have HX7 := Lib.hid (HX7.out.kept0 mA)
      have HT := Lib.hid (HT.out.kept0 mA)
      have HX6 : Hid (BoxZ W6_2 g6 false none [] 0 0) := Lib.hid ⟨kA, ⟨.nil none 0, .nil, .nil, by simp [zOf, rv], by simp⟩⟩
      have HGE6 := Lib.hid hge
      have HNE := Lib.hid hlt
      clear kA mA sA hge hlt
      go_wp2_with fail
      refine ⟨by first | trivial | rfl, ?_⟩
      go_wp2_with fail
      refine ⟨?ag6_2, ?_⟩
      case ag6_2 =>
        intro i hi hw
        simp only [List.mem_cons, List.not_mem_nil, or_false] at hi
        subst hi
        all_goals (simp only [opN, List.getD_cons_zero, List.getD_cons_succ, slotOf]; go_simp)
      have HC := Lib.hid (ndown_any _ _ (a / b) 2 W6_2 HQc.out.nat ⟨_, _, _, rfl, HT.out⟩ (by omega) HBQ.out (big_of 2 (by omega) (by decide)))
      go_wp2_with fail
      refine ⟨by first | trivial | rfl, ?_⟩
      go_wp2_with fail
      refine HC.out.mono ?_
      rintro e W6_3 ⟨v, v', rfl, hv, hv', mA⟩
      obtain ⟨d1n, d1s, d1l, rfl, hd1⟩ := hv
      obtain ⟨d1a, d1c, rfl⟩ := hd1.ints.form
      obtain ⟨d2n, d2s, d2l, rfl, hd2⟩ := hv'
      obtain ⟨d2a, d2c, rfl⟩ := hd2.ints.form
      have HMc := Lib.hid (HMc.out.trans mA)
      have HQc := Lib.hid (HQc.out.kept0 mA)
      obtain ⟨c0, c1, _, _⟩ := HQc.out.cells
      have HX7 := Lib.hid (HX7.out.kept0 mA)
      have HX6 := Lib.hid (HX6.out.kept0 mA)
      have HT := Lib.hid (HT.out.kept0 mA)
      have HD1 := Lib.hid hd1
      have HD2 := Lib.hid hd2
      clear HC mA hd1 hd2
      go_wp2_with fail
      refine ⟨again_nil, ?_⟩
      obtain ⟨r0, r1, s0, s1⟩ := HX6.out.cells
      obtain ⟨W6_4, hW4⟩ : ∃ W, (W6_3.setCell ⟨g6, 0, none⟩ (.bool d1n)).setCell ⟨g6, 1, none⟩ (.slice d1a d1l.length d1c) = W := ⟨_, rfl⟩
      have hst := HX6.out.set HD1.out
      have hot := HX7.out.other HX6.out.isBox (by have := HNE.out; omega) (.bool d1n) (.slice d1a d1l.length d1c)
      have hd2 := HD2.out.other HX6.out.isBox (.bool d1n) (.slice d1a d1l.length d1c)
      have hmc := (HMc.out.setCellNew (p := ⟨g6, 0, none⟩) (by exact HGE6.out) (.bool d1n)).setCellNew (p := ⟨g6, 1, none⟩) (by exact HGE6.out) (.slice d1a d1l.length d1c)
      rw [hW4] at hst hot hd2 hmc
      have HX6 := Lib.hid hst
      have HX7 := Lib.hid hot
      have HD2 := Lib.hid hd2
      have HMc := Lib.hid hmc
      clear hst hot hd2 hmc
      go_wp2_with fail
      refine ⟨by first | trivial | rfl, ?_⟩
      go_wp2_with fail
      refine ⟨again_nil, ?_⟩
      obtain ⟨r0, r1, s0, s1⟩ := HX7.out.cells
      obtain ⟨W6_5, hW5⟩ : ∃ W, (W6_4.setCell ⟨g7, 0, none⟩ (.bool d2n)).setCell ⟨g7, 1, none⟩ (.slice d2a d2l.length d2c) = W := ⟨_, rfl⟩
      have hst := HX7.out.set HD2.out
      have hot := HX6.out.other HX7.out.isBox (by have := HNE.out; omega) (.bool d2n) (.slice d2a d2l.length d2c)
      have hd2 := HD2.out.other HX7.out.isBox (.bool d2n) (.slice d2a d2l.length d2c)
      have hmc := (HMc.out.setCellNew (p := ⟨g7, 0, none⟩) (by exact HGE7.out) (.bool d2n)).setCellNew (p := ⟨g7, 1, none⟩) (by exact HGE7.out) (.slice d2a d2l.length d2c)
      rw [hW5] at hst hot hd2 hmc
      have HX7 := Lib.hid hst
      have HX6 := Lib.hid hot
      have HD2 := Lib.hid hd2
      have HMc := Lib.hid hmc
      clear hst hot hd2 hmc
      go_wp2_with fail
      refine ⟨by first | trivial | rfl, ?_⟩
      go_wp2_with fail
      refine ⟨again_nil, ?_⟩
      go_wp2_with fail
      refine ⟨by first | trivial | rfl, ?_⟩
      go_wp2_with fail
      go_meet
      exact ⟨g7, by first | rfl | trivial, Lib.hid ⟨_, _, _, _, HX7.out⟩, HMc⟩
    case L7 =>
      simp only [wpSegs, opsOf, List.map_cons, List.map_nil, opN, List.getD_cons_zero, List.getD_cons_succ]
      obtain ⟨D0, hD0, mD0⟩ : ∃ D, w3.drew = D ∧ Mod [] w3 D := ⟨_, rfl, (Mod.refl [] w3).drew⟩
      rw [hD0]
      have HMc := Lib.hid mD0
      have HQc := Lib.hid (HQB.out.kept0 mD0)
      obtain ⟨c0, c1, _, _⟩ := HQc.out.cells
      clear hD0 mD0
      have hge := HMc.out.size
      obtain ⟨W7_0, hA0, kA, sA, mA⟩ := alloc_named2 D0 (.cells #[.bool false, .slice none 0 0] 120)
      obtain ⟨g7, hG7⟩ : ∃ g, D0.heap.size = g := ⟨_, rfl⟩
      rw [hG7] at kA hge
      have HMc := Lib.hid (HMc.out.trans mA)
      have HQc := Lib.hid (HQc.out.kept0 mA)
      obtain ⟨c0, c1, _, _⟩ := HQc.out.cells
      have HX7 : Hid (BoxZ W7_0 g7 false none [] 0 0) := Lib.hid ⟨kA, ⟨.nil none 0, .nil, .nil, by simp [zOf, rv], by simp⟩⟩
      have HGE7 := Lib.hid hge
      clear kA mA sA hge
      go_wp2_with fail
      refine ⟨by first | trivial | rfl, ?_⟩
      go_wp2_with fail
      refine ⟨?ag7_0, ?_⟩
      case ag7_0 =>
        intro i hi hw
        simp only [List.mem_cons, List.not_mem_nil, or_false] at hi
        subst hi
        all_goals (simp only [opN, List.getD_cons_zero, List.getD_cons_succ, slotOf]; go_simp)
      have HC := Lib.hid (nword_any 2 (by omega) W7_0)
      go_wp2_with fail
      refine ⟨by first | trivial | rfl, ?_⟩
      go_wp2_with fail
      refine HC.out.mono ?_
      rintro e W7_1 ⟨v, rfl, hv, mA⟩
      obtain ⟨tn, ts, tl, rfl, ht⟩ := hv
      obtain ⟨ta, tc, rfl⟩ := ht.ints.form
      have HMc := Lib.hid (HMc.out.trans mA)
      have HQc := Lib.hid (HQc.out.kept0 mA)
      obtain ⟨c0, c1, _, _⟩ := HQc.out.cells
      have HX7 := Lib.hid (HX7.out.kept0 mA)
      have HT := Lib.hid ht
      clear HC mA ht
      go_wp2_with fail
      refine ⟨?ag7_1, ?_⟩
      case ag7_1 =>
        intro i hi hw
        simp only [List.mem_cons, List.not_mem_nil, or_false] at hi
        subst hi
        all_goals (simp only [opN, List.getD_cons_zero, List.getD_cons_succ, slotOf]; go_simp)
      have HC := Lib.hid (ndown_any _ _ (a / b) 2 W7_1 HQc.out.nat ⟨_, _, _, rfl, HT.out⟩ (by omega) HBQ.out (big_of 2 (by omega) (by decide)))
      go_wp2_with fail
      refine ⟨by first | trivial | rfl, ?_⟩
      go_wp2_with fail
      refine HC.out.mono ?_
      rintro e W7_2 ⟨v, v', rfl, hv, hv', mA⟩
      obtain ⟨d1n, d1s, d1l, rfl, hd1⟩ := hv
      obtain ⟨d1a, d1c, rfl⟩ := hd1.ints.form
      obtain ⟨d2n, d2s, d2l, rfl, hd2⟩ := hv'
      obtain ⟨d2a, d2c, rfl⟩ := hd2.ints.form
      have HMc := Lib.hid (HMc.out.trans mA)
      have HQc := Lib.hid (HQc.out.kept0 mA)
      obtain ⟨c0, c1, _, _⟩ := HQc.out.cells
      have HX7 := Lib.hid (HX7.out.kept0 mA)
      have HT := Lib.hid (HT.out.kept0 mA)
      have HD1 := Lib.hid hd1
      have HD2 := Lib.hid hd2
      clear HC mA hd1 hd2
      go_wp2_with fail
      refine ⟨again_nil, ?_⟩
      have hlt := lt_of_heap HX7.out.box
      have hge := HMc.out.size
      obtain ⟨W7_3, hA3, kA, sA, mA⟩ := alloc_named2 W7_2 (.cells #[.bool false, .slice none 0 0] 120)
      obtain ⟨g6, hG6⟩ : ∃ g, W7_2.heap.size = g := ⟨_, rfl⟩
      rw [hG6] at kA hge hlt
      have HMc := Lib.hid (HMc.out.trans mA)
      have HQc := Lib.hid (HQc.out.kept0 mA)
      obtain ⟨c0, c1, _, _⟩ := HQc.out.cells
      have HX7 := Lib.hid (HX7.out.kept0 mA)
      have HT := Lib.hid (HT.out.kept0 mA)
      have HD1 := Lib.hid (HD1.out.kept0 mA)
      have HD2 := Lib.hid (HD2.out.kept0 mA)
      have HX6 : Hid (BoxZ W7_3 g6 false none [] 0 0) := Lib.hid ⟨kA, ⟨.nil none 0, .nil, .nil, by simp [zOf, rv], by simp⟩⟩
      have HGE6 := Lib.hid hge
      have HNE := Lib.hid hlt
      clear kA mA sA hge hlt
      go_wp2_with fail
      refine ⟨by first | trivial | rfl, ?_⟩
      go_wp2_with fail
      refine ⟨again_nil, ?_⟩
      obtain ⟨r0, r1, s0, s1⟩ := HX6.out.cells
      obtain ⟨W7_4, hW4⟩ : ∃ W, (W7_3.setCell ⟨g6, 0, none⟩ (.bool d1n)).setCell ⟨g6, 1, none⟩ (.slice d1a d1l.length d1c) = W := ⟨_, rfl⟩
      have hst := HX6.out.set HD1.out
      have hot := HX7.out.other HX6.out.isBox (by have := HNE.out; omega) (.bool d1n) (.slice d1a d1l.length d1c)
      have hd2 := HD2.out.other HX6.out.isBox (.bool d1n) (.slice d1a d1l.length d1c)
      have hmc := (HMc.out.setCellNew (p := ⟨g6, 0, none⟩) (by exact HGE6.out) (.bool d1n)).setCellNew (p := ⟨g6, 1, none⟩) (by exact HGE6.out) (.slice d1a d1l.length d1c)
      rw [hW4] at hst hot hd2 hmc
      have HX6 := Lib.hid hst
      have HX7 := Lib.hid hot
      have HD2 := Lib.hid hd2
      have HMc := Lib.hid hmc
      clear hst hot hd2 hmc
      go_wp2_with fail
      refine ⟨by first | trivial | rfl, ?_⟩
      go_wp2_with fail
      refine ⟨again_nil, ?_⟩
      obtain ⟨r0, r1, s0, s1⟩ := HX7.out.cells
      obtain ⟨W7_5, hW5⟩ : ∃ W, (W7_4.setCell ⟨g7, 0, none⟩ (.bool d2n)).setCell ⟨g7, 1, none⟩ (.slice d2a d2l.length d2c) = W := ⟨_, rfl⟩
      have hst := HX7.out.set HD2.out
      have hot := HX6.out.other HX7.out.isBox (by have := HNE.out; omega) (.bool d2n) (.slice d2a d2l.length d2c)
      have hd2 := HD2.out.other HX7.out.isBox (.bool d2n) (.slice d2a d2l.length d2c)
      have hmc := (HMc.out.setCellNew (p := ⟨g7, 0, none⟩) (by exact HGE7.out) (.bool d2n)).setCellNew (p := ⟨g7, 1, none⟩) (by exact HGE7.out) (.slice d2a d2l.length d2c)
      rw [hW5] at hst hot hd2 hmc
      have HX7 := Lib.hid hst
      have HX6 := Lib.hid hot
      have HD2 := Lib.hid hd2
      have HMc := Lib.hid hmc
      clear hst hot hd2 hmc
      go_wp2_with fail
      refine ⟨by first | trivial | rfl, ?_⟩
      go_wp2_with fail
      refine ⟨again_nil, ?_⟩
      go_wp2_with fail
      refine ⟨by first | trivial | rfl, ?_⟩
      go_wp2_with fail
      go_meet
      exact ⟨g7, by first | rfl | trivial, Lib.hid ⟨_, _, _, _, HX7.out⟩, HMc⟩
    case L8 =>
      simp only [wpSegs, opsOf, List.map_cons, List.map_nil, opN, List.getD_cons_zero, List.getD_cons_succ]
      obtain ⟨D0, hD0, mD0⟩ : ∃ D, w3.drew = D ∧ Mod [] w3 D := ⟨_, rfl, (Mod.refl [] w3).drew⟩
      rw [hD0]
      have HMc := Lib.hid mD0
      have HQc := Lib.hid (HQB.out.kept0 mD0)
      obtain ⟨c0, c1, _, _⟩ := HQc.out.cells
      clear hD0 mD0
      have hge := HMc.out.size
      obtain ⟨W8_0, hA0, kA, sA, mA⟩ := alloc_named2 D0 (.cells #[.bool false, .slice none 0 0] 120)
      obtain ⟨g7, hG7⟩ : ∃ g, D0.heap.size = g := ⟨_, rfl⟩
      rw [hG7] at kA hge
      have HMc := Lib.hid (HMc.out.trans mA)
      have HQc := Lib.hid (HQc.out.kept0 mA)
      obtain ⟨c0, c1, _, _⟩ := HQc.out.cells
      have HX7 : Hid (BoxZ W8_0 g7 false none [] 0 0) := Lib.hid ⟨kA, ⟨.nil none 0, .nil, .nil, by simp [zOf, rv], by simp⟩⟩
      have HGE7 := Lib.hid hge
      clear kA mA sA hge
      go_wp2_with fail
      refine ⟨by first | trivial | rfl, ?_⟩
      go_wp2_with fail
      refine ⟨?ag8_0, ?_⟩
      case ag8_0 =>
        intro i hi hw
        simp only [List.mem_cons, List.not_mem_nil, or_false] at hi
        subst hi
        all_goals (simp only [opN, List.getD_cons_zero, List.getD_cons_succ, slotOf]; go_simp)
      have HC := Lib.hid (nword_any 2 (by omega) W8_0)
      go_wp2_with fail
      refine ⟨by first | trivial | rfl, ?_⟩
      go_wp2_with fail
      refine HC.out.mono ?_
      rintro e W8_1 ⟨v, rfl, hv, mA⟩
      obtain ⟨tn, ts, tl, rfl, ht⟩ := hv
      obtain ⟨ta, tc, rfl⟩ := ht.ints.form
      have HMc := Lib.hid (HMc.out.trans mA)
      have HQc := Lib.hid (HQc.out.kept0 mA)
      obtain ⟨c0, c1, _, _⟩ := HQc.out.cells
      have HX7 := Lib.hid (HX7.out.kept0 mA)
      have HT := Lib.hid ht
      clear HC mA ht
      go_wp2_with fail
      refine ⟨?ag8_1, ?_⟩
      case ag8_1 =>
        intro i hi hw
        simp only [List.mem_cons, List.not_mem_nil, or_false] at hi
        subst hi
        all_goals (simp only [opN, List.getD_cons_zero, List.getD_cons_succ, slotOf]; go_simp)
      have hlt := lt_of_heap HX7.out.box
      have hge := HMc.out.size
      obtain ⟨W8_2, hA2, kA, sA, mA⟩ := alloc_named2 W8_1 (.cells #[.bool false, .slice none 0 0] 120)
      obtain ⟨g6, hG6⟩ : ∃ g, W8_1.heap.size = g := ⟨_, rfl⟩
      rw [hG6] at kA hge hlt
      have HMc := Lib.hid (HMc.out.trans mA)
      have HQc := Lib.hid (HQc.out.kept0 mA)
      obtain ⟨c0, c1, _, _⟩ := HQc.out.cells
      have HX7 := Lib.hid (HX7.out.kept0 mA)
      have HT := Lib.hid (HT.out.kept0 mA)
      have HX6 : Hid (BoxZ W8_2 g6 false none [] 0 0) := Lib.hid ⟨kA, ⟨.nil none 0, .nil, .nil, by simp [zOf, rv], by simp⟩⟩
      have HGE6 := Lib.hid hge
      have HNE := Lib.hid hlt
      clear kA mA sA hge hlt
      go_wp2_with fail
      refine ⟨by first | trivial | rfl, ?_⟩
      go_wp2_with fail
      refine ⟨?ag8_2, ?_⟩
      case ag8_2 =>
        intro i hi hw
        simp only [List.mem_cons, List.not_mem_nil, or_false] at hi
        subst hi
        all_goals (simp only [opN, List.getD_cons_zero, List.getD_cons_succ, slotOf]; go_simp)
      have HC := Lib.hid (ndown_any _ _ (a / b) 2 W8_2 HQc.out.nat ⟨_, _, _, rfl, HT.out⟩ (by omega) HBQ.out (big_of 2 (by omega) (by decide)))
      go_wp2_with fail
      refine ⟨by first | trivial | rfl, ?_⟩
      go_wp2_with fail
      refine HC.out.mono ?_
      rintro e W8_3 ⟨v, v', rfl, hv, hv', mA⟩
      obtain ⟨d1n, d1s, d1l, rfl, hd1⟩ := hv
      obtain ⟨d1a, d1c, rfl⟩ := hd1.ints.form
      obtain ⟨d2n, d2s, d2l, rfl, hd2⟩ := hv'
      obtain ⟨d2a, d2c, rfl⟩ := hd2.ints.form
      have HMc := Lib.hid (HMc.out.trans mA)
      have HQc := Lib.hid (HQc.out.kept0 mA)
      obtain ⟨c0, c1, _, _⟩ := HQc.out.cells
      have HX7 := Lib.hid (HX7.out.kept0 mA)
      have HX6 := Lib.hid (HX6.out.kept0 mA)
      have HT := Lib.hid (HT.out.kept0 mA)
      have HD1 := Lib.hid hd1
      have HD2 := Lib.hid hd2
      clear HC mA hd1 hd2
      go_wp2_with fail
      refine ⟨again_nil, ?_⟩
      obtain ⟨r0, r1, s0, s1⟩ := HX6.out.cells
      obtain ⟨W8_4, hW4⟩ : ∃ W, (W8_3.setCell ⟨g6, 0, none⟩ (.bool d1n)).setCell ⟨g6, 1, none⟩ (.slice d1a d1l.length d1c) = W := ⟨_, rfl⟩
      have hst := HX6.out.set HD1.out
      have hot := HX7.out.other HX6.out.isBox (by have := HNE.out; omega) (.bool d1n) (.slice d1a d1l.length d1c)
      have hd2 := HD2.out.other HX6.out.isBox (.bool d1n) (.slice d1a d1l.length d1c)
      have hmc := (HMc.out.setCellNew (p := ⟨g6, 0, none⟩) (by exact HGE6.out) (.bool d1n)).setCellNew (p := ⟨g6, 1, none⟩) (by exact HGE6.out) (.slice d1a d1l.length d1c)
      rw [hW4] at hst hot hd2 hmc
      have HX6 := Lib.hid hst
      have HX7 := Lib.hid hot
      have HD2 := Lib.hid hd2
      have HMc := Lib.hid hmc
      clear hst hot hd2 hmc
      go_wp2_with fail
      refine ⟨by first | trivial | rfl, ?_⟩
      go_wp2_with fail
      refine ⟨again_nil, ?_⟩
      obtain ⟨r0, r1, s0, s1⟩ := HX7.out.cells
      obtain ⟨W8_5, hW5⟩ : ∃ W, (W8_4.setCell ⟨g7, 0, none⟩ (.bool d2n)).setCell ⟨g7, 1, none⟩ (.slice d2a d2l.length d2c) = W := ⟨_, rfl⟩
      have hst := HX7.out.set HD2.out
      have hot := HX6.out.other HX7.out.isBox (by have := HNE.out; omega) (.bool d2n) (.slice d2a d2l.length d2c)
      have hd2 := HD2.out.other HX7.out.isBox (.bool d2n) (.slice d2a d2l.length d2c)
      have hmc := (HMc.out.setCellNew (p := ⟨g7, 0, none⟩) (by exact HGE7.out) (.bool d2n)).setCellNew (p := ⟨g7, 1, none⟩) (by exact HGE7.out) (.slice d2a d2l.length d2c)
      rw [hW5] at hst hot hd2 hmc
      have HX7 := Lib.hid hst
      have HX6 := Lib.hid hot
      have HD2 := Lib.hid hd2
      have HMc := Lib.hid hmc
      clear hst hot hd2 hmc
      go_wp2_with fail
      refine ⟨by first | trivial | rfl, ?_⟩
      go_wp2_with fail
      refine ⟨again_nil, ?_⟩
      go_wp2_with fail
      refine ⟨by first | trivial | rfl, ?_⟩
      go_wp2_with fail
      go_meet
      exact ⟨g7, by first | rfl | trivial, Lib.hid ⟨_, _, _, _, HX7.out⟩, HMc⟩
    case L9 =>
      simp only [wpSegs, opsOf, List.map_cons, List.map_nil, opN, List.getD_cons_zero, List.getD_cons_succ]
      obtain ⟨D0, hD0, mD0⟩ : ∃ D, w3.drew = D ∧ Mod [] w3 D := ⟨_, rfl, (Mod.refl [] w3).drew⟩
      rw [hD0]
      have HMc := Lib.hid mD0
      have HQc := Lib.hid (HQB.out.kept0 mD0)
      obtain ⟨c0, c1, _, _⟩ := HQc.out.cells
      clear hD0 mD0
      have hge := HMc.out.size
      obtain ⟨W9_0, hA0, kA, sA, mA⟩ := alloc_named2 D0 (.cells #[.bool false, .slice none 0 0] 120)
      obtain ⟨g6, hG6⟩ : ∃ g, D0.heap.size = g := ⟨_, rfl⟩
      rw [hG6] at kA hge
      have HMc := Lib.hid (HMc.out.trans mA)
      have HQc := Lib.hid (HQc.out.kept0 mA)
      obtain ⟨c0, c1, _, _⟩ := HQc.out.cells
      have HX6 : Hid (BoxZ W9_0 g6 false none [] 0 0) := Lib.hid ⟨kA, ⟨.nil none 0, .nil, .nil, by simp [zOf, rv], by simp⟩⟩
      have HGE6 := Lib.hid hge
      clear kA mA sA hge
      go_wp2_with fail
      refine ⟨by first | trivial | rfl, ?_⟩
      go_wp2_with fail
      refine ⟨?ag9_0, ?_⟩
      case ag9_0 =>
        intro i hi hw
        simp only [List.mem_cons, List.not_mem_nil, or_false] at hi
        subst hi
        all_goals (simp only [opN, List.getD_cons_zero, List.getD_cons_succ, slotOf]; go_simp)
      have HC := Lib.hid (nword_any 2 (by omega) W9_0)
      go_wp2_with fail
      refine ⟨by first | trivial | rfl, ?_⟩
      go_wp2_with fail
      refine HC.out.mono ?_
      rintro e W9_1 ⟨v, rfl, hv, mA⟩
      obtain ⟨tn, ts, tl, rfl, ht⟩ := hv
      obtain ⟨ta, tc, rfl⟩ := ht.ints.form
      have HMc := Lib.hid (HMc.out.trans mA)
      have HQc := Lib.hid (HQc.out.kept0 mA)
      obtain ⟨c0, c1, _, _⟩ := HQc.out.cells
      have HX6 := Lib.hid (HX6.out.kept0 mA)
      have HT := Lib.hid ht
      clear HC mA ht
      go_wp2_with fail
      refine ⟨?ag9_1, ?_⟩
      case ag9_1 =>
        intro i hi hw
        simp only [List.mem_cons, List.not_mem_nil, or_false] at hi
        subst hi
        all_goals (simp only [opN, List.getD_cons_zero, List.getD_cons_succ, slotOf]; go_simp)
      have HC := Lib.hid (ndown_any _ _ (a / b) 2 W9_1 HQc.out.nat ⟨_, _, _, rfl, HT.out⟩ (by omega) HBQ.out (big_of 2 (by omega) (by decide)))
      go_wp2_with fail
      refine ⟨by first | trivial | rfl, ?_⟩
      go_wp2_with fail
      refine HC.out.mono ?_
      rintro e W9_2 ⟨v, v', rfl, hv, hv', mA⟩
      obtain ⟨d1n, d1s, d1l, rfl, hd1⟩ := hv
      obtain ⟨d1a, d1c, rfl⟩ := hd1.ints.form
      obtain ⟨d2n, d2s, d2l, rfl, hd2⟩ := hv'
      obtain ⟨d2a, d2c, rfl⟩ := hd2.ints.form
      have HMc := Lib.hid (HMc.out.trans mA)
      have HQc := Lib.hid (HQc.out.kept0 mA)
      obtain ⟨c0, c1, _, _⟩ := HQc.out.cells
      have HX6 := Lib.hid (HX6.out.kept0 mA)
      have HT := Lib.hid (HT.out.kept0 mA)
      have HD1 := Lib.hid hd1
      have HD2 := Lib.hid hd2
      clear HC mA hd1 hd2
      go_wp2_with fail
      refine ⟨again_nil, ?_⟩
      have hlt := lt_of_heap HX6.out.box
      have hge := HMc.out.size
      obtain ⟨W9_3, hA3, kA, sA, mA⟩ := alloc_named2 W9_2 (.cells #[.bool false, .slice none 0 0] 120)
      obtain ⟨g7, hG7⟩ : ∃ g, W9_2.heap.size = g := ⟨_, rfl⟩
      rw [hG7] at kA hge hlt
      have HMc := Lib.hid (HMc.out.trans mA)
      have HQc := Lib.hid (HQc.out.kept0 mA)
      obtain ⟨c0, c1, _, _⟩ := HQc.out.cells
      have HX6 := Lib.hid (HX6.out.kept0 mA)
      have HT := Lib.hid (HT.out.kept0 mA)
      have HD1 := Lib.hid (HD1.out.kept0 mA)
      have HD2 := Lib.hid (HD2.out.kept0 mA)
      have HX7 : Hid (BoxZ W9_3 g7 false none [] 0 0) := Lib.hid ⟨kA, ⟨.nil none 0, .nil, .nil, by simp [zOf, rv], by simp⟩⟩
      have HGE7 := Lib.hid hge
      have HNE := Lib.hid hlt
      clear kA mA sA hge hlt
      go_wp2_with fail
      refine ⟨by first | trivial | rfl, ?_⟩
      go_wp2_with fail
      refine ⟨again_nil, ?_⟩
      obtain ⟨r0, r1, s0, s1⟩ := HX6.out.cells
      obtain ⟨W9_4, hW4⟩ : ∃ W, (W9_3.setCell ⟨g6, 0, none⟩ (.bool d1n)).setCell ⟨g6, 1, none⟩ (.slice d1a d1l.length d1c) = W := ⟨_, rfl⟩
      have hst := HX6.out.set HD1.out
      have hot := HX7.out.other HX6.out.isBox (by have := HNE.out; omega) (.bool d1n) (.slice d1a d1l.length d1c)
      have hd2 := HD2.out.other HX6.out.isBox (.bool d1n) (.slice d1a d1l.length d1c)
      have hmc := (HMc.out.setCellNew (p := ⟨g6, 0, none⟩) (by exact HGE6.out) (.bool d1n)).setCellNew (p := ⟨g6, 1, none⟩) (by exact HGE6.out) (.slice d1a d1l.length d1c)
      rw [hW4] at hst hot hd2 hmc
      have HX6 := Lib.hid hst
      have HX7 := Lib.hid hot
      have HD2 := Lib.hid hd2
      have HMc := Lib.hid hmc
      clear hst hot hd2 hmc
      go_wp2_with fail
      refine ⟨by first | trivial | rfl, ?_⟩
      go_wp2_with fail
      refine ⟨again_nil, ?_⟩
      obtain ⟨r0, r1, s0, s1⟩ := HX7.out.cells
      obtain ⟨W9_5, hW5⟩ : ∃ W, (W9_4.setCell ⟨g7, 0, none⟩ (.bool d2n)).setCell ⟨g7, 1, none⟩ (.slice d2a d2l.length d2c) = W := ⟨_, rfl⟩
      have hst := HX7.out.set HD2.out
      have hot := HX6.out.other HX7.out.isBox (by have := HNE.out; omega) (.bool d2n) (.slice d2a d2l.length d2c)
      have hd2 := HD2.out.other HX7.out.isBox (.bool d2n) (.slice d2a d2l.length d2c)
      have hmc := (HMc.out.setCellNew (p := ⟨g7, 0, none⟩) (by exact HGE7.out) (.bool d2n)).setCellNew (p := ⟨g7, 1, none⟩) (by exact HGE7.out) (.slice d2a d2l.length d2c)
      rw [hW5] at hst hot hd2 hmc
      have HX7 := Lib.hid hst
      have HX6 := Lib.hid hot
      have HD2 := Lib.hid hd2
      have HMc := Lib.hid hmc
      clear hst hot hd2 hmc
      go_wp2_with fail
      refine ⟨by first | trivial | rfl, ?_⟩
      go_wp2_with fail
      refine ⟨again_nil, ?_⟩
      go_wp2_with fail
      refine ⟨by first | trivial | rfl, ?_⟩
      go_wp2_with fail
      go_meet
      exact ⟨g7, by first | rfl | trivial, Lib.hid ⟨_, _, _, _, HX7.out⟩, HMc⟩
    case L10 =>
      simp only [wpSegs, opsOf, List.map_cons, List.map_nil, opN, List.getD_cons_zero, List.getD_cons_succ]
      obtain ⟨D0, hD0, mD0⟩ : ∃ D, w3.drew = D ∧ Mod [] w3 D := ⟨_, rfl, (Mod.refl [] w3).drew⟩
      rw [hD0]
      have HMc := Lib.hid mD0
      have HQc := Lib.hid (HQB.out.kept0 mD0)
      obtain ⟨c0, c1, _, _⟩ := HQc.out.cells
      clear hD0 mD0
      have hge := HMc.out.size
      obtain ⟨W10_0, hA0, kA, sA, mA⟩ := alloc_named2 D0 (.cells #[.bool false, .slice none 0 0] 120)
      obtain ⟨g6, hG6⟩ : ∃ g, D0.heap.size = g := ⟨_, rfl⟩
      rw [hG6] at kA hge
      have HMc := Lib.hid (HMc.out.trans mA)
      have HQc := Lib.hid (HQc.out.kept0 mA)
      obtain ⟨c0, c1, _, _⟩ := HQc.out.cells
      have HX6 : Hid (BoxZ W10_0 g6 false none [] 0 0) := Lib.hid ⟨kA, ⟨.nil none 0, .nil, .nil, by simp [zOf, rv], by simp⟩⟩
      have HGE6 := Lib.hid hge
      clear kA mA sA hge
      go_wp2_with fail
      refine ⟨by first | trivial | rfl, ?_⟩
      go_wp2_with fail
      refine ⟨?ag10_0, ?_⟩
      case ag10_0 =>
        intro i hi hw
        simp only [List.mem_cons, List.not_mem_nil, or_false] at hi
        subst hi
        all_goals (simp only [opN, List.getD_cons_zero, List.getD_cons_succ, slotOf]; go_simp)
      have HC := Lib.hid (nword_any 2 (by omega) W10_0)
      go_wp2_with fail
      refine ⟨by first | trivial | rfl, ?_⟩
      go_wp2_with fail
      refine HC.out.mono ?_
      rintro e W10_1 ⟨v, rfl, hv, mA⟩
      obtain ⟨tn, ts, tl, rfl, ht⟩ := hv
      obtain ⟨ta, tc, rfl⟩ := ht.ints.form
      have HMc := Lib.hid (HMc.out.trans mA)
      have HQc := Lib.hid (HQc.out.kept0 mA)
      obtain ⟨c0, c1, _, _⟩ := HQc.out.cells
      have HX6 := Lib.hid (HX6.out.kept0 mA)
      have HT := Lib.hid ht
      clear HC mA ht
      go_wp2_with fail
      refine ⟨?ag10_1, ?_⟩
      case ag10_1 =>
        intro i hi hw
        simp only [List.mem_cons, List.not_mem_nil, or_false] at hi
        subst hi
        all_goals (simp only [opN, List.getD_cons_zero, List.getD_cons_succ, slotOf]; go_simp)
      have hlt := lt_of_heap HX6.out.box
      have hge := HMc.out.size
      obtain ⟨W10_2, hA2, kA, sA, mA⟩ := alloc_named2 W10_1 (.cells #[.bool false, .slice none 0 0] 120)
      obtain ⟨g7, hG7⟩ : ∃ g, W10_1.heap.size = g := ⟨_, rfl⟩
      rw [hG7] at kA hge hlt
      have HMc := Lib.hid (HMc.out.trans mA)
      have HQc := Lib.hid (HQc.out.kept0 mA)
      obtain ⟨c0, c1, _, _⟩ := HQc.out.cells
      have HX6 := Lib.hid (HX6.out.kept0 mA)
      have HT := Lib.hid (HT.out.kept0 mA)
      have HX7 : Hid (BoxZ W10_2 g7 false none [] 0 0) := Lib.hid ⟨kA, ⟨.nil none 0, .nil, .nil, by simp [zOf, rv], by simp⟩⟩
      have HGE7 := Lib.hid hge
      have HNE := Lib.hid hlt
      clear kA mA sA hge hlt
      go_wp2_with fail
      refine ⟨by first | trivial | rfl, ?_⟩
      go_wp2_with fail
      refine ⟨?ag10_2, ?_⟩
      case ag10_2 =>
        intro i hi hw
        simp only [List.mem_cons, List.not_mem_nil, or_false] at hi
        subst hi
        all_goals (simp only [opN, List.getD_cons_zero, List.getD_cons_succ, slotOf]; go_simp)
      have HC := Lib.hid (ndown_any _ _ (a / b) 2 W10_2 HQc.out.nat ⟨_, _, _, rfl, HT.out⟩ (by omega) HBQ.out (big_of 2 (by omega) (by decide)))
      go_wp2_with fail
      refine ⟨by first | trivial | rfl, ?_⟩
      go_wp2_with fail
      refine HC.out.mono ?_
      rintro e W10_3 ⟨v, v', rfl, hv, hv', mA⟩
      obtain ⟨d1n, d1s, d1l, rfl, hd1⟩ := hv
      obtain ⟨d1a, d1c, rfl⟩ := hd1.ints.form
      obtain ⟨d2n, d2s, d2l, rfl, hd2⟩ := hv'
      obtain ⟨d2a, d2c, rfl⟩ := hd2.ints.form
      have HMc := Lib.hid (HMc.out.trans mA)
      have HQc := Lib.hid (HQc.out.kept0 mA)
      obtain ⟨c0, c1, _, _⟩ := HQc.out.cells
      have HX6 := Lib.hid (HX6.out.kept0 mA)
      have HX7 := Lib.hid (HX7.out.kept0 mA)
      have HT := Lib.hid (HT.out.kept0 mA)
      have HD1 := Lib.hid hd1
      have HD2 := Lib.hid hd2
      clear HC mA hd1 hd2
      go_wp2_with fail
      refine ⟨again_nil, ?_⟩
      obtain ⟨r0, r1, s0, s1⟩ := HX6.out.cells
      obtain ⟨W10_4, hW4⟩ : ∃ W, (W10_3.setCell ⟨g6, 0, none⟩ (.bool d1n)).setCell ⟨g6, 1, none⟩ (.slice d1a d1l.length d1c) = W := ⟨_, rfl⟩
      have hst := HX6.out.set HD1.out
      have hot := HX7.out.other HX6.out.isBox (by have := HNE.out; omega) (.bool d1n) (.slice d1a d1l.length d1c)
      have hd2 := HD2.out.other HX6.out.isBox (.bool d1n) (.slice d1a d1l.length d1c)
      have hmc := (HMc.out.setCellNew (p := ⟨g6, 0, none⟩) (by exact HGE6.out) (.bool d1n)).setCellNew (p := ⟨g6, 1, none⟩) (by exact HGE6.out) (.slice d1a d1l.length d1c)
      rw [hW4] at hst hot hd2 hmc
      have HX6 := Lib.hid hst
      have HX7 := Lib.hid hot
      have HD2 := Lib.hid hd2
      have HMc := Lib.hid hmc
      clear hst hot hd2 hmc
      go_wp2_with fail
      refine ⟨by first | trivial | rfl, ?_⟩
      go_wp2_with fail
      refine ⟨again_nil, ?_⟩
      obtain ⟨r0, r1, s0, s1⟩ := HX7.out.cells
      obtain ⟨W10_5, hW5⟩ : ∃ W, (W10_4.setCell ⟨g7, 0, none⟩ (.bool d2n)).setCell ⟨g7, 1, none⟩ (.slice d2a d2l.length d2c) = W := ⟨_, rfl⟩
      have hst := HX7.out.set HD2.out
      have hot := HX6.out.other HX7.out.isBox (by have := HNE.out; omega) (.bool d2n) (.slice d2a d2l.length d2c)
      have hd2 := HD2.out.other HX7.out.isBox (.bool d2n) (.slice d2a d2l.length d2c)
      have hmc := (HMc.out.setCellNew (p := ⟨g7, 0, none⟩) (by exact HGE7.out) (.bool d2n)).setCellNew (p := ⟨g7, 1, none⟩) (by exact HGE7.out) (.slice d2a d2l.length d2c)
      rw [hW5] at hst hot hd2 hmc
      have HX7 := Lib.hid hst
      have HX6 := Lib.hid hot
      have HD2 := Lib.hid hd2
      have HMc := Lib.hid hmc
      clear hst hot hd2 hmc
      go_wp2_with fail
      refine ⟨by first | trivial | rfl, ?_⟩
      go_wp2_with fail
      refine ⟨again_nil, ?_⟩
      go_wp2_with fail
      refine ⟨by first | trivial | rfl, ?_⟩
      go_wp2_with fail
      go_meet
      exact ⟨g7, by first | rfl | trivial, Lib.hid ⟨_, _, _, _, HX7.out⟩, HMc⟩
    case L11 =>
      simp only [wpSegs, opsOf, List.map_cons, List.map_nil, opN, List.getD_cons_zero, List.getD_cons_succ]
      obtain ⟨D0, hD0, mD0⟩ : ∃ D, w3.drew = D ∧ Mod [] w3 D := ⟨_, rfl, (Mod.refl [] w3).drew⟩
      rw [hD0]
      have HMc := Lib.hid mD0
      have HQc := Lib.hid (HQB.out.kept0 mD0)
      obtain ⟨c0, c1, _, _⟩ := HQc.out.cells
      clear hD0 mD0
      have hge := HMc.out.size
      obtain ⟨W11_0, hA0, kA, sA, mA⟩ := alloc_named2 D0 (.cells #[.bool false, .slice none 0 0] 120)
      obtain ⟨g6, hG6⟩ : ∃ g, D0.heap.size = g := ⟨_, rfl⟩
      rw [hG6] at kA hge
      have HMc := Lib.hid (HMc.out.trans mA)
      have HQc := Lib.hid (HQc.out.kept0 mA)
      obtain ⟨c0, c1, _, _⟩ := HQc.out.cells
      have HX6 : Hid (BoxZ W11_0 g6 false none [] 0 0) := Lib.hid ⟨kA, ⟨.nil none 0, .nil, .nil, by simp [zOf, rv], by simp⟩⟩
      have HGE6 := Lib.hid hge
      clear kA mA sA hge
      go_wp2_with fail
      refine ⟨by first | trivial | rfl, ?_⟩
      go_wp2_with fail
      refine ⟨?ag11_0, ?_⟩
      case ag11_0 =>
        intro i hi hw
        simp only [List.mem_cons, List.not_mem_nil, or_false] at hi
        subst hi
        all_goals (simp only [opN, List.getD_cons_zero, List.getD_cons_succ, slotOf]; go_simp)
      have hlt := lt_of_heap HX6.out.box
      have hge := HMc.out.size
      obtain ⟨W11_1, hA1, kA, sA, mA⟩ := alloc_named2 W11_0 (.cells #[.bool false, .slice none 0 0] 120)
      obtain ⟨g7, hG7⟩ : ∃ g, W11_0.heap.size = g := ⟨_, rfl⟩
      rw [hG7] at kA hge hlt
      have HMc := Lib.hid (HMc.out.trans mA)
      have HQc := Lib.hid (HQc.out.kept0 mA)
      obtain ⟨c0, c1, _, _⟩ := HQc.out.cells
      have HX6 := Lib.hid (HX6.out.kept0 mA)
      have HX7 : Hid (BoxZ W11_1 g7 false none [] 0 0) := Lib.hid ⟨kA, ⟨.nil none 0, .nil, .nil, by simp [zOf, rv], by simp⟩⟩
      have HGE7 := Lib.hid hge
      have HNE := Lib.hid hlt
      clear kA mA sA hge hlt
      go_wp2_with fail
      refine ⟨by first | trivial | rfl, ?_⟩
      go_wp2_with fail
      refine ⟨?ag11_1, ?_⟩
      case ag11_1 =>
        intro i hi hw
        simp only [List.mem_cons, List.not_mem_nil, or_false] at hi
        subst hi
        all_goals (simp only [opN, List.getD_cons_zero, List.getD_cons_succ, slotOf]; go_simp)
      have HC := Lib.hid (nword_any 2 (by omega) W11_1)
      go_wp2_with fail
      refine ⟨by first | trivial | rfl, ?_⟩
      go_wp2_with fail
      refine HC.out.mono ?_
      rintro e W11_2 ⟨v, rfl, hv, mA⟩
      obtain ⟨tn, ts, tl, rfl, ht⟩ := hv
      obtain ⟨ta, tc, rfl⟩ := ht.ints.form
      have HMc := Lib.hid (HMc.out.trans mA)
      have HQc := Lib.hid (HQc.out.kept0 mA)
      obtain ⟨c0, c1, _, _⟩ := HQc.out.cells
      have HX6 := Lib.hid (HX6.out.kept0 mA)
      have HX7 := Lib.hid (HX7.out.kept0 mA)
      have HT := Lib.hid ht
      clear HC mA ht
      go_wp2_with fail
      refine ⟨?ag11_2, ?_⟩
      case ag11_2 =>
        intro i hi hw
        simp only [List.mem_cons, List.not_mem_nil, or_false] at hi
        subst hi
        all_goals (simp only [opN, List.getD_cons_zero, List.getD_cons_succ, slotOf]; go_simp)
      have HC := Lib.hid (ndown_any _ _ (a / b) 2 W11_2 HQc.out.nat ⟨_, _, _, rfl, HT.out⟩ (by omega) HBQ.out (big_of 2 (by omega) (by decide)))
      go_wp2_with fail
      refine ⟨by first | trivial | rfl, ?_⟩
      go_wp2_with fail
      refine HC.out.mono ?_
      rintro e W11_3 ⟨v, v', rfl, hv, hv', mA⟩
      obtain ⟨d1n, d1s, d1l, rfl, hd1⟩ := hv
      obtain ⟨d1a, d1c, rfl⟩ := hd1.ints.form
      obtain ⟨d2n, d2s, d2l, rfl, hd2⟩ := hv'
      obtain ⟨d2a, d2c, rfl⟩ := hd2.ints.form
      have HMc := Lib.hid (HMc.out.trans mA)
      have HQc := Lib.hid (HQc.out.kept0 mA)
      obtain ⟨c0, c1, _, _⟩ := HQc.out.cells
      have HX6 := Lib.hid (HX6.out.kept0 mA)
      have HX7 := Lib.hid (HX7.out.kept0 mA)
      have HT := Lib.hid (HT.out.kept0 mA)
      have HD1 := Lib.hid hd1
      have HD2 := Lib.hid hd2
      clear HC mA hd1 hd2
      go_wp2_with fail
      refine ⟨again_nil, ?_⟩
      obtain ⟨r0, r1, s0, s1⟩ := HX6.out.cells
      obtain ⟨W11_4, hW4⟩ : ∃ W, (W11_3.setCell ⟨g6, 0, none⟩ (.bool d1n)).setCell ⟨g6, 1, none⟩ (.slice d1a d1l.length d1c) = W := ⟨_, rfl⟩
      have hst := HX6.out.set HD1.out
      have hot := HX7.out.other HX6.out.isBox (by have := HNE.out; omega) (.bool d1n) (.slice d1a d1l.length d1c)
      have hd2 := HD2.out.other HX6.out.isBox (.bool d1n) (.slice d1a d1l.length d1c)
      have hmc := (HMc.out.setCellNew (p := ⟨g6, 0, none⟩) (by exact HGE6.out) (.bool d1n)).setCellNew (p := ⟨g6, 1, none⟩) (by exact HGE6.out) (.slice d1a d1l.length d1c)
      rw [hW4] at hst hot hd2 hmc
      have HX6 := Lib.hid hst
      have HX7 := Lib.hid hot
      have HD2 := Lib.hid hd2
      have HMc := Lib.hid hmc
      clear hst hot hd2 hmc
      go_wp2_with fail
      refine ⟨by first | trivial | rfl, ?_⟩
      go_wp2_with fail
      refine ⟨again_nil, ?_⟩
      obtain ⟨r0, r1, s0, s1⟩ := HX7.out.cells
      obtain ⟨W11_5, hW5⟩ : ∃ W, (W11_4.setCell ⟨g7, 0, none⟩ (.bool d2n)).setCell ⟨g7, 1, none⟩ (.slice d2a d2l.length d2c) = W := ⟨_, rfl⟩
      have hst := HX7.out.set HD2.out
      have hot := HX6.out.other HX7.out.isBox (by have := HNE.out; omega) (.bool d2n) (.slice d2a d2l.length d2c)
      have hd2 := HD2.out.other HX7.out.isBox (.bool d2n) (.slice d2a d2l.length d2c)
      have hmc := (HMc.out.setCellNew (p := ⟨g7, 0, none⟩) (by exact HGE7.out) (.bool d2n)).setCellNew (p := ⟨g7, 1, none⟩) (by exact HGE7.out) (.slice d2a d2l.length d2c)
      rw [hW5] at hst hot hd2 hmc
      have HX7 := Lib.hid hst
      have HX6 := Lib.hid hot
      have HD2 := Lib.hid hd2
      have HMc := Lib.hid hmc
      clear hst hot hd2 hmc
      go_wp2_with fail
      refine ⟨by first | trivial | rfl, ?_⟩
      go_wp2_with fail
      refine ⟨again_nil, ?_⟩
      go_wp2_with fail
      refine ⟨by first | trivial | rfl, ?_⟩
      go_wp2_with fail
      go_meet
      exact ⟨g7, by first | rfl | trivial, Lib.hid ⟨_, _, _, _, HX7.out⟩, HMc⟩
    case L12 =>
      simp only [wpSegs, opsOf, List.map_cons, List.map_nil, opN, List.getD_cons_zero, List.getD_cons_succ]
      obtain ⟨D0, hD0, mD0⟩ : ∃ D, w3.drew = D ∧ Mod [] w3 D := ⟨_, rfl, (Mod.refl [] w3).drew⟩
      rw [hD0]
      have HMc := Lib.hid mD0
      have HQc := Lib.hid (HQB.out.kept0 mD0)
      obtain ⟨c0, c1, _, _⟩ := HQc.out.cells
      clear hD0 mD0
      have hge := HMc.out.size
      obtain ⟨W12_0, hA0, kA, sA, mA⟩ := alloc_named2 D0 (.cells #[.bool false, .slice none 0 0] 120)
      obtain ⟨g7, hG7⟩ : ∃ g, D0.heap.size = g := ⟨_, rfl⟩
      rw [hG7] at kA hge
      have HMc := Lib.hid (HMc.out.trans mA)
      have HQc := Lib.hid (HQc.out.kept0 mA)
      obtain ⟨c0, c1, _, _⟩ := HQc.out.cells
      have HX7 : Hid (BoxZ W12_0 g7 false none [] 0 0) := Lib.hid ⟨kA, ⟨.nil none 0, .nil, .nil, by simp [zOf, rv], by simp⟩⟩
      have HGE7 := Lib.hid hge
      clear kA mA sA hge
      go_wp2_with fail
      refine ⟨by first | trivial | rfl, ?_⟩
      go_wp2_with fail
      refine ⟨?ag12_0, ?_⟩
      case ag12_0 =>
        intro i hi hw
        simp only [List.mem_cons, List.not_mem_nil, or_false] at hi
        subst hi
        all_goals (simp only [opN, List.getD_cons_zero, List.getD_cons_succ, slotOf]; go_simp)
      have hlt := lt_of_heap HX7.out.box
      have hge := HMc.out.size
      obtain ⟨W12_1, hA1, kA, sA, mA⟩ := alloc_named2 W12_0 (.cells #[.bool false, .slice none 0 0] 120)
      obtain ⟨g6, hG6⟩ : ∃ g, W12_0.heap.size = g := ⟨_, rfl⟩
      rw [hG6] at kA hge hlt
      have HMc := Lib.hid (HMc.out.trans mA)
      have HQc := Lib.hid (HQc.out.kept0 mA)
      obtain ⟨c0, c1, _, _⟩ := HQc.out.cells
      have HX7 := Lib.hid (HX7.out.kept0 mA)
      have HX6 : Hid (BoxZ W12_1 g6 false none [] 0 0) := Lib.hid ⟨kA, ⟨.nil none 0, .nil, .nil, by simp [zOf, rv], by simp⟩⟩
      have HGE6 := Lib.hid hge
      have HNE := Lib.hid hlt
      clear kA mA sA hge hlt
      go_wp2_with fail
      refine ⟨by first | trivial | rfl, ?_⟩
      go_wp2_with fail
      refine ⟨?ag12_1, ?_⟩
      case ag12_1 =>
        intro i hi hw
        simp only [List.mem_cons, List.not_mem_nil, or_false] at hi
        subst hi
        all_goals (simp only [opN, List.getD_cons_zero, List.getD_cons_succ, slotOf]; go_simp)
      have HC := Lib.hid (nword_any 2 (by omega) W12_1)
      go_wp2_with fail
      refine ⟨by first | trivial | rfl, ?_⟩
      go_wp2_with fail
      refine HC.out.mono ?_
      rintro e W12_2 ⟨v, rfl, hv, mA⟩
      obtain ⟨tn, ts, tl, rfl, ht⟩ := hv
      obtain ⟨ta, tc, rfl⟩ := ht.ints.form
      have HMc := Lib.hid (HMc.out.trans mA)
      have HQc := Lib.hid (HQc.out.kept0 mA)
      obtain ⟨c0, c1, _, _⟩ := HQc.out.cells
      have HX7 := Lib.hid (HX7.out.kept0 mA)
      have HX6 := Lib.hid (HX6.out.kept0 mA)
      have HT := Lib.hid ht
      clear HC mA ht
      go_wp2_with fail
      refine ⟨?ag12_2, ?_⟩
      case ag12_2 =>
        intro i hi hw
        simp only [List.mem_cons, List.not_mem_nil, or_false] at hi
        subst hi
        all_goals (simp only [opN, List.getD_cons_zero, List.getD_cons_succ, slotOf]; go_simp)
      have HC := Lib.hid (ndown_any _ _ (a / b) 2 W12_2 HQc.out.nat ⟨_, _, _, rfl, HT.out⟩ (by omega) HBQ.out (big_of 2 (by omega) (by decide)))
      go_wp2_with fail
      refine ⟨by first | trivial | rfl, ?_⟩
      go_wp2_with fail
      refine HC.out.mono ?_
      rintro e W12_3 ⟨v, v', rfl, hv, hv', mA⟩
      obtain ⟨d1n, d1s, d1l, rfl, hd1⟩ := hv
      obtain ⟨d1a, d1c, rfl⟩ := hd1.ints.form
      obtain ⟨d2n, d2s, d2l, rfl, hd2⟩ := hv'
      obtain ⟨d2a, d2c, rfl⟩ := hd2.ints.form
      have HMc := Lib.hid (HMc.out.trans mA)
      have HQc := Lib.hid (HQc.out.kept0 mA)
      obtain ⟨c0, c1, _, _⟩ := HQc.out.cells
      have HX7 := Lib.hid (HX7.out.kept0 mA)
      have HX6 := Lib.hid (HX6.out.kept0 mA)
      have HT := Lib.hid (HT.out.kept0 mA)
      have HD1 := Lib.hid hd1
      have HD2 := Lib.hid hd2
      clear HC mA hd1 hd2
      go_wp2_with fail
      refine ⟨again_nil, ?_⟩
      obtain ⟨r0, r1, s0, s1⟩ := HX6.out.cells
      obtain ⟨W12_4, hW4⟩ : ∃ W, (W12_3.setCell ⟨g6, 0, none⟩ (.bool d1n)).setCell ⟨g6, 1, none⟩ (.slice d1a d1l.length d1c) = W := ⟨_, rfl⟩
      have hst := HX6.out.set HD1.out
      have hot := HX7.out.other HX6.out.isBox (by have := HNE.out; omega) (.bool d1n) (.slice d1a d1l.length d1c)
      have hd2 := HD2.out.other HX6.out.isBox (.bool d1n) (.slice d1a d1l.length d1c)
      have hmc := (HMc.out.setCellNew (p := ⟨g6, 0, none⟩) (by exact HGE6.out) (.bool d1n)).setCellNew (p := ⟨g6, 1, none⟩) (by exact HGE6.out) (.slice d1a d1l.length d1c)
      rw [hW4] at hst hot hd2 hmc
      have HX6 := Lib.hid hst
      have HX7 := Lib.hid hot
      have HD2 := Lib.hid hd2
      have HMc := Lib.hid hmc
      clear hst hot hd2 hmc
      go_wp2_with fail
      refine ⟨by first | trivial | rfl, ?_⟩
      go_wp2_with fail
      refine ⟨again_nil, ?_⟩
      obtain ⟨r0, r1, s0, s1⟩ := HX7.out.cells
      obtain ⟨W12_5, hW5⟩ : ∃ W, (W12_4.setCell ⟨g7, 0, none⟩ (.bool d2n)).setCell ⟨g7, 1, none⟩ (.slice d2a d2l.length d2c) = W := ⟨_, rfl⟩
      have hst := HX7.out.set HD2.out
      have hot := HX6.out.other HX7.out.isBox (by have := HNE.out; omega) (.bool d2n) (.slice d2a d2l.length d2c)
      have hd2 := HD2.out.other HX7.out.isBox (.bool d2n) (.slice d2a d2l.length d2c)
      have hmc := (HMc.out.setCellNew (p := ⟨g7, 0, none⟩) (by exact HGE7.out) (.bool d2n)).setCellNew (p := ⟨g7, 1, none⟩) (by exact HGE7.out) (.slice d2a d2l.length d2c)
      rw [hW5] at hst hot hd2 hmc
      have HX7 := Lib.hid hst
      have HX6 := Lib.hid hot
      have HD2 := Lib.hid hd2
      have HMc := Lib.hid hmc
      clear hst hot hd2 hmc
      go_wp2_with fail
      refine ⟨by first | trivial | rfl, ?_⟩
      go_wp2_with fail
      refine ⟨again_nil, ?_⟩
      go_wp2_with fail
      refine ⟨by first | trivial | rfl, ?_⟩
      go_wp2_with fail
      go_meet
      exact ⟨g7, by first | rfl | trivial, Lib.hid ⟨_, _, _, _, HX7.out⟩, HMc⟩
  case rest =>
    obtain ⟨g9, rfl, HO, HMc⟩ := hcut
    obtain ⟨on, oa, ol, oc, ho⟩ := HO.out
    obtain ⟨o0, o1, _, _⟩ := ho.cells
    have hqc := HQB.out.kept0 HMc.out
    obtain ⟨q0, q1, q2, q3⟩ := hqc.cells
    have HQC := Lib.hid hqc
    have HMC := Lib.hid (HM63.out.trans HMc.out)
    have HRC := Lib.hid (HMc.out.heap HR3.out (by simp))
    obtain ⟨ho1, ho2⟩ := ho.num.nonneg (Int.emod_nonneg _ (by omega))
    have hoz := rv_zero ho.num.dg ho.num.cn
    rw [ho2] at hoz
    clear ho hqc ho1 ho2 HO
    by_cases h1 : b < a % b + a % b
    · obtain rfl : g = 1 := by rw [← hg.out]; unfold sgnI; rw [if_neg (by omega), if_pos h1]
      have HE := Lib.hid (show a / b + ((1 : Nat) : Int) = evenZ a b by unfold evenZ; rw [if_pos (.inl h1)]; rfl)
      clear hoz h1 hr0 hr1 hb
      have HC1 := Lib.hid (nword_any 1 (by omega) wc.drew)
      go_wp2_with fail
      refine wp_plan [([0], 1, [0]), ([], 2, []), ([], 3, [])] [] (by kernel_rfl) (by kernel_rfl) ?_
      simp only [wpSegs, opsOf, List.map_cons, List.map_nil, opN, List.getD_cons_zero, List.getD_cons_succ]
      go_wp2_with fail
      refine ⟨by first | trivial | rfl, ?_⟩
      go_wp2_with fail
      refine HC1.out.mono ?_
      rintro e w6 ⟨v6, rfl, hv6, m6⟩
      have m6' := (Mod.refl [] wc).drew.trans m6
      have hq6 := HQC.out.kept0 m6'
      obtain ⟨p0, p1, _, _⟩ := hq6.cells
      have HCS := Lib.hid (nadd_any _ v6 _ _ w6 hq6.nat hv6 HBQ.out (big_of 1 (by omega) (by decide)))
      rw [HE.out] at HCS
      have HM6 := Lib.hid (HMC.out.trans m6')
      have HR6 := Lib.hid (m6'.heap HRC.out (by simp))
      have HQ6 := Lib.hid hq6
      clear hv6 hq6 m6 m6' HC1
      go_wp2_with fail
      refine ⟨?ag1, ?_⟩
      case ag1 =>
        intro i hi hw
        simp only [List.mem_cons, List.not_mem_nil, or_false] at hi
        subst hi
        all_goals (simp only [opN, List.getD_cons_zero, List.getD_cons_succ, slotOf]; go_simp)
      go_wp2_with fail
      refine ⟨by first | trivial | rfl, ?_⟩
      go_wp2_with fail
      refine HCS.out.mono ?_
      rintro e w7 ⟨v7, rfl, hv7, m7⟩
      obtain ⟨n7, s7, l7, rfl, hn7⟩ := hv7
      obtain ⟨a7, c7, rfl⟩ := hn7.ints.form
      have hq7 := HQ6.out.kept0 m7
      obtain ⟨e0, e1, f0, f1⟩ := hq7.cells
      obtain ⟨W7, hW7⟩ : ∃ W7, (w7.setCell ⟨w1.heap.size, 0, none⟩ (.bool n7)).setCell ⟨w1.heap.size, 1, none⟩ (.slice a7 l7.length c7) = W7 := ⟨_, rfl⟩
      have hqN := hq7.set hn7
      have hRN : ((w7.setCell ⟨w1.heap.size, 0, none⟩ (.bool n7)).setCell ⟨w1.heap.size, 1, none⟩ (.slice a7 l7.length c7)).heap[w.heap.size + 1 + 1]? = some (.cells #[.bool false, .slice none 0 0] 120) := by
        have hm : Mod [w1.heap.size] w7 ((w7.setCell ⟨w1.heap.size, 0, none⟩ (.bool n7)).setCell ⟨w1.heap.size, 1, none⟩ (.slice a7 l7.length c7)) := ((Mod.refl _ _).setCell (by simp) _).setCell (by simp) _
        exact hm.heap (m7.heap HR6.out (by simp)) (by have := HLW.out; simp; omega)
      have hMN := ((HM6.out.trans m7).setCellNew (p := ⟨w1.heap.size, 0, none⟩) (by have := HLW.out; simp only; omega) (.bool n7)).setCellNew (p := ⟨w1.heap.size, 1, none⟩) (by have := HLW.out; simp only; omega) (.slice a7 l7.length c7)
      rw [hW7] at hqN hRN hMN
      obtain ⟨d0, d1, _, _⟩ := hqN.cells
      have t0 := cell_blk hRN 0
      have t1 := cell_blk hRN 1
      have t2 := frozen_blk hRN 0
      have t3 := frozen_blk hRN 1
      simp only [List.getElem?_toArray, List.getElem?_cons_succ, List.getElem?_cons_zero] at t0 t1
      have HV := Lib.hid hqN.num
      have HR := Lib.hid hRN
      have HM := Lib.hid hMN
      clear hn7 hq7 hqN hRN hMN m7 HCS
      go_wp2_with fail
      refine ⟨again_nil, ?_⟩
      go_wp2_with fail
      refine ⟨by first | trivial | rfl, ?_⟩
      go_wp2_with fail
      refine ⟨again_nil, ?_⟩
      go_wp2_with fail
      refine ⟨by first | trivial | rfl, ?_⟩
      go_wp2_with fail
      refine bodyPost_ret (v := .agg #[.bool n7, .slice a7 l7.length c7]) (by simp [results, Try.results79, go_sem, t0, t1]) rfl ⟨_, rfl, ⟨_, _, _, rfl, HV.out.res2 HR.out _ _⟩, HM.out.res2 (by omega) _ _⟩
    · by_cases h2 : a % b + a % b = b
      · obtain rfl : g = 0 := by rw [← hg.out]; unfold sgnI; rw [if_neg (by omega), if_neg (by omega)]
        by_cases h3 : a / b % 2 = 0
        · obtain rfl : ol = [] := hoz.1 h3
          have HE := Lib.hid (show a / b = evenZ a b by unfold evenZ; rw [if_neg (by rintro (h | ⟨_, h⟩); exact h1 h; exact h h3)])
          simp only [List.length_nil] at o1
          clear hoz h1 h2 h3 hr0 hr1 hb
          have t0 := cell_blk HRC.out 0
          have t1 := cell_blk HRC.out 1
          have t2 := frozen_blk HRC.out 0
          have t3 := frozen_blk HRC.out 1
          simp only [List.getElem?_toArray, List.getElem?_cons_succ, List.getElem?_cons_zero] at t0 t1
          have HV := Lib.hid HQC.out.num
          rw [HE.out] at HV
          go_wp2_with fail
          refine bodyPost_ret (v := .agg #[.bool qn, .slice qa ql.length qc]) (by simp [results, Try.results79, go_sem, t0, t1]) rfl ⟨_, rfl, ⟨_, _, _, rfl, HV.out.res2 HRC.out _ _⟩, HMC.out.res2 (by omega) _ _⟩
        · have hol : 0 < ol.length := List.length_pos_iff.2 fun e => h3 (hoz.2 e)
          have HE := Lib.hid (show a / b + ((1 : Nat) : Int) = evenZ a b by unfold evenZ; rw [if_pos (.inr ⟨h2, h3⟩)]; rfl)
          clear hoz h1 h2 h3 hr0 hr1 hb
          have HC1 := Lib.hid (nword_any 1 (by omega) wc.drew)
          go_wp2_with fail
          refine wp_plan [([0], 1, [0]), ([], 2, []), ([], 3, [])] [] (by kernel_rfl) (by kernel_rfl) ?_
          simp only [wpSegs, opsOf, List.map_cons, List.map_nil, opN, List.getD_cons_zero, List.getD_cons_succ]
          go_wp2_with fail
          refine ⟨by first | trivial | rfl, ?_⟩
          go_wp2_with fail
          refine HC1.out.mono ?_
          rintro e w6 ⟨v6, rfl, hv6, m6⟩
          have m6' := (Mod.refl [] wc).drew.trans m6
          have hq6 := HQC.out.kept0 m6'
          obtain ⟨p0, p1, _, _⟩ := hq6.cells
          have HCS := Lib.hid (nadd_any _ v6 _ _ w6 hq6.nat hv6 HBQ.out (big_of 1 (by omega) (by decide)))
          rw [HE.out] at HCS
          have HM6 := Lib.hid (HMC.out.trans m6')
          have HR6 := Lib.hid (m6'.heap HRC.out (by simp))
          have HQ6 := Lib.hid hq6
          clear hv6 hq6 m6 m6' HC1
          go_wp2_with fail
          refine ⟨?ag1, ?_⟩
          case ag1 =>
            intro i hi hw
            simp only [List.mem_cons, List.not_mem_nil, or_false] at hi
            subst hi
            all_goals (simp only [opN, List.getD_cons_zero, List.getD_cons_succ, slotOf]; go_simp)
          go_wp2_with fail
          refine ⟨by first | trivial | rfl, ?_⟩
          go_wp2_with fail
          refine HCS.out.mono ?_
          rintro e w7 ⟨v7, rfl, hv7, m7⟩
          obtain ⟨n7, s7, l7, rfl, hn7⟩ := hv7
          obtain ⟨a7, c7, rfl⟩ := hn7.ints.form
          have hq7 := HQ6.out.kept0 m7
          obtain ⟨e0, e1, f0, f1⟩ := hq7.cells
          obtain ⟨W7, hW7⟩ : ∃ W7, (w7.setCell ⟨w1.heap.size, 0, none⟩ (.bool n7)).setCell ⟨w1.heap.size, 1, none⟩ (.slice a7 l7.length c7) = W7 := ⟨_, rfl⟩
          have hqN := hq7.set hn7
          have hRN : ((w7.setCell ⟨w1.heap.size, 0, none⟩ (.bool n7)).setCell ⟨w1.heap.size, 1, none⟩ (.slice a7 l7.length c7)).heap[w.heap.size + 1 + 1]? = some (.cells #[.bool false, .slice none 0 0] 120) := by
            have hm : Mod [w1.heap.size] w7 ((w7.setCell ⟨w1.heap.size, 0, none⟩ (.bool n7)).setCell ⟨w1.heap.size, 1, none⟩ (.slice a7 l7.length c7)) := ((Mod.refl _ _).setCell (by simp) _).setCell (by simp) _
            exact hm.heap (m7.heap HR6.out (by simp)) (by have := HLW.out; simp; omega)
          have hMN := ((HM6.out.trans m7).setCellNew (p := ⟨w1.heap.size, 0, none⟩) (by have := HLW.out; simp only; omega) (.bool n7)).setCellNew (p := ⟨w1.heap.size, 1, none⟩) (by have := HLW.out; simp only; omega) (.slice a7 l7.length c7)
          rw [hW7] at hqN hRN hMN
          obtain ⟨d0, d1, _, _⟩ := hqN.cells
          have t0 := cell_blk hRN 0
          have t1 := cell_blk hRN 1
          have t2 := frozen_blk hRN 0
          have t3 := frozen_blk hRN 1
          simp only [List.getElem?_toArray, List.getElem?_cons_succ, List.getElem?_cons_zero] at t0 t1
          have HV := Lib.hid hqN.num
          have HR := Lib.hid hRN
          have HM := Lib.hid hMN
          clear hn7 hq7 hqN hRN hMN m7 HCS
          go_wp2_with fail
          refine ⟨again_nil, ?_⟩
          go_wp2_with fail
          refine ⟨by first | trivial | rfl, ?_⟩
          go_wp2_with fail
          refine ⟨again_nil, ?_⟩
          go_wp2_with fail
          refine ⟨by first | trivial | rfl, ?_⟩
          go_wp2_with fail
          refine bodyPost_ret (v := .agg #[.bool n7, .slice a7 l7.length c7]) (by simp [results, Try.results79, go_sem, t0, t1]) rfl ⟨_, rfl, ⟨_, _, _, rfl, HV.out.res2 HR.out _ _⟩, HM.out.res2 (by omega) _ _⟩
      · obtain rfl : g = -1 := by rw [← hg.out]; unfold sgnI; rw [if_pos (by omega)]
        have HE := Lib.hid (show a / b = evenZ a b by unfold evenZ; rw [if_neg (by rintro (h | ⟨h, _⟩); exact h1 h; exact h2 h)])
        clear hoz h1 h2 hr0 hr1 hb
        have t0 := cell_blk HRC.out 0
        have t1 := cell_blk HRC.out 1
        have t2 := frozen_blk HRC.out 0
        have t3 := frozen_blk HRC.out 1
        simp only [List.getElem?_toArray, List.getElem?_cons_succ, List.getElem?_cons_zero] at t0 t1
        have HV := Lib.hid HQC.out.num
        rw [HE.out] at HV
        go_wp2_with fail
        refine bodyPost_ret (v := .agg #[.bool qn, .slice qa ql.length qc]) (by simp [results, Try.results79, go_sem, t0, t1]) rfl ⟨_, rfl, ⟨_, _, _, rfl, HV.out.res2 HRC.out _ _⟩, HMC.out.res2 (by omega) _ _⟩
end Go.Proofs.Ytnoookcfacmdkaa
namespace Go.Proofs.Ytnoookcfacmdkaa
open Go.RowKit Go.ChangeMaps Go.Deep
set_option linter.unusedSimpArgs false
set_option linter.unusedVariables false
set_option maxRecDepth 20000

def fits64 (z : Int) : Bool := decide (-9223372036854775808 ≤ z) && decide (z ≤ 9223372036854775807)
def SmallPost (w : World) (z : Int) (e : Ending) (w' : World) : Prop := e = .returned (.tuple #[.int .i64 (if fits64 z then z else 0), .bool (fits64 z)]) ∧ Mod [] w w'
theorem rv_drop_le {l : List Int} (h : Dg l) (k : Nat) : 0 ≤ rv (l.drop k) ∧ rv (l.drop k) ≤ rv l := by
  have h1 := rv_nonneg (h.drop k)
  refine ⟨h1, ?_⟩
  have h2 := rv_append (l.take k) (l.drop k)
  rw [List.take_append_drop] at h2
  have h3 := rv_nonneg (h.take k)
  have h4 := pow_pos1000 (l.take k).length
  have h5 : 1 * rv (l.drop k) ≤ 1000 ^ (l.take k).length * rv (l.drop k) := Int.mul_le_mul_of_nonneg_right (by omega) h1
  omega
set_option maxHeartbeats 8000000 in
theorem nsmall_any (x : Value) (z : Int) (w : World) (hx : NAt w x z) (sz : Big z) :
    Calls Try.prog 78 #[x] w (SmallPost w z) := by
  obtain ⟨nx, s1, lx, rfl, h1⟩ := hx
  obtain ⟨ax, cx, rfl⟩ := h1.ints.form
  have hlx := h1.len sz
  obtain ⟨A1, hA1, hbx, z1, m1⟩ := BoxZ.made h1
  obtain ⟨x0, x1, _, _⟩ := hbx.cells
  have HSZ := Lib.hid sz
  have HB := Lib.hid hbx
  have HM1 := Lib.hid m1
  have HD := Lib.hid (Mod.refl [] A1).drew
  have HC1 := Lib.hid (nof_any (-9223372036854775808) (by omega) (by omega) A1.drew)
  have HX := Lib.hid h1
  clear h1 hbx m1 sz
  by_cases hlo : z < -9223372036854775808
  · have HF := Lib.hid (show fits64 z = false by unfold fits64; rw [decide_eq_false (by omega)]; rfl)
    have HG1 := Lib.hid (show sgnI z (-9223372036854775808) = -1 by unfold sgnI; rw [if_pos hlo])
    clear hlo
    go_enter Try.func78, Try.ntmps78
    go_wp2_with fail
    refine wp_plan [([0], 1, [0]), ([], 2, []), ([3, 4, 5], 6, [5]), ([], 7, [])] [8, 9] (by kernel_rfl) (by kernel_rfl) ?_
    simp only [wpSegs, opsOf, List.map_cons, List.map_nil, opN, List.getD_cons_zero, List.getD_cons_succ]
    go_wp2_with fail
    refine ⟨by first | trivial | rfl, ?_⟩
    go_wp2_with fail
    refine HC1.out.mono ?_
    rintro e w2 ⟨v2, rfl, hv2, m2⟩
    have hb2 := HB.out.kept0 (HD.out.trans m2)
    obtain ⟨x0', x1', _, _⟩ := hb2.cells
    have HCC := Lib.hid (ncmp_any _ v2 z (-9223372036854775808) w2 hb2.nat hv2 HSZ.out (big_of 10 (by omega) (by decide)))
    rw [HG1.out] at HCC
    have HM2 := Lib.hid (HM1.out.trans (HD.out.trans m2))
    have HB2 := Lib.hid hb2
    obtain ⟨v2n, v2s, v2l, rfl, hv2'⟩ := hv2
    obtain ⟨v2a, v2c, rfl⟩ := hv2'.ints.form
    clear hb2 hv2' m2 HC1
    go_wp2_with fail
    refine ⟨?ag1, ?_⟩
    case ag1 =>
      intro i hi hw
      simp only [List.mem_cons, List.not_mem_nil, or_false] at hi
      subst hi
      all_goals (simp only [opN, List.getD_cons_zero, List.getD_cons_succ, slotOf]; go_simp)
    go_wp2_with fail
    refine ⟨by first | trivial | rfl, ?_⟩
    go_wp2_with fail
    refine HCC.out.mono ?_
    rintro e w3 ⟨rfl, m3⟩
    have HM3 := Lib.hid (HM2.out.trans m3)
    have HB3 := Lib.hid (HB2.out.kept0 m3)
    obtain ⟨x0'', x1'', _, _⟩ := HB3.out.cells
    clear m3 HCC
    go_wp2_with fail
    refine ⟨again_nil, ?_⟩
    go_wp2_with fail
    refine ⟨by first | trivial | rfl, ?_⟩
    go_wp2_with fail
    refine ⟨?ag2, ?_⟩
    case ag2 =>
      intro i hi hw
      simp only [List.mem_cons, List.not_mem_nil, or_false] at hi
      subst hi
      all_goals (simp only [opN, List.getD_cons_zero, List.getD_cons_succ, slotOf] at hw ⊢; revert hw; go_simp)
    go_wp2_with fail
    refine ⟨by first | trivial | rfl, ?_⟩
    go_wp2_with fail
    refine ⟨again_nil, ?_⟩
    go_wp2_with fail
    refine ⟨by first | trivial | rfl, ?_⟩
    go_wp2_with fail
    go_ret2
    exact ⟨by rw [HF.out]; rfl, HM3.out⟩
  · obtain ⟨g, hg0⟩ : ∃ g, sgnI z (-9223372036854775808) = g := ⟨_, rfl⟩
    have hg : ¬ g < 0 := by rw [← hg0]; unfold sgnI; rw [if_neg hlo]; split <;> omega
    have hgf : decide (g < 0) = false := decide_eq_false hg
    have HG1 := Lib.hid hg0
    have HLO := Lib.hid hlo
    clear hlo hg0 hg
    by_cases hhi : 9223372036854775807 < z
    · have HF := Lib.hid (show fits64 z = false by unfold fits64; rw [decide_eq_false (p := z ≤ 9223372036854775807) (by omega), Bool.and_false])
      have HG2 := Lib.hid (show sgnI z 9223372036854775807 = 1 by unfold sgnI; rw [if_neg (by omega), if_pos hhi])
      clear hhi
      go_enter Try.func78, Try.ntmps78
      go_wp2_with fail
      refine wp_plan [([0], 1, [0]), ([], 2, []), ([3, 4, 5], 6, [5]), ([], 7, [])] [8, 9] (by kernel_rfl) (by kernel_rfl) ?_
      simp only [wpSegs, opsOf, List.map_cons, List.map_nil, opN, List.getD_cons_zero, List.getD_cons_succ]
      go_wp2_with fail
      refine ⟨by first | trivial | rfl, ?_⟩
      go_wp2_with fail
      refine HC1.out.mono ?_
      rintro e w2 ⟨v2, rfl, hv2, m2⟩
      have hb2 := HB.out.kept0 (HD.out.trans m2)
      obtain ⟨x0', x1', _, _⟩ := hb2.cells
      have HCC := Lib.hid (ncmp_any _ v2 z (-9223372036854775808) w2 hb2.nat hv2 HSZ.out (big_of 10 (by omega) (by decide)))
      rw [HG1.out] at HCC
      have HM2 := Lib.hid (HM1.out.trans (HD.out.trans m2))
      have HB2 := Lib.hid hb2
      obtain ⟨v2n, v2s, v2l, rfl, hv2'⟩ := hv2
      obtain ⟨v2a, v2c, rfl⟩ := hv2'.ints.form
      clear hb2 hv2' m2 HC1
      go_wp2_with fail
      refine ⟨?ag1, ?_⟩
      case ag1 =>
        intro i hi hw
        simp only [List.mem_cons, List.not_mem_nil, or_false] at hi
        subst hi
        all_goals (simp only [opN, List.getD_cons_zero, List.getD_cons_succ, slotOf]; go_simp)
      go_wp2_with fail
      refine ⟨by first | trivial | rfl, ?_⟩
      go_wp2_with fail
      refine HCC.out.mono ?_
      rintro e w3 ⟨rfl, m3⟩
      have HM3 := Lib.hid (HM2.out.trans m3)
      have HB3 := Lib.hid (HB2.out.kept0 m3)
      obtain ⟨x0'', x1'', _, _⟩ := HB3.out.cells
      have HC2 := Lib.hid (nof_any 9223372036854775807 (by omega) (by omega) w3)
      clear m3 HCC
      go_wp2_with fail
      refine ⟨again_nil, ?_⟩
      go_wp2_with fail
      refine ⟨by first | trivial | rfl, ?_⟩
      go_wp2_with fail
      refine HC2.out.mono ?_
      rintro e w4 ⟨v4, rfl, hv4, m4⟩
      have hb4 := HB3.out.kept0 m4
      obtain ⟨y0, y1, _, _⟩ := hb4.cells
      have HCD := Lib.hid (ncmp_any _ v4 z 9223372036854775807 w4 hb4.nat hv4 HSZ.out (big_of 10 (by omega) (by decide)))
      rw [HG2.out] at HCD
      have HM4 := Lib.hid (HM3.out.trans m4)
      have HB4 := Lib.hid hb4
      obtain ⟨v4n, v4s, v4l, rfl, hv4'⟩ := hv4
      obtain ⟨v4a, v4c, rfl⟩ := hv4'.ints.form
      clear hb4 hv4' m4 HC2
      go_wp2_with fail
      refine ⟨?ag2, ?_⟩
      case ag2 =>
        intro i hi hw
        simp only [List.mem_cons, List.not_mem_nil, or_false] at hi
        subst hi
        all_goals (simp only [opN, List.getD_cons_zero, List.getD_cons_succ, slotOf]; go_simp)
      go_wp2_with fail
      refine ⟨by first | trivial | rfl, ?_⟩
      go_wp2_with fail
      refine HCD.out.mono ?_
      rintro e w5 ⟨rfl, m5⟩
      have HM5 := Lib.hid (HM4.out.trans m5)
      have HB5 := Lib.hid (HB4.out.kept0 m5)
      obtain ⟨y0', y1', _, _⟩ := HB5.out.cells
      clear m5 HCD
      go_wp2_with fail
      refine ⟨again_nil, ?_⟩
      go_wp2_with fail
      refine ⟨by first | trivial | rfl, ?_⟩
      go_wp2_with fail
      go_ret2
      exact ⟨by rw [HF.out]; rfl, HM5.out⟩
    · have HF := Lib.hid (show fits64 z = true by unfold fits64; have := HLO.out; rw [decide_eq_true (p := z ≤ 9223372036854775807) (by omega), decide_eq_true (by omega)]; rfl)
      obtain ⟨g2, hg20⟩ : ∃ g, sgnI z 9223372036854775807 = g := ⟨_, rfl⟩
      have hg2 : ¬ 0 < g2 := by rw [← hg20]; unfold sgnI; split <;> (try split) <;> omega
      have hgf2 : decide (0 < g2) = false := decide_eq_false hg2
      have HG2 := Lib.hid hg20
      have HHI := Lib.hid hhi
      clear hhi hg20 hg2
      go_enter Try.func78, Try.ntmps78
      go_wp2_with fail
      refine wp_plan [([0], 1, [0]), ([], 2, []), ([3, 4, 5], 6, [5]), ([], 7, [])] [8, 9] (by kernel_rfl) (by kernel_rfl) ?_
      simp only [wpSegs, opsOf, List.map_cons, List.map_nil, opN, List.getD_cons_zero, List.getD_cons_succ]
      go_wp2_with fail
      refine ⟨by first | trivial | rfl, ?_⟩
      go_wp2_with fail
      refine HC1.out.mono ?_
      rintro e w2 ⟨v2, rfl, hv2, m2⟩
      have hb2 := HB.out.kept0 (HD.out.trans m2)
      obtain ⟨x0', x1', _, _⟩ := hb2.cells
      have HCC := Lib.hid (ncmp_any _ v2 z (-9223372036854775808) w2 hb2.nat hv2 HSZ.out (big_of 10 (by omega) (by decide)))
      rw [HG1.out] at HCC
      have HM2 := Lib.hid (HM1.out.trans (HD.out.trans m2))
      have HB2 := Lib.hid hb2
      obtain ⟨v2n, v2s, v2l, rfl, hv2'⟩ := hv2
      obtain ⟨v2a, v2c, rfl⟩ := hv2'.ints.form
      clear hb2 hv2' m2 HC1
      go_wp2_with fail
      refine ⟨?ag1, ?_⟩
      case ag1 =>
        intro i hi hw
        simp only [List.mem_cons, List.not_mem_nil, or_false] at hi
        subst hi
        all_goals (simp only [opN, List.getD_cons_zero, List.getD_cons_succ, slotOf]; go_simp)
      go_wp2_with fail
      refine ⟨by first | trivial | rfl, ?_⟩
      go_wp2_with fail
      refine HCC.out.mono ?_
      rintro e w3 ⟨rfl, m3⟩
      have HM3 := Lib.hid (HM2.out.trans m3)
      have HB3 := Lib.hid (HB2.out.kept0 m3)
      obtain ⟨x0'', x1'', _, _⟩ := HB3.out.cells
      have HC2 := Lib.hid (nof_any 9223372036854775807 (by omega) (by omega) w3)
      clear m3 HCC
      go_wp2_with fail
      refine ⟨again_nil, ?_⟩
      go_wp2_with fail
      refine ⟨by first | trivial | rfl, ?_⟩
      go_wp2_with fail
      refine HC2.out.mono ?_
      rintro e w4 ⟨v4, rfl, hv4, m4⟩
      have hb4 := HB3.out.kept0 m4
      obtain ⟨y0, y1, _, _⟩ := hb4.cells
      have HCD := Lib.hid (ncmp_any _ v4 z 9223372036854775807 w4 hb4.nat hv4 HSZ.out (big_of 10 (by omega) (by decide)))
      rw [HG2.out] at HCD
      have HM4 := Lib.hid (HM3.out.trans m4)
      have HB4 := Lib.hid hb4
      obtain ⟨v4n, v4s, v4l, rfl, hv4'⟩ := hv4
      obtain ⟨v4a, v4c, rfl⟩ := hv4'.ints.form
      clear hb4 hv4' m4 HC2
      go_wp2_with fail
      refine ⟨?ag2, ?_⟩
      case ag2 =>
        intro i hi hw
        simp only [List.mem_cons, List.not_mem_nil, or_false] at hi
        subst hi
        all_goals (simp only [opN, List.getD_cons_zero, List.getD_cons_succ, slotOf]; go_simp)
      go_wp2_with fail
      refine ⟨by first | trivial | rfl, ?_⟩
      go_wp2_with fail
      refine HCD.out.mono ?_
      rintro e w5 ⟨rfl, m5⟩
      have HM5 := Lib.hid (HM4.out.trans m5)
      have HB5 := Lib.hid (HB4.out.kept0 m5)
      obtain ⟨y0', y1', _, _⟩ := HB5.out.cells
      clear m5 HCD
      go_wp2_with fail
      refine ⟨again_nil, ?_⟩
      go_wp2_with fail
      refine ⟨by first | trivial | rfl, ?_⟩
      go_wp2_with fail
      go_loopw [4, 5] (fun s4 s5 wr => ∃ (k : Nat) (u n : Int), s5 = .int .i64 u ∧ u = (k : Int) - 1 ∧ s4 = .int .i64 n ∧ k ≤ lx.length ∧ Hid (n = zOf nx (lx.drop k)) ∧ Hid (BoxZ wr w.heap.size nx ax lx cx z) ∧ Hid (Mod [] w wr)) (fun _ s5 _ => (intOf s5 + 1).toNat)
      case atStart => exact ⟨lx.length, _, 0, rfl, rfl, rfl, by omega, Lib.hid (by rw [List.drop_of_length_le (Nat.le_refl _)]; simp [zOf, rv]), HB5, HM5⟩
      case round =>
        obtain ⟨k, u, n, rfl, hu, rfl, hk, hN, hBr, hM⟩ := hrel
        obtain ⟨y0', y1', _, _⟩ := hBr.out.cells
        cases k with
        | zero =>
          obtain rfl : u = -1 := by omega
          have HNZ := Lib.hid (show n = z by rw [hN.out, List.drop_zero]; exact HX.out.z.symm)
          clear hu
          go_wp2_with fail
          go_ret2
          exact ⟨by rw [HF.out, HNZ.out]; rfl, hM.out⟩
        | succ m =>
          obtain rfl : u = (m : Int) := by omega
          have hml : m < lx.length := by omega
          obtain ⟨bX, oX, rfl, _, c1⟩ := (HX.out.ints.kept0 hM.out).get1 hml
          have hd := HX.out.dg.get hml
          have hdr := rv_drop hml
          obtain ⟨hr1, hr2⟩ := rv_drop_le HX.out.dg m
          obtain ⟨hr3, _⟩ := rv_drop_le HX.out.dg (m + 1)
          have hn := hN.out
          have hzz := HX.out.z
          have hlo := HLO.out
          have hhi := HHI.out
          generalize lx[m] = d at c1 hd hdr
          cases nx with
          | true =>
            simp only [zOf, if_true] at hn hzz
            have hb1 : -9223372036854775808 ≤ n * 1000 := by omega
            have hb2 : n * 1000 ≤ 9223372036854775807 := by omega
            have hb3 : -9223372036854775808 ≤ n * 1000 - d := by omega
            have hb4 : n * 1000 - d ≤ 9223372036854775807 := by omega
            have HNN := Lib.hid (show n * 1000 - d = zOf true (lx.drop m) by simp only [zOf, if_true]; omega)
            clear hdr hr1 hr2 hr3 hn hzz hlo hhi hu
            go_wp2_with fail
            go_roundw
            case rel => exact ⟨m, _, _, rfl, by omega, rfl, by omega, HNN, hBr, hM⟩
            case measure => simp [intOf] <;> omega
          | false =>
            simp only [zOf, Bool.false_eq_true, if_false] at hn hzz
            have hb1 : -9223372036854775808 ≤ n * 1000 := by omega
            have hb2 : n * 1000 ≤ 9223372036854775807 := by omega
            have hb3 : -9223372036854775808 ≤ n * 1000 + d := by omega
            have hb4 : n * 1000 + d ≤ 9223372036854775807 := by omega
            have HNN := Lib.hid (show n * 1000 + d = zOf false (lx.drop m) by simp only [zOf, Bool.false_eq_true, if_false]; omega)
            clear hdr hr1 hr2 hr3 hn hzz hlo hhi hu
            go_wp2_with fail
            go_roundw
            case rel => exact ⟨m, _, _, rfl, by omega, rfl, by omega, HNN, hBr, hM⟩
            case measure => simp [intOf] <;> omega
end Go.Proofs.Ytnoookcfacmdkaa
