/- Windows: Line. -/
import Derived.Test.YtngglpekdjhbdaaGreatWzAj
import Derived.Test.YtngglpekdjhbdaaGreatWzAe
import Derived.Test.YtngglpekdjhbdaaGreatWzAf
namespace Go.Proofs.YtngglpekdjhbdaaGreat
open Go.RowKit Go.ChangeMaps Go.Deep
set_option linter.unusedSimpArgs false
set_option linter.unusedVariables false
set_option maxRecDepth 20000

/-- a window's answer on a day -/
def winH (k b : Int) (g : Int → Int) (d : Int) : Int := dayH (decide (k = 1)) b (ovZ k) g d
theorem winH_lag (b : Int) (g : Int → Int) (d : Int) : winH 1 b g d = g (d - b) := by simp [winH, dayH]
set_option maxHeartbeats 4000000 in
theorem day_at {w : World} {g : Nat} {B : List Nat} {n : Nat} {gf : Int → Int} (h : ValAt w g B n gf) (hn : n ≤ 40000) {k b d : Int} (hw : winOk k b) (hd : 1 ≤ d ∧ d ≤ 3652059) :
    Calls Tryz.prog 18 #[.pointer (some ⟨g, 0, none⟩), .agg #[.int .u8 k, .int .i64 b], .int .i64 d] w fun e w' => e = .returned (valZ (winH k b gf d)) ∧ Mod [] w w' := by
  obtain ⟨hk1, hk5, hb0, hb1⟩ := hw
  obtain ⟨A1, hA1, n1, z1, m1⟩ := alloc_named2 w (.cells #[.int .u8 k, .int .i64 b] 24)
  obtain ⟨A2, hA2, n2, z2, m2⟩ := alloc_named2 A1 (.cells #[.int .u8 0, .int .i64 0, .int .i64 0, .int .i64 0] 35)
  rw [z1] at n2
  have n1' := m2.heap n1 (by simp)
  have c0 := cell_blk n1' 0
  have c1 := cell_blk n1' 1
  simp only [List.getElem?_toArray, List.getElem?_cons_succ, List.getElem?_cons_zero] at c0 c1
  have HA := Lib.hid (show ValAt A2 g B n gf ∧ A2.heap[w.heap.size + 1]? = some (.cells #[.int .u8 0, .int .i64 0, .int .i64 0, .int .i64 0] 35 (0, 0)) ∧ A2.heap[w.heap.size]? = some (.cells #[.int .u8 k, .int .i64 b] 24 (0, 0)) ∧ Mod [] w A2 from ⟨h.kept0 (m1.trans m2), n2, n1', m1.trans m2⟩)
  clear n1 n2 n1' m1 m2 h
  have hwr : IntKind.i64.wrap (d - b) = d - b := by rw [IntKind.wrap_i64]; omega
  by_cases hk : k = 1
  · subst hk
    have CA := Lib.hid (atZ_line HA.out.1 hn (day := d - b) (by omega))
    rw [winH_lag]
    obtain ⟨kv, cv, sv, ev, hvl⟩ := valZ_form (gf (d - b))
    rw [show valZ (gf (d - b)) = .agg #[.int .u8 kv, .int .i64 cv, .int .i64 sv, .int .i64 ev] by unfold valZ; rw [hvl]] at CA ⊢
    clear hvl
    go_enter Tryz.func18, Tryz.ntmps18
    go_wp2_with fail
    refine CA.out.mono ?_
    rintro e w3 ⟨rfl, m3⟩
    have nr := m3.heap HA.out.2.1 (by simp)
    have f0 := frozen_blk nr 0
    have f1 := frozen_blk nr 1
    have f2 := frozen_blk nr 2
    have f3 := frozen_blk nr 3
    have g0 := cell_blk nr 0
    have g1 := cell_blk nr 1
    have g2 := cell_blk nr 2
    have g3 := cell_blk nr 3
    simp only [List.getElem?_toArray, List.getElem?_cons_succ, List.getElem?_cons_zero] at g0 g1 g2 g3
    obtain ⟨W2, e2, m4, b2⟩ := set4 nr (.int .u8 kv) (.int .i64 cv) (.int .i64 sv) (.int .i64 ev)
    have HE2 := Lib.hid e2
    have HB2 := Lib.hid b2
    have HM2 := Lib.hid (mod_over (HA.out.2.2.2.trans m3) m4 (by simp))
    clear nr e2 m4 b2 m3
    go_wp2_with fail
    simp only [HE2.out]
    refine bodyPost_ret (results_cell_row (P := Tryz.prog) (t := 35) (cs := #[.int .u8 kv, .int .i64 cv, .int .i64 sv, .int .i64 ev]) (fr := (0, 0)) (g := w.heap.size + 1) (h := rfl) (hp := rfl) (hg := HB2.out) (hu := Tryz.underlying35) (hd := rfl) (hi := by kernel_rfl) ..) rfl ⟨rfl, HM2.out⟩
  · have hk' : (k == 1) = false := by simpa using hk
    have hw2 : IntKind.i64.wrap (d + 1) = d + 1 := by rw [IntKind.wrap_i64]; omega
    have CS := Lib.hid (fun (W : World) (hv : ValAt W g B n gf) => segsZ_line hv hn (show mayS (max (d - b) 1) (d + 1) from ⟨by omega, by omega, by omega⟩))
    have HWH := Lib.hid (show ∀ L, SegsTo gf (max (d - b) 1) (d + 1) L → winH k b gf d = ovZ k (L.map (·.v)) from fun L hL => by
      unfold winH dayH
      rw [decide_eq_false hk, if_neg (by simp), segs_runs hL])
    generalize winH k b gf d = H at HWH ⊢
    have HOV := Lib.hid (fun (W : World) (v : Value) (L : List Sg) (base : Nat) (hv : OwnR encSgZ 6 62 W base v L) (hl : L.length ≤ 1000000) => over_at (k := k) ⟨by omega, hk5⟩ hv hl)
    generalize hmx : max (d - b) 1 = mx at CS HWH
    have HMX := Lib.hid hmx
    obtain ⟨kv, cv, sv, ev, hvl⟩ := valZ_form H
    have HVZ := Lib.hid (show valZ H = .agg #[.int .u8 kv, .int .i64 cv, .int .i64 sv, .int .i64 ev] by unfold valZ; rw [hvl])
    rw [HVZ.out]
    clear hmx hvl
    go_enter Tryz.func18, Tryz.ntmps18
    go_wp2_with fail
    refine wp_plan [([0, 2, 3, 4, 8, 1, 5, 9, 6], 7, [0, 1, 9]), ([], 10, [0, 1]), ([], 11, [0, 1]), ([], 12, []), ([], 13, [])] [] (by kernel_rfl) (by kernel_rfl) ?_
    simp only [wpSegs, opsOf, List.map_cons, List.map_nil, opN, List.getD_cons_zero, List.getD_cons_succ]
    go_wp2_with fail
    refine ⟨by first | trivial | rfl, ?_⟩
    go_wp2_with ((with_reducible apply xMax rfl); exact rfl; exact rfl; exact rfl)
    simp only [HMX.out]
    refine ⟨?agA, ?_⟩
    case agA =>
      intro i hi hw
      simp only [List.mem_cons, List.not_mem_nil, or_false] at hi
      rcases hi with rfl | rfl | rfl
      all_goals (simp only [opN, List.getD_cons_zero, List.getD_cons_succ, slotOf]; go_simp)
    go_wp2_with fail
    refine ⟨by first | trivial | rfl, ?_⟩
    go_wp2_with fail
    refine ⟨?agB, ?_⟩
    case agB =>
      intro i hi hw
      simp only [List.mem_cons, List.not_mem_nil, or_false] at hi
      rcases hi with rfl | rfl
      all_goals (simp only [opN, List.getD_cons_zero, List.getD_cons_succ, slotOf]; go_simp)
    go_wp2_with fail
    refine ⟨by first | trivial | rfl, ?_⟩
    go_wp2_with fail
    refine (CS.out _ (HA.out.1.kept0 (Mod.refl [] A2).drew)).mono ?_
    rintro e w3 ⟨v, L, rfl, hO, hL, hlen, m3⟩
    have HA3 := Lib.hid (show w3.heap[w.heap.size + 1]? = some (.cells #[.int .u8 0, .int .i64 0, .int .i64 0, .int .i64 0] 35 (0, 0)) ∧ Mod [] w w3 from ⟨m3.heap (show A2.drew.heap[w.heap.size + 1]? = _ from HA.out.2.1) (by simp), HA.out.2.2.2.drew.trans m3⟩)
    have hwn := m3.heap (show A2.drew.heap[w.heap.size]? = _ from HA.out.2.2.1) (by simp)
    have y0 := cell_blk hwn 0
    have y1 := cell_blk hwn 1
    simp only [List.getElem?_toArray, List.getElem?_cons_succ, List.getElem?_cons_zero] at y0 y1
    have CO := Lib.hid (HOV.out w3 v L _ hO (by omega))
    rw [← HWH.out L hL] at CO
    rw [HVZ.out] at CO
    clear hO hL hlen m3 hwn
    go_wp2_with fail
    refine ⟨?agC, ?_⟩
    case agC =>
      intro i hi hw
      simp only [List.mem_cons, List.not_mem_nil, or_false] at hi
      rcases hi with rfl | rfl
      all_goals (simp only [opN, List.getD_cons_zero, List.getD_cons_succ, slotOf]; go_simp)
    go_wp2_with fail
    refine ⟨by first | trivial | rfl, ?_⟩
    go_wp2_with fail
    refine CO.out.mono ?_
    rintro e w4 ⟨rfl, m4⟩
    have nr := m4.heap HA3.out.1 (by simp)
    have f0 := frozen_blk nr 0
    have f1 := frozen_blk nr 1
    have f2 := frozen_blk nr 2
    have f3 := frozen_blk nr 3
    have g0 := cell_blk nr 0
    have g1 := cell_blk nr 1
    have g2 := cell_blk nr 2
    have g3 := cell_blk nr 3
    simp only [List.getElem?_toArray, List.getElem?_cons_succ, List.getElem?_cons_zero] at g0 g1 g2 g3
    obtain ⟨W2, e2, m5, b2⟩ := set4 nr (.int .u8 kv) (.int .i64 cv) (.int .i64 sv) (.int .i64 ev)
    have HE2 := Lib.hid e2
    have HB2 := Lib.hid b2
    have HM2 := Lib.hid (mod_over (HA3.out.2.trans m4) m5 (by simp))
    clear nr e2 m5 b2 m4
    go_wp2_with fail
    refine ⟨again_nil, ?_⟩
    go_wp2_with fail
    refine ⟨by first | trivial | rfl, ?_⟩
    go_wp2_with fail
    simp only [HE2.out]
    refine ⟨again_nil, ?_⟩
    go_wp2_with fail
    refine ⟨by first | trivial | rfl, ?_⟩
    go_wp2_with fail
    refine bodyPost_ret (results_cell_row (P := Tryz.prog) (t := 35) (cs := #[.int .u8 kv, .int .i64 cv, .int .i64 sv, .int .i64 ev]) (fr := (0, 0)) (g := w.heap.size + 1) (h := rfl) (hp := rfl) (hg := HB2.out) (hu := Tryz.underlying35) (hd := rfl) (hi := by kernel_rfl) ..) rfl ⟨rfl, HM2.out⟩
/-- Day: of a window that may be -/
def dayZ (k b : Int) (g : Int → Int) (d : Int) : Int := if 1 ≤ d ∧ d ≤ 3652059 then winH k b g d else 0
theorem dayT_at {w : World} {g : Nat} {B : List Nat} {n : Nat} {gf : Int → Int} (h : ValAt w g B n gf) (hn : n ≤ 40000) {k b : Int} (hw : winOk k b) (d : Int) :
    Calls Tryz.prog 8 #[.pointer (some ⟨g, 0, none⟩), .agg #[.int .u8 k, .int .i64 b], .int .i64 d] w fun e w' => e = .returned (.tuple #[valZ (dayZ k b gf d), .int .i64 0]) ∧ Mod [] w w' := by
  obtain ⟨A1, hA1, n1, z1, m1⟩ := alloc_named2 w (.cells #[.int .u8 k, .int .i64 b] 24)
  obtain ⟨A2, hA2, n2, z2, m2⟩ := alloc_named2 A1 (.cells #[.int .u8 0, .int .i64 0, .int .i64 0, .int .i64 0] 35)
  rw [z1] at n2
  have n1' := m2.heap n1 (by simp)
  have c0 := cell_blk n1' 0
  have c1 := cell_blk n1' 1
  simp only [List.getElem?_toArray, List.getElem?_cons_succ, List.getElem?_cons_zero] at c0 c1
  have HA := Lib.hid (show ValAt A2 g B n gf ∧ A2.heap[w.heap.size + 1]? = some (.cells #[.int .u8 0, .int .i64 0, .int .i64 0, .int .i64 0] 35 (0, 0)) ∧ A2.heap[w.heap.size]? = some (.cells #[.int .u8 k, .int .i64 b] 24 (0, 0)) ∧ Mod [] w A2 from ⟨h.kept0 (m1.trans m2), n2, n1', m1.trans m2⟩)
  have CM := Lib.hid (wnMay_at A2 k b)
  rw [decide_eq_true hw] at CM
  clear n1 n2 n1' m1 m2 h
  have HZ := Lib.hid (show (1 ≤ d ∧ d ≤ 3652059) → dayZ k b gf d = winH k b gf d from fun hh => if_pos hh)
  have HZ' := Lib.hid (show ¬ (1 ≤ d ∧ d ≤ 3652059) → valZ (dayZ k b gf d) = .agg #[.int .u8 0, .int .i64 0, .int .i64 0, .int .i64 0] from fun hh => by unfold dayZ; rw [if_neg hh, valZ_zero])
  generalize dayZ k b gf d = H at HZ HZ' ⊢
  obtain ⟨kv, cv, sv, ev, hvl⟩ := valZ_form H
  have HVZ := Lib.hid (show valZ H = .agg #[.int .u8 kv, .int .i64 cv, .int .i64 sv, .int .i64 ev] by unfold valZ; rw [hvl])
  rw [HVZ.out] at HZ' ⊢
  clear hvl
  go_enter Tryz.func8, Tryz.ntmps8
  go_wp2_with fail
  refine CM.out.mono ?_
  rintro e w3 ⟨rfl, m3⟩
  have HA3 := Lib.hid (show ValAt w3 g B n gf ∧ w3.heap[w.heap.size + 1]? = some (.cells #[.int .u8 0, .int .i64 0, .int .i64 0, .int .i64 0] 35 (0, 0)) ∧ Mod [] w w3 from ⟨HA.out.1.kept0 m3, m3.heap HA.out.2.1 (by simp), HA.out.2.2.2.trans m3⟩)
  have hwn := m3.heap HA.out.2.2.1 (by simp)
  have y0 := cell_blk hwn 0
  have y1 := cell_blk hwn 1
  have nr := HA3.out.2.1
  have f0 := frozen_blk nr 0
  have f1 := frozen_blk nr 1
  have f2 := frozen_blk nr 2
  have f3 := frozen_blk nr 3
  have g0 := cell_blk nr 0
  have g1 := cell_blk nr 1
  have g2 := cell_blk nr 2
  have g3 := cell_blk nr 3
  simp only [List.getElem?_toArray, List.getElem?_cons_succ, List.getElem?_cons_zero] at g0 g1 g2 g3 y0 y1
  obtain ⟨W2, e2, m4, b2⟩ := set4 nr (.int .u8 0) (.int .i64 0) (.int .i64 0) (.int .i64 0)
  have HE2 := Lib.hid e2
  have HB2 := Lib.hid b2
  have HM2 := Lib.hid (mod_over HA3.out.2.2 m4 (by simp))
  clear nr e2 m4 b2 m3 CM
  by_cases h1 : d < 1
  · have hd1 : decide (d < 1) = true := decide_eq_true h1
    have HQ := Lib.hid (HZ'.out (by omega))
    clear HZ HZ' h1 HVZ
    go_wp2_with fail
    simp only [HE2.out]
    go_wp2_with fail
    refine bodyPost_ret (results_row_tmp (P := Tryz.prog) (t := 35) (cs := #[.int .u8 0, .int .i64 0, .int .i64 0, .int .i64 0]) (fr := (0, 0)) (g := w.heap.size + 1) (h := rfl) (hp := rfl) (hg := HB2.out) (hu := Tryz.underlying35) (hd := rfl) (hi := by kernel_rfl) ..) rfl ⟨by rw [HQ.out]; rfl, HM2.out⟩
  · have hd1 : decide (d < 1) = false := decide_eq_false h1
    by_cases h2 : 3652059 < d
    · have hd2 : decide (3652059 < d) = true := decide_eq_true h2
      have HQ := Lib.hid (HZ'.out (by omega))
      clear HZ HZ' h1 h2 HVZ
      go_wp2_with fail
      simp only [HE2.out]
      go_wp2_with fail
      refine bodyPost_ret (results_row_tmp (P := Tryz.prog) (t := 35) (cs := #[.int .u8 0, .int .i64 0, .int .i64 0, .int .i64 0]) (fr := (0, 0)) (g := w.heap.size + 1) (h := rfl) (hp := rfl) (hg := HB2.out) (hu := Tryz.underlying35) (hd := rfl) (hi := by kernel_rfl) ..) rfl ⟨by rw [HQ.out]; rfl, HM2.out⟩
    · have hd2 : decide (3652059 < d) = false := decide_eq_false h2
      have CD := Lib.hid (day_at HA3.out.1 hn hw (d := d) (by omega))
      rw [← HZ.out (by omega), HVZ.out] at CD
      clear HZ HZ' h1 h2 f0 f1 f2 f3 g0 g1 g2 g3
      go_wp2_with fail
      refine CD.out.mono ?_
      rintro e w5 ⟨rfl, m5⟩
      have nr := m5.heap HA3.out.2.1 (by simp)
      have f0 := frozen_blk nr 0
      have f1 := frozen_blk nr 1
      have f2 := frozen_blk nr 2
      have f3 := frozen_blk nr 3
      have g0 := cell_blk nr 0
      have g1 := cell_blk nr 1
      have g2 := cell_blk nr 2
      have g3 := cell_blk nr 3
      simp only [List.getElem?_toArray, List.getElem?_cons_succ, List.getElem?_cons_zero] at g0 g1 g2 g3
      obtain ⟨W3, e3, m6, b3⟩ := set4 nr (.int .u8 kv) (.int .i64 cv) (.int .i64 sv) (.int .i64 ev)
      have HE3 := Lib.hid e3
      have HB3 := Lib.hid b3
      have HM3 := Lib.hid (mod_over (HA3.out.2.2.trans m5) m6 (by simp))
      clear nr e3 m6 b3 m5 CD
      go_wp2_with fail
      simp only [HE3.out]
      go_wp2_with fail
      refine bodyPost_ret (results_row_tmp (P := Tryz.prog) (t := 35) (cs := #[.int .u8 kv, .int .i64 cv, .int .i64 sv, .int .i64 ev]) (fr := (0, 0)) (g := w.heap.size + 1) (h := rfl) (hp := rfl) (hg := HB3.out) (hu := Tryz.underlying35) (hd := rfl) (hi := by kernel_rfl) ..) rfl ⟨rfl, HM3.out⟩
theorem dayT_not {w : World} {k b : Int} (hw : ¬ winOk k b) (v : Value) (d : Int) :
    Calls Tryz.prog 8 #[v, .agg #[.int .u8 k, .int .i64 b], .int .i64 d] w fun e w' => e = .returned (.tuple #[valZ 0, .int .i64 2]) ∧ Mod [] w w' := by
  obtain ⟨A1, hA1, n1, z1, m1⟩ := alloc_named2 w (.cells #[.int .u8 k, .int .i64 b] 24)
  obtain ⟨A2, hA2, n2, z2, m2⟩ := alloc_named2 A1 (.cells #[.int .u8 0, .int .i64 0, .int .i64 0, .int .i64 0] 35)
  rw [z1] at n2
  have n1' := m2.heap n1 (by simp)
  have c0 := cell_blk n1' 0
  have c1 := cell_blk n1' 1
  simp only [List.getElem?_toArray, List.getElem?_cons_succ, List.getElem?_cons_zero] at c0 c1
  have HA := Lib.hid (show A2.heap[w.heap.size + 1]? = some (.cells #[.int .u8 0, .int .i64 0, .int .i64 0, .int .i64 0] 35 (0, 0)) ∧ Mod [] w A2 from ⟨n2, m1.trans m2⟩)
  have CM := Lib.hid (wnMay_at A2 k b)
  rw [decide_eq_false hw] at CM
  rw [valZ_zero]
  clear n1 n2 n1' m1 m2
  go_enter Tryz.func8, Tryz.ntmps8
  go_wp2_with fail
  refine CM.out.mono ?_
  rintro e w3 ⟨rfl, m3⟩
  have nr := m3.heap HA.out.1 (by simp)
  have f0 := frozen_blk nr 0
  have f1 := frozen_blk nr 1
  have f2 := frozen_blk nr 2
  have f3 := frozen_blk nr 3
  have g0 := cell_blk nr 0
  have g1 := cell_blk nr 1
  have g2 := cell_blk nr 2
  have g3 := cell_blk nr 3
  simp only [List.getElem?_toArray, List.getElem?_cons_succ, List.getElem?_cons_zero] at g0 g1 g2 g3
  obtain ⟨W2, e2, m4, b2⟩ := set4 nr (.int .u8 0) (.int .i64 0) (.int .i64 0) (.int .i64 0)
  have HE2 := Lib.hid e2
  have HB2 := Lib.hid b2
  have HM2 := Lib.hid (mod_over (HA.out.2.trans m3) m4 (by simp))
  clear nr e2 m4 b2 m3 CM
  go_wp2_with fail
  simp only [HE2.out]
  go_wp2_with fail
  refine bodyPost_ret (results_row_tmp (P := Tryz.prog) (t := 35) (cs := #[.int .u8 0, .int .i64 0, .int .i64 0, .int .i64 0]) (fr := (0, 0)) (g := w.heap.size + 1) (h := rfl) (hp := rfl) (hg := HB2.out) (hu := Tryz.underlying35) (hd := rfl) (hi := by kernel_rfl) ..) rfl ⟨rfl, HM2.out⟩
end Go.Proofs.YtngglpekdjhbdaaGreat
namespace Go.Proofs.YtngglpekdjhbdaaGreat
open Go.RowKit Go.ChangeMaps Go.Deep
set_option linter.unusedSimpArgs false
set_option linter.unusedVariables false
set_option maxRecDepth 20000

theorem CutTo.within {P : Int → Prop} {a : Int} : ∀ (n : Nat) {z : Int} {L : List Cs}, L.length = n → CutTo P a z L → ∀ c ∈ L, a ≤ c.1 ∧ c.1 < c.2 ∧ c.2 ≤ z
  | 0, z, L, hl, h, c, hc => by
    obtain rfl := List.eq_nil_of_length_eq_zero hl
    simp at hc
  | n + 1, z, L, hl, h, c, hc => by
    rcases h.cases' with ⟨rfl, _⟩ | ⟨L', f, rfl, h1, h2, _⟩
    · simp at hl
    · have h3 := h1.le
      rcases List.mem_append.1 hc with h4 | h4
      · have := CutTo.within n (by simp at hl; omega) h1 c h4
        omega
      · simp at h4
        subst h4
        exact ⟨h3, h2, Int.le_refl _⟩
/-- a line as it is laid: behind j of the spans -/
structure LwSt (w W : World) (g : Nat) (B : List Nat) (n : Nat) (gf : Int → Int) (g2 : Nat) (k b : Int) (la : Option Addr) (lc : Nat) (C : List Cs) (base j : Nat) : Prop where
  line : ∃ B2, ValAt W g2 B2 j (lineG (winH k b gf) (C.take j) (fun _ => 0)) ∧ (∀ x ∈ B2, w.heap.size + 1 + 1 ≤ x ∧ (Value.slice la C.length lc).ownBlock ≠ some x)
  win : W.heap[w.heap.size]? = some (.cells #[.int .u8 k, .int .i64 b] 24 (0, 0))
  row : OwnR encC 2 39 W base (.slice la C.length lc) C
  mod : Mod [] w W
theorem LwSt.kept0 {w W W' : World} {g : Nat} {B : List Nat} {n : Nat} {gf : Int → Int} {g2 : Nat} {k b : Int} {la : Option Addr} {lc : Nat} {C : List Cs} {base j : Nat} (h : LwSt w W g B n gf g2 k b la lc C base j) (m : Mod [] W W') : LwSt w W' g B n gf g2 k b la lc C base j := by
  obtain ⟨B2, h1, h2⟩ := h.line
  exact ⟨⟨B2, h1.kept0 m, h2⟩, m.heap h.win (by simp), h.row.kept0 m, h.mod.trans m⟩
theorem LwSt.put {w W W' : World} {g : Nat} {B : List Nat} {n : Nat} {gf : Int → Int} {g2 : Nat} {k b : Int} {la : Option Addr} {lc : Nat} {C : List Cs} {base j : Nat} (h : LwSt w W g B n gf g2 k b la lc C base j) {B2 : List Nat} (h2 : ∀ x ∈ B2, w.heap.size + 1 + 1 ≤ x ∧ (Value.slice la C.length lc).ownBlock ≠ some x)
    (hj : j < C.length) (hp : ValPost W g2 B2 (j + 1) (upd (lineG (winH k b gf) (C.take j) (fun _ => 0)) C[j].1 C[j].2 (winH k b gf C[j].1)) W') : LwSt w W' g B n gf g2 k b la lc C base (j + 1) := by
  obtain ⟨B3, q1, q2, q3⟩ := hp
  refine ⟨⟨B3, ?_, fun x hx => ?_⟩, q2.heap h.win (fun hm => by have := (h2 _ hm).1; omega), h.row.kept q2 (fun x hx hm => (h2 x hm).2 hx), mod_over h.mod q2 (fun x hx => by have := (h2 x hx).1; omega)⟩
  · rw [List.take_succ_eq_append_getElem hj, lineG_snoc]
    exact q1
  · rcases q3 x hx with h4 | h4
    · exact h2 x h4
    · have h5 := h.mod.size
      have h6 := lt_of_heap h.win
      refine ⟨?_, fun e => ?_⟩
      · have hx2 : x < W'.heap.size := q1.lt x hx
        obtain ⟨B4, p1, p2⟩ := h.line
        have := p1.lt _ p1.mem
        have := (p2 _ p1.mem).1
        omega
      · have := (World.ownsRow.lt h.row x e).2
        omega
set_option maxHeartbeats 8000000 in
theorem line_at {w : World} {g : Nat} {B : List Nat} {n : Nat} {gf : Int → Int} (h : ValAt w g B n gf) (hn : n ≤ 1000) (hg : ∀ d, d < 1 → gf d = 0) {k b : Int} (hw : winOk k b) :
    Calls Tryz.prog 7 #[.pointer (some ⟨g, 0, none⟩), .agg #[.int .u8 k, .int .i64 b]] w fun e w' => ∃ g' B' n', e = .returned (.tuple #[.pointer (some ⟨g', 0, none⟩), .int .i64 0]) ∧ ValAt w' g' B' n' (lineH (winH k b gf)) ∧ (n' ≤ 40000 ∧ ∀ x ∈ B', w.heap.size ≤ x) ∧ Mod [] w w' := by
  have HW := Lib.hid hw
  have HG := Lib.hid hg
  have HV0 := Lib.hid h
  obtain ⟨A1, hA1, n1, z1, m1⟩ := alloc_named2 w (.cells #[.int .u8 k, .int .i64 b] 24)
  have c0 := cell_blk n1 0
  have c1 := cell_blk n1 1
  simp only [List.getElem?_toArray, List.getElem?_cons_succ, List.getElem?_cons_zero] at c0 c1
  have HA := Lib.hid (show ValAt A1 g B n gf ∧ A1.heap[w.heap.size]? = some (.cells #[.int .u8 k, .int .i64 b] 24 (0, 0)) ∧ Mod [] w A1 from ⟨h.kept0 m1, n1, m1⟩)
  have CM := Lib.hid (wnMay_at A1 k b)
  rw [decide_eq_true hw] at CM
  clear n1 m1 h hw hg
  go_enter Tryz.func7, Tryz.ntmps7
  go_wp2_with fail
  refine CM.out.mono ?_
  rintro e w3 ⟨rfl, m3⟩
  obtain ⟨A4, hA4, n4, z4, m4⟩ := alloc_named2 w3 (.cells #[.int .i64 1, .int .i64 3652060] 39)
  have HA4 := Lib.hid (show ValAt A4 g B n gf ∧ A4.heap[w.heap.size]? = some (.cells #[.int .u8 k, .int .i64 b] 24 (0, 0)) ∧ A4.heap[w3.heap.size]? = some (.cells #[.int .i64 1, .int .i64 3652060] 39 (0, 0)) ∧ w.heap.size < w3.heap.size ∧ Mod [] w A4 from ⟨HA.out.1.kept0 (m3.trans m4), (m3.trans m4).heap HA.out.2.1 (by simp), n4, lt_of_heap (m3.heap HA.out.2.1 (by simp)), HA.out.2.2.trans (m3.trans m4)⟩)
  have CN := Lib.hid (tvNew_line A4)
  clear CM m3 n4 m4 c0 c1 HA
  go_wp2_with fail
  refine CN.out.mono ?_
  rintro e w5 ⟨rfl, hN, m5⟩
  have HA5 := Lib.hid (show ValAt w5 g B n gf ∧ w5.heap[w.heap.size]? = some (.cells #[.int .u8 k, .int .i64 b] 24 (0, 0)) ∧ w5.heap[w3.heap.size]? = some (.cells #[.int .i64 1, .int .i64 3652060] 39 (0, 0)) ∧ w.heap.size < w3.heap.size ∧ Mod [] w w5 from ⟨HA4.out.1.kept0 m5, m5.heap HA4.out.2.1 (by simp), m5.heap HA4.out.2.2.1 (by simp), HA4.out.2.2.2.1, HA4.out.2.2.2.2.trans m5⟩)
  have HN := Lib.hid hN
  have c0 := cell_blk HA5.out.2.1 0
  have c1 := cell_blk HA5.out.2.1 1
  have d0 := cell_blk HA5.out.2.2.1 0
  have d1 := cell_blk HA5.out.2.2.1 1
  simp only [List.getElem?_toArray, List.getElem?_cons_succ, List.getElem?_cons_zero] at c0 c1 d0 d1
  rw [z4] at HN ⊢
  clear CN hN m5 HA4
  go_wp2_with fail
  refine wp_plan [([0, 1, 2, 3, 8], 4, [0, 1]), ([], 5, [0]), ([], 6, [])] [7] (by kernel_rfl) (by kernel_rfl) ?_
  simp only [wpSegs, opsOf, List.map_cons, List.map_nil, opN, List.getD_cons_zero, List.getD_cons_succ]
  go_wp2_with fail
  refine ⟨by first | trivial | rfl, ?_⟩
  go_wp2_with fail
  refine (endsZ_line (HA5.out.1.kept0 (Mod.refl [] w5).drew) (by omega) may_all).mono ?_
  rintro e w6 ⟨ev, L, rfl, oE, ⟨hL, hLl⟩, m6⟩
  have hEiff := ends_iff hL
  have hEl : (endsL L).length ≤ L.length := by unfold endsL; simp
  have CE := Lib.hid (ends_at oE.row (by omega) (fun d hd => by have := (hEiff d).1 hd; omega) HW.out)
  have HE := Lib.hid hEiff
  have HA6 := Lib.hid (show w6.heap[w.heap.size]? = some (.cells #[.int .u8 k, .int .i64 b] 24 (0, 0)) ∧ w6.heap[w3.heap.size]? = some (.cells #[.int .i64 1, .int .i64 3652060] 39 (0, 0)) ∧ ValAt w6 (w3.heap.size + 1 + 1) [w3.heap.size + 1 + 1, w3.heap.size + 1] 0 (fun _ => 0) ∧ Mod [] w w6 from ⟨m6.heap (show w5.drew.heap[w.heap.size]? = _ from HA5.out.2.1) (by simp), m6.heap (show w5.drew.heap[w3.heap.size]? = _ from HA5.out.2.2.1) (by simp), (HN.out.kept0 (Mod.refl [] w5).drew).kept0 m6, HA5.out.2.2.2.2.drew.trans m6⟩)
  clear c0 c1 d0 d1
  have c0 := cell_blk HA6.out.1 0
  have c1 := cell_blk HA6.out.1 1
  have d0 := cell_blk HA6.out.2.1 0
  have d1 := cell_blk HA6.out.2.1 1
  simp only [List.getElem?_toArray, List.getElem?_cons_succ, List.getElem?_cons_zero] at c0 c1 d0 d1
  have HLl := Lib.hid (show (endsL L).length ≤ 4 * n + 1 by omega)
  clear hEiff hEl hL hLl oE m6
  go_wp2_with fail
  refine ⟨?agA, ?_⟩
  case agA =>
    intro i hi hw
    simp only [List.mem_cons, List.not_mem_nil, or_false] at hi
    rcases hi with rfl | rfl
    all_goals (simp only [opN, List.getD_cons_zero, List.getD_cons_succ, slotOf]; go_simp)
  go_wp2_with fail
  refine ⟨by first | trivial | rfl, ?_⟩
  go_wp2_with fail
  refine CE.out.mono ?_
  rintro e w7 ⟨mv, M, rfl, oM, ⟨hM, hMl⟩, m7⟩
  have hLl := HLl.out
  have CC := Lib.hid (cut_any oM.row (by omega) may_all)
  have HMM := Lib.hid hM
  have HMl := Lib.hid (show M.length ≤ 8 * n + 3 by omega)
  have HA7 := Lib.hid (show w7.heap[w.heap.size]? = some (.cells #[.int .u8 k, .int .i64 b] 24 (0, 0)) ∧ w7.heap[w3.heap.size]? = some (.cells #[.int .i64 1, .int .i64 3652060] 39 (0, 0)) ∧ ValAt w7 (w3.heap.size + 1 + 1) [w3.heap.size + 1 + 1, w3.heap.size + 1] 0 (fun _ => 0) ∧ Mod [] w w7 from ⟨m7.heap HA6.out.1 (by simp), m7.heap HA6.out.2.1 (by simp), HA6.out.2.2.1.kept0 m7, HA6.out.2.2.2.trans m7⟩)
  clear c0 c1 d0 d1
  have d0 := cell_blk HA7.out.2.1 0
  have d1 := cell_blk HA7.out.2.1 1
  simp only [List.getElem?_toArray, List.getElem?_cons_succ, List.getElem?_cons_zero] at d0 d1
  clear oM hM hMl m7 hLl CE HA6
  go_wp2_with fail
  refine ⟨?agB, ?_⟩
  case agB =>
    intro i hi hw
    simp only [List.mem_cons, List.not_mem_nil, or_false] at hi
    subst hi
    all_goals (simp only [opN, List.getD_cons_zero, List.getD_cons_succ, slotOf]; go_simp)
  go_wp2_with fail
  refine ⟨by first | trivial | rfl, ?_⟩
  go_wp2_with fail
  refine CC.out.mono ?_
  rintro e w8 ⟨cv, C, rfl, oC, hC, hCl, m8⟩
  obtain ⟨la, lc, rfl⟩ := oC.lens
  have hMl := HMl.out
  have HCl := Lib.hid (show C.length ≤ 8 * n + 4 by omega)
  have HC := Lib.hid hC
  have HIN := Lib.hid (CutTo.within _ rfl hC)
  have hw3 := HA5.out.2.2.2.1
  have HST := Lib.hid (show LwSt w w8 g B n gf (w3.heap.size + 1 + 1) k b la lc C w7.heap.size 0 from
    ⟨⟨_, by simpa [lineG] using HA7.out.2.2.1.kept0 m8, fun x hx => by
      refine ⟨by simp at hx; omega, fun e => ?_⟩
      have h1 := (World.ownsRow.lt oC x e).1
      have h2 := HA7.out.2.2.1.lt x hx
      omega⟩, m8.heap HA7.out.1 (by simp), oC, HA7.out.2.2.2.trans m8⟩)
  have HVA := Lib.hid (HA5.out.1.kept0 (Mod.refl [] w5))
  have HBL := Lib.hid (Nat.le_of_lt hw3)
  clear oC hC hCl m8 CC d0 d1 hMl HA7 HMl hw3 HA5 HN
  go_wp2_with fail
  refine ⟨again_nil, ?_⟩
  go_wp2_with fail
  refine ⟨by first | trivial | rfl, ?_⟩
  go_wp2_with fail
  go_loopw [23] (fun s23 W => ∃ j : Nat, j ≤ C.length ∧ s23 = .int .i64 j ∧ Hid (LwSt w W g B n gf (w3.heap.size + 1 + 1) k b la lc C w7.heap.size j)) (fun s23 _ => C.length - (intOf s23).toNat)
  case atStart => exact ⟨0, by omega, rfl, HST⟩
  case round =>
    clear HST
    obtain ⟨j, hj, rfl, hS⟩ := hrel
    have hCl := HCl.out
    by_cases hlt : j < C.length
    · obtain ⟨q, cap, heq, hq, hcap⟩ := hS.out.row.at_ (show C[j]? = some C[j] from List.getElem?_eq_getElem hlt)
      simp only [Value.slice.injEq] at heq
      obtain ⟨rfl, _, rfl⟩ := heq
      have hin := HIN.out C[j] (List.getElem_mem hlt)
      have hrow : wr.rangeAt q (j * 2) [.int .i64 (C[j]).1, .int .i64 (C[j]).2] := fun jj u hu => (hS.out.row.cell encC_len hlt (j := jj) (by have := (List.getElem?_eq_some_iff.1 hu).1; simpa using this) (u := u) hu).1
      have HPUT := Lib.hid (fun (W W' : World) (h : LwSt w W g B n gf (w3.heap.size + 1 + 1) k b (some ⟨q, 0, none⟩) lc C w7.heap.size j) (B2 : List Nat) h2 hp => LwSt.put (W' := W') h (B2 := B2) h2 hlt hp)
      generalize hc : C[j] = c at hin hrow HPUT
      obtain ⟨f, t⟩ := c
      dsimp only at hin hrow HPUT
      have HLI := Lib.hid (run_loadAt_mid (P := Tryz.prog) _ q (j * 2) 39 _ _ hrow Tryz.underlying39 rfl (by kernel_rfl))
      obtain ⟨I1, hI1, nI, zI, mI⟩ := alloc_named2 wr (.cells #[.int .i64 f, .int .i64 t] 39)
      have i0 := cell_blk nI 0
      have i1 := cell_blk nI 1
      have HS1 := Lib.hid (show LwSt w I1.drew g B n gf (w3.heap.size + 1 + 1) k b (some ⟨q, 0, none⟩) lc C w7.heap.size j from (hS.out.kept0 mI).kept0 (Mod.refl [] I1).drew)
      have HNI := Lib.hid (show I1.drew.heap[wr.heap.size]? = _ from nI)
      have y0 := cell_blk (show I1.heap[w.heap.size]? = _ from HS1.out.win) 0
      have y1 := cell_blk (show I1.heap[w.heap.size]? = _ from HS1.out.win) 1
      simp only [List.getElem?_toArray, List.getElem?_cons_succ, List.getElem?_cons_zero] at i0 i1 y0 y1
      have CD := Lib.hid (day_at (HV0.out.kept0 HS1.out.mod) (by omega) HW.out (d := f) (by omega))
      have HMY := Lib.hid (show mayS f t from ⟨by omega, by omega, by omega⟩)
      have hj0 : decide ((j : Int) < 0) = false := decide_eq_false (by omega)
      have hj1 : decide ((C.length : Int) ≤ (j : Int)) = false := decide_eq_false (by omega)
      have hj2 : decide ((j : Int) < (C.length : Int)) = true := decide_eq_true (by omega)
      clear hrow nI mI hin hq hcap hS hc
      go_wp2_with ((with_reducible refine xLoadAt rfl HLI.out ?_ ?_ ?_); exact rfl; exact rfl)
      refine wp_plan [([0, 1, 2, 3, 4, 5], 6, [1]), ([], 7, [])] [] (by kernel_rfl) (by kernel_rfl) ?_
      simp only [wpSegs, opsOf, List.map_cons, List.map_nil, opN, List.getD_cons_zero, List.getD_cons_succ]
      go_wp2_with fail
      refine ⟨by first | trivial | rfl, ?_⟩
      go_wp2_with fail
      refine CD.out.mono ?_
      rintro e w9 ⟨rfl, m9⟩
      have HS9 := Lib.hid (HS1.out.kept0 m9)
      have hn9 := m9.heap HNI.out (by simp)
      have x0 := cell_blk hn9 0
      have x1 := cell_blk hn9 1
      simp only [List.getElem?_toArray, List.getElem?_cons_succ, List.getElem?_cons_zero] at x0 x1
      clear m9 hn9 i0 i1 y0 y1 CD
      go_wp2_with fail
      refine ⟨?agC, ?_⟩
      case agC =>
        intro i hi hw
        simp only [List.mem_cons, List.not_mem_nil, or_false] at hi
        subst hi
        all_goals (simp only [opN, List.getD_cons_zero, List.getD_cons_succ, slotOf]; go_simp)
      go_wp2_with fail
      refine ⟨by first | trivial | rfl, ?_⟩
      go_wp2_with fail
      obtain ⟨B2, hB, hB2⟩ := HS9.out.line
      refine (putZ_line hB (by omega) HMY.out).mono ?_
      rintro e w10 ⟨rfl, hP⟩
      have HNX := Lib.hid (HPUT.out _ _ HS9.out B2 hB2 hP)
      clear hB hB2 hP HPUT x0 x1
      go_wp2_with fail
      refine ⟨again_nil, ?_⟩
      go_wp2_with fail
      refine ⟨by first | trivial | rfl, ?_⟩
      go_wp2_with fail
      go_roundw
      case rel => exact ⟨j + 1, by omega, by go_num, HNX⟩
      case measure => simp [intOf]; omega
    · have hje : j = C.length := by omega
      have hj2 : decide ((j : Int) < (C.length : Int)) = false := decide_eq_false (by omega)
      obtain ⟨B2, hB, hB2⟩ := hS.out.line
      rw [List.take_of_length_le (by omega)] at hB
      have hLG : lineG (winH k b gf) C (fun _ => 0) = lineH (winH k b gf) := line_is HW.out.2.2.1 HE.out HG.out HMM.out HC.out
      rw [hLG] at hB
      have HF := Lib.hid (show ValAt wr (w3.heap.size + 1 + 1) B2 j (lineH (winH k b gf)) ∧ (j ≤ 40000 ∧ ∀ x ∈ B2, w.heap.size ≤ x) ∧ Mod [] w wr from ⟨hB, ⟨by omega, fun x hx => by have := (hB2 x hx).1; omega⟩, hS.out.mod⟩)
      clear hB hB2 hLG
      go_wp2_with fail
      go_ret2
      exact ⟨_, _, _, rfl, HF.out⟩
theorem line_not {w : World} {k b : Int} (hw : ¬ winOk k b) (v : Value) :
    Calls Tryz.prog 7 #[v, .agg #[.int .u8 k, .int .i64 b]] w fun e w' => e = .returned (.tuple #[.pointer none, .int .i64 2]) ∧ Mod [] w w' := by
  obtain ⟨A1, hA1, n1, z1, m1⟩ := alloc_named2 w (.cells #[.int .u8 k, .int .i64 b] 24)
  have c0 := cell_blk n1 0
  have c1 := cell_blk n1 1
  simp only [List.getElem?_toArray, List.getElem?_cons_succ, List.getElem?_cons_zero] at c0 c1
  have HM := Lib.hid m1
  have CM := Lib.hid (wnMay_at A1 k b)
  rw [decide_eq_false hw] at CM
  clear n1 m1
  go_enter Tryz.func7, Tryz.ntmps7
  go_wp2_with fail
  refine CM.out.mono ?_
  rintro e w3 ⟨rfl, m3⟩
  have HM3 := Lib.hid (HM.out.trans m3)
  clear m3 CM
  go_wp2_with fail
  go_ret2
  exact ⟨rfl, HM3.out⟩
end Go.Proofs.YtngglpekdjhbdaaGreat
