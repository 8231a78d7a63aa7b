/- A line's answers change at the window's ends alone, and on each day they are those of Day. No condition. -/
import Derived.Test.YtngglpekdjhbdaaGreatWzAl
import Derived.Test.YtngglpekdjhbdaaGreatWzC
import Derived.Test.YtngglpekdjhbdaaGreatWzA
namespace Go.Proofs.YtngglpekdjhbdaaGreat
open Go.RowKit Go.ChangeMaps Go.Deep
set_option linter.unusedSimpArgs false
set_option linter.unusedVariables false
set_option maxRecDepth 20000

theorem line_day (k b : Int) (g : Int → Int) (d : Int) : lineH (winH k b g) d = dayZ k b g d := by
  unfold lineH dayZ
  by_cases h : 1 ≤ d ∧ d < 3652060
  · rw [if_pos h, if_pos (by omega)]
  · rw [if_neg h, if_neg (by omega)]
theorem infoInt : (Tryz.prog.info? 3).map (fun i => (i.zero, i.size)) = some (some (.int .i64 0), 1) := by kernel_rfl
theorem zeroInt (w : World) : (zeroValue 3).run Tryz.prog w = .ok (.int .i64 0) w := (zero_of_info infoInt).1 w
set_option maxHeartbeats 16000000 in
theorem l19_at {w : World} {v : Value} {L : List Sg} (hv : RowAt encSgZ w v L) (hl : L.length ≤ 140737488355328) (k b : Int) {d : Int} (hd : -9223372036854775808 ≤ d ∧ d ≤ 9223372036854775807) :
    Calls Tryz.prog 3 #[v, .agg #[.int .u8 k, .int .i64 b], .int .i64 d] w fun e w' => e = .returned (.bool true) ∧ Mod [] w w' := by
  have HV := Lib.hid hv
  obtain ⟨A1, hA1, n1, z1, m1⟩ := alloc_named2 w (.cells #[.int .u8 k, .int .i64 b] 24)
  have HA := Lib.hid (show A1.heap[w.heap.size]? = some (.cells #[.int .u8 k, .int .i64 b] 24 (0, 0)) ∧ Mod [] w A1 from ⟨n1, m1⟩)
  have c0 := cell_blk n1 0
  have c1 := cell_blk n1 1
  simp only [List.getElem?_toArray, List.getElem?_cons_succ, List.getElem?_cons_zero] at c0 c1
  have CG := Lib.hid (great19_at (hv.kept0 m1) hl k b)
  clear hv n1 m1
  go_enter Tryz.func3, Tryz.ntmps3
  go_wp2_with fail
  refine CG.out.mono ?_
  rintro e w2 ⟨⟨q, rfl, hq⟩, m2⟩
  have HA2 := Lib.hid (show w2.heap[w.heap.size]? = some (.cells #[.int .u8 k, .int .i64 b] 24 (0, 0)) ∧ Mod [] w w2 from ⟨m2.heap HA.out.1 (by simp), HA.out.2.trans m2⟩)
  clear m2 CG HA c0 c1
  cases q with
  | true =>
    go_wp2_with fail
    refine (known19_at w2).mono ?_
    rintro e w3 ⟨rfl, m3⟩
    have HM3 := Lib.hid (HA2.out.2.trans m3)
    clear m3
    go_wp2_with fail
    go_ret
    exact ⟨rfl, HM3.out⟩
  | false =>
    have hL := hq rfl
    have CM := Lib.hid (made19_at (HV.out.kept0 HA2.out.2) (by omega))
    have HLn := Lib.hid hL
    clear hq hL
    go_wp2_with fail
    refine CM.out.mono ?_
    rintro e w3 ⟨g, rfl, B, hB, hBs, m3⟩
    have HA3 := Lib.hid (show w3.heap[w.heap.size]? = some (.cells #[.int .u8 k, .int .i64 b] 24 (0, 0)) ∧ ValAt w3 g B L.length (madeW L) ∧ Mod [] w w3 from ⟨m3.heap HA2.out.1 (by simp), hB, HA2.out.2.trans m3⟩)
    have c0 := cell_blk HA3.out.1 0
    have c1 := cell_blk HA3.out.1 1
    simp only [List.getElem?_toArray, List.getElem?_cons_succ, List.getElem?_cons_zero] at c0 c1
    clear hB hBs m3 HA2 CM
    by_cases hw : winOk k b
    · have HW := Lib.hid hw
      have hLn := HLn.out
      have CL := Lib.hid (line_at HA3.out.2.1 (by omega) (madeW_low _ _ rfl) hw)
      clear hw
      go_wp2_with fail
      refine CL.out.mono ?_
      rintro e w4 ⟨g2, B2, n2, rfl, h2, ⟨hn2, _⟩, m4⟩
      have HA4 := Lib.hid (show w4.heap[w.heap.size]? = some (.cells #[.int .u8 k, .int .i64 b] 24 (0, 0)) ∧ ValAt w4 g B L.length (madeW L) ∧ ValAt w4 g2 B2 n2 (lineH (winH k b (madeW L))) ∧ n2 ≤ 40000 ∧ Mod [] w w4 from ⟨m4.heap HA3.out.1 (by simp), HA3.out.2.1.kept0 m4, h2, hn2, HA3.out.2.2.trans m4⟩)
      have CD := Lib.hid (dayT_at HA4.out.2.1 (by omega) HW.out d)
      obtain ⟨kv, cv, sv, ev, hvl⟩ := valZ_form (dayZ k b (madeW L) d)
      have HVZ := Lib.hid (show valZ (dayZ k b (madeW L) d) = .agg #[.int .u8 kv, .int .i64 cv, .int .i64 sv, .int .i64 ev] by unfold valZ; rw [hvl])
      rw [HVZ.out] at CD
      clear c0 c1
      have c0 := cell_blk HA4.out.1 0
      have c1 := cell_blk HA4.out.1 1
      simp only [List.getElem?_toArray, List.getElem?_cons_succ, List.getElem?_cons_zero] at c0 c1
      clear h2 hn2 m4 CL HA3 hvl
      go_wp2_with fail
      refine CD.out.mono ?_
      rintro e w5 ⟨rfl, m5⟩
      have mm6 := m5.trans ((Mod.refl [] w5).alloc (.cells #[.int .u8 kv, .int .i64 cv, .int .i64 sv, .int .i64 ev] 35))
      have hnn6 := heap_alloc_new w5 (.cells #[.int .u8 kv, .int .i64 cv, .int .i64 sv, .int .i64 ev] 35)
      obtain ⟨A6, hA6⟩ : ∃ A, A = w5.alloc (.cells #[.int .u8 kv, .int .i64 cv, .int .i64 sv, .int .i64 ev] 35) := ⟨_, rfl⟩
      have hsz6 : A6.heap.size = w5.heap.size + 1 := by rw [hA6]; simp
      rw [← hA6] at mm6 hnn6
      have HA6 := Lib.hid (show A6.heap[w.heap.size]? = some (.cells #[.int .u8 k, .int .i64 b] 24 (0, 0)) ∧ ValAt A6 g B L.length (madeW L) ∧ ValAt A6 g2 B2 n2 (lineH (winH k b (madeW L))) ∧ n2 ≤ 40000 ∧ A6.heap[w5.heap.size]? = some (.cells #[.int .u8 kv, .int .i64 cv, .int .i64 sv, .int .i64 ev] 35 (0, 0)) ∧ Mod [] w A6 from ⟨mm6.heap HA4.out.1 (by simp), HA4.out.2.1.kept0 mm6, HA4.out.2.2.1.kept0 mm6, HA4.out.2.2.2.1, hnn6, HA4.out.2.2.2.2.trans mm6⟩)
      have HE6 := Lib.hid hA6
      have HB2 : Hid (∀ x ∈ B2, x < w5.heap.size + 1) := Lib.hid (fun x hx => by have := HA6.out.2.2.1.lt x hx; omega)
      obtain ⟨A7, hA7, n7, z7, m7⟩ := alloc_named2 A6 (.cells #[.int .i64 1, .int .i64 3652060] 39)
      obtain ⟨A8, hA8, n8, z8, m8⟩ := alloc_named2 A7 (.map #[] 0)
      rw [hsz6] at n7 z7
      rw [z7] at n8 z8
      have HMP := Lib.hid (show MapAt A8 (w5.heap.size + 1 + 1) (fun _ => none) ∧ A8.heap.size = w5.heap.size + 1 + 1 + 1 ∧ A8.heap[w5.heap.size + 1]? = some (.cells #[.int .i64 1, .int .i64 3652060] 39 (0, 0)) from ⟨⟨#[], 0, n8, IntMap.empty⟩, z8, m8.heap n7 (by simp)⟩)
      have mm8 := m7.trans m8
      have HA8 := Lib.hid (show A8.heap[w.heap.size]? = some (.cells #[.int .u8 k, .int .i64 b] 24 (0, 0)) ∧ ValAt A8 g B L.length (madeW L) ∧ ValAt A8 g2 B2 n2 (lineH (winH k b (madeW L))) ∧ n2 ≤ 40000 ∧ A8.heap[w5.heap.size]? = some (.cells #[.int .u8 kv, .int .i64 cv, .int .i64 sv, .int .i64 ev] 35 (0, 0)) ∧ Mod [] w A8 from ⟨mm8.heap HA6.out.1 (by simp), HA6.out.2.1.kept0 mm8, HA6.out.2.2.1.kept0 mm8, HA6.out.2.2.2.1, mm8.heap HA6.out.2.2.2.2.1 (by simp), HA6.out.2.2.2.2.2.trans mm8⟩)
      clear c0 c1
      have c0 := cell_blk HA8.out.1 0
      have c1 := cell_blk HA8.out.1 1
      have d0 := cell_blk HMP.out.2.2 0
      have d1 := cell_blk HMP.out.2.2 1
      simp only [List.getElem?_toArray, List.getElem?_cons_succ, List.getElem?_cons_zero] at c0 c1 d0 d1
      have HE7 := Lib.hid hA7
      have HE8 := Lib.hid hA8
      have hmm := @run_makeMap Tryz.prog
      clear mm6 hnn6 m5 n7 n8 m7 m8 mm8 HA6 HA4 CD hA6 hsz6 hA7 hA8 z7 z8
      go_wp2_with fail
      clear hmm
      simp only [← HE6.out]
      simp only [HE7.out]
      simp only [HE8.out]
      refine wp_plan [([0, 1, 2, 6], 3, [0]), ([], 4, [])] [5] (by kernel_rfl) (by kernel_rfl) ?_
      simp only [wpSegs, opsOf, List.map_cons, List.map_nil, opN, List.getD_cons_zero, List.getD_cons_succ]
      go_wp2_with fail
      refine ⟨by first | trivial | rfl, ?_⟩
      go_wp2_with fail
      refine (endsZ_line (HA8.out.2.1.kept0 (Mod.refl [] A8).drew) (by have := HLn.out; omega) may_all).mono ?_
      rintro e w9 ⟨ev9, E, rfl, oE, ⟨hE, hEl⟩, m9⟩
      have hEiff := ends_iff hE
      have hEl2 : (endsL E).length ≤ E.length := by unfold endsL; simp
      have hLn := HLn.out
      have CE := Lib.hid (ends_at oE.row (by omega) (fun d hd => by have := (hEiff d).1 hd; omega) HW.out)
      have HEI := Lib.hid hEiff
      have HEl := Lib.hid (show (endsL E).length ≤ 1000 by omega)
      have mm9 := (Mod.refl [] A8).drew.trans m9
      have HA9 := Lib.hid (show w9.heap[w.heap.size]? = some (.cells #[.int .u8 k, .int .i64 b] 24 (0, 0)) ∧ ValAt w9 g2 B2 n2 (lineH (winH k b (madeW L))) ∧ w9.heap[w5.heap.size]? = some (.cells #[.int .u8 kv, .int .i64 cv, .int .i64 sv, .int .i64 ev] 35 (0, 0)) ∧ MapAt w9 (w5.heap.size + 1 + 1) (fun _ => none) ∧ w9.heap[w5.heap.size + 1]? = some (.cells #[.int .i64 1, .int .i64 3652060] 39 (0, 0)) ∧ w5.heap.size + 1 + 1 < w9.heap.size ∧ Mod [] w w9 from ⟨mm9.heap HA8.out.1 (by simp), HA8.out.2.2.1.kept0 mm9, mm9.heap HA8.out.2.2.2.2.1 (by simp), HMP.out.1.of_heap (mm9.block _ HMP.out.1.lt (by simp)), mm9.heap HMP.out.2.2 (by simp), by have := mm9.size; have := HMP.out.2.1; omega, HA8.out.2.2.2.2.2.trans mm9⟩)
      have HN2 := Lib.hid HA8.out.2.2.2.1
      clear c0 c1 d0 d1
      have c0 := cell_blk HA9.out.1 0
      have c1 := cell_blk HA9.out.1 1
      simp only [List.getElem?_toArray, List.getElem?_cons_succ, List.getElem?_cons_zero] at c0 c1
      clear oE hEl hEl2 hEiff hE m9 mm9 HE6 HE7 HE8 hLn
      go_wp2_with fail
      refine ⟨?agA, ?_⟩
      case agA =>
        intro i hi hw
        simp only [List.mem_cons, List.not_mem_nil, or_false] at hi
        subst hi
        all_goals (simp only [opN, List.getD_cons_zero, List.getD_cons_succ, slotOf]; go_simp)
      go_wp2_with fail
      refine ⟨by first | trivial | rfl, ?_⟩
      go_wp2_with fail
      refine CE.out.mono ?_
      rintro e w10 ⟨mv, M, rfl, oM, ⟨hM, hMl⟩, m10⟩
      obtain ⟨la, lc, rfl⟩ := oM.lens
      have HA10 := Lib.hid (show ValAt w10 g2 B2 n2 (lineH (winH k b (madeW L))) ∧ w10.heap[w5.heap.size]? = some (.cells #[.int .u8 kv, .int .i64 cv, .int .i64 sv, .int .i64 ev] 35 (0, 0)) ∧ MapAt w10 (w5.heap.size + 1 + 1) (fun _ => none) ∧ w10.heap[w5.heap.size + 1]? = some (.cells #[.int .i64 1, .int .i64 3652060] 39 (0, 0)) ∧ OwnR encI 1 3 w10 (w5.heap.size + 1 + 1 + 1) (.slice la M.length lc) M ∧ Mod [] w w10 from ⟨HA9.out.2.1.kept0 m10, m10.heap HA9.out.2.2.1 (by simp), HA9.out.2.2.2.1.of_heap (m10.block _ HA9.out.2.2.2.1.lt (by simp)), m10.heap HA9.out.2.2.2.2.1 (by simp), oM.mono HA9.out.2.2.2.2.2.1, HA9.out.2.2.2.2.2.2.trans m10⟩)
      have HM := Lib.hid hM
      have hMb : M.length ≤ 10000 := by have := HEl.out; omega
      have hq10 : ∀ x, (Value.slice la M.length lc).ownBlock = some x → w5.heap.size + 1 + 1 < x := fun x hx => (World.ownsRow.lt HA10.out.2.2.2.2.1 x hx).1
      have HQ := Lib.hid hq10
      have HMl : Hid (w.heap.size ≤ w5.heap.size + 1 + 1) := Lib.hid (by
        have h1 := lt_of_heap HA8.out.1
        have h2 := HMP.out.2.1
        omega)
      clear oM hM hMl m10 CE c0 c1 HA9 hq10
      go_wp2_with fail
      refine ⟨again_nil, ?_⟩
      go_wp2_with fail
      refine ⟨by first | trivial | rfl, ?_⟩
      go_wp2_with fail
      go_loopw [58] (fun s58 W => ∃ j : Nat, j ≤ M.length ∧ s58 = .int .i64 j ∧ Hid (MapAt W (w5.heap.size + 1 + 1) (fun x => if x ∈ M.take j then some (.int .i64 1) else none) ∧ Mod [w5.heap.size + 1 + 1] w10 W)) (fun s58 _ => M.length - (intOf s58).toNat)
      case atStart => exact ⟨0, by omega, rfl, Lib.hid ⟨by simpa using HA10.out.2.2.1, Mod.refl _ _⟩⟩
      case round =>
        obtain ⟨j, hj, rfl, hS⟩ := hrel
        by_cases hlt : j < M.length
        · obtain ⟨q, o, rfl, hqc, hg⟩ := RowAt.get1 ((HA10.out.2.2.2.2.1.kept hS.out.2 (fun x hx hm => by have := HQ.out x hx; simp at hm; omega)).row) hlt
          obtain ⟨oo, hrun, hMM⟩ := run_mapUpdate_at (P := Tryz.prog) Tryz.underlying40 Tryz.underlying3 hS.out.1 M[j] (.int .i64 1)
          have hmS : Mod [w5.heap.size + 1 + 1] wr (setBlock wr (w5.heap.size + 1 + 1) oo) := (Mod.refl _ _).setBlock (by simp) _
          have hfun : (fun k2 => if k2 = M[j] then some (Value.int .i64 1) else if k2 ∈ M.take j then some (.int .i64 1) else none) = fun x => if x ∈ M.take (j + 1) then some (.int .i64 1) else none := by
            funext x
            rw [List.take_succ_eq_append_getElem hlt]
            by_cases h1 : x = M[j]
            · rw [if_pos h1, if_pos (List.mem_append.2 (.inr (List.mem_singleton.2 h1)))]
            · rw [if_neg h1]
              by_cases h2 : x ∈ M.take j
              · rw [if_pos h2, if_pos (List.mem_append.2 (.inl h2))]
              · rw [if_neg h2, if_neg (fun hm => (List.mem_append.1 hm).elim h2 (fun h => h1 (List.mem_singleton.1 h)))]
          rw [hfun] at hMM
          have HNX := Lib.hid (And.intro hMM (hS.out.2.trans hmS))
          have HU := Lib.hid hrun
          have hj0 : decide ((j : Int) < 0) = false := decide_eq_false (by omega)
          have hj1 : decide ((M.length : Int) ≤ (j : Int)) = false := decide_eq_false (by omega)
          have hj2 : decide ((j : Int) < (M.length : Int)) = true := decide_eq_true (by omega)
          clear hMM hmS hrun hS hfun hqc
          go_wp2_with (refine wpList_mapUpdate rfl (t := 40) rfl rfl rfl rfl HU.out ?_)
          go_roundw
          case rel => exact ⟨j + 1, by omega, by go_num, HNX⟩
          case measure => simp [intOf]; omega
        · have hje : j = M.length := by omega
          have hj2 : decide ((j : Int) < (M.length : Int)) = false := decide_eq_false (by omega)
          subst hje
          have hm0 := hS.out.2
          have hMA := hS.out.1
          rw [List.take_of_length_le (by omega)] at hMA
          have HB := Lib.hid (show ValAt wr g2 B2 n2 (lineH (winH k b (madeW L))) ∧ wr.heap[w5.heap.size]? = some (.cells #[.int .u8 kv, .int .i64 cv, .int .i64 sv, .int .i64 ev] 35 (0, 0)) ∧ MapAt wr (w5.heap.size + 1 + 1) (fun x => if x ∈ M then some (.int .i64 1) else none) ∧ wr.heap[w5.heap.size + 1]? = some (.cells #[.int .i64 1, .int .i64 3652060] 39 (0, 0)) ∧ Mod [] w wr from ⟨HA10.out.1.kept hm0 (fun x hx hm => by simp at hm; have := HB2.out x hx; omega), hm0.heap HA10.out.2.1 (by simp; omega), hMA, hm0.heap HA10.out.2.2.2.1 (by simp), mod_over HA10.out.2.2.2.2.2 hm0 (by have := HMl.out; simpa using this)⟩)
          have x0 := cell_blk HB.out.2.2.2.1 0
          have x1 := cell_blk HB.out.2.2.2.1 1
          simp only [List.getElem?_toArray, List.getElem?_cons_succ, List.getElem?_cons_zero] at x0 x1
          have CE2 := Lib.hid (endsZ_line HB.out.1 HN2.out may_all)
          clear hS hm0 hMA
          go_wp2_with fail
          refine CE2.out.mono ?_
          rintro e w11 ⟨ev11, E2, rfl, oE2, ⟨hE2, hEl2⟩, m11⟩
          obtain ⟨la2, lc2, rfl⟩ := oE2.lens
          have HIN := Lib.hid (fun x hx => (HM.out x).2 (line_ends HW.out.2.2.1 HEI.out (madeW_low _ _ rfl) hE2 x hx))
          have HR2 := Lib.hid oE2.row
          have hE2b : (endsL E2).length ≤ 1000000 := by have h1 := HN2.out; have h2 : (endsL E2).length ≤ E2.length := (by unfold endsL; simp); exact (by omega)
          have HC := Lib.hid (show ValAt w11 g2 B2 n2 (lineH (winH k b (madeW L))) ∧ w11.heap[w5.heap.size]? = some (.cells #[.int .u8 kv, .int .i64 cv, .int .i64 sv, .int .i64 ev] 35 (0, 0)) ∧ MapAt w11 (w5.heap.size + 1 + 1) (fun x => if x ∈ M then some (.int .i64 1) else none) ∧ Mod [] w w11 from ⟨HB.out.1.kept0 m11, m11.heap HB.out.2.1 (by simp), HB.out.2.2.1.of_heap (m11.block _ HB.out.2.2.1.lt (by simp)), HB.out.2.2.2.2.trans m11⟩)
          clear oE2 hE2 hEl2 m11 CE2 x0 x1
          go_wp2_with fail
          go_loop [69] (fun s69 => ∃ j : Nat, j ≤ (endsL E2).length ∧ s69 = .int .i64 j) (fun s69 => (endsL E2).length - (intOf s69).toNat)
          case atStart => exact ⟨0, by omega, rfl⟩
          case round =>
            obtain ⟨j2, hj2', rfl⟩ := hrel
            by_cases hlt2 : j2 < (endsL E2).length
            · obtain ⟨q, o, rfl, hqc, hg⟩ := RowAt.get1 HR2.out hlt2
              have hx := HIN.out _ (List.getElem_mem hlt2)
              generalize (endsL E2)[j2] = x at hg hx
              have hlk := run_lookup_at (P := Tryz.prog) Tryz.underlying40 Tryz.underlying3 HC.out.2.2.1 x (zeroInt w11)
              rw [if_pos hx, Option.getD_some] at hlk
              have HLK := Lib.hid hlk
              have hk0 : decide ((j2 : Int) < 0) = false := decide_eq_false (by omega)
              have hk1 : decide (((endsL E2).length : Int) ≤ (j2 : Int)) = false := decide_eq_false (by omega)
              have hk2 : decide ((j2 : Int) < ((endsL E2).length : Int)) = true := decide_eq_true (by omega)
              clear hlk hqc hx
              go_wp2_with ((with_reducible refine xLookup rfl HLK.out ?_ ?_ ?_ ?_); exact rfl; exact rfl; exact rfl)
              go_round
              case rel => exact ⟨j2 + 1, by omega, by go_num⟩
              case measure => simp [intOf]; omega
            · have hje2 : j2 = (endsL E2).length := by omega
              have hk2 : decide ((j2 : Int) < ((endsL E2).length : Int)) = false := decide_eq_false (by omega)
              have CA := Lib.hid (atZ_line (HC.out.1.kept0 (Mod.refl [] w11).drew) HN2.out hd)
              rw [line_day, HVZ.out] at CA
              have v0 := cell_blk HC.out.2.1 0
              have v1 := cell_blk HC.out.2.1 1
              have v2 := cell_blk HC.out.2.1 2
              have v3 := cell_blk HC.out.2.1 3
              simp only [List.getElem?_toArray, List.getElem?_cons_succ, List.getElem?_cons_zero] at v0 v1 v2 v3
              go_wp2_with fail
              refine wp_plan [([0, 1, 3], 2, [3]), ([4, 5], 6, [])] [7, 8] (by kernel_rfl) (by kernel_rfl) ?_
              simp only [wpSegs, opsOf, List.map_cons, List.map_nil, opN, List.getD_cons_zero, List.getD_cons_succ]
              go_wp2_with fail
              refine ⟨by first | trivial | rfl, ?_⟩
              go_wp2_with fail
              refine CA.out.mono ?_
              rintro e w12 ⟨rfl, m12⟩
              have mm12 := (Mod.refl [] w11).drew.trans m12
              have hv12 := mm12.heap HC.out.2.1 (by simp)
              have HM12 := Lib.hid (HC.out.2.2.2.trans mm12)
              clear v0 v1 v2 v3
              have v0 := cell_blk hv12 0
              have v1 := cell_blk hv12 1
              have v2 := cell_blk hv12 2
              have v3 := cell_blk hv12 3
              simp only [List.getElem?_toArray, List.getElem?_cons_succ, List.getElem?_cons_zero] at v0 v1 v2 v3
              clear m12 mm12 hv12 CA
              go_wp2_with fail
              refine ⟨?agB, ?_⟩
              case agB =>
                intro i hi hw
                simp only [List.mem_cons, List.not_mem_nil, or_false] at hi
                subst hi
                all_goals (simp only [opN, List.getD_cons_zero, List.getD_cons_succ, slotOf]; go_simp)
              go_wp2_with fail
              refine ⟨by first | trivial | rfl, ?_⟩
              go_wp2_with fail
              refine (known19_at w12).mono ?_
              rintro e w13 ⟨rfl, m13⟩
              have HM13 := Lib.hid (HM12.out.trans m13)
              clear m13
              go_wp2_with fail
              refine ⟨again_nil, ?_⟩
              go_wp2_with fail
              refine ⟨by first | trivial | rfl, ?_⟩
              go_wp2_with fail
              go_ret
              exact ⟨rfl, HM13.out⟩
    · have HW := Lib.hid hw
      have CL := Lib.hid (line_not (w := w3) hw (.pointer (some ⟨g, 0, none⟩)))
      clear hw
      go_wp2_with fail
      refine CL.out.mono ?_
      rintro e w4 ⟨rfl, m4⟩
      have HA4 := Lib.hid (show w4.heap[w.heap.size]? = some (.cells #[.int .u8 k, .int .i64 b] 24 (0, 0)) ∧ Mod [] w w4 from ⟨m4.heap HA3.out.1 (by simp), HA3.out.2.2.trans m4⟩)
      have CD := Lib.hid (dayT_not (w := w4) HW.out (.pointer (some ⟨g, 0, none⟩)) d)
      rw [valZ_zero] at CD
      clear c0 c1
      have c0 := cell_blk HA4.out.1 0
      have c1 := cell_blk HA4.out.1 1
      simp only [List.getElem?_toArray, List.getElem?_cons_succ, List.getElem?_cons_zero] at c0 c1
      clear m4 CL HA3
      go_wp2_with fail
      refine CD.out.mono ?_
      rintro e w5 ⟨rfl, m5⟩
      have HM6 := Lib.hid (HA4.out.2.trans (m5.alloc (.cells #[.int .u8 0, .int .i64 0, .int .i64 0, .int .i64 0] 35)))
      clear m5 CD HA4
      go_wp2_with fail
      refine (known19_at _).mono ?_
      rintro e w7 ⟨rfl, m7⟩
      have HM7 := Lib.hid (HM6.out.trans m7)
      clear m7
      go_wp2_with fail
      go_ret
      exact ⟨rfl, HM7.out⟩
end Go.Proofs.YtngglpekdjhbdaaGreat
namespace Go.Proofs.YtngglpekdjhbdaaGreat
open Go.ChangeShapes Go.WideShapes Go.ChangeAt Go.RowKit Go.Deep
set_option linter.unusedSimpArgs false
set_option linter.unusedVariables false
theorem cW_int : Tryz.prog.cellsOf 3 = 1 := by kernel_rfl
theorem cW_i64 : Tryz.prog.cellsOf 2 = 1 := by kernel_rfl
theorem cW_u8 : Tryz.prog.cellsOf 5 = 1 := by kernel_rfl
theorem cW_Errno : Tryz.prog.cellsOf 29 = 1 := by kernel_rfl
theorem cW_Dec : Tryz.prog.cellsOf 33 = 2 := by kernel_rfl
theorem cW_Span : Tryz.prog.cellsOf 39 = 2 := by kernel_rfl
theorem cW_Value : Tryz.prog.cellsOf 35 = 4 := by kernel_rfl
theorem cW_Window : Tryz.prog.cellsOf 24 = 2 := by kernel_rfl
theorem cW_Put : Tryz.prog.cellsOf 48 = 6 := by kernel_rfl
theorem bW_Put : Tryz.prog.bytesOf 48 = 48 := by kernel_rfl
theorem list_twoW {l : List Value} (h : l.length = 2) : ∃ a b, l = [a, b] := by
  match l, h with
  | [a, b], _ => exact ⟨a, b, rfl⟩
theorem list_fourW {l : List Value} (h : l.length = 4) : ∃ a b c d, l = [a, b, c, d] := by
  match l, h with
  | [a, b, c, d], _ => exact ⟨a, b, c, d, rfl⟩
theorem list_sixW {l : List Value} (h : l.length = 6) : ∃ a b c d e f, l = [a, b, c, d, e, f] := by
  match l, h with
  | [a, b, c, d, e, f], _ => exact ⟨a, b, c, d, e, f, rfl⟩
instance : Inhabited Sg := ⟨⟨0, 0, 0⟩⟩
section
variable {H : Type} {enc : TypeId × Value → H} {w : World}
theorem spanW_cells {n : Nat} {xs : List Value} {d : DataW H × List MemPlace} (h : DataW.trod enc Tryz.prog w 0 (fun _ => true) true n 39 xs = some d) (hl : xs.length = 2) : ∃ a b : Int, xs = [.int .i64 a, .int .i64 b] := by
  obtain ⟨x, y, rfl⟩ := list_twoW hl
  obtain ⟨y0, y1, m, rfl', _, h0, h1⟩ := trod_struct2 Tryz.underlying39 h
  simp only [cW_int, List.drop_zero, List.drop_succ_cons, List.take_succ_cons, List.take_zero] at h0 h1
  obtain ⟨a, e0, _, w0⟩ := DataW.trod_int Tryz.underlying3 h0
  obtain ⟨b, e1, _, w1⟩ := DataW.trod_int Tryz.underlying3 h1
  simp at e0 e1
  exact ⟨a, b, by rw [e0, e1]⟩
theorem windowW_cells {n : Nat} {xs : List Value} {d : DataW H × List MemPlace} (h : DataW.trod enc Tryz.prog w 0 (fun _ => true) true n 24 xs = some d) (hl : xs.length = 2) : ∃ a b : Int, xs = [.int .u8 a, .int .i64 b] := by
  obtain ⟨x, y, rfl⟩ := list_twoW hl
  obtain ⟨y0, y1, m, rfl', _, h0, h1⟩ := trod_struct2 Tryz.underlying24 h
  simp only [cW_int, cW_u8, List.drop_zero, List.drop_succ_cons, List.take_succ_cons, List.take_zero] at h0 h1
  obtain ⟨a, e0, _, w0⟩ := DataW.trod_int Tryz.underlying5 h0
  obtain ⟨b, e1, _, w1⟩ := DataW.trod_int Tryz.underlying3 h1
  simp at e0 e1
  exact ⟨a, b, by rw [e0, e1]⟩
theorem decW_cells {n : Nat} {xs : List Value} {d : DataW H × List MemPlace} (h : DataW.trod enc Tryz.prog w 0 (fun _ => true) true n 33 xs = some d) (hl : xs.length = 2) : ∃ a b : Int, xs = [.int .i64 a, .int .i64 b] := by
  obtain ⟨x, y, rfl⟩ := list_twoW hl
  obtain ⟨y0, y1, m, rfl', _, h0, h1⟩ := trod_struct2 Tryz.underlying33 h
  simp only [cW_int, cW_i64, List.drop_zero, List.drop_succ_cons, List.take_succ_cons, List.take_zero] at h0 h1
  obtain ⟨a, e0, _, w0⟩ := DataW.trod_int Tryz.underlying2 h0
  obtain ⟨b, e1, _, w1⟩ := DataW.trod_int Tryz.underlying3 h1
  simp at e0 e1
  exact ⟨a, b, by rw [e0, e1]⟩
theorem valueW_cells {n : Nat} {xs : List Value} {d : DataW H × List MemPlace} (h : DataW.trod enc Tryz.prog w 0 (fun _ => true) true n 35 xs = some d) (hl : xs.length = 4) : ∃ z : Int, xs = encZ z := by
  obtain ⟨x, y, z, u, rfl⟩ := list_fourW hl
  obtain ⟨y0, y1, y2, m, rfl', _, h0, h1, h2⟩ := trod_struct3 Tryz.underlying35 h
  simp only [cW_u8, cW_Dec, cW_Errno, List.drop_zero, List.drop_succ_cons, List.take_succ_cons, List.take_zero] at h0 h1 h2
  obtain ⟨a, e0, _, w0⟩ := DataW.trod_int Tryz.underlying5 h0
  obtain ⟨b, c, e1⟩ := decW_cells h1 rfl
  obtain ⟨e, e2, _, w2⟩ := DataW.trod_int Tryz.underlying29 h2
  simp at e0 e1 e2
  exact ⟨iv ⟨a, b, c, e⟩, by unfold encZ; rw [vl_iv, e0, e1.1, e1.2, e2]⟩
theorem putW_cells {n : Nat} {xs : List Value} {d : DataW H × List MemPlace} (h : DataW.trod enc Tryz.prog w 0 (fun _ => true) true n 48 xs = some d) (hl : xs.length = 6) : ∃ x : Sg, xs = encSgZ x := by
  obtain ⟨x, y, z, u, s, t, rfl⟩ := list_sixW hl
  obtain ⟨y0, y1, m, rfl', _, h0, h1⟩ := trod_struct2 Tryz.underlying48 h
  simp only [cW_Span, cW_Value, List.drop_zero, List.drop_succ_cons, List.take_succ_cons, List.take_zero] at h0 h1
  obtain ⟨a, b, e0⟩ := spanW_cells h0 rfl
  obtain ⟨c, e1⟩ := valueW_cells h1 rfl
  simp at e0
  exact ⟨⟨a, b, c⟩, by unfold encSgZ; dsimp only; rw [← e1, e0.1, e0.2]⟩
theorem putsW_arg {v : Value} {d : DataW H} {pl : List MemPlace} (hv : ∃ a n c, v = .slice a n c) (h : DataW.Trod enc Tryz.prog w 0 (fun _ => true) true 22 v d pl) (hw : Lite Tryz.prog 22 d) :
    ∃ l, RowAt encSgZ w v l ∧ l.length ≤ 140737488355328 := by
  obtain ⟨a, n, c, rfl⟩ := hv
  obtain ⟨fuel, hf⟩ := h
  obtain ⟨v, l, e, hr, hq, hb⟩ := rows_cells (enc := encSgZ) (Q := fun _ => True) Tryz.underlying22 (by rw [cW_Put]; omega) (fun x => by rw [cW_Put]; rfl) (fun n xs d pl h hw hl => by
    obtain ⟨x, e⟩ := putW_cells h (by rw [cW_Put] at hl; exact hl)
    exact ⟨x, e, trivial⟩) hf hw
  simp [Value.cells] at e
  subst e
  refine ⟨l, hr, ?_⟩
  rw [bW_Put] at hb
  simp [reachBytes] at hb
  omega
theorem windowW_arg {v : Value} {d : DataW H} {pl : List MemPlace} (hv : ∃ cs, v = .agg cs ∧ cs.size = Tryz.prog.cellsOf 24) (h : DataW.Trod enc Tryz.prog w 0 (fun _ => true) true 24 v d pl) :
    ∃ x y : Int, v = .agg #[.int .u8 x, .int .i64 y] := by
  obtain ⟨cs, rfl, hl⟩ := hv
  obtain ⟨fuel, hf⟩ := h
  rw [cW_Window] at hl
  obtain ⟨x, y, e⟩ := windowW_cells hf (by simpa [Value.cells] using hl)
  refine ⟨x, y, ?_⟩
  have : cs = #[.int .u8 x, .int .i64 y] := by
    simp only [Value.cells] at e
    rw [← e]
  rw [this]
end
end Go.Proofs.YtngglpekdjhbdaaGreat
namespace Go.Proofs.YtngglpekdjhbdaaGreat
open Go.ChangeShapes Go.WideShapes Go.ChangeAt Go.RowKit Go.ChangeMaps Go.Deep
set_option linter.unusedSimpArgs false
set_option linter.unusedVariables false
theorem okWide_structW {P : Program} {W : World} {r : Reach} {base : Nat} {t : TypeId} {fs : Array Field} {v : Value} (ht : P.underlying t = some (.struct fs)) (h : Value.okWide P W r base t v) : ∃ cs, v = .agg cs ∧ cs.size = P.cellsOf t := by
  unfold Value.okWide at h
  rw [ht] at h
  obtain ⟨cs, h1, h2, _⟩ := h
  exact ⟨cs, h1, h2⟩
set_option maxRecDepth 100000 in
theorem windowEnds_lifted (os : Os) (started : os.Started) (H : Type) (enc : TypeId × Value → H) :
    ReturnsInHanded {} Tryz.checked os 3 .any (Rows.windowEndsSpec.pre6 enc Tryz.prog Tryz.f3 Rows.windowEndsRow.domain false) (Rows.windowEndsSpec.post enc Tryz.prog Tryz.f3 false true false false) := by
  refine returnsInHanded_of_change_sized (C := Tryz.checked) own started (by kernel_rfl) Tryz.func3
    (ChangeSpec.witness6 (enc := enc) (C := Tryz.checked) false ⟨#[], #[.slice none 0 0, .agg #[.int .u8 0, .int .i64 0], .int .i64 0], []⟩ 8 (by kernel_rfl) (by kernel_rfl) (by kernel_rfl) (by kernel_rfl)) ?_
  intro W base args ds gs before hval0 hW hcnd hsz _
  have hval : ∀ (j : Nat) t v, Tryz.f3.params[j]? = some t → args[j]? = some v → Value.okWide Tryz.prog W .any base t v := hval0
  have hW' := hW
  obtain ⟨p, q, hA0, hV, rfl, hfz, hnd⟩ := hW
  have hA : DataW.TrodAll enc Tryz.prog W 0 (fun _ => true) true Tryz.f3.params.toList args.toList ds p := hA0
  have hsz' : (DataW.weightsEach Tryz.prog (Tryz.f3.params.toList ++ (ChangeSpec.plain Rows.windowEndsSpec).varTypes Tryz.prog) (ds ++ gs)).all (· ≤ reachBytes) = true := hsz
  rw [Tryz.params3] at hA hval hsz'
  obtain ⟨v0, vs0, d0, ds0, p0, q0, hargs, rfl, rfl, h0, r0⟩ := trodAll_cons hA
  obtain ⟨v1, vs1, d1, ds1, p1, q1, rfl, rfl, rfl, h1, r1⟩ := trodAll_cons r0
  obtain ⟨v2, vs2, d2, ds2, p2, q2, rfl, rfl, rfl, h2, r2⟩ := trodAll_cons r1
  obtain ⟨rfl, rfl, rfl⟩ := trodAll_nil r2
  obtain rfl : args = #[v0, v1, v2] := by cases args; simp_all
  obtain ⟨rfl, rfl⟩ := trodVars_none hV
  have hl0 : Lite Tryz.prog 22 d0 := Lite.of hsz' (j := 0) rfl rfl
  obtain ⟨l0, x0, n0⟩ := putsW_arg (okWide_slice Tryz.underlying22 (hval 0 22 v0 rfl rfl)) h0 hl0
  obtain ⟨a1, b1, rfl⟩ := windowW_arg (okWide_structW Tryz.underlying24 (hval 1 24 v1 rfl rfl)) h1
  obtain ⟨a2, rfl, rfl, rfl, w2⟩ := open_int Tryz.underlying3 (hval 2 3 v2 rfl rfl) h2
  clear hA0 hval0
  refine (l19_at x0 n0 a1 b1 (i64_le w2)).mono fun e W' ⟨he, hg⟩ => ⟨_, he, law_post ?_ hW' hg.toBelow rfl rfl rfl⟩
  rw [Tryz.params3]
  simp only [List.mem_cons, List.not_mem_nil, or_false]
  rintro t (rfl | rfl | rfl)
  all_goals exact ⟨by kernel_rfl, of_decide_eq_true (by kernel_rfl)⟩
theorem windowEnds_holds : Rows.WindowEndsSaid :=
  OpenClaim.holds_of_wide 3 Tryz.f3 rfl rfl rfl rfl rfl rfl rfl ⟨rfl, rfl, rfl, rfl, rfl⟩ rfl rfl rfl rfl rfl (by kernel_rfl) Tryz.func3 (by kernel_rfl)
    (of_decide_eq_true (by kernel_rfl)) (by unfold Func.isWrapper; first | (rw [if_pos (by decide +kernel)]; kernel_rfl) | (rw [if_neg (by decide +kernel)]; exact ⟨rfl, rfl⟩))
    (fun os started H enc _ => windowEnds_lifted os started H enc)
#print axioms windowEnds_holds
end Go.Proofs.YtngglpekdjhbdaaGreat
