/- The document's values: May. -/
import Derived.Test.YtnoookcfacmdkaaRqB
import Derived.IntWalk
import Derived.Test.YtnoookcfacmdkaaReqP
import Derived.Test.YtnoookcfacmdkaaReqA
namespace Go.Proofs.Ytnoookcfacmdkaa
open Go.RowKit Go.ChangeMaps Go.Deep
set_option linter.unusedSimpArgs false
set_option linter.unusedVariables false
set_option maxRecDepth 20000

def isDec (s : Int) : Bool := decide (0 ≤ s) && decide (s ≤ 9)
theorem ddIs_any (c s : Int) (w : World) : Calls Try.prog 70 #[.agg #[.int .i64 c, .int .i64 s]] w fun e w' => e = .returned (.bool (isDec s)) ∧ Mod [] w w' := by
  have HM := Lib.hid ((Mod.refl [] w).alloc (.cells #[.int .i64 c, .int .i64 s] 74))
  by_cases h0 : 0 ≤ s
  · by_cases h9 : s ≤ 9
    · have HE := Lib.hid (show isDec s = true by simp [isDec, h0, h9])
      go_enter Try.func70, Try.ntmps70
      go_wp2_with fail
      go_ret
      exact ⟨by rw [HE.out]; rfl, HM.out⟩
    · have HE := Lib.hid (show isDec s = false by simp [isDec, h9])
      go_enter Try.func70, Try.ntmps70
      go_wp2_with fail
      go_ret
      exact ⟨by rw [HE.out]; rfl, HM.out⟩
  · have HE := Lib.hid (show isDec s = false by simp [isDec, h0])
    go_enter Try.func70, Try.ntmps70
    go_wp2_with fail
    go_ret
    exact ⟨by rw [HE.out]; rfl, HM.out⟩
theorem big_i64 {c : Int} (h1 : -9223372036854775808 ≤ c) (h2 : c ≤ 9223372036854775807) : Big c := big_of 10 (by omega) (by omega)
set_option maxHeartbeats 4000000 in
theorem dunits_any (c : Int) (s : Nat) (hs : s ≤ 18) (hc1 : -9223372036854775808 ≤ c) (hc2 : c ≤ 9223372036854775807) (w : World) :
    Calls Try.prog 75 #[.agg #[.int .i64 c, .int .i64 s]] w fun e w' => ∃ v, e = .returned v ∧ NAt w' v (c * 10 ^ (18 - s)) ∧ Mod [] w w' := by
  obtain ⟨A1, hA1, k1, z1, m1⟩ := alloc_named2 w (.cells #[.int .i64 c, .int .i64 s] 74)
  obtain ⟨A2, hA2, k2, z2, m2⟩ := alloc_named2 A1 (.cells #[.bool false, .slice none 0 0] 120)
  rw [z1] at k2
  have g1 := m2.heap k1 (by simp)
  have q0 := cell_blk g1 0
  have q1 := cell_blk g1 1
  simp only [List.getElem?_toArray, List.getElem?_cons_succ, List.getElem?_cons_zero] at q0 q1
  have HD := Lib.hid (Mod.refl [] A2).drew
  have HM := Lib.hid ((m1.trans m2).drew)
  have HK := Lib.hid k2
  have HBC := Lib.hid (big_i64 hc1 hc2)
  have HC := Lib.hid (nof_any c hc1 hc2 A2.drew)
  clear m1 m2 k1 k2 g1 hc1 hc2
  go_enter Try.func75, Try.ntmps75
  go_wp2_with fail
  refine wp_plan [([0, 3, 1, 4, 5], 2, [3, 4, 5]), ([], 6, []), ([], 7, []), ([], 8, [])] [] (by kernel_rfl) (by kernel_rfl) ?_
  simp only [wpSegs, opsOf, List.map_cons, List.map_nil, opN, List.getD_cons_zero, List.getD_cons_succ]
  go_wp2_with fail
  refine ⟨by first | trivial | rfl, ?_⟩
  go_wp2_with fail
  refine HC.out.mono ?_
  rintro e w1 ⟨v1, rfl, hv1, m3⟩
  have q0' := (HD.out.trans m3).cellD q0
  have q1' := (HD.out.trans m3).cellD q1
  have HCT := Lib.hid (nten_any (18 - s) (by omega) w1)
  rw [show ((18 - s : Nat) : Int) = 18 - (s : Int) by omega] at HCT
  have HV1 := Lib.hid hv1
  have HM3 := Lib.hid (HM.out.trans m3)
  have HK3 := Lib.hid ((HD.out.trans m3).heap HK.out (by simp))
  obtain ⟨v1n, v1s, v1l, rfl, hv1'⟩ := hv1
  obtain ⟨v1a, v1c, rfl⟩ := hv1'.ints.form
  clear hv1' m3 HC
  have hwr : IntKind.i64.wrap (18 - (s : Int)) = 18 - (s : Int) := IntWalk.i64_in _ (by omega)
  go_wp2_with fail
  refine ⟨?ag1, ?_⟩
  case ag1 =>
    intro i hi hw
    simp only [List.mem_cons, List.not_mem_nil, or_false] at hi
    rcases hi with rfl | rfl | rfl
    all_goals (simp only [opN, List.getD_cons_zero, List.getD_cons_succ, slotOf]; go_simp)
  clear hwr
  go_wp2_with fail
  refine ⟨by first | trivial | rfl, ?_⟩
  go_wp2_with fail
  refine HCT.out.mono ?_
  rintro e w2 ⟨v2, rfl, hv2, m4⟩
  have HCM := Lib.hid (nmul_any _ v2 _ _ w2 (HV1.out.kept0 m4) hv2 HBC.out (big_ten (by omega)))
  have HM4 := Lib.hid (HM3.out.trans m4)
  have HK4 := Lib.hid (m4.heap HK3.out (by simp))
  obtain ⟨v2n, v2s, v2l, rfl, hv2'⟩ := hv2
  obtain ⟨v2a, v2c, rfl⟩ := hv2'.ints.form
  clear hv2' m4 HCT
  go_wp2_with fail
  refine ⟨again_nil, ?_⟩
  go_wp2_with fail
  refine ⟨by first | trivial | rfl, ?_⟩
  go_wp2_with fail
  refine HCM.out.mono ?_
  rintro e w9 ⟨v9, rfl, hv9, m9⟩
  obtain ⟨n9, s9, l9, rfl, hn9⟩ := hv9
  obtain ⟨a9, c9, rfl⟩ := hn9.ints.form
  have hcr := m9.heap HK4.out (by simp)
  have p0 := cell_blk hcr 0
  have p1 := cell_blk hcr 1
  have f0 := frozen_blk hcr 0
  have f1 := frozen_blk hcr 1
  simp only [List.getElem?_toArray, List.getElem?_cons_succ, List.getElem?_cons_zero] at p0 p1
  have HV := Lib.hid hn9
  have HM9 := Lib.hid (HM4.out.trans m9)
  have HR := Lib.hid hcr
  clear hn9 hcr m9 HCM
  go_wp2_with fail
  refine ⟨again_nil, ?_⟩
  go_wp2_with fail
  refine ⟨by first | trivial | rfl, ?_⟩
  go_wp2_with fail
  refine ⟨again_nil, ?_⟩
  go_wp2_with fail
  refine ⟨by first | trivial | rfl, ?_⟩
  go_wp2_with fail
  refine bodyPost_ret (v := .agg #[.bool n9, .slice a9 l9.length c9]) (by simp [results, Try.results75, go_sem, p0, p1]) rfl ⟨_, rfl, ⟨_, _, _, rfl, HV.out.res2 HR.out _ _⟩, HM9.out.res2 (by omega) _ _⟩
set_option maxHeartbeats 4000000 in
theorem dnear_any (x : Value) (u : Int) (s : Nat) (hs : s ≤ 18) (w : World) (hx : NAt w x u) (su : Big u) :
    Calls Try.prog 74 #[x, .int .i64 s] w fun e w' => ∃ v, e = .returned v ∧ NAt w' v (evenZ u (10 ^ (18 - s))) ∧ Mod [] w w' := by
  obtain ⟨nx, s1, lx, rfl, h1⟩ := hx
  obtain ⟨ax, cx, rfl⟩ := h1.ints.form
  obtain ⟨A1, hA1, k1, z1, m1⟩ := alloc_named2 w (.cells #[.bool nx, .slice ax lx.length cx] 120)
  obtain ⟨A2, hA2, k2, z2, m2⟩ := alloc_named2 A1 (.cells #[.bool false, .slice none 0 0] 120)
  rw [z1] at k2
  have hbx : BoxZ A2 w.heap.size nx ax lx cx u := ⟨m2.heap k1 (by simp), h1.kept0 (m1.trans m2)⟩
  obtain ⟨q0, q1, _, _⟩ := hbx.cells
  have HD := Lib.hid (Mod.refl [] A2).drew
  have HM := Lib.hid ((m1.trans m2).drew)
  have HK := Lib.hid k2
  have HBX := Lib.hid hbx
  have HSU := Lib.hid su
  have HCT := Lib.hid (nten_any (18 - s) (by omega) A2.drew)
  rw [show ((18 - s : Nat) : Int) = 18 - (s : Int) by omega] at HCT
  clear m1 m2 k1 k2 h1 hbx su
  go_enter Try.func74, Try.ntmps74
  go_wp2_with fail
  refine wp_plan [([0, 1, 2], 3, [0]), ([], 4, []), ([], 5, [])] [] (by kernel_rfl) (by kernel_rfl) ?_
  simp only [wpSegs, opsOf, List.map_cons, List.map_nil, opN, List.getD_cons_zero, List.getD_cons_succ]
  go_wp2_with fail
  refine ⟨by first | trivial | rfl, ?_⟩
  go_wp2_with fail
  refine HCT.out.mono ?_
  rintro e w2 ⟨v2, rfl, hv2, m4⟩
  have hb2 := HBX.out.kept0 (HD.out.trans m4)
  obtain ⟨q0', q1', _, _⟩ := hb2.cells
  have HCM := Lib.hid (neven_any _ v2 _ _ w2 hb2.nat hv2 (Int.pow_pos (by decide)) HSU.out (by
    have h1 := big_ten (n := 18 - s + 3) (by omega)
    rwa [Int.pow_add, Int.mul_comm, show (10 : Int) ^ 3 = 1000 by rfl] at h1))
  have HM4 := Lib.hid (HM.out.trans m4)
  have HK4 := Lib.hid ((HD.out.trans m4).heap HK.out (by simp))
  obtain ⟨v2n, v2s, v2l, rfl, hv2'⟩ := hv2
  obtain ⟨v2a, v2c, rfl⟩ := hv2'.ints.form
  clear hv2' m4 HCT hb2
  go_wp2_with fail
  refine ⟨?ag1, ?_⟩
  case ag1 =>
    intro i hi hw
    simp only [List.mem_cons, List.not_mem_nil, or_false] at hi
    subst hi
    all_goals (simp only [opN, List.getD_cons_zero, List.getD_cons_succ, slotOf]; go_simp)
  go_wp2_with fail
  refine ⟨by first | trivial | rfl, ?_⟩
  go_wp2_with fail
  refine HCM.out.mono ?_
  rintro e w9 ⟨v9, rfl, hv9, m9⟩
  obtain ⟨n9, s9, l9, rfl, hn9⟩ := hv9
  obtain ⟨a9, c9, rfl⟩ := hn9.ints.form
  have hcr := m9.heap HK4.out (by simp)
  have p0 := cell_blk hcr 0
  have p1 := cell_blk hcr 1
  have f0 := frozen_blk hcr 0
  have f1 := frozen_blk hcr 1
  simp only [List.getElem?_toArray, List.getElem?_cons_succ, List.getElem?_cons_zero] at p0 p1
  have HV := Lib.hid hn9
  have HM9 := Lib.hid (HM4.out.trans m9)
  have HR := Lib.hid hcr
  clear hn9 hcr m9 HCM
  go_wp2_with fail
  refine ⟨again_nil, ?_⟩
  go_wp2_with fail
  refine ⟨by first | trivial | rfl, ?_⟩
  go_wp2_with fail
  refine ⟨again_nil, ?_⟩
  go_wp2_with fail
  refine ⟨by first | trivial | rfl, ?_⟩
  go_wp2_with fail
  refine bodyPost_ret (v := .agg #[.bool n9, .slice a9 l9.length c9]) (by simp [results, Try.results74, go_sem, p0, p1]) rfl ⟨_, rfl, ⟨_, _, _, rfl, HV.out.res2 HR.out _ _⟩, HM9.out.res2 (by omega) _ _⟩
/-- noughts behind the point taken off -/
def normZ : Int → Nat → Int × Nat
  | u, 0 => (u, 0)
  | u, s + 1 => if u % 10 = 0 then normZ (u / 10) s else (u, s + 1)
/-- a decimal, if it fits -/
def madeZ (u : Int) (s : Nat) : Option (Int × Nat) := if fits64 (normZ u s).1 then some (normZ u s) else none
def decV (p : Int × Nat) : Value := .agg #[.int .i64 p.1, .int .i64 p.2]
/-- a decimal, or ErrOver -/
def MadePost (w : World) (r : Option (Int × Nat)) (e : Ending) (w' : World) : Prop := Mod [] w w' ∧ match r with
  | some p => e = .returned (.tuple #[decV p, .int .i64 0])
  | none => e = .returned (.tuple #[decV (0, 0), .int .i64 11])
set_option maxHeartbeats 16000000 in
theorem dmade_any (x : Value) (u : Int) (s : Nat) (hs : s ≤ 100) (w : World) (hx : NAt w x u) (su : Big u) :
    Calls Try.prog 73 #[x, .int .i64 s] w (MadePost w (madeZ u s)) := by
  obtain ⟨nx, s1, lx, rfl, h1⟩ := hx
  obtain ⟨ax, cx, rfl⟩ := h1.ints.form
  obtain ⟨A1, hA1, k1, z1, m1⟩ := alloc_named2 w (.cells #[.bool nx, .slice ax lx.length cx] 120)
  obtain ⟨A2, hA2, k2, z2, m2⟩ := alloc_named2 A1 (.cells #[.int .i64 0, .int .i64 0] 74)
  rw [z1] at k2
  have HBX := Lib.hid (show BoxZ A2 w.heap.size nx ax lx cx u from ⟨m2.heap k1 (by simp), h1.kept0 (m1.trans m2)⟩)
  have HM := Lib.hid (m1.trans m2)
  have HK := Lib.hid k2
  have HSU := Lib.hid su
  have HLW := Lib.hid (show w.heap.size + 1 < A2.heap.size by omega)
  clear m1 m2 k1 k2 h1 su z2
  go_enter Try.func73, Try.ntmps73
  go_wp2_with fail
  go_loopw [1] (fun s1 wr => ∃ (t : Nat) (u' z : Int), s1 = .int .i64 z ∧ z = (t : Int) ∧ t ≤ s ∧ Hid (∃ neg p l c, BoxZ wr w.heap.size neg p l c u') ∧ Hid (normZ u' t = normZ u s) ∧ Hid (u'.natAbs ≤ u.natAbs) ∧ Hid (wr.heap[w.heap.size + 1]? = some (.cells #[.int .i64 0, .int .i64 0] 74)) ∧ Hid (Mod [] w wr)) (fun s1 _ => (intOf s1).toNat)
  case atStart => exact ⟨s, u, _, rfl, rfl, by omega, Lib.hid ⟨_, _, _, _, HBX.out⟩, Lib.hid rfl, Lib.hid (Nat.le_refl _), HK, HM⟩
  case round =>
    clear HBX HM HK
    obtain ⟨t, u', z, rfl, hz, ht, hB, hN, hU, hK, hM⟩ := hrel
    obtain ⟨un, ua, ul, uc, hub⟩ := hB.out
    have HUB := Lib.hid hub
    have HBU := Lib.hid (show Big u' from HSU.out.le hU.out)
    obtain ⟨q0, q1, _, _⟩ := hub.cells
    clear hub
    cases t with
    | zero =>
      obtain rfl : z = 0 := by omega
      have HZ := Lib.hid (show normZ u s = (u', 0) from hN.out.symm)
      clear hz
      by_cases hf : fits64 u' = true
      · have HCS := Lib.hid (show Calls Try.prog 78 _ wr fun e w' => e = .returned (.tuple #[.int .i64 u', .bool true]) ∧ Mod [] wr w' from (nsmall_any _ u' wr HUB.out.nat HBU.out).mono fun e w' ⟨h1, h2⟩ => ⟨by rw [h1, hf]; rfl, h2⟩)
        have HRS := Lib.hid (show madeZ u s = some (u', 0) by unfold madeZ; rw [HZ.out]; dsimp only; rw [hf]; rfl)
        clear hf
        go_wp2_with fail
        refine HCS.out.mono ?_
        rintro e w3 ⟨rfl, m3⟩
        have hk3 := m3.heap (hK.out) (by simp)
        have p0 := cell_blk hk3 0
        have p1 := cell_blk hk3 1
        have p2 := frozen_blk hk3 0
        have p3 := frozen_blk hk3 1
        simp only [List.getElem?_toArray, List.getElem?_cons_succ, List.getElem?_cons_zero] at p0 p1
        have HM3 := Lib.hid ((hM.out).trans m3)
        clear hk3 m3 HCS
        go_wp2_with fail
        refine bodyPost_ret (v := .tuple #[.agg #[.int .i64 u', .int .i64 0], .int .i64 0]) (by simp [results, Try.results73, go_sem, p0, p1]) rfl ⟨(HM3.out.setCellNew (p := ⟨w.heap.size + 1, 0, none⟩) (by simp only; omega) _).setCellNew (p := ⟨w.heap.size + 1, 1, none⟩) (by simp only; omega) _, by rw [HRS.out]; rfl⟩
      · have hf : fits64 u' = false := by simpa using hf
        have HCS := Lib.hid (show Calls Try.prog 78 _ wr fun e w' => e = .returned (.tuple #[.int .i64 0, .bool false]) ∧ Mod [] wr w' from (nsmall_any _ u' wr HUB.out.nat HBU.out).mono fun e w' ⟨h1, h2⟩ => ⟨by rw [h1, hf]; rfl, h2⟩)
        have HRS := Lib.hid (show madeZ u s = none by unfold madeZ; rw [HZ.out]; dsimp only; rw [hf]; rfl)
        clear hf
        go_wp2_with fail
        refine HCS.out.mono ?_
        rintro e w3 ⟨rfl, m3⟩
        have hk3 := m3.heap (hK.out) (by simp)
        have p0 := cell_blk hk3 0
        have p1 := cell_blk hk3 1
        have p2 := frozen_blk hk3 0
        have p3 := frozen_blk hk3 1
        simp only [List.getElem?_toArray, List.getElem?_cons_succ, List.getElem?_cons_zero] at p0 p1
        have HM3 := Lib.hid ((hM.out).trans m3)
        clear hk3 m3 HCS
        go_wp2_with fail
        refine bodyPost_ret (v := .tuple #[.agg #[.int .i64 0, .int .i64 0], .int .i64 11]) (by simp [results, Try.results73, go_sem, p0, p1]) rfl ⟨(HM3.out.setCellNew (p := ⟨w.heap.size + 1, 0, none⟩) (by simp only; omega) _).setCellNew (p := ⟨w.heap.size + 1, 1, none⟩) (by simp only; omega) _, by rw [HRS.out]; rfl⟩
    | succ t =>
      obtain rfl : z = (t : Int) + 1 := by omega
      clear hz
      go_upto_region 2 with fail
      go_cut [6, 7] from 12 to 17 (fun s6 s7 wx => ∃ g6 g7 : Nat, s6 = .pointer (some ⟨g6, 0, none⟩) ∧ s7 = .pointer (some ⟨g7, 0, none⟩) ∧ Hid (∃ neg p l c, BoxZ wx g6 neg p l c (u' / 10)) ∧ Hid (∃ neg p l c, BoxZ wx g7 neg p l c (u' % 10)) ∧ Hid (Mod [] wr wx))
      case first =>
        refine wp_sched (by kernel_rfl) (sched_either 1 6 (by decide) (sched_either 1 7 (by decide) (sched_either 2 6 (by decide) (sched_either 2 7 (by decide) (sched_either 6 7 (by decide) (sched_plan5 [([0], 1, [0]), ([], 2, []), ([3, 4, 5], 6, []), ([], 7, []), ([], 8, []), ([], 9, [])] [] (by kernel_rfl) ?L1) (sched_plan5 [([0], 1, [0]), ([], 2, []), ([3, 4, 5], 7, []), ([], 6, []), ([], 8, []), ([], 9, [])] [] (by kernel_rfl) ?L2)) (sched_plan4 [([0], 1, [0]), ([], 7, [0]), ([], 2, []), ([3, 4, 5], 6, []), ([], 8, []), ([], 9, [])] [] (by kernel_rfl) ?L3)) (sched_either 2 7 (by decide) (sched_plan4 [([0], 1, [0]), ([], 6, [0]), ([], 2, []), ([3, 4, 5], 7, []), ([], 8, []), ([], 9, [])] [] (by kernel_rfl) ?L4) (sched_either 6 7 (by decide) (sched_plan5 [([0], 1, [0]), ([], 6, [0]), ([], 7, [0]), ([], 2, []), ([3, 4, 5], 8, []), ([], 9, [])] [] (by kernel_rfl) ?L5) (sched_plan5 [([0], 1, [0]), ([], 7, [0]), ([], 6, [0]), ([], 2, []), ([3, 4, 5], 8, []), ([], 9, [])] [] (by kernel_rfl) ?L6)))) (sched_either 2 6 (by decide) (sched_plan3 [([0], 7, [0]), ([], 1, [0]), ([], 2, []), ([3, 4, 5], 6, []), ([], 8, []), ([], 9, [])] [] (by kernel_rfl) ?L7) (sched_plan3 [([0], 7, [0]), ([], 1, [0]), ([], 6, [0]), ([], 2, []), ([3, 4, 5], 8, []), ([], 9, [])] [] (by kernel_rfl) ?L8))) (sched_either 1 7 (by decide) (sched_either 2 7 (by decide) (sched_plan3 [([0], 6, [0]), ([], 1, [0]), ([], 2, []), ([3, 4, 5], 7, []), ([], 8, []), ([], 9, [])] [] (by kernel_rfl) ?L9) (sched_plan3 [([0], 6, [0]), ([], 1, [0]), ([], 7, [0]), ([], 2, []), ([3, 4, 5], 8, []), ([], 9, [])] [] (by kernel_rfl) ?L10)) (sched_either 6 7 (by decide) (sched_plan3 [([0], 6, [0]), ([], 7, [0]), ([], 1, [0]), ([], 2, []), ([3, 4, 5], 8, []), ([], 9, [])] [] (by kernel_rfl) ?L11) (sched_plan3 [([0], 7, [0]), ([], 6, [0]), ([], 1, [0]), ([], 2, []), ([3, 4, 5], 8, []), ([], 9, [])] [] (by kernel_rfl) ?L12))))
        case L1 =>
          simp only [wpSegs, opsOf, List.map_cons, List.map_nil, opN, List.getD_cons_zero, List.getD_cons_succ]
          obtain ⟨D0, hD0, mD0⟩ : ∃ D, wr.drew = D ∧ Mod [] wr D := ⟨_, rfl, (Mod.refl [] wr).drew⟩
          rw [hD0]
          have HMc := Lib.hid mD0
          have HQc := Lib.hid (HUB.out.kept0 mD0)
          obtain ⟨c0, c1, _, _⟩ := HQc.out.cells
          clear hD0 mD0
          have HC := Lib.hid (nword_any 10 (by omega) D0)
          go_wp2_with fail
          refine ⟨by first | trivial | rfl, ?_⟩
          go_wp2_with fail
          refine HC.out.mono ?_
          rintro e W1_0 ⟨v, rfl, hv, mA⟩
          obtain ⟨tn, ts, tl, rfl, ht⟩ := hv
          obtain ⟨ta, tc, rfl⟩ := ht.ints.form
          have HMc := Lib.hid (HMc.out.trans mA)
          have HQc := Lib.hid (HQc.out.kept0 mA)
          obtain ⟨c0, c1, _, _⟩ := HQc.out.cells
          have HT := Lib.hid ht
          clear HC mA ht
          go_wp2_with fail
          refine ⟨?ag1_0, ?_⟩
          case ag1_0 =>
            intro i hi hw
            simp only [List.mem_cons, List.not_mem_nil, or_false] at hi
            subst hi
            all_goals (simp only [opN, List.getD_cons_zero, List.getD_cons_succ, slotOf]; go_simp)
          have HC := Lib.hid (ndown_any _ _ (u') 10 W1_0 HQc.out.nat ⟨_, _, _, rfl, HT.out⟩ (by omega) HBU.out (big_of 2 (by omega) (by decide)))
          go_wp2_with fail
          refine ⟨by first | trivial | rfl, ?_⟩
          go_wp2_with fail
          refine HC.out.mono ?_
          rintro e W1_1 ⟨v, v', rfl, hv, hv', mA⟩
          obtain ⟨d1n, d1s, d1l, rfl, hd1⟩ := hv
          obtain ⟨d1a, d1c, rfl⟩ := hd1.ints.form
          obtain ⟨d2n, d2s, d2l, rfl, hd2⟩ := hv'
          obtain ⟨d2a, d2c, rfl⟩ := hd2.ints.form
          have HMc := Lib.hid (HMc.out.trans mA)
          have HQc := Lib.hid (HQc.out.kept0 mA)
          obtain ⟨c0, c1, _, _⟩ := HQc.out.cells
          have HT := Lib.hid (HT.out.kept0 mA)
          have HD1 := Lib.hid hd1
          have HD2 := Lib.hid hd2
          clear HC mA hd1 hd2
          go_wp2_with fail
          refine ⟨again_nil, ?_⟩
          have hge := HMc.out.size
          obtain ⟨W1_2, hA2, kA, sA, mA⟩ := alloc_named2 W1_1 (.cells #[.bool false, .slice none 0 0] 120)
          obtain ⟨g6, hG6⟩ : ∃ g, W1_1.heap.size = g := ⟨_, rfl⟩
          rw [hG6] at kA hge
          have HMc := Lib.hid (HMc.out.trans mA)
          have HQc := Lib.hid (HQc.out.kept0 mA)
          obtain ⟨c0, c1, _, _⟩ := HQc.out.cells
          have HT := Lib.hid (HT.out.kept0 mA)
          have HD1 := Lib.hid (HD1.out.kept0 mA)
          have HD2 := Lib.hid (HD2.out.kept0 mA)
          have HX6 : Hid (BoxZ W1_2 g6 false none [] 0 0) := Lib.hid ⟨kA, ⟨.nil none 0, .nil, .nil, by simp [zOf, rv], by simp⟩⟩
          have HGE6 := Lib.hid hge
          clear kA mA sA hge
          go_wp2_with fail
          refine ⟨by first | trivial | rfl, ?_⟩
          go_wp2_with fail
          refine ⟨again_nil, ?_⟩
          have hlt := lt_of_heap HX6.out.box
          have hge := HMc.out.size
          obtain ⟨W1_3, hA3, kA, sA, mA⟩ := alloc_named2 W1_2 (.cells #[.bool false, .slice none 0 0] 120)
          obtain ⟨g7, hG7⟩ : ∃ g, W1_2.heap.size = g := ⟨_, rfl⟩
          rw [hG7] at kA hge hlt
          have HMc := Lib.hid (HMc.out.trans mA)
          have HQc := Lib.hid (HQc.out.kept0 mA)
          obtain ⟨c0, c1, _, _⟩ := HQc.out.cells
          have HX6 := Lib.hid (HX6.out.kept0 mA)
          have HT := Lib.hid (HT.out.kept0 mA)
          have HD1 := Lib.hid (HD1.out.kept0 mA)
          have HD2 := Lib.hid (HD2.out.kept0 mA)
          have HX7 : Hid (BoxZ W1_3 g7 false none [] 0 0) := Lib.hid ⟨kA, ⟨.nil none 0, .nil, .nil, by simp [zOf, rv], by simp⟩⟩
          have HGE7 := Lib.hid hge
          have HNE := Lib.hid hlt
          clear kA mA sA hge hlt
          go_wp2_with fail
          refine ⟨by first | trivial | rfl, ?_⟩
          go_wp2_with fail
          refine ⟨again_nil, ?_⟩
          obtain ⟨r0, r1, s0, s1⟩ := HX6.out.cells
          obtain ⟨W1_4, hW4⟩ : ∃ W, (W1_3.setCell ⟨g6, 0, none⟩ (.bool d1n)).setCell ⟨g6, 1, none⟩ (.slice d1a d1l.length d1c) = W := ⟨_, rfl⟩
          have hst := HX6.out.set HD1.out
          have hot := HX7.out.other HX6.out.isBox (by have := HNE.out; omega) (.bool d1n) (.slice d1a d1l.length d1c)
          have hd2 := HD2.out.other HX6.out.isBox (.bool d1n) (.slice d1a d1l.length d1c)
          have hmc := (HMc.out.setCellNew (p := ⟨g6, 0, none⟩) (by exact HGE6.out) (.bool d1n)).setCellNew (p := ⟨g6, 1, none⟩) (by exact HGE6.out) (.slice d1a d1l.length d1c)
          rw [hW4] at hst hot hd2 hmc
          have HX6 := Lib.hid hst
          have HX7 := Lib.hid hot
          have HD2 := Lib.hid hd2
          have HMc := Lib.hid hmc
          clear hst hot hd2 hmc
          go_wp2_with fail
          refine ⟨by first | trivial | rfl, ?_⟩
          go_wp2_with fail
          refine ⟨again_nil, ?_⟩
          obtain ⟨r0, r1, s0, s1⟩ := HX7.out.cells
          obtain ⟨W1_5, hW5⟩ : ∃ W, (W1_4.setCell ⟨g7, 0, none⟩ (.bool d2n)).setCell ⟨g7, 1, none⟩ (.slice d2a d2l.length d2c) = W := ⟨_, rfl⟩
          have hst := HX7.out.set HD2.out
          have hot := HX6.out.other HX7.out.isBox (by have := HNE.out; omega) (.bool d2n) (.slice d2a d2l.length d2c)
          have hd2 := HD2.out.other HX7.out.isBox (.bool d2n) (.slice d2a d2l.length d2c)
          have hmc := (HMc.out.setCellNew (p := ⟨g7, 0, none⟩) (by exact HGE7.out) (.bool d2n)).setCellNew (p := ⟨g7, 1, none⟩) (by exact HGE7.out) (.slice d2a d2l.length d2c)
          rw [hW5] at hst hot hd2 hmc
          have HX7 := Lib.hid hst
          have HX6 := Lib.hid hot
          have HD2 := Lib.hid hd2
          have HMc := Lib.hid hmc
          clear hst hot hd2 hmc
          go_wp2_with fail
          refine ⟨by first | trivial | rfl, ?_⟩
          go_wp2_with fail
          refine ⟨again_nil, ?_⟩
          go_wp2_with fail
          refine ⟨by first | trivial | rfl, ?_⟩
          go_wp2_with fail
          go_meet
          exact ⟨g6, g7, by first | rfl | trivial, by first | rfl | trivial, Lib.hid ⟨_, _, _, _, HX6.out⟩, Lib.hid ⟨_, _, _, _, HX7.out⟩, HMc⟩
        case L2 =>
          simp only [wpSegs, opsOf, List.map_cons, List.map_nil, opN, List.getD_cons_zero, List.getD_cons_succ]
          obtain ⟨D0, hD0, mD0⟩ : ∃ D, wr.drew = D ∧ Mod [] wr D := ⟨_, rfl, (Mod.refl [] wr).drew⟩
          rw [hD0]
          have HMc := Lib.hid mD0
          have HQc := Lib.hid (HUB.out.kept0 mD0)
          obtain ⟨c0, c1, _, _⟩ := HQc.out.cells
          clear hD0 mD0
          have HC := Lib.hid (nword_any 10 (by omega) D0)
          go_wp2_with fail
          refine ⟨by first | trivial | rfl, ?_⟩
          go_wp2_with fail
          refine HC.out.mono ?_
          rintro e W2_0 ⟨v, rfl, hv, mA⟩
          obtain ⟨tn, ts, tl, rfl, ht⟩ := hv
          obtain ⟨ta, tc, rfl⟩ := ht.ints.form
          have HMc := Lib.hid (HMc.out.trans mA)
          have HQc := Lib.hid (HQc.out.kept0 mA)
          obtain ⟨c0, c1, _, _⟩ := HQc.out.cells
          have HT := Lib.hid ht
          clear HC mA ht
          go_wp2_with fail
          refine ⟨?ag2_0, ?_⟩
          case ag2_0 =>
            intro i hi hw
            simp only [List.mem_cons, List.not_mem_nil, or_false] at hi
            subst hi
            all_goals (simp only [opN, List.getD_cons_zero, List.getD_cons_succ, slotOf]; go_simp)
          have HC := Lib.hid (ndown_any _ _ (u') 10 W2_0 HQc.out.nat ⟨_, _, _, rfl, HT.out⟩ (by omega) HBU.out (big_of 2 (by omega) (by decide)))
          go_wp2_with fail
          refine ⟨by first | trivial | rfl, ?_⟩
          go_wp2_with fail
          refine HC.out.mono ?_
          rintro e W2_1 ⟨v, v', rfl, hv, hv', mA⟩
          obtain ⟨d1n, d1s, d1l, rfl, hd1⟩ := hv
          obtain ⟨d1a, d1c, rfl⟩ := hd1.ints.form
          obtain ⟨d2n, d2s, d2l, rfl, hd2⟩ := hv'
          obtain ⟨d2a, d2c, rfl⟩ := hd2.ints.form
          have HMc := Lib.hid (HMc.out.trans mA)
          have HQc := Lib.hid (HQc.out.kept0 mA)
          obtain ⟨c0, c1, _, _⟩ := HQc.out.cells
          have HT := Lib.hid (HT.out.kept0 mA)
          have HD1 := Lib.hid hd1
          have HD2 := Lib.hid hd2
          clear HC mA hd1 hd2
          go_wp2_with fail
          refine ⟨again_nil, ?_⟩
          have hge := HMc.out.size
          obtain ⟨W2_2, hA2, kA, sA, mA⟩ := alloc_named2 W2_1 (.cells #[.bool false, .slice none 0 0] 120)
          obtain ⟨g7, hG7⟩ : ∃ g, W2_1.heap.size = g := ⟨_, rfl⟩
          rw [hG7] at kA hge
          have HMc := Lib.hid (HMc.out.trans mA)
          have HQc := Lib.hid (HQc.out.kept0 mA)
          obtain ⟨c0, c1, _, _⟩ := HQc.out.cells
          have HT := Lib.hid (HT.out.kept0 mA)
          have HD1 := Lib.hid (HD1.out.kept0 mA)
          have HD2 := Lib.hid (HD2.out.kept0 mA)
          have HX7 : Hid (BoxZ W2_2 g7 false none [] 0 0) := Lib.hid ⟨kA, ⟨.nil none 0, .nil, .nil, by simp [zOf, rv], by simp⟩⟩
          have HGE7 := Lib.hid hge
          clear kA mA sA hge
          go_wp2_with fail
          refine ⟨by first | trivial | rfl, ?_⟩
          go_wp2_with fail
          refine ⟨again_nil, ?_⟩
          have hlt := lt_of_heap HX7.out.box
          have hge := HMc.out.size
          obtain ⟨W2_3, hA3, kA, sA, mA⟩ := alloc_named2 W2_2 (.cells #[.bool false, .slice none 0 0] 120)
          obtain ⟨g6, hG6⟩ : ∃ g, W2_2.heap.size = g := ⟨_, rfl⟩
          rw [hG6] at kA hge hlt
          have HMc := Lib.hid (HMc.out.trans mA)
          have HQc := Lib.hid (HQc.out.kept0 mA)
          obtain ⟨c0, c1, _, _⟩ := HQc.out.cells
          have HX7 := Lib.hid (HX7.out.kept0 mA)
          have HT := Lib.hid (HT.out.kept0 mA)
          have HD1 := Lib.hid (HD1.out.kept0 mA)
          have HD2 := Lib.hid (HD2.out.kept0 mA)
          have HX6 : Hid (BoxZ W2_3 g6 false none [] 0 0) := Lib.hid ⟨kA, ⟨.nil none 0, .nil, .nil, by simp [zOf, rv], by simp⟩⟩
          have HGE6 := Lib.hid hge
          have HNE := Lib.hid hlt
          clear kA mA sA hge hlt
          go_wp2_with fail
          refine ⟨by first | trivial | rfl, ?_⟩
          go_wp2_with fail
          refine ⟨again_nil, ?_⟩
          obtain ⟨r0, r1, s0, s1⟩ := HX6.out.cells
          obtain ⟨W2_4, hW4⟩ : ∃ W, (W2_3.setCell ⟨g6, 0, none⟩ (.bool d1n)).setCell ⟨g6, 1, none⟩ (.slice d1a d1l.length d1c) = W := ⟨_, rfl⟩
          have hst := HX6.out.set HD1.out
          have hot := HX7.out.other HX6.out.isBox (by have := HNE.out; omega) (.bool d1n) (.slice d1a d1l.length d1c)
          have hd2 := HD2.out.other HX6.out.isBox (.bool d1n) (.slice d1a d1l.length d1c)
          have hmc := (HMc.out.setCellNew (p := ⟨g6, 0, none⟩) (by exact HGE6.out) (.bool d1n)).setCellNew (p := ⟨g6, 1, none⟩) (by exact HGE6.out) (.slice d1a d1l.length d1c)
          rw [hW4] at hst hot hd2 hmc
          have HX6 := Lib.hid hst
          have HX7 := Lib.hid hot
          have HD2 := Lib.hid hd2
          have HMc := Lib.hid hmc
          clear hst hot hd2 hmc
          go_wp2_with fail
          refine ⟨by first | trivial | rfl, ?_⟩
          go_wp2_with fail
          refine ⟨again_nil, ?_⟩
          obtain ⟨r0, r1, s0, s1⟩ := HX7.out.cells
          obtain ⟨W2_5, hW5⟩ : ∃ W, (W2_4.setCell ⟨g7, 0, none⟩ (.bool d2n)).setCell ⟨g7, 1, none⟩ (.slice d2a d2l.length d2c) = W := ⟨_, rfl⟩
          have hst := HX7.out.set HD2.out
          have hot := HX6.out.other HX7.out.isBox (by have := HNE.out; omega) (.bool d2n) (.slice d2a d2l.length d2c)
          have hd2 := HD2.out.other HX7.out.isBox (.bool d2n) (.slice d2a d2l.length d2c)
          have hmc := (HMc.out.setCellNew (p := ⟨g7, 0, none⟩) (by exact HGE7.out) (.bool d2n)).setCellNew (p := ⟨g7, 1, none⟩) (by exact HGE7.out) (.slice d2a d2l.length d2c)
          rw [hW5] at hst hot hd2 hmc
          have HX7 := Lib.hid hst
          have HX6 := Lib.hid hot
          have HD2 := Lib.hid hd2
          have HMc := Lib.hid hmc
          clear hst hot hd2 hmc
          go_wp2_with fail
          refine ⟨by first | trivial | rfl, ?_⟩
          go_wp2_with fail
          refine ⟨again_nil, ?_⟩
          go_wp2_with fail
          refine ⟨by first | trivial | rfl, ?_⟩
          go_wp2_with fail
          go_meet
          exact ⟨g6, g7, by first | rfl | trivial, by first | rfl | trivial, Lib.hid ⟨_, _, _, _, HX6.out⟩, Lib.hid ⟨_, _, _, _, HX7.out⟩, HMc⟩
        case L3 =>
          simp only [wpSegs, opsOf, List.map_cons, List.map_nil, opN, List.getD_cons_zero, List.getD_cons_succ]
          obtain ⟨D0, hD0, mD0⟩ : ∃ D, wr.drew = D ∧ Mod [] wr D := ⟨_, rfl, (Mod.refl [] wr).drew⟩
          rw [hD0]
          have HMc := Lib.hid mD0
          have HQc := Lib.hid (HUB.out.kept0 mD0)
          obtain ⟨c0, c1, _, _⟩ := HQc.out.cells
          clear hD0 mD0
          have HC := Lib.hid (nword_any 10 (by omega) D0)
          go_wp2_with fail
          refine ⟨by first | trivial | rfl, ?_⟩
          go_wp2_with fail
          refine HC.out.mono ?_
          rintro e W3_0 ⟨v, rfl, hv, mA⟩
          obtain ⟨tn, ts, tl, rfl, ht⟩ := hv
          obtain ⟨ta, tc, rfl⟩ := ht.ints.form
          have HMc := Lib.hid (HMc.out.trans mA)
          have HQc := Lib.hid (HQc.out.kept0 mA)
          obtain ⟨c0, c1, _, _⟩ := HQc.out.cells
          have HT := Lib.hid ht
          clear HC mA ht
          go_wp2_with fail
          refine ⟨?ag3_0, ?_⟩
          case ag3_0 =>
            intro i hi hw
            simp only [List.mem_cons, List.not_mem_nil, or_false] at hi
            subst hi
            all_goals (simp only [opN, List.getD_cons_zero, List.getD_cons_succ, slotOf]; go_simp)
          have hge := HMc.out.size
          obtain ⟨W3_1, hA1, kA, sA, mA⟩ := alloc_named2 W3_0 (.cells #[.bool false, .slice none 0 0] 120)
          obtain ⟨g7, hG7⟩ : ∃ g, W3_0.heap.size = g := ⟨_, rfl⟩
          rw [hG7] at kA hge
          have HMc := Lib.hid (HMc.out.trans mA)
          have HQc := Lib.hid (HQc.out.kept0 mA)
          obtain ⟨c0, c1, _, _⟩ := HQc.out.cells
          have HT := Lib.hid (HT.out.kept0 mA)
          have HX7 : Hid (BoxZ W3_1 g7 false none [] 0 0) := Lib.hid ⟨kA, ⟨.nil none 0, .nil, .nil, by simp [zOf, rv], by simp⟩⟩
          have HGE7 := Lib.hid hge
          clear kA mA sA hge
          go_wp2_with fail
          refine ⟨by first | trivial | rfl, ?_⟩
          go_wp2_with fail
          refine ⟨?ag3_1, ?_⟩
          case ag3_1 =>
            intro i hi hw
            simp only [List.mem_cons, List.not_mem_nil, or_false] at hi
            subst hi
            all_goals (simp only [opN, List.getD_cons_zero, List.getD_cons_succ, slotOf]; go_simp)
          have HC := Lib.hid (ndown_any _ _ (u') 10 W3_1 HQc.out.nat ⟨_, _, _, rfl, HT.out⟩ (by omega) HBU.out (big_of 2 (by omega) (by decide)))
          go_wp2_with fail
          refine ⟨by first | trivial | rfl, ?_⟩
          go_wp2_with fail
          refine HC.out.mono ?_
          rintro e W3_2 ⟨v, v', rfl, hv, hv', mA⟩
          obtain ⟨d1n, d1s, d1l, rfl, hd1⟩ := hv
          obtain ⟨d1a, d1c, rfl⟩ := hd1.ints.form
          obtain ⟨d2n, d2s, d2l, rfl, hd2⟩ := hv'
          obtain ⟨d2a, d2c, rfl⟩ := hd2.ints.form
          have HMc := Lib.hid (HMc.out.trans mA)
          have HQc := Lib.hid (HQc.out.kept0 mA)
          obtain ⟨c0, c1, _, _⟩ := HQc.out.cells
          have HX7 := Lib.hid (HX7.out.kept0 mA)
          have HT := Lib.hid (HT.out.kept0 mA)
          have HD1 := Lib.hid hd1
          have HD2 := Lib.hid hd2
          clear HC mA hd1 hd2
          go_wp2_with fail
          refine ⟨again_nil, ?_⟩
          have hlt := lt_of_heap HX7.out.box
          have hge := HMc.out.size
          obtain ⟨W3_3, hA3, kA, sA, mA⟩ := alloc_named2 W3_2 (.cells #[.bool false, .slice none 0 0] 120)
          obtain ⟨g6, hG6⟩ : ∃ g, W3_2.heap.size = g := ⟨_, rfl⟩
          rw [hG6] at kA hge hlt
          have HMc := Lib.hid (HMc.out.trans mA)
          have HQc := Lib.hid (HQc.out.kept0 mA)
          obtain ⟨c0, c1, _, _⟩ := HQc.out.cells
          have HX7 := Lib.hid (HX7.out.kept0 mA)
          have HT := Lib.hid (HT.out.kept0 mA)
          have HD1 := Lib.hid (HD1.out.kept0 mA)
          have HD2 := Lib.hid (HD2.out.kept0 mA)
          have HX6 : Hid (BoxZ W3_3 g6 false none [] 0 0) := Lib.hid ⟨kA, ⟨.nil none 0, .nil, .nil, by simp [zOf, rv], by simp⟩⟩
          have HGE6 := Lib.hid hge
          have HNE := Lib.hid hlt
          clear kA mA sA hge hlt
          go_wp2_with fail
          refine ⟨by first | trivial | rfl, ?_⟩
          go_wp2_with fail
          refine ⟨again_nil, ?_⟩
          obtain ⟨r0, r1, s0, s1⟩ := HX6.out.cells
          obtain ⟨W3_4, hW4⟩ : ∃ W, (W3_3.setCell ⟨g6, 0, none⟩ (.bool d1n)).setCell ⟨g6, 1, none⟩ (.slice d1a d1l.length d1c) = W := ⟨_, rfl⟩
          have hst := HX6.out.set HD1.out
          have hot := HX7.out.other HX6.out.isBox (by have := HNE.out; omega) (.bool d1n) (.slice d1a d1l.length d1c)
          have hd2 := HD2.out.other HX6.out.isBox (.bool d1n) (.slice d1a d1l.length d1c)
          have hmc := (HMc.out.setCellNew (p := ⟨g6, 0, none⟩) (by exact HGE6.out) (.bool d1n)).setCellNew (p := ⟨g6, 1, none⟩) (by exact HGE6.out) (.slice d1a d1l.length d1c)
          rw [hW4] at hst hot hd2 hmc
          have HX6 := Lib.hid hst
          have HX7 := Lib.hid hot
          have HD2 := Lib.hid hd2
          have HMc := Lib.hid hmc
          clear hst hot hd2 hmc
          go_wp2_with fail
          refine ⟨by first | trivial | rfl, ?_⟩
          go_wp2_with fail
          refine ⟨again_nil, ?_⟩
          obtain ⟨r0, r1, s0, s1⟩ := HX7.out.cells
          obtain ⟨W3_5, hW5⟩ : ∃ W, (W3_4.setCell ⟨g7, 0, none⟩ (.bool d2n)).setCell ⟨g7, 1, none⟩ (.slice d2a d2l.length d2c) = W := ⟨_, rfl⟩
          have hst := HX7.out.set HD2.out
          have hot := HX6.out.other HX7.out.isBox (by have := HNE.out; omega) (.bool d2n) (.slice d2a d2l.length d2c)
          have hd2 := HD2.out.other HX7.out.isBox (.bool d2n) (.slice d2a d2l.length d2c)
          have hmc := (HMc.out.setCellNew (p := ⟨g7, 0, none⟩) (by exact HGE7.out) (.bool d2n)).setCellNew (p := ⟨g7, 1, none⟩) (by exact HGE7.out) (.slice d2a d2l.length d2c)
          rw [hW5] at hst hot hd2 hmc
          have HX7 := Lib.hid hst
          have HX6 := Lib.hid hot
          have HD2 := Lib.hid hd2
          have HMc := Lib.hid hmc
          clear hst hot hd2 hmc
          go_wp2_with fail
          refine ⟨by first | trivial | rfl, ?_⟩
          go_wp2_with fail
          refine ⟨again_nil, ?_⟩
          go_wp2_with fail
          refine ⟨by first | trivial | rfl, ?_⟩
          go_wp2_with fail
          go_meet
          exact ⟨g6, g7, by first | rfl | trivial, by first | rfl | trivial, Lib.hid ⟨_, _, _, _, HX6.out⟩, Lib.hid ⟨_, _, _, _, HX7.out⟩, HMc⟩
        case L4 =>
          simp only [wpSegs, opsOf, List.map_cons, List.map_nil, opN, List.getD_cons_zero, List.getD_cons_succ]
          obtain ⟨D0, hD0, mD0⟩ : ∃ D, wr.drew = D ∧ Mod [] wr D := ⟨_, rfl, (Mod.refl [] wr).drew⟩
          rw [hD0]
          have HMc := Lib.hid mD0
          have HQc := Lib.hid (HUB.out.kept0 mD0)
          obtain ⟨c0, c1, _, _⟩ := HQc.out.cells
          clear hD0 mD0
          have HC := Lib.hid (nword_any 10 (by omega) D0)
          go_wp2_with fail
          refine ⟨by first | trivial | rfl, ?_⟩
          go_wp2_with fail
          refine HC.out.mono ?_
          rintro e W4_0 ⟨v, rfl, hv, mA⟩
          obtain ⟨tn, ts, tl, rfl, ht⟩ := hv
          obtain ⟨ta, tc, rfl⟩ := ht.ints.form
          have HMc := Lib.hid (HMc.out.trans mA)
          have HQc := Lib.hid (HQc.out.kept0 mA)
          obtain ⟨c0, c1, _, _⟩ := HQc.out.cells
          have HT := Lib.hid ht
          clear HC mA ht
          go_wp2_with fail
          refine ⟨?ag4_0, ?_⟩
          case ag4_0 =>
            intro i hi hw
            simp only [List.mem_cons, List.not_mem_nil, or_false] at hi
            subst hi
            all_goals (simp only [opN, List.getD_cons_zero, List.getD_cons_succ, slotOf]; go_simp)
          have hge := HMc.out.size
          obtain ⟨W4_1, hA1, kA, sA, mA⟩ := alloc_named2 W4_0 (.cells #[.bool false, .slice none 0 0] 120)
          obtain ⟨g6, hG6⟩ : ∃ g, W4_0.heap.size = g := ⟨_, rfl⟩
          rw [hG6] at kA hge
          have HMc := Lib.hid (HMc.out.trans mA)
          have HQc := Lib.hid (HQc.out.kept0 mA)
          obtain ⟨c0, c1, _, _⟩ := HQc.out.cells
          have HT := Lib.hid (HT.out.kept0 mA)
          have HX6 : Hid (BoxZ W4_1 g6 false none [] 0 0) := Lib.hid ⟨kA, ⟨.nil none 0, .nil, .nil, by simp [zOf, rv], by simp⟩⟩
          have HGE6 := Lib.hid hge
          clear kA mA sA hge
          go_wp2_with fail
          refine ⟨by first | trivial | rfl, ?_⟩
          go_wp2_with fail
          refine ⟨?ag4_1, ?_⟩
          case ag4_1 =>
            intro i hi hw
            simp only [List.mem_cons, List.not_mem_nil, or_false] at hi
            subst hi
            all_goals (simp only [opN, List.getD_cons_zero, List.getD_cons_succ, slotOf]; go_simp)
          have HC := Lib.hid (ndown_any _ _ (u') 10 W4_1 HQc.out.nat ⟨_, _, _, rfl, HT.out⟩ (by omega) HBU.out (big_of 2 (by omega) (by decide)))
          go_wp2_with fail
          refine ⟨by first | trivial | rfl, ?_⟩
          go_wp2_with fail
          refine HC.out.mono ?_
          rintro e W4_2 ⟨v, v', rfl, hv, hv', mA⟩
          obtain ⟨d1n, d1s, d1l, rfl, hd1⟩ := hv
          obtain ⟨d1a, d1c, rfl⟩ := hd1.ints.form
          obtain ⟨d2n, d2s, d2l, rfl, hd2⟩ := hv'
          obtain ⟨d2a, d2c, rfl⟩ := hd2.ints.form
          have HMc := Lib.hid (HMc.out.trans mA)
          have HQc := Lib.hid (HQc.out.kept0 mA)
          obtain ⟨c0, c1, _, _⟩ := HQc.out.cells
          have HX6 := Lib.hid (HX6.out.kept0 mA)
          have HT := Lib.hid (HT.out.kept0 mA)
          have HD1 := Lib.hid hd1
          have HD2 := Lib.hid hd2
          clear HC mA hd1 hd2
          go_wp2_with fail
          refine ⟨again_nil, ?_⟩
          have hlt := lt_of_heap HX6.out.box
          have hge := HMc.out.size
          obtain ⟨W4_3, hA3, kA, sA, mA⟩ := alloc_named2 W4_2 (.cells #[.bool false, .slice none 0 0] 120)
          obtain ⟨g7, hG7⟩ : ∃ g, W4_2.heap.size = g := ⟨_, rfl⟩
          rw [hG7] at kA hge hlt
          have HMc := Lib.hid (HMc.out.trans mA)
          have HQc := Lib.hid (HQc.out.kept0 mA)
          obtain ⟨c0, c1, _, _⟩ := HQc.out.cells
          have HX6 := Lib.hid (HX6.out.kept0 mA)
          have HT := Lib.hid (HT.out.kept0 mA)
          have HD1 := Lib.hid (HD1.out.kept0 mA)
          have HD2 := Lib.hid (HD2.out.kept0 mA)
          have HX7 : Hid (BoxZ W4_3 g7 false none [] 0 0) := Lib.hid ⟨kA, ⟨.nil none 0, .nil, .nil, by simp [zOf, rv], by simp⟩⟩
          have HGE7 := Lib.hid hge
          have HNE := Lib.hid hlt
          clear kA mA sA hge hlt
          go_wp2_with fail
          refine ⟨by first | trivial | rfl, ?_⟩
          go_wp2_with fail
          refine ⟨again_nil, ?_⟩
          obtain ⟨r0, r1, s0, s1⟩ := HX6.out.cells
          obtain ⟨W4_4, hW4⟩ : ∃ W, (W4_3.setCell ⟨g6, 0, none⟩ (.bool d1n)).setCell ⟨g6, 1, none⟩ (.slice d1a d1l.length d1c) = W := ⟨_, rfl⟩
          have hst := HX6.out.set HD1.out
          have hot := HX7.out.other HX6.out.isBox (by have := HNE.out; omega) (.bool d1n) (.slice d1a d1l.length d1c)
          have hd2 := HD2.out.other HX6.out.isBox (.bool d1n) (.slice d1a d1l.length d1c)
          have hmc := (HMc.out.setCellNew (p := ⟨g6, 0, none⟩) (by exact HGE6.out) (.bool d1n)).setCellNew (p := ⟨g6, 1, none⟩) (by exact HGE6.out) (.slice d1a d1l.length d1c)
          rw [hW4] at hst hot hd2 hmc
          have HX6 := Lib.hid hst
          have HX7 := Lib.hid hot
          have HD2 := Lib.hid hd2
          have HMc := Lib.hid hmc
          clear hst hot hd2 hmc
          go_wp2_with fail
          refine ⟨by first | trivial | rfl, ?_⟩
          go_wp2_with fail
          refine ⟨again_nil, ?_⟩
          obtain ⟨r0, r1, s0, s1⟩ := HX7.out.cells
          obtain ⟨W4_5, hW5⟩ : ∃ W, (W4_4.setCell ⟨g7, 0, none⟩ (.bool d2n)).setCell ⟨g7, 1, none⟩ (.slice d2a d2l.length d2c) = W := ⟨_, rfl⟩
          have hst := HX7.out.set HD2.out
          have hot := HX6.out.other HX7.out.isBox (by have := HNE.out; omega) (.bool d2n) (.slice d2a d2l.length d2c)
          have hd2 := HD2.out.other HX7.out.isBox (.bool d2n) (.slice d2a d2l.length d2c)
          have hmc := (HMc.out.setCellNew (p := ⟨g7, 0, none⟩) (by exact HGE7.out) (.bool d2n)).setCellNew (p := ⟨g7, 1, none⟩) (by exact HGE7.out) (.slice d2a d2l.length d2c)
          rw [hW5] at hst hot hd2 hmc
          have HX7 := Lib.hid hst
          have HX6 := Lib.hid hot
          have HD2 := Lib.hid hd2
          have HMc := Lib.hid hmc
          clear hst hot hd2 hmc
          go_wp2_with fail
          refine ⟨by first | trivial | rfl, ?_⟩
          go_wp2_with fail
          refine ⟨again_nil, ?_⟩
          go_wp2_with fail
          refine ⟨by first | trivial | rfl, ?_⟩
          go_wp2_with fail
          go_meet
          exact ⟨g6, g7, by first | rfl | trivial, by first | rfl | trivial, Lib.hid ⟨_, _, _, _, HX6.out⟩, Lib.hid ⟨_, _, _, _, HX7.out⟩, HMc⟩
        case L5 =>
          simp only [wpSegs, opsOf, List.map_cons, List.map_nil, opN, List.getD_cons_zero, List.getD_cons_succ]
          obtain ⟨D0, hD0, mD0⟩ : ∃ D, wr.drew = D ∧ Mod [] wr D := ⟨_, rfl, (Mod.refl [] wr).drew⟩
          rw [hD0]
          have HMc := Lib.hid mD0
          have HQc := Lib.hid (HUB.out.kept0 mD0)
          obtain ⟨c0, c1, _, _⟩ := HQc.out.cells
          clear hD0 mD0
          have HC := Lib.hid (nword_any 10 (by omega) D0)
          go_wp2_with fail
          refine ⟨by first | trivial | rfl, ?_⟩
          go_wp2_with fail
          refine HC.out.mono ?_
          rintro e W5_0 ⟨v, rfl, hv, mA⟩
          obtain ⟨tn, ts, tl, rfl, ht⟩ := hv
          obtain ⟨ta, tc, rfl⟩ := ht.ints.form
          have HMc := Lib.hid (HMc.out.trans mA)
          have HQc := Lib.hid (HQc.out.kept0 mA)
          obtain ⟨c0, c1, _, _⟩ := HQc.out.cells
          have HT := Lib.hid ht
          clear HC mA ht
          go_wp2_with fail
          refine ⟨?ag5_0, ?_⟩
          case ag5_0 =>
            intro i hi hw
            simp only [List.mem_cons, List.not_mem_nil, or_false] at hi
            subst hi
            all_goals (simp only [opN, List.getD_cons_zero, List.getD_cons_succ, slotOf]; go_simp)
          have hge := HMc.out.size
          obtain ⟨W5_1, hA1, kA, sA, mA⟩ := alloc_named2 W5_0 (.cells #[.bool false, .slice none 0 0] 120)
          obtain ⟨g6, hG6⟩ : ∃ g, W5_0.heap.size = g := ⟨_, rfl⟩
          rw [hG6] at kA hge
          have HMc := Lib.hid (HMc.out.trans mA)
          have HQc := Lib.hid (HQc.out.kept0 mA)
          obtain ⟨c0, c1, _, _⟩ := HQc.out.cells
          have HT := Lib.hid (HT.out.kept0 mA)
          have HX6 : Hid (BoxZ W5_1 g6 false none [] 0 0) := Lib.hid ⟨kA, ⟨.nil none 0, .nil, .nil, by simp [zOf, rv], by simp⟩⟩
          have HGE6 := Lib.hid hge
          clear kA mA sA hge
          go_wp2_with fail
          refine ⟨by first | trivial | rfl, ?_⟩
          go_wp2_with fail
          refine ⟨?ag5_1, ?_⟩
          case ag5_1 =>
            intro i hi hw
            simp only [List.mem_cons, List.not_mem_nil, or_false] at hi
            subst hi
            all_goals (simp only [opN, List.getD_cons_zero, List.getD_cons_succ, slotOf]; go_simp)
          have hlt := lt_of_heap HX6.out.box
          have hge := HMc.out.size
          obtain ⟨W5_2, hA2, kA, sA, mA⟩ := alloc_named2 W5_1 (.cells #[.bool false, .slice none 0 0] 120)
          obtain ⟨g7, hG7⟩ : ∃ g, W5_1.heap.size = g := ⟨_, rfl⟩
          rw [hG7] at kA hge hlt
          have HMc := Lib.hid (HMc.out.trans mA)
          have HQc := Lib.hid (HQc.out.kept0 mA)
          obtain ⟨c0, c1, _, _⟩ := HQc.out.cells
          have HX6 := Lib.hid (HX6.out.kept0 mA)
          have HT := Lib.hid (HT.out.kept0 mA)
          have HX7 : Hid (BoxZ W5_2 g7 false none [] 0 0) := Lib.hid ⟨kA, ⟨.nil none 0, .nil, .nil, by simp [zOf, rv], by simp⟩⟩
          have HGE7 := Lib.hid hge
          have HNE := Lib.hid hlt
          clear kA mA sA hge hlt
          go_wp2_with fail
          refine ⟨by first | trivial | rfl, ?_⟩
          go_wp2_with fail
          refine ⟨?ag5_2, ?_⟩
          case ag5_2 =>
            intro i hi hw
            simp only [List.mem_cons, List.not_mem_nil, or_false] at hi
            subst hi
            all_goals (simp only [opN, List.getD_cons_zero, List.getD_cons_succ, slotOf]; go_simp)
          have HC := Lib.hid (ndown_any _ _ (u') 10 W5_2 HQc.out.nat ⟨_, _, _, rfl, HT.out⟩ (by omega) HBU.out (big_of 2 (by omega) (by decide)))
          go_wp2_with fail
          refine ⟨by first | trivial | rfl, ?_⟩
          go_wp2_with fail
          refine HC.out.mono ?_
          rintro e W5_3 ⟨v, v', rfl, hv, hv', mA⟩
          obtain ⟨d1n, d1s, d1l, rfl, hd1⟩ := hv
          obtain ⟨d1a, d1c, rfl⟩ := hd1.ints.form
          obtain ⟨d2n, d2s, d2l, rfl, hd2⟩ := hv'
          obtain ⟨d2a, d2c, rfl⟩ := hd2.ints.form
          have HMc := Lib.hid (HMc.out.trans mA)
          have HQc := Lib.hid (HQc.out.kept0 mA)
          obtain ⟨c0, c1, _, _⟩ := HQc.out.cells
          have HX6 := Lib.hid (HX6.out.kept0 mA)
          have HX7 := Lib.hid (HX7.out.kept0 mA)
          have HT := Lib.hid (HT.out.kept0 mA)
          have HD1 := Lib.hid hd1
          have HD2 := Lib.hid hd2
          clear HC mA hd1 hd2
          go_wp2_with fail
          refine ⟨again_nil, ?_⟩
          obtain ⟨r0, r1, s0, s1⟩ := HX6.out.cells
          obtain ⟨W5_4, hW4⟩ : ∃ W, (W5_3.setCell ⟨g6, 0, none⟩ (.bool d1n)).setCell ⟨g6, 1, none⟩ (.slice d1a d1l.length d1c) = W := ⟨_, rfl⟩
          have hst := HX6.out.set HD1.out
          have hot := HX7.out.other HX6.out.isBox (by have := HNE.out; omega) (.bool d1n) (.slice d1a d1l.length d1c)
          have hd2 := HD2.out.other HX6.out.isBox (.bool d1n) (.slice d1a d1l.length d1c)
          have hmc := (HMc.out.setCellNew (p := ⟨g6, 0, none⟩) (by exact HGE6.out) (.bool d1n)).setCellNew (p := ⟨g6, 1, none⟩) (by exact HGE6.out) (.slice d1a d1l.length d1c)
          rw [hW4] at hst hot hd2 hmc
          have HX6 := Lib.hid hst
          have HX7 := Lib.hid hot
          have HD2 := Lib.hid hd2
          have HMc := Lib.hid hmc
          clear hst hot hd2 hmc
          go_wp2_with fail
          refine ⟨by first | trivial | rfl, ?_⟩
          go_wp2_with fail
          refine ⟨again_nil, ?_⟩
          obtain ⟨r0, r1, s0, s1⟩ := HX7.out.cells
          obtain ⟨W5_5, hW5⟩ : ∃ W, (W5_4.setCell ⟨g7, 0, none⟩ (.bool d2n)).setCell ⟨g7, 1, none⟩ (.slice d2a d2l.length d2c) = W := ⟨_, rfl⟩
          have hst := HX7.out.set HD2.out
          have hot := HX6.out.other HX7.out.isBox (by have := HNE.out; omega) (.bool d2n) (.slice d2a d2l.length d2c)
          have hd2 := HD2.out.other HX7.out.isBox (.bool d2n) (.slice d2a d2l.length d2c)
          have hmc := (HMc.out.setCellNew (p := ⟨g7, 0, none⟩) (by exact HGE7.out) (.bool d2n)).setCellNew (p := ⟨g7, 1, none⟩) (by exact HGE7.out) (.slice d2a d2l.length d2c)
          rw [hW5] at hst hot hd2 hmc
          have HX7 := Lib.hid hst
          have HX6 := Lib.hid hot
          have HD2 := Lib.hid hd2
          have HMc := Lib.hid hmc
          clear hst hot hd2 hmc
          go_wp2_with fail
          refine ⟨by first | trivial | rfl, ?_⟩
          go_wp2_with fail
          refine ⟨again_nil, ?_⟩
          go_wp2_with fail
          refine ⟨by first | trivial | rfl, ?_⟩
          go_wp2_with fail
          go_meet
          exact ⟨g6, g7, by first | rfl | trivial, by first | rfl | trivial, Lib.hid ⟨_, _, _, _, HX6.out⟩, Lib.hid ⟨_, _, _, _, HX7.out⟩, HMc⟩
        case L6 =>
          simp only [wpSegs, opsOf, List.map_cons, List.map_nil, opN, List.getD_cons_zero, List.getD_cons_succ]
          obtain ⟨D0, hD0, mD0⟩ : ∃ D, wr.drew = D ∧ Mod [] wr D := ⟨_, rfl, (Mod.refl [] wr).drew⟩
          rw [hD0]
          have HMc := Lib.hid mD0
          have HQc := Lib.hid (HUB.out.kept0 mD0)
          obtain ⟨c0, c1, _, _⟩ := HQc.out.cells
          clear hD0 mD0
          have HC := Lib.hid (nword_any 10 (by omega) D0)
          go_wp2_with fail
          refine ⟨by first | trivial | rfl, ?_⟩
          go_wp2_with fail
          refine HC.out.mono ?_
          rintro e W6_0 ⟨v, rfl, hv, mA⟩
          obtain ⟨tn, ts, tl, rfl, ht⟩ := hv
          obtain ⟨ta, tc, rfl⟩ := ht.ints.form
          have HMc := Lib.hid (HMc.out.trans mA)
          have HQc := Lib.hid (HQc.out.kept0 mA)
          obtain ⟨c0, c1, _, _⟩ := HQc.out.cells
          have HT := Lib.hid ht
          clear HC mA ht
          go_wp2_with fail
          refine ⟨?ag6_0, ?_⟩
          case ag6_0 =>
            intro i hi hw
            simp only [List.mem_cons, List.not_mem_nil, or_false] at hi
            subst hi
            all_goals (simp only [opN, List.getD_cons_zero, List.getD_cons_succ, slotOf]; go_simp)
          have hge := HMc.out.size
          obtain ⟨W6_1, hA1, kA, sA, mA⟩ := alloc_named2 W6_0 (.cells #[.bool false, .slice none 0 0] 120)
          obtain ⟨g7, hG7⟩ : ∃ g, W6_0.heap.size = g := ⟨_, rfl⟩
          rw [hG7] at kA hge
          have HMc := Lib.hid (HMc.out.trans mA)
          have HQc := Lib.hid (HQc.out.kept0 mA)
          obtain ⟨c0, c1, _, _⟩ := HQc.out.cells
          have HT := Lib.hid (HT.out.kept0 mA)
          have HX7 : Hid (BoxZ W6_1 g7 false none [] 0 0) := Lib.hid ⟨kA, ⟨.nil none 0, .nil, .nil, by simp [zOf, rv], by simp⟩⟩
          have HGE7 := Lib.hid hge
          clear kA mA sA hge
          go_wp2_with fail
          refine ⟨by first | trivial | rfl, ?_⟩
          go_wp2_with fail
          refine ⟨?ag6_1, ?_⟩
          case ag6_1 =>
            intro i hi hw
            simp only [List.mem_cons, List.not_mem_nil, or_false] at hi
            subst hi
            all_goals (simp only [opN, List.getD_cons_zero, List.getD_cons_succ, slotOf]; go_simp)
          have hlt := lt_of_heap HX7.out.box
          have hge := HMc.out.size
          obtain ⟨W6_2, hA2, kA, sA, mA⟩ := alloc_named2 W6_1 (.cells #[.bool false, .slice none 0 0] 120)
          obtain ⟨g6, hG6⟩ : ∃ g, W6_1.heap.size = g := ⟨_, rfl⟩
          rw [hG6] at kA hge hlt
          have HMc := Lib.hid (HMc.out.trans mA)
          have HQc := Lib.hid (HQc.out.kept0 mA)
          obtain ⟨c0, c1, _, _⟩ := HQc.out.cells
          have HX7 := Lib.hid (HX7.out.kept0 mA)
          have HT := Lib.hid (HT.out.kept0 mA)
          have HX6 : Hid (BoxZ W6_2 g6 false none [] 0 0) := Lib.hid ⟨kA, ⟨.nil none 0, .nil, .nil, by simp [zOf, rv], by simp⟩⟩
          have HGE6 := Lib.hid hge
          have HNE := Lib.hid hlt
          clear kA mA sA hge hlt
          go_wp2_with fail
          refine ⟨by first | trivial | rfl, ?_⟩
          go_wp2_with fail
          refine ⟨?ag6_2, ?_⟩
          case ag6_2 =>
            intro i hi hw
            simp only [List.mem_cons, List.not_mem_nil, or_false] at hi
            subst hi
            all_goals (simp only [opN, List.getD_cons_zero, List.getD_cons_succ, slotOf]; go_simp)
          have HC := Lib.hid (ndown_any _ _ (u') 10 W6_2 HQc.out.nat ⟨_, _, _, rfl, HT.out⟩ (by omega) HBU.out (big_of 2 (by omega) (by decide)))
          go_wp2_with fail
          refine ⟨by first | trivial | rfl, ?_⟩
          go_wp2_with fail
          refine HC.out.mono ?_
          rintro e W6_3 ⟨v, v', rfl, hv, hv', mA⟩
          obtain ⟨d1n, d1s, d1l, rfl, hd1⟩ := hv
          obtain ⟨d1a, d1c, rfl⟩ := hd1.ints.form
          obtain ⟨d2n, d2s, d2l, rfl, hd2⟩ := hv'
          obtain ⟨d2a, d2c, rfl⟩ := hd2.ints.form
          have HMc := Lib.hid (HMc.out.trans mA)
          have HQc := Lib.hid (HQc.out.kept0 mA)
          obtain ⟨c0, c1, _, _⟩ := HQc.out.cells
          have HX7 := Lib.hid (HX7.out.kept0 mA)
          have HX6 := Lib.hid (HX6.out.kept0 mA)
          have HT := Lib.hid (HT.out.kept0 mA)
          have HD1 := Lib.hid hd1
          have HD2 := Lib.hid hd2
          clear HC mA hd1 hd2
          go_wp2_with fail
          refine ⟨again_nil, ?_⟩
          obtain ⟨r0, r1, s0, s1⟩ := HX6.out.cells
          obtain ⟨W6_4, hW4⟩ : ∃ W, (W6_3.setCell ⟨g6, 0, none⟩ (.bool d1n)).setCell ⟨g6, 1, none⟩ (.slice d1a d1l.length d1c) = W := ⟨_, rfl⟩
          have hst := HX6.out.set HD1.out
          have hot := HX7.out.other HX6.out.isBox (by have := HNE.out; omega) (.bool d1n) (.slice d1a d1l.length d1c)
          have hd2 := HD2.out.other HX6.out.isBox (.bool d1n) (.slice d1a d1l.length d1c)
          have hmc := (HMc.out.setCellNew (p := ⟨g6, 0, none⟩) (by exact HGE6.out) (.bool d1n)).setCellNew (p := ⟨g6, 1, none⟩) (by exact HGE6.out) (.slice d1a d1l.length d1c)
          rw [hW4] at hst hot hd2 hmc
          have HX6 := Lib.hid hst
          have HX7 := Lib.hid hot
          have HD2 := Lib.hid hd2
          have HMc := Lib.hid hmc
          clear hst hot hd2 hmc
          go_wp2_with fail
          refine ⟨by first | trivial | rfl, ?_⟩
          go_wp2_with fail
          refine ⟨again_nil, ?_⟩
          obtain ⟨r0, r1, s0, s1⟩ := HX7.out.cells
          obtain ⟨W6_5, hW5⟩ : ∃ W, (W6_4.setCell ⟨g7, 0, none⟩ (.bool d2n)).setCell ⟨g7, 1, none⟩ (.slice d2a d2l.length d2c) = W := ⟨_, rfl⟩
          have hst := HX7.out.set HD2.out
          have hot := HX6.out.other HX7.out.isBox (by have := HNE.out; omega) (.bool d2n) (.slice d2a d2l.length d2c)
          have hd2 := HD2.out.other HX7.out.isBox (.bool d2n) (.slice d2a d2l.length d2c)
          have hmc := (HMc.out.setCellNew (p := ⟨g7, 0, none⟩) (by exact HGE7.out) (.bool d2n)).setCellNew (p := ⟨g7, 1, none⟩) (by exact HGE7.out) (.slice d2a d2l.length d2c)
          rw [hW5] at hst hot hd2 hmc
          have HX7 := Lib.hid hst
          have HX6 := Lib.hid hot
          have HD2 := Lib.hid hd2
          have HMc := Lib.hid hmc
          clear hst hot hd2 hmc
          go_wp2_with fail
          refine ⟨by first | trivial | rfl, ?_⟩
          go_wp2_with fail
          refine ⟨again_nil, ?_⟩
          go_wp2_with fail
          refine ⟨by first | trivial | rfl, ?_⟩
          go_wp2_with fail
          go_meet
          exact ⟨g6, g7, by first | rfl | trivial, by first | rfl | trivial, Lib.hid ⟨_, _, _, _, HX6.out⟩, Lib.hid ⟨_, _, _, _, HX7.out⟩, HMc⟩
        case L7 =>
          simp only [wpSegs, opsOf, List.map_cons, List.map_nil, opN, List.getD_cons_zero, List.getD_cons_succ]
          obtain ⟨D0, hD0, mD0⟩ : ∃ D, wr.drew = D ∧ Mod [] wr D := ⟨_, rfl, (Mod.refl [] wr).drew⟩
          rw [hD0]
          have HMc := Lib.hid mD0
          have HQc := Lib.hid (HUB.out.kept0 mD0)
          obtain ⟨c0, c1, _, _⟩ := HQc.out.cells
          clear hD0 mD0
          have hge := HMc.out.size
          obtain ⟨W7_0, hA0, kA, sA, mA⟩ := alloc_named2 D0 (.cells #[.bool false, .slice none 0 0] 120)
          obtain ⟨g7, hG7⟩ : ∃ g, D0.heap.size = g := ⟨_, rfl⟩
          rw [hG7] at kA hge
          have HMc := Lib.hid (HMc.out.trans mA)
          have HQc := Lib.hid (HQc.out.kept0 mA)
          obtain ⟨c0, c1, _, _⟩ := HQc.out.cells
          have HX7 : Hid (BoxZ W7_0 g7 false none [] 0 0) := Lib.hid ⟨kA, ⟨.nil none 0, .nil, .nil, by simp [zOf, rv], by simp⟩⟩
          have HGE7 := Lib.hid hge
          clear kA mA sA hge
          go_wp2_with fail
          refine ⟨by first | trivial | rfl, ?_⟩
          go_wp2_with fail
          refine ⟨?ag7_0, ?_⟩
          case ag7_0 =>
            intro i hi hw
            simp only [List.mem_cons, List.not_mem_nil, or_false] at hi
            subst hi
            all_goals (simp only [opN, List.getD_cons_zero, List.getD_cons_succ, slotOf]; go_simp)
          have HC := Lib.hid (nword_any 10 (by omega) W7_0)
          go_wp2_with fail
          refine ⟨by first | trivial | rfl, ?_⟩
          go_wp2_with fail
          refine HC.out.mono ?_
          rintro e W7_1 ⟨v, rfl, hv, mA⟩
          obtain ⟨tn, ts, tl, rfl, ht⟩ := hv
          obtain ⟨ta, tc, rfl⟩ := ht.ints.form
          have HMc := Lib.hid (HMc.out.trans mA)
          have HQc := Lib.hid (HQc.out.kept0 mA)
          obtain ⟨c0, c1, _, _⟩ := HQc.out.cells
          have HX7 := Lib.hid (HX7.out.kept0 mA)
          have HT := Lib.hid ht
          clear HC mA ht
          go_wp2_with fail
          refine ⟨?ag7_1, ?_⟩
          case ag7_1 =>
            intro i hi hw
            simp only [List.mem_cons, List.not_mem_nil, or_false] at hi
            subst hi
            all_goals (simp only [opN, List.getD_cons_zero, List.getD_cons_succ, slotOf]; go_simp)
          have HC := Lib.hid (ndown_any _ _ (u') 10 W7_1 HQc.out.nat ⟨_, _, _, rfl, HT.out⟩ (by omega) HBU.out (big_of 2 (by omega) (by decide)))
          go_wp2_with fail
          refine ⟨by first | trivial | rfl, ?_⟩
          go_wp2_with fail
          refine HC.out.mono ?_
          rintro e W7_2 ⟨v, v', rfl, hv, hv', mA⟩
          obtain ⟨d1n, d1s, d1l, rfl, hd1⟩ := hv
          obtain ⟨d1a, d1c, rfl⟩ := hd1.ints.form
          obtain ⟨d2n, d2s, d2l, rfl, hd2⟩ := hv'
          obtain ⟨d2a, d2c, rfl⟩ := hd2.ints.form
          have HMc := Lib.hid (HMc.out.trans mA)
          have HQc := Lib.hid (HQc.out.kept0 mA)
          obtain ⟨c0, c1, _, _⟩ := HQc.out.cells
          have HX7 := Lib.hid (HX7.out.kept0 mA)
          have HT := Lib.hid (HT.out.kept0 mA)
          have HD1 := Lib.hid hd1
          have HD2 := Lib.hid hd2
          clear HC mA hd1 hd2
          go_wp2_with fail
          refine ⟨again_nil, ?_⟩
          have hlt := lt_of_heap HX7.out.box
          have hge := HMc.out.size
          obtain ⟨W7_3, hA3, kA, sA, mA⟩ := alloc_named2 W7_2 (.cells #[.bool false, .slice none 0 0] 120)
          obtain ⟨g6, hG6⟩ : ∃ g, W7_2.heap.size = g := ⟨_, rfl⟩
          rw [hG6] at kA hge hlt
          have HMc := Lib.hid (HMc.out.trans mA)
          have HQc := Lib.hid (HQc.out.kept0 mA)
          obtain ⟨c0, c1, _, _⟩ := HQc.out.cells
          have HX7 := Lib.hid (HX7.out.kept0 mA)
          have HT := Lib.hid (HT.out.kept0 mA)
          have HD1 := Lib.hid (HD1.out.kept0 mA)
          have HD2 := Lib.hid (HD2.out.kept0 mA)
          have HX6 : Hid (BoxZ W7_3 g6 false none [] 0 0) := Lib.hid ⟨kA, ⟨.nil none 0, .nil, .nil, by simp [zOf, rv], by simp⟩⟩
          have HGE6 := Lib.hid hge
          have HNE := Lib.hid hlt
          clear kA mA sA hge hlt
          go_wp2_with fail
          refine ⟨by first | trivial | rfl, ?_⟩
          go_wp2_with fail
          refine ⟨again_nil, ?_⟩
          obtain ⟨r0, r1, s0, s1⟩ := HX6.out.cells
          obtain ⟨W7_4, hW4⟩ : ∃ W, (W7_3.setCell ⟨g6, 0, none⟩ (.bool d1n)).setCell ⟨g6, 1, none⟩ (.slice d1a d1l.length d1c) = W := ⟨_, rfl⟩
          have hst := HX6.out.set HD1.out
          have hot := HX7.out.other HX6.out.isBox (by have := HNE.out; omega) (.bool d1n) (.slice d1a d1l.length d1c)
          have hd2 := HD2.out.other HX6.out.isBox (.bool d1n) (.slice d1a d1l.length d1c)
          have hmc := (HMc.out.setCellNew (p := ⟨g6, 0, none⟩) (by exact HGE6.out) (.bool d1n)).setCellNew (p := ⟨g6, 1, none⟩) (by exact HGE6.out) (.slice d1a d1l.length d1c)
          rw [hW4] at hst hot hd2 hmc
          have HX6 := Lib.hid hst
          have HX7 := Lib.hid hot
          have HD2 := Lib.hid hd2
          have HMc := Lib.hid hmc
          clear hst hot hd2 hmc
          go_wp2_with fail
          refine ⟨by first | trivial | rfl, ?_⟩
          go_wp2_with fail
          refine ⟨again_nil, ?_⟩
          obtain ⟨r0, r1, s0, s1⟩ := HX7.out.cells
          obtain ⟨W7_5, hW5⟩ : ∃ W, (W7_4.setCell ⟨g7, 0, none⟩ (.bool d2n)).setCell ⟨g7, 1, none⟩ (.slice d2a d2l.length d2c) = W := ⟨_, rfl⟩
          have hst := HX7.out.set HD2.out
          have hot := HX6.out.other HX7.out.isBox (by have := HNE.out; omega) (.bool d2n) (.slice d2a d2l.length d2c)
          have hd2 := HD2.out.other HX7.out.isBox (.bool d2n) (.slice d2a d2l.length d2c)
          have hmc := (HMc.out.setCellNew (p := ⟨g7, 0, none⟩) (by exact HGE7.out) (.bool d2n)).setCellNew (p := ⟨g7, 1, none⟩) (by exact HGE7.out) (.slice d2a d2l.length d2c)
          rw [hW5] at hst hot hd2 hmc
          have HX7 := Lib.hid hst
          have HX6 := Lib.hid hot
          have HD2 := Lib.hid hd2
          have HMc := Lib.hid hmc
          clear hst hot hd2 hmc
          go_wp2_with fail
          refine ⟨by first | trivial | rfl, ?_⟩
          go_wp2_with fail
          refine ⟨again_nil, ?_⟩
          go_wp2_with fail
          refine ⟨by first | trivial | rfl, ?_⟩
          go_wp2_with fail
          go_meet
          exact ⟨g6, g7, by first | rfl | trivial, by first | rfl | trivial, Lib.hid ⟨_, _, _, _, HX6.out⟩, Lib.hid ⟨_, _, _, _, HX7.out⟩, HMc⟩
        case L8 =>
          simp only [wpSegs, opsOf, List.map_cons, List.map_nil, opN, List.getD_cons_zero, List.getD_cons_succ]
          obtain ⟨D0, hD0, mD0⟩ : ∃ D, wr.drew = D ∧ Mod [] wr D := ⟨_, rfl, (Mod.refl [] wr).drew⟩
          rw [hD0]
          have HMc := Lib.hid mD0
          have HQc := Lib.hid (HUB.out.kept0 mD0)
          obtain ⟨c0, c1, _, _⟩ := HQc.out.cells
          clear hD0 mD0
          have hge := HMc.out.size
          obtain ⟨W8_0, hA0, kA, sA, mA⟩ := alloc_named2 D0 (.cells #[.bool false, .slice none 0 0] 120)
          obtain ⟨g7, hG7⟩ : ∃ g, D0.heap.size = g := ⟨_, rfl⟩
          rw [hG7] at kA hge
          have HMc := Lib.hid (HMc.out.trans mA)
          have HQc := Lib.hid (HQc.out.kept0 mA)
          obtain ⟨c0, c1, _, _⟩ := HQc.out.cells
          have HX7 : Hid (BoxZ W8_0 g7 false none [] 0 0) := Lib.hid ⟨kA, ⟨.nil none 0, .nil, .nil, by simp [zOf, rv], by simp⟩⟩
          have HGE7 := Lib.hid hge
          clear kA mA sA hge
          go_wp2_with fail
          refine ⟨by first | trivial | rfl, ?_⟩
          go_wp2_with fail
          refine ⟨?ag8_0, ?_⟩
          case ag8_0 =>
            intro i hi hw
            simp only [List.mem_cons, List.not_mem_nil, or_false] at hi
            subst hi
            all_goals (simp only [opN, List.getD_cons_zero, List.getD_cons_succ, slotOf]; go_simp)
          have HC := Lib.hid (nword_any 10 (by omega) W8_0)
          go_wp2_with fail
          refine ⟨by first | trivial | rfl, ?_⟩
          go_wp2_with fail
          refine HC.out.mono ?_
          rintro e W8_1 ⟨v, rfl, hv, mA⟩
          obtain ⟨tn, ts, tl, rfl, ht⟩ := hv
          obtain ⟨ta, tc, rfl⟩ := ht.ints.form
          have HMc := Lib.hid (HMc.out.trans mA)
          have HQc := Lib.hid (HQc.out.kept0 mA)
          obtain ⟨c0, c1, _, _⟩ := HQc.out.cells
          have HX7 := Lib.hid (HX7.out.kept0 mA)
          have HT := Lib.hid ht
          clear HC mA ht
          go_wp2_with fail
          refine ⟨?ag8_1, ?_⟩
          case ag8_1 =>
            intro i hi hw
            simp only [List.mem_cons, List.not_mem_nil, or_false] at hi
            subst hi
            all_goals (simp only [opN, List.getD_cons_zero, List.getD_cons_succ, slotOf]; go_simp)
          have hlt := lt_of_heap HX7.out.box
          have hge := HMc.out.size
          obtain ⟨W8_2, hA2, kA, sA, mA⟩ := alloc_named2 W8_1 (.cells #[.bool false, .slice none 0 0] 120)
          obtain ⟨g6, hG6⟩ : ∃ g, W8_1.heap.size = g := ⟨_, rfl⟩
          rw [hG6] at kA hge hlt
          have HMc := Lib.hid (HMc.out.trans mA)
          have HQc := Lib.hid (HQc.out.kept0 mA)
          obtain ⟨c0, c1, _, _⟩ := HQc.out.cells
          have HX7 := Lib.hid (HX7.out.kept0 mA)
          have HT := Lib.hid (HT.out.kept0 mA)
          have HX6 : Hid (BoxZ W8_2 g6 false none [] 0 0) := Lib.hid ⟨kA, ⟨.nil none 0, .nil, .nil, by simp [zOf, rv], by simp⟩⟩
          have HGE6 := Lib.hid hge
          have HNE := Lib.hid hlt
          clear kA mA sA hge hlt
          go_wp2_with fail
          refine ⟨by first | trivial | rfl, ?_⟩
          go_wp2_with fail
          refine ⟨?ag8_2, ?_⟩
          case ag8_2 =>
            intro i hi hw
            simp only [List.mem_cons, List.not_mem_nil, or_false] at hi
            subst hi
            all_goals (simp only [opN, List.getD_cons_zero, List.getD_cons_succ, slotOf]; go_simp)
          have HC := Lib.hid (ndown_any _ _ (u') 10 W8_2 HQc.out.nat ⟨_, _, _, rfl, HT.out⟩ (by omega) HBU.out (big_of 2 (by omega) (by decide)))
          go_wp2_with fail
          refine ⟨by first | trivial | rfl, ?_⟩
          go_wp2_with fail
          refine HC.out.mono ?_
          rintro e W8_3 ⟨v, v', rfl, hv, hv', mA⟩
          obtain ⟨d1n, d1s, d1l, rfl, hd1⟩ := hv
          obtain ⟨d1a, d1c, rfl⟩ := hd1.ints.form
          obtain ⟨d2n, d2s, d2l, rfl, hd2⟩ := hv'
          obtain ⟨d2a, d2c, rfl⟩ := hd2.ints.form
          have HMc := Lib.hid (HMc.out.trans mA)
          have HQc := Lib.hid (HQc.out.kept0 mA)
          obtain ⟨c0, c1, _, _⟩ := HQc.out.cells
          have HX7 := Lib.hid (HX7.out.kept0 mA)
          have HX6 := Lib.hid (HX6.out.kept0 mA)
          have HT := Lib.hid (HT.out.kept0 mA)
          have HD1 := Lib.hid hd1
          have HD2 := Lib.hid hd2
          clear HC mA hd1 hd2
          go_wp2_with fail
          refine ⟨again_nil, ?_⟩
          obtain ⟨r0, r1, s0, s1⟩ := HX6.out.cells
          obtain ⟨W8_4, hW4⟩ : ∃ W, (W8_3.setCell ⟨g6, 0, none⟩ (.bool d1n)).setCell ⟨g6, 1, none⟩ (.slice d1a d1l.length d1c) = W := ⟨_, rfl⟩
          have hst := HX6.out.set HD1.out
          have hot := HX7.out.other HX6.out.isBox (by have := HNE.out; omega) (.bool d1n) (.slice d1a d1l.length d1c)
          have hd2 := HD2.out.other HX6.out.isBox (.bool d1n) (.slice d1a d1l.length d1c)
          have hmc := (HMc.out.setCellNew (p := ⟨g6, 0, none⟩) (by exact HGE6.out) (.bool d1n)).setCellNew (p := ⟨g6, 1, none⟩) (by exact HGE6.out) (.slice d1a d1l.length d1c)
          rw [hW4] at hst hot hd2 hmc
          have HX6 := Lib.hid hst
          have HX7 := Lib.hid hot
          have HD2 := Lib.hid hd2
          have HMc := Lib.hid hmc
          clear hst hot hd2 hmc
          go_wp2_with fail
          refine ⟨by first | trivial | rfl, ?_⟩
          go_wp2_with fail
          refine ⟨again_nil, ?_⟩
          obtain ⟨r0, r1, s0, s1⟩ := HX7.out.cells
          obtain ⟨W8_5, hW5⟩ : ∃ W, (W8_4.setCell ⟨g7, 0, none⟩ (.bool d2n)).setCell ⟨g7, 1, none⟩ (.slice d2a d2l.length d2c) = W := ⟨_, rfl⟩
          have hst := HX7.out.set HD2.out
          have hot := HX6.out.other HX7.out.isBox (by have := HNE.out; omega) (.bool d2n) (.slice d2a d2l.length d2c)
          have hd2 := HD2.out.other HX7.out.isBox (.bool d2n) (.slice d2a d2l.length d2c)
          have hmc := (HMc.out.setCellNew (p := ⟨g7, 0, none⟩) (by exact HGE7.out) (.bool d2n)).setCellNew (p := ⟨g7, 1, none⟩) (by exact HGE7.out) (.slice d2a d2l.length d2c)
          rw [hW5] at hst hot hd2 hmc
          have HX7 := Lib.hid hst
          have HX6 := Lib.hid hot
          have HD2 := Lib.hid hd2
          have HMc := Lib.hid hmc
          clear hst hot hd2 hmc
          go_wp2_with fail
          refine ⟨by first | trivial | rfl, ?_⟩
          go_wp2_with fail
          refine ⟨again_nil, ?_⟩
          go_wp2_with fail
          refine ⟨by first | trivial | rfl, ?_⟩
          go_wp2_with fail
          go_meet
          exact ⟨g6, g7, by first | rfl | trivial, by first | rfl | trivial, Lib.hid ⟨_, _, _, _, HX6.out⟩, Lib.hid ⟨_, _, _, _, HX7.out⟩, HMc⟩
        case L9 =>
          simp only [wpSegs, opsOf, List.map_cons, List.map_nil, opN, List.getD_cons_zero, List.getD_cons_succ]
          obtain ⟨D0, hD0, mD0⟩ : ∃ D, wr.drew = D ∧ Mod [] wr D := ⟨_, rfl, (Mod.refl [] wr).drew⟩
          rw [hD0]
          have HMc := Lib.hid mD0
          have HQc := Lib.hid (HUB.out.kept0 mD0)
          obtain ⟨c0, c1, _, _⟩ := HQc.out.cells
          clear hD0 mD0
          have hge := HMc.out.size
          obtain ⟨W9_0, hA0, kA, sA, mA⟩ := alloc_named2 D0 (.cells #[.bool false, .slice none 0 0] 120)
          obtain ⟨g6, hG6⟩ : ∃ g, D0.heap.size = g := ⟨_, rfl⟩
          rw [hG6] at kA hge
          have HMc := Lib.hid (HMc.out.trans mA)
          have HQc := Lib.hid (HQc.out.kept0 mA)
          obtain ⟨c0, c1, _, _⟩ := HQc.out.cells
          have HX6 : Hid (BoxZ W9_0 g6 false none [] 0 0) := Lib.hid ⟨kA, ⟨.nil none 0, .nil, .nil, by simp [zOf, rv], by simp⟩⟩
          have HGE6 := Lib.hid hge
          clear kA mA sA hge
          go_wp2_with fail
          refine ⟨by first | trivial | rfl, ?_⟩
          go_wp2_with fail
          refine ⟨?ag9_0, ?_⟩
          case ag9_0 =>
            intro i hi hw
            simp only [List.mem_cons, List.not_mem_nil, or_false] at hi
            subst hi
            all_goals (simp only [opN, List.getD_cons_zero, List.getD_cons_succ, slotOf]; go_simp)
          have HC := Lib.hid (nword_any 10 (by omega) W9_0)
          go_wp2_with fail
          refine ⟨by first | trivial | rfl, ?_⟩
          go_wp2_with fail
          refine HC.out.mono ?_
          rintro e W9_1 ⟨v, rfl, hv, mA⟩
          obtain ⟨tn, ts, tl, rfl, ht⟩ := hv
          obtain ⟨ta, tc, rfl⟩ := ht.ints.form
          have HMc := Lib.hid (HMc.out.trans mA)
          have HQc := Lib.hid (HQc.out.kept0 mA)
          obtain ⟨c0, c1, _, _⟩ := HQc.out.cells
          have HX6 := Lib.hid (HX6.out.kept0 mA)
          have HT := Lib.hid ht
          clear HC mA ht
          go_wp2_with fail
          refine ⟨?ag9_1, ?_⟩
          case ag9_1 =>
            intro i hi hw
            simp only [List.mem_cons, List.not_mem_nil, or_false] at hi
            subst hi
            all_goals (simp only [opN, List.getD_cons_zero, List.getD_cons_succ, slotOf]; go_simp)
          have HC := Lib.hid (ndown_any _ _ (u') 10 W9_1 HQc.out.nat ⟨_, _, _, rfl, HT.out⟩ (by omega) HBU.out (big_of 2 (by omega) (by decide)))
          go_wp2_with fail
          refine ⟨by first | trivial | rfl, ?_⟩
          go_wp2_with fail
          refine HC.out.mono ?_
          rintro e W9_2 ⟨v, v', rfl, hv, hv', mA⟩
          obtain ⟨d1n, d1s, d1l, rfl, hd1⟩ := hv
          obtain ⟨d1a, d1c, rfl⟩ := hd1.ints.form
          obtain ⟨d2n, d2s, d2l, rfl, hd2⟩ := hv'
          obtain ⟨d2a, d2c, rfl⟩ := hd2.ints.form
          have HMc := Lib.hid (HMc.out.trans mA)
          have HQc := Lib.hid (HQc.out.kept0 mA)
          obtain ⟨c0, c1, _, _⟩ := HQc.out.cells
          have HX6 := Lib.hid (HX6.out.kept0 mA)
          have HT := Lib.hid (HT.out.kept0 mA)
          have HD1 := Lib.hid hd1
          have HD2 := Lib.hid hd2
          clear HC mA hd1 hd2
          go_wp2_with fail
          refine ⟨again_nil, ?_⟩
          have hlt := lt_of_heap HX6.out.box
          have hge := HMc.out.size
          obtain ⟨W9_3, hA3, kA, sA, mA⟩ := alloc_named2 W9_2 (.cells #[.bool false, .slice none 0 0] 120)
          obtain ⟨g7, hG7⟩ : ∃ g, W9_2.heap.size = g := ⟨_, rfl⟩
          rw [hG7] at kA hge hlt
          have HMc := Lib.hid (HMc.out.trans mA)
          have HQc := Lib.hid (HQc.out.kept0 mA)
          obtain ⟨c0, c1, _, _⟩ := HQc.out.cells
          have HX6 := Lib.hid (HX6.out.kept0 mA)
          have HT := Lib.hid (HT.out.kept0 mA)
          have HD1 := Lib.hid (HD1.out.kept0 mA)
          have HD2 := Lib.hid (HD2.out.kept0 mA)
          have HX7 : Hid (BoxZ W9_3 g7 false none [] 0 0) := Lib.hid ⟨kA, ⟨.nil none 0, .nil, .nil, by simp [zOf, rv], by simp⟩⟩
          have HGE7 := Lib.hid hge
          have HNE := Lib.hid hlt
          clear kA mA sA hge hlt
          go_wp2_with fail
          refine ⟨by first | trivial | rfl, ?_⟩
          go_wp2_with fail
          refine ⟨again_nil, ?_⟩
          obtain ⟨r0, r1, s0, s1⟩ := HX6.out.cells
          obtain ⟨W9_4, hW4⟩ : ∃ W, (W9_3.setCell ⟨g6, 0, none⟩ (.bool d1n)).setCell ⟨g6, 1, none⟩ (.slice d1a d1l.length d1c) = W := ⟨_, rfl⟩
          have hst := HX6.out.set HD1.out
          have hot := HX7.out.other HX6.out.isBox (by have := HNE.out; omega) (.bool d1n) (.slice d1a d1l.length d1c)
          have hd2 := HD2.out.other HX6.out.isBox (.bool d1n) (.slice d1a d1l.length d1c)
          have hmc := (HMc.out.setCellNew (p := ⟨g6, 0, none⟩) (by exact HGE6.out) (.bool d1n)).setCellNew (p := ⟨g6, 1, none⟩) (by exact HGE6.out) (.slice d1a d1l.length d1c)
          rw [hW4] at hst hot hd2 hmc
          have HX6 := Lib.hid hst
          have HX7 := Lib.hid hot
          have HD2 := Lib.hid hd2
          have HMc := Lib.hid hmc
          clear hst hot hd2 hmc
          go_wp2_with fail
          refine ⟨by first | trivial | rfl, ?_⟩
          go_wp2_with fail
          refine ⟨again_nil, ?_⟩
          obtain ⟨r0, r1, s0, s1⟩ := HX7.out.cells
          obtain ⟨W9_5, hW5⟩ : ∃ W, (W9_4.setCell ⟨g7, 0, none⟩ (.bool d2n)).setCell ⟨g7, 1, none⟩ (.slice d2a d2l.length d2c) = W := ⟨_, rfl⟩
          have hst := HX7.out.set HD2.out
          have hot := HX6.out.other HX7.out.isBox (by have := HNE.out; omega) (.bool d2n) (.slice d2a d2l.length d2c)
          have hd2 := HD2.out.other HX7.out.isBox (.bool d2n) (.slice d2a d2l.length d2c)
          have hmc := (HMc.out.setCellNew (p := ⟨g7, 0, none⟩) (by exact HGE7.out) (.bool d2n)).setCellNew (p := ⟨g7, 1, none⟩) (by exact HGE7.out) (.slice d2a d2l.length d2c)
          rw [hW5] at hst hot hd2 hmc
          have HX7 := Lib.hid hst
          have HX6 := Lib.hid hot
          have HD2 := Lib.hid hd2
          have HMc := Lib.hid hmc
          clear hst hot hd2 hmc
          go_wp2_with fail
          refine ⟨by first | trivial | rfl, ?_⟩
          go_wp2_with fail
          refine ⟨again_nil, ?_⟩
          go_wp2_with fail
          refine ⟨by first | trivial | rfl, ?_⟩
          go_wp2_with fail
          go_meet
          exact ⟨g6, g7, by first | rfl | trivial, by first | rfl | trivial, Lib.hid ⟨_, _, _, _, HX6.out⟩, Lib.hid ⟨_, _, _, _, HX7.out⟩, HMc⟩
        case L10 =>
          simp only [wpSegs, opsOf, List.map_cons, List.map_nil, opN, List.getD_cons_zero, List.getD_cons_succ]
          obtain ⟨D0, hD0, mD0⟩ : ∃ D, wr.drew = D ∧ Mod [] wr D := ⟨_, rfl, (Mod.refl [] wr).drew⟩
          rw [hD0]
          have HMc := Lib.hid mD0
          have HQc := Lib.hid (HUB.out.kept0 mD0)
          obtain ⟨c0, c1, _, _⟩ := HQc.out.cells
          clear hD0 mD0
          have hge := HMc.out.size
          obtain ⟨W10_0, hA0, kA, sA, mA⟩ := alloc_named2 D0 (.cells #[.bool false, .slice none 0 0] 120)
          obtain ⟨g6, hG6⟩ : ∃ g, D0.heap.size = g := ⟨_, rfl⟩
          rw [hG6] at kA hge
          have HMc := Lib.hid (HMc.out.trans mA)
          have HQc := Lib.hid (HQc.out.kept0 mA)
          obtain ⟨c0, c1, _, _⟩ := HQc.out.cells
          have HX6 : Hid (BoxZ W10_0 g6 false none [] 0 0) := Lib.hid ⟨kA, ⟨.nil none 0, .nil, .nil, by simp [zOf, rv], by simp⟩⟩
          have HGE6 := Lib.hid hge
          clear kA mA sA hge
          go_wp2_with fail
          refine ⟨by first | trivial | rfl, ?_⟩
          go_wp2_with fail
          refine ⟨?ag10_0, ?_⟩
          case ag10_0 =>
            intro i hi hw
            simp only [List.mem_cons, List.not_mem_nil, or_false] at hi
            subst hi
            all_goals (simp only [opN, List.getD_cons_zero, List.getD_cons_succ, slotOf]; go_simp)
          have HC := Lib.hid (nword_any 10 (by omega) W10_0)
          go_wp2_with fail
          refine ⟨by first | trivial | rfl, ?_⟩
          go_wp2_with fail
          refine HC.out.mono ?_
          rintro e W10_1 ⟨v, rfl, hv, mA⟩
          obtain ⟨tn, ts, tl, rfl, ht⟩ := hv
          obtain ⟨ta, tc, rfl⟩ := ht.ints.form
          have HMc := Lib.hid (HMc.out.trans mA)
          have HQc := Lib.hid (HQc.out.kept0 mA)
          obtain ⟨c0, c1, _, _⟩ := HQc.out.cells
          have HX6 := Lib.hid (HX6.out.kept0 mA)
          have HT := Lib.hid ht
          clear HC mA ht
          go_wp2_with fail
          refine ⟨?ag10_1, ?_⟩
          case ag10_1 =>
            intro i hi hw
            simp only [List.mem_cons, List.not_mem_nil, or_false] at hi
            subst hi
            all_goals (simp only [opN, List.getD_cons_zero, List.getD_cons_succ, slotOf]; go_simp)
          have hlt := lt_of_heap HX6.out.box
          have hge := HMc.out.size
          obtain ⟨W10_2, hA2, kA, sA, mA⟩ := alloc_named2 W10_1 (.cells #[.bool false, .slice none 0 0] 120)
          obtain ⟨g7, hG7⟩ : ∃ g, W10_1.heap.size = g := ⟨_, rfl⟩
          rw [hG7] at kA hge hlt
          have HMc := Lib.hid (HMc.out.trans mA)
          have HQc := Lib.hid (HQc.out.kept0 mA)
          obtain ⟨c0, c1, _, _⟩ := HQc.out.cells
          have HX6 := Lib.hid (HX6.out.kept0 mA)
          have HT := Lib.hid (HT.out.kept0 mA)
          have HX7 : Hid (BoxZ W10_2 g7 false none [] 0 0) := Lib.hid ⟨kA, ⟨.nil none 0, .nil, .nil, by simp [zOf, rv], by simp⟩⟩
          have HGE7 := Lib.hid hge
          have HNE := Lib.hid hlt
          clear kA mA sA hge hlt
          go_wp2_with fail
          refine ⟨by first | trivial | rfl, ?_⟩
          go_wp2_with fail
          refine ⟨?ag10_2, ?_⟩
          case ag10_2 =>
            intro i hi hw
            simp only [List.mem_cons, List.not_mem_nil, or_false] at hi
            subst hi
            all_goals (simp only [opN, List.getD_cons_zero, List.getD_cons_succ, slotOf]; go_simp)
          have HC := Lib.hid (ndown_any _ _ (u') 10 W10_2 HQc.out.nat ⟨_, _, _, rfl, HT.out⟩ (by omega) HBU.out (big_of 2 (by omega) (by decide)))
          go_wp2_with fail
          refine ⟨by first | trivial | rfl, ?_⟩
          go_wp2_with fail
          refine HC.out.mono ?_
          rintro e W10_3 ⟨v, v', rfl, hv, hv', mA⟩
          obtain ⟨d1n, d1s, d1l, rfl, hd1⟩ := hv
          obtain ⟨d1a, d1c, rfl⟩ := hd1.ints.form
          obtain ⟨d2n, d2s, d2l, rfl, hd2⟩ := hv'
          obtain ⟨d2a, d2c, rfl⟩ := hd2.ints.form
          have HMc := Lib.hid (HMc.out.trans mA)
          have HQc := Lib.hid (HQc.out.kept0 mA)
          obtain ⟨c0, c1, _, _⟩ := HQc.out.cells
          have HX6 := Lib.hid (HX6.out.kept0 mA)
          have HX7 := Lib.hid (HX7.out.kept0 mA)
          have HT := Lib.hid (HT.out.kept0 mA)
          have HD1 := Lib.hid hd1
          have HD2 := Lib.hid hd2
          clear HC mA hd1 hd2
          go_wp2_with fail
          refine ⟨again_nil, ?_⟩
          obtain ⟨r0, r1, s0, s1⟩ := HX6.out.cells
          obtain ⟨W10_4, hW4⟩ : ∃ W, (W10_3.setCell ⟨g6, 0, none⟩ (.bool d1n)).setCell ⟨g6, 1, none⟩ (.slice d1a d1l.length d1c) = W := ⟨_, rfl⟩
          have hst := HX6.out.set HD1.out
          have hot := HX7.out.other HX6.out.isBox (by have := HNE.out; omega) (.bool d1n) (.slice d1a d1l.length d1c)
          have hd2 := HD2.out.other HX6.out.isBox (.bool d1n) (.slice d1a d1l.length d1c)
          have hmc := (HMc.out.setCellNew (p := ⟨g6, 0, none⟩) (by exact HGE6.out) (.bool d1n)).setCellNew (p := ⟨g6, 1, none⟩) (by exact HGE6.out) (.slice d1a d1l.length d1c)
          rw [hW4] at hst hot hd2 hmc
          have HX6 := Lib.hid hst
          have HX7 := Lib.hid hot
          have HD2 := Lib.hid hd2
          have HMc := Lib.hid hmc
          clear hst hot hd2 hmc
          go_wp2_with fail
          refine ⟨by first | trivial | rfl, ?_⟩
          go_wp2_with fail
          refine ⟨again_nil, ?_⟩
          obtain ⟨r0, r1, s0, s1⟩ := HX7.out.cells
          obtain ⟨W10_5, hW5⟩ : ∃ W, (W10_4.setCell ⟨g7, 0, none⟩ (.bool d2n)).setCell ⟨g7, 1, none⟩ (.slice d2a d2l.length d2c) = W := ⟨_, rfl⟩
          have hst := HX7.out.set HD2.out
          have hot := HX6.out.other HX7.out.isBox (by have := HNE.out; omega) (.bool d2n) (.slice d2a d2l.length d2c)
          have hd2 := HD2.out.other HX7.out.isBox (.bool d2n) (.slice d2a d2l.length d2c)
          have hmc := (HMc.out.setCellNew (p := ⟨g7, 0, none⟩) (by exact HGE7.out) (.bool d2n)).setCellNew (p := ⟨g7, 1, none⟩) (by exact HGE7.out) (.slice d2a d2l.length d2c)
          rw [hW5] at hst hot hd2 hmc
          have HX7 := Lib.hid hst
          have HX6 := Lib.hid hot
          have HD2 := Lib.hid hd2
          have HMc := Lib.hid hmc
          clear hst hot hd2 hmc
          go_wp2_with fail
          refine ⟨by first | trivial | rfl, ?_⟩
          go_wp2_with fail
          refine ⟨again_nil, ?_⟩
          go_wp2_with fail
          refine ⟨by first | trivial | rfl, ?_⟩
          go_wp2_with fail
          go_meet
          exact ⟨g6, g7, by first | rfl | trivial, by first | rfl | trivial, Lib.hid ⟨_, _, _, _, HX6.out⟩, Lib.hid ⟨_, _, _, _, HX7.out⟩, HMc⟩
        case L11 =>
          simp only [wpSegs, opsOf, List.map_cons, List.map_nil, opN, List.getD_cons_zero, List.getD_cons_succ]
          obtain ⟨D0, hD0, mD0⟩ : ∃ D, wr.drew = D ∧ Mod [] wr D := ⟨_, rfl, (Mod.refl [] wr).drew⟩
          rw [hD0]
          have HMc := Lib.hid mD0
          have HQc := Lib.hid (HUB.out.kept0 mD0)
          obtain ⟨c0, c1, _, _⟩ := HQc.out.cells
          clear hD0 mD0
          have hge := HMc.out.size
          obtain ⟨W11_0, hA0, kA, sA, mA⟩ := alloc_named2 D0 (.cells #[.bool false, .slice none 0 0] 120)
          obtain ⟨g6, hG6⟩ : ∃ g, D0.heap.size = g := ⟨_, rfl⟩
          rw [hG6] at kA hge
          have HMc := Lib.hid (HMc.out.trans mA)
          have HQc := Lib.hid (HQc.out.kept0 mA)
          obtain ⟨c0, c1, _, _⟩ := HQc.out.cells
          have HX6 : Hid (BoxZ W11_0 g6 false none [] 0 0) := Lib.hid ⟨kA, ⟨.nil none 0, .nil, .nil, by simp [zOf, rv], by simp⟩⟩
          have HGE6 := Lib.hid hge
          clear kA mA sA hge
          go_wp2_with fail
          refine ⟨by first | trivial | rfl, ?_⟩
          go_wp2_with fail
          refine ⟨?ag11_0, ?_⟩
          case ag11_0 =>
            intro i hi hw
            simp only [List.mem_cons, List.not_mem_nil, or_false] at hi
            subst hi
            all_goals (simp only [opN, List.getD_cons_zero, List.getD_cons_succ, slotOf]; go_simp)
          have hlt := lt_of_heap HX6.out.box
          have hge := HMc.out.size
          obtain ⟨W11_1, hA1, kA, sA, mA⟩ := alloc_named2 W11_0 (.cells #[.bool false, .slice none 0 0] 120)
          obtain ⟨g7, hG7⟩ : ∃ g, W11_0.heap.size = g := ⟨_, rfl⟩
          rw [hG7] at kA hge hlt
          have HMc := Lib.hid (HMc.out.trans mA)
          have HQc := Lib.hid (HQc.out.kept0 mA)
          obtain ⟨c0, c1, _, _⟩ := HQc.out.cells
          have HX6 := Lib.hid (HX6.out.kept0 mA)
          have HX7 : Hid (BoxZ W11_1 g7 false none [] 0 0) := Lib.hid ⟨kA, ⟨.nil none 0, .nil, .nil, by simp [zOf, rv], by simp⟩⟩
          have HGE7 := Lib.hid hge
          have HNE := Lib.hid hlt
          clear kA mA sA hge hlt
          go_wp2_with fail
          refine ⟨by first | trivial | rfl, ?_⟩
          go_wp2_with fail
          refine ⟨?ag11_1, ?_⟩
          case ag11_1 =>
            intro i hi hw
            simp only [List.mem_cons, List.not_mem_nil, or_false] at hi
            subst hi
            all_goals (simp only [opN, List.getD_cons_zero, List.getD_cons_succ, slotOf]; go_simp)
          have HC := Lib.hid (nword_any 10 (by omega) W11_1)
          go_wp2_with fail
          refine ⟨by first | trivial | rfl, ?_⟩
          go_wp2_with fail
          refine HC.out.mono ?_
          rintro e W11_2 ⟨v, rfl, hv, mA⟩
          obtain ⟨tn, ts, tl, rfl, ht⟩ := hv
          obtain ⟨ta, tc, rfl⟩ := ht.ints.form
          have HMc := Lib.hid (HMc.out.trans mA)
          have HQc := Lib.hid (HQc.out.kept0 mA)
          obtain ⟨c0, c1, _, _⟩ := HQc.out.cells
          have HX6 := Lib.hid (HX6.out.kept0 mA)
          have HX7 := Lib.hid (HX7.out.kept0 mA)
          have HT := Lib.hid ht
          clear HC mA ht
          go_wp2_with fail
          refine ⟨?ag11_2, ?_⟩
          case ag11_2 =>
            intro i hi hw
            simp only [List.mem_cons, List.not_mem_nil, or_false] at hi
            subst hi
            all_goals (simp only [opN, List.getD_cons_zero, List.getD_cons_succ, slotOf]; go_simp)
          have HC := Lib.hid (ndown_any _ _ (u') 10 W11_2 HQc.out.nat ⟨_, _, _, rfl, HT.out⟩ (by omega) HBU.out (big_of 2 (by omega) (by decide)))
          go_wp2_with fail
          refine ⟨by first | trivial | rfl, ?_⟩
          go_wp2_with fail
          refine HC.out.mono ?_
          rintro e W11_3 ⟨v, v', rfl, hv, hv', mA⟩
          obtain ⟨d1n, d1s, d1l, rfl, hd1⟩ := hv
          obtain ⟨d1a, d1c, rfl⟩ := hd1.ints.form
          obtain ⟨d2n, d2s, d2l, rfl, hd2⟩ := hv'
          obtain ⟨d2a, d2c, rfl⟩ := hd2.ints.form
          have HMc := Lib.hid (HMc.out.trans mA)
          have HQc := Lib.hid (HQc.out.kept0 mA)
          obtain ⟨c0, c1, _, _⟩ := HQc.out.cells
          have HX6 := Lib.hid (HX6.out.kept0 mA)
          have HX7 := Lib.hid (HX7.out.kept0 mA)
          have HT := Lib.hid (HT.out.kept0 mA)
          have HD1 := Lib.hid hd1
          have HD2 := Lib.hid hd2
          clear HC mA hd1 hd2
          go_wp2_with fail
          refine ⟨again_nil, ?_⟩
          obtain ⟨r0, r1, s0, s1⟩ := HX6.out.cells
          obtain ⟨W11_4, hW4⟩ : ∃ W, (W11_3.setCell ⟨g6, 0, none⟩ (.bool d1n)).setCell ⟨g6, 1, none⟩ (.slice d1a d1l.length d1c) = W := ⟨_, rfl⟩
          have hst := HX6.out.set HD1.out
          have hot := HX7.out.other HX6.out.isBox (by have := HNE.out; omega) (.bool d1n) (.slice d1a d1l.length d1c)
          have hd2 := HD2.out.other HX6.out.isBox (.bool d1n) (.slice d1a d1l.length d1c)
          have hmc := (HMc.out.setCellNew (p := ⟨g6, 0, none⟩) (by exact HGE6.out) (.bool d1n)).setCellNew (p := ⟨g6, 1, none⟩) (by exact HGE6.out) (.slice d1a d1l.length d1c)
          rw [hW4] at hst hot hd2 hmc
          have HX6 := Lib.hid hst
          have HX7 := Lib.hid hot
          have HD2 := Lib.hid hd2
          have HMc := Lib.hid hmc
          clear hst hot hd2 hmc
          go_wp2_with fail
          refine ⟨by first | trivial | rfl, ?_⟩
          go_wp2_with fail
          refine ⟨again_nil, ?_⟩
          obtain ⟨r0, r1, s0, s1⟩ := HX7.out.cells
          obtain ⟨W11_5, hW5⟩ : ∃ W, (W11_4.setCell ⟨g7, 0, none⟩ (.bool d2n)).setCell ⟨g7, 1, none⟩ (.slice d2a d2l.length d2c) = W := ⟨_, rfl⟩
          have hst := HX7.out.set HD2.out
          have hot := HX6.out.other HX7.out.isBox (by have := HNE.out; omega) (.bool d2n) (.slice d2a d2l.length d2c)
          have hd2 := HD2.out.other HX7.out.isBox (.bool d2n) (.slice d2a d2l.length d2c)
          have hmc := (HMc.out.setCellNew (p := ⟨g7, 0, none⟩) (by exact HGE7.out) (.bool d2n)).setCellNew (p := ⟨g7, 1, none⟩) (by exact HGE7.out) (.slice d2a d2l.length d2c)
          rw [hW5] at hst hot hd2 hmc
          have HX7 := Lib.hid hst
          have HX6 := Lib.hid hot
          have HD2 := Lib.hid hd2
          have HMc := Lib.hid hmc
          clear hst hot hd2 hmc
          go_wp2_with fail
          refine ⟨by first | trivial | rfl, ?_⟩
          go_wp2_with fail
          refine ⟨again_nil, ?_⟩
          go_wp2_with fail
          refine ⟨by first | trivial | rfl, ?_⟩
          go_wp2_with fail
          go_meet
          exact ⟨g6, g7, by first | rfl | trivial, by first | rfl | trivial, Lib.hid ⟨_, _, _, _, HX6.out⟩, Lib.hid ⟨_, _, _, _, HX7.out⟩, HMc⟩
        case L12 =>
          simp only [wpSegs, opsOf, List.map_cons, List.map_nil, opN, List.getD_cons_zero, List.getD_cons_succ]
          obtain ⟨D0, hD0, mD0⟩ : ∃ D, wr.drew = D ∧ Mod [] wr D := ⟨_, rfl, (Mod.refl [] wr).drew⟩
          rw [hD0]
          have HMc := Lib.hid mD0
          have HQc := Lib.hid (HUB.out.kept0 mD0)
          obtain ⟨c0, c1, _, _⟩ := HQc.out.cells
          clear hD0 mD0
          have hge := HMc.out.size
          obtain ⟨W12_0, hA0, kA, sA, mA⟩ := alloc_named2 D0 (.cells #[.bool false, .slice none 0 0] 120)
          obtain ⟨g7, hG7⟩ : ∃ g, D0.heap.size = g := ⟨_, rfl⟩
          rw [hG7] at kA hge
          have HMc := Lib.hid (HMc.out.trans mA)
          have HQc := Lib.hid (HQc.out.kept0 mA)
          obtain ⟨c0, c1, _, _⟩ := HQc.out.cells
          have HX7 : Hid (BoxZ W12_0 g7 false none [] 0 0) := Lib.hid ⟨kA, ⟨.nil none 0, .nil, .nil, by simp [zOf, rv], by simp⟩⟩
          have HGE7 := Lib.hid hge
          clear kA mA sA hge
          go_wp2_with fail
          refine ⟨by first | trivial | rfl, ?_⟩
          go_wp2_with fail
          refine ⟨?ag12_0, ?_⟩
          case ag12_0 =>
            intro i hi hw
            simp only [List.mem_cons, List.not_mem_nil, or_false] at hi
            subst hi
            all_goals (simp only [opN, List.getD_cons_zero, List.getD_cons_succ, slotOf]; go_simp)
          have hlt := lt_of_heap HX7.out.box
          have hge := HMc.out.size
          obtain ⟨W12_1, hA1, kA, sA, mA⟩ := alloc_named2 W12_0 (.cells #[.bool false, .slice none 0 0] 120)
          obtain ⟨g6, hG6⟩ : ∃ g, W12_0.heap.size = g := ⟨_, rfl⟩
          rw [hG6] at kA hge hlt
          have HMc := Lib.hid (HMc.out.trans mA)
          have HQc := Lib.hid (HQc.out.kept0 mA)
          obtain ⟨c0, c1, _, _⟩ := HQc.out.cells
          have HX7 := Lib.hid (HX7.out.kept0 mA)
          have HX6 : Hid (BoxZ W12_1 g6 false none [] 0 0) := Lib.hid ⟨kA, ⟨.nil none 0, .nil, .nil, by simp [zOf, rv], by simp⟩⟩
          have HGE6 := Lib.hid hge
          have HNE := Lib.hid hlt
          clear kA mA sA hge hlt
          go_wp2_with fail
          refine ⟨by first | trivial | rfl, ?_⟩
          go_wp2_with fail
          refine ⟨?ag12_1, ?_⟩
          case ag12_1 =>
            intro i hi hw
            simp only [List.mem_cons, List.not_mem_nil, or_false] at hi
            subst hi
            all_goals (simp only [opN, List.getD_cons_zero, List.getD_cons_succ, slotOf]; go_simp)
          have HC := Lib.hid (nword_any 10 (by omega) W12_1)
          go_wp2_with fail
          refine ⟨by first | trivial | rfl, ?_⟩
          go_wp2_with fail
          refine HC.out.mono ?_
          rintro e W12_2 ⟨v, rfl, hv, mA⟩
          obtain ⟨tn, ts, tl, rfl, ht⟩ := hv
          obtain ⟨ta, tc, rfl⟩ := ht.ints.form
          have HMc := Lib.hid (HMc.out.trans mA)
          have HQc := Lib.hid (HQc.out.kept0 mA)
          obtain ⟨c0, c1, _, _⟩ := HQc.out.cells
          have HX7 := Lib.hid (HX7.out.kept0 mA)
          have HX6 := Lib.hid (HX6.out.kept0 mA)
          have HT := Lib.hid ht
          clear HC mA ht
          go_wp2_with fail
          refine ⟨?ag12_2, ?_⟩
          case ag12_2 =>
            intro i hi hw
            simp only [List.mem_cons, List.not_mem_nil, or_false] at hi
            subst hi
            all_goals (simp only [opN, List.getD_cons_zero, List.getD_cons_succ, slotOf]; go_simp)
          have HC := Lib.hid (ndown_any _ _ (u') 10 W12_2 HQc.out.nat ⟨_, _, _, rfl, HT.out⟩ (by omega) HBU.out (big_of 2 (by omega) (by decide)))
          go_wp2_with fail
          refine ⟨by first | trivial | rfl, ?_⟩
          go_wp2_with fail
          refine HC.out.mono ?_
          rintro e W12_3 ⟨v, v', rfl, hv, hv', mA⟩
          obtain ⟨d1n, d1s, d1l, rfl, hd1⟩ := hv
          obtain ⟨d1a, d1c, rfl⟩ := hd1.ints.form
          obtain ⟨d2n, d2s, d2l, rfl, hd2⟩ := hv'
          obtain ⟨d2a, d2c, rfl⟩ := hd2.ints.form
          have HMc := Lib.hid (HMc.out.trans mA)
          have HQc := Lib.hid (HQc.out.kept0 mA)
          obtain ⟨c0, c1, _, _⟩ := HQc.out.cells
          have HX7 := Lib.hid (HX7.out.kept0 mA)
          have HX6 := Lib.hid (HX6.out.kept0 mA)
          have HT := Lib.hid (HT.out.kept0 mA)
          have HD1 := Lib.hid hd1
          have HD2 := Lib.hid hd2
          clear HC mA hd1 hd2
          go_wp2_with fail
          refine ⟨again_nil, ?_⟩
          obtain ⟨r0, r1, s0, s1⟩ := HX6.out.cells
          obtain ⟨W12_4, hW4⟩ : ∃ W, (W12_3.setCell ⟨g6, 0, none⟩ (.bool d1n)).setCell ⟨g6, 1, none⟩ (.slice d1a d1l.length d1c) = W := ⟨_, rfl⟩
          have hst := HX6.out.set HD1.out
          have hot := HX7.out.other HX6.out.isBox (by have := HNE.out; omega) (.bool d1n) (.slice d1a d1l.length d1c)
          have hd2 := HD2.out.other HX6.out.isBox (.bool d1n) (.slice d1a d1l.length d1c)
          have hmc := (HMc.out.setCellNew (p := ⟨g6, 0, none⟩) (by exact HGE6.out) (.bool d1n)).setCellNew (p := ⟨g6, 1, none⟩) (by exact HGE6.out) (.slice d1a d1l.length d1c)
          rw [hW4] at hst hot hd2 hmc
          have HX6 := Lib.hid hst
          have HX7 := Lib.hid hot
          have HD2 := Lib.hid hd2
          have HMc := Lib.hid hmc
          clear hst hot hd2 hmc
          go_wp2_with fail
          refine ⟨by first | trivial | rfl, ?_⟩
          go_wp2_with fail
          refine ⟨again_nil, ?_⟩
          obtain ⟨r0, r1, s0, s1⟩ := HX7.out.cells
          obtain ⟨W12_5, hW5⟩ : ∃ W, (W12_4.setCell ⟨g7, 0, none⟩ (.bool d2n)).setCell ⟨g7, 1, none⟩ (.slice d2a d2l.length d2c) = W := ⟨_, rfl⟩
          have hst := HX7.out.set HD2.out
          have hot := HX6.out.other HX7.out.isBox (by have := HNE.out; omega) (.bool d2n) (.slice d2a d2l.length d2c)
          have hd2 := HD2.out.other HX7.out.isBox (.bool d2n) (.slice d2a d2l.length d2c)
          have hmc := (HMc.out.setCellNew (p := ⟨g7, 0, none⟩) (by exact HGE7.out) (.bool d2n)).setCellNew (p := ⟨g7, 1, none⟩) (by exact HGE7.out) (.slice d2a d2l.length d2c)
          rw [hW5] at hst hot hd2 hmc
          have HX7 := Lib.hid hst
          have HX6 := Lib.hid hot
          have HD2 := Lib.hid hd2
          have HMc := Lib.hid hmc
          clear hst hot hd2 hmc
          go_wp2_with fail
          refine ⟨by first | trivial | rfl, ?_⟩
          go_wp2_with fail
          refine ⟨again_nil, ?_⟩
          go_wp2_with fail
          refine ⟨by first | trivial | rfl, ?_⟩
          go_wp2_with fail
          go_meet
          exact ⟨g6, g7, by first | rfl | trivial, by first | rfl | trivial, Lib.hid ⟨_, _, _, _, HX6.out⟩, Lib.hid ⟨_, _, _, _, HX7.out⟩, HMc⟩
      case rest =>
        obtain ⟨g6, g7, rfl, rfl, H6, H7, HMc⟩ := hcut
        obtain ⟨dn, da, dl, dc, hd⟩ := H6.out
        obtain ⟨rn, ra, rl, rc, hr⟩ := H7.out
        obtain ⟨r0, r1, _, _⟩ := hr.cells
        obtain ⟨d0, d1, _, _⟩ := hd.cells
        have hub := HUB.out.kept0 HMc.out
        obtain ⟨q0', q1', q2', q3'⟩ := hub.cells
        obtain ⟨hr1, hr2⟩ := hr.num.nonneg (Int.emod_nonneg _ (by omega))
        have hrz := rv_zero hr.num.dg hr.num.cn
        rw [hr2] at hrz
        have HUC := Lib.hid hub
        have HDB := Lib.hid hd
        have HKC := Lib.hid (HMc.out.heap hK.out (by simp))
        have HMC := Lib.hid (hM.out.trans HMc.out)
        clear hub hd hr hr1 hr2 H6 H7
        by_cases h0 : u' % 10 = 0
        · obtain rfl : rl = [] := hrz.1 h0
          simp only [List.length_nil] at r1
          have HZN := Lib.hid (show normZ (u' / 10) t = normZ u s by rw [← hN.out]; simp [normZ, h0])
          have HUN := Lib.hid (show (u' / 10).natAbs ≤ u.natAbs from Nat.le_trans (Int.natAbs_ediv_le_natAbs _ _) hU.out)
          have hne : w.heap.size + 1 ≠ w.heap.size := by omega
          have HBN := Lib.hid (HUC.out.set (HDB.out.num))
          have HMN := Lib.hid ((HMC.out.setCellNew (p := ⟨w.heap.size, 0, none⟩) (by exact Nat.le_refl _) (.bool dn)).setCellNew (p := ⟨w.heap.size, 1, none⟩) (by exact Nat.le_refl _) (.slice da dl.length dc))
          have HKN := Lib.hid (show ((wc.setCell ⟨w.heap.size, 0, none⟩ (.bool dn)).setCell ⟨w.heap.size, 1, none⟩ (.slice da dl.length dc)).heap[w.heap.size + 1]? = some (.cells #[.int .i64 0, .int .i64 0] 74) from by
            have hm : Mod [w.heap.size] wc ((wc.setCell ⟨w.heap.size, 0, none⟩ (.bool dn)).setCell ⟨w.heap.size, 1, none⟩ (.slice da dl.length dc)) := ((Mod.refl _ _).setCell (by simp) _).setCell (by simp) _
            exact hm.heap HKC.out (by simp))
          clear hrz h0 hne
          go_wp2_with fail
          go_roundw
          case rel => exact ⟨t, _, _, rfl, by omega, by omega, Lib.hid ⟨_, _, _, _, HBN.out⟩, HZN, HUN, HKN, HMN⟩
          case measure => simp [intOf] <;> omega
        · have hrl : 0 < rl.length := List.length_pos_iff.2 fun e => h0 (hrz.2 e)
          have HZ := Lib.hid (show normZ u s = (u', t + 1) by rw [← hN.out]; simp [normZ, h0])
          clear hrz h0
          by_cases hf : fits64 u' = true
          · have HCS := Lib.hid (show Calls Try.prog 78 _ wc fun e w' => e = .returned (.tuple #[.int .i64 u', .bool true]) ∧ Mod [] wc w' from (nsmall_any _ u' wc HUC.out.nat HBU.out).mono fun e w' ⟨h1, h2⟩ => ⟨by rw [h1, hf]; rfl, h2⟩)
            have HRS := Lib.hid (show madeZ u s = some (u', (t + 1)) by unfold madeZ; rw [HZ.out]; dsimp only; rw [hf]; rfl)
            clear hf
            go_wp2_with fail
            refine HCS.out.mono ?_
            rintro e w3 ⟨rfl, m3⟩
            have hk3 := m3.heap (HKC.out) (by simp)
            have p0 := cell_blk hk3 0
            have p1 := cell_blk hk3 1
            have p2 := frozen_blk hk3 0
            have p3 := frozen_blk hk3 1
            simp only [List.getElem?_toArray, List.getElem?_cons_succ, List.getElem?_cons_zero] at p0 p1
            have HM3 := Lib.hid ((HMC.out).trans m3)
            clear hk3 m3 HCS
            go_wp2_with fail
            refine bodyPost_ret (v := .tuple #[.agg #[.int .i64 u', .int .i64 ((t : Int) + 1)], .int .i64 0]) (by simp [results, Try.results73, go_sem, p0, p1]) rfl ⟨(HM3.out.setCellNew (p := ⟨w.heap.size + 1, 0, none⟩) (by simp only; omega) _).setCellNew (p := ⟨w.heap.size + 1, 1, none⟩) (by simp only; omega) _, by rw [HRS.out]; rfl⟩
          · have hf : fits64 u' = false := by simpa using hf
            have HCS := Lib.hid (show Calls Try.prog 78 _ wc fun e w' => e = .returned (.tuple #[.int .i64 0, .bool false]) ∧ Mod [] wc w' from (nsmall_any _ u' wc HUC.out.nat HBU.out).mono fun e w' ⟨h1, h2⟩ => ⟨by rw [h1, hf]; rfl, h2⟩)
            have HRS := Lib.hid (show madeZ u s = none by unfold madeZ; rw [HZ.out]; dsimp only; rw [hf]; rfl)
            clear hf
            go_wp2_with fail
            refine HCS.out.mono ?_
            rintro e w3 ⟨rfl, m3⟩
            have hk3 := m3.heap (HKC.out) (by simp)
            have p0 := cell_blk hk3 0
            have p1 := cell_blk hk3 1
            have p2 := frozen_blk hk3 0
            have p3 := frozen_blk hk3 1
            simp only [List.getElem?_toArray, List.getElem?_cons_succ, List.getElem?_cons_zero] at p0 p1
            have HM3 := Lib.hid ((HMC.out).trans m3)
            clear hk3 m3 HCS
            go_wp2_with fail
            refine bodyPost_ret (v := .tuple #[.agg #[.int .i64 0, .int .i64 0], .int .i64 11]) (by simp [results, Try.results73, go_sem, p0, p1]) rfl ⟨(HM3.out.setCellNew (p := ⟨w.heap.size + 1, 0, none⟩) (by simp only; omega) _).setCellNew (p := ⟨w.heap.size + 1, 1, none⟩) (by simp only; omega) _, by rw [HRS.out]; rfl⟩
end Go.Proofs.Ytnoookcfacmdkaa
namespace Go.Proofs.Ytnoookcfacmdkaa
open Go.RowKit Go.ChangeMaps Go.Deep
set_option linter.unusedSimpArgs false
set_option linter.unusedVariables false
set_option maxRecDepth 20000

theorem normZ_mul (c : Int) (s : Nat) : ∀ k, normZ (c * 10 ^ k) (s + k) = normZ c s
  | 0 => by simp
  | k + 1 => by
    have e : c * 10 ^ (k + 1) = c * 10 ^ k * 10 := by rw [Int.pow_succ, Int.mul_assoc]
    rw [show s + (k + 1) = (s + k) + 1 by omega, normZ, e, if_pos (by omega), Int.mul_ediv_cancel _ (by decide), normZ_mul c s k]
theorem normZ_fits : ∀ (s : Nat) (c : Int), fits64 c = true → fits64 (normZ c s).1 = true
  | 0, c, h => h
  | s + 1, c, h => by
    unfold normZ
    split
    · refine normZ_fits s _ ?_
      simp only [fits64, Bool.and_eq_true, decide_eq_true_eq] at h ⊢
      omega
    · exact h
theorem normZ_le : ∀ (s : Nat) (c : Int), (normZ c s).2 ≤ s
  | 0, c => Nat.le_refl _
  | s + 1, c => by
    unfold normZ
    split
    · exact Nat.le_succ_of_le (normZ_le s _)
    · exact Nat.le_refl _
theorem normZ_id {s : Nat} {c : Int} : normZ c s = (c, s) ↔ s = 0 ∨ c % 10 ≠ 0 := by
  cases s with
  | zero => simp [normZ]
  | succ s =>
    unfold normZ
    split
    · rename_i h
      constructor
      · intro e
        have := normZ_le s (c / 10)
        rw [e] at this
        simp only at this
        omega
      · rintro (h1 | h1)
        · omega
        · exact absurd h h1
    · rename_i h
      simp [h]
theorem evenZ_mul (q : Int) {b : Int} (hb : 0 < b) : evenZ (q * b) b = q := by
  unfold evenZ
  rw [Int.mul_emod_left, Int.mul_ediv_cancel _ (by omega), if_neg (by omega)]
theorem near_units (c : Int) {s : Nat} (hs : s ≤ 9) : evenZ (c * 10 ^ (18 - s)) (10 ^ (18 - 9)) = c * 10 ^ (9 - s) := by
  have e : (c : Int) * 10 ^ (18 - s) = c * 10 ^ (9 - s) * 10 ^ 9 := by
    rw [Int.mul_assoc, ← Int.pow_add]
    congr 2
    omega
  rw [e]
  exact evenZ_mul _ (by decide)
theorem put_made {c : Int} {s : Nat} (hs : s ≤ 9) (hc : fits64 c = true) : madeZ (c * 10 ^ (9 - s)) 9 = some (normZ c s) := by
  have e : normZ (c * 10 ^ (9 - s)) 9 = normZ c s := by
    have := normZ_mul c s (9 - s)
    rwa [show s + (9 - s) = 9 by omega] at this
  unfold madeZ
  rw [e, if_pos (normZ_fits s c hc)]
theorem big_units {c : Int} {k : Nat} (hk : k ≤ 18) (h1 : -9223372036854775808 ≤ c) (h2 : c ≤ 9223372036854775807) : Big (c * 10 ^ k) := by
  have h0 : (0 : Int) < 10 ^ k := Int.pow_pos (by decide)
  have h3 : (10 : Int) ^ k ≤ 10 ^ 18 := by
    obtain ⟨m, hm⟩ := Nat.exists_eq_add_of_le hk
    rw [hm, Int.pow_add]
    have h4 : (0 : Int) < 10 ^ m := Int.pow_pos (by decide)
    have : (10 : Int) ^ k * 1 ≤ 10 ^ k * 10 ^ m := Int.mul_le_mul_of_nonneg_left (by omega) (Int.le_of_lt h0)
    omega
  refine big_of 20 (by omega) ?_
  rw [Int.natAbs_mul, Int.natCast_mul]
  have e1 : (((10 : Int) ^ k).natAbs : Int) = 10 ^ k := by omega
  rw [e1]
  have h5 : (c.natAbs : Int) ≤ 9223372036854775808 := by omega
  have h6 : (c.natAbs : Int) * 10 ^ k ≤ 9223372036854775808 * 10 ^ k := Int.mul_le_mul_of_nonneg_right h5 (Int.le_of_lt h0)
  have h7 : (10 : Int) ^ 18 = 1000000000000000000 := by decide
  have h8 : (1000 : Int) ^ 20 = 1000000000000000000000000000000000000000000000000000000000000 := by decide
  omega
set_option maxHeartbeats 4000000 in
theorem dround_any (c : Int) (s t : Nat) (hs : s ≤ 9) (ht : t ≤ 18) (hc1 : -9223372036854775808 ≤ c) (hc2 : c ≤ 9223372036854775807) (hbig : Big (evenZ (c * 10 ^ (18 - s)) (10 ^ (18 - t)))) (w : World) :
    Calls Try.prog 72 #[.agg #[.int .i64 c, .int .i64 s], .int .i64 t] w (MadePost w (madeZ (evenZ (c * 10 ^ (18 - s)) (10 ^ (18 - t))) t)) := by
  obtain ⟨A1, hA1, k1, z1, m1⟩ := alloc_named2 w (.cells #[.int .i64 c, .int .i64 s] 74)
  obtain ⟨A2, hA2, k2, z2, m2⟩ := alloc_named2 A1 (.cells #[.int .i64 0, .int .i64 0] 74)
  rw [z1] at k2
  have g1 := m2.heap k1 (by simp)
  have q0 := cell_blk g1 0
  have q1 := cell_blk g1 1
  simp only [List.getElem?_toArray, List.getElem?_cons_succ, List.getElem?_cons_zero] at q0 q1
  have HM := Lib.hid (m1.trans m2)
  have HK := Lib.hid k2
  have HC := Lib.hid (dunits_any c s (by omega) hc1 hc2 A2)
  have HBU := Lib.hid (big_units (k := 18 - s) (by omega) hc1 hc2)
  have HBE := Lib.hid hbig
  clear m1 m2 k1 k2 g1 hc1 hc2 hbig
  obtain ⟨r, hr⟩ : ∃ r, Hid (madeZ (evenZ (c * 10 ^ (18 - s)) (10 ^ (18 - t))) t = r) := ⟨_, Lib.hid rfl⟩
  rw [hr.out]
  go_enter Try.func72, Try.ntmps72
  go_wp2_with fail
  refine HC.out.mono ?_
  rintro e w1 ⟨v1, rfl, hv1, m3⟩
  have HCN := Lib.hid (dnear_any v1 _ t ht w1 hv1 HBU.out)
  have HM3 := Lib.hid (HM.out.trans m3)
  have HK3 := Lib.hid (m3.heap HK.out (by simp))
  obtain ⟨v1n, v1s, v1l, rfl, hv1'⟩ := hv1
  obtain ⟨v1a, v1c, rfl⟩ := hv1'.ints.form
  clear hv1' m3 HC
  go_wp2_with fail
  refine HCN.out.mono ?_
  rintro e w2 ⟨v2, rfl, hv2, m4⟩
  have HCM := Lib.hid (dmade_any v2 _ t (by omega) w2 hv2 HBE.out)
  rw [hr.out] at HCM
  have HM4 := Lib.hid (HM3.out.trans m4)
  have HK4 := Lib.hid (m4.heap HK3.out (by simp))
  obtain ⟨v2n, v2s, v2l, rfl, hv2'⟩ := hv2
  obtain ⟨v2a, v2c, rfl⟩ := hv2'.ints.form
  clear hv2' m4 HCN
  go_wp2_with fail
  refine HCM.out.mono ?_
  rintro e w3 ⟨m5, he⟩
  have hk5 := m5.heap HK4.out (by simp)
  have p0 := cell_blk hk5 0
  have p1 := cell_blk hk5 1
  have f0 := frozen_blk hk5 0
  have f1 := frozen_blk hk5 1
  simp only [List.getElem?_toArray, List.getElem?_cons_succ, List.getElem?_cons_zero] at p0 p1
  have HM5 := Lib.hid (HM4.out.trans m5)
  clear hk5 m5 HCM
  cases r with
  | none =>
    subst he
    unfold decV
    go_wp2_with fail
    refine bodyPost_ret (v := .tuple #[.agg #[.int .i64 0, .int .i64 0], .int .i64 11]) (by simp [results, Try.results72, go_sem, p0, p1]) rfl ⟨(HM5.out.setCellNew (p := ⟨w.heap.size + 1, 0, none⟩) (by simp only; omega) _).setCellNew (p := ⟨w.heap.size + 1, 1, none⟩) (by simp only; omega) _, rfl⟩
  | some p =>
    obtain ⟨pc, ps⟩ := p
    subst he
    unfold decV
    go_wp2_with fail
    refine bodyPost_ret (v := .tuple #[.agg #[.int .i64 pc, .int .i64 ps], .int .i64 0]) (by simp [results, Try.results72, go_sem, p0, p1]) rfl ⟨(HM5.out.setCellNew (p := ⟨w.heap.size + 1, 0, none⟩) (by simp only; omega) _).setCellNew (p := ⟨w.heap.size + 1, 1, none⟩) (by simp only; omega) _, rfl⟩
end Go.Proofs.Ytnoookcfacmdkaa
namespace Go.Proofs.Ytnoookcfacmdkaa
open Go.RowKit Go.ChangeMaps Go.Deep
set_option linter.unusedSimpArgs false
set_option linter.unusedVariables false
set_option maxRecDepth 20000

set_option maxHeartbeats 4000000 in
theorem dput_any (c : Int) (s : Nat) (hs : s ≤ 9) (hc1 : -9223372036854775808 ≤ c) (hc2 : c ≤ 9223372036854775807) (w : World) :
    Calls Try.prog 71 #[.agg #[.int .i64 c, .int .i64 s]] w fun e w' => e = .returned (.tuple #[.agg #[.int .i64 (normZ c s).1, .int .i64 (normZ c s).2], .int .i64 0]) ∧ Mod [] w w' := by
  obtain ⟨A1, hA1, k1, z1, m1⟩ := alloc_named2 w (.cells #[.int .i64 c, .int .i64 s] 74)
  obtain ⟨A2, hA2, k2, z2, m2⟩ := alloc_named2 A1 (.cells #[.int .i64 0, .int .i64 0] 74)
  rw [z1] at k2
  have g1 := m2.heap k1 (by simp)
  have q0 := cell_blk g1 0
  have q1 := cell_blk g1 1
  simp only [List.getElem?_toArray, List.getElem?_cons_succ, List.getElem?_cons_zero] at q0 q1
  have HM := Lib.hid (m1.trans m2)
  have HK := Lib.hid k2
  have hf : fits64 c = true := by simp only [fits64, Bool.and_eq_true, decide_eq_true_eq]; exact ⟨hc1, hc2⟩
  have HC := Lib.hid (dround_any c s 9 hs (by omega) hc1 hc2 (by rw [near_units c hs]; exact big_units (by omega) hc1 hc2) A2)
  rw [near_units c hs, put_made hs hf] at HC
  generalize normZ c s = p at HC ⊢
  obtain ⟨pc, ps⟩ := p
  have HCC := Lib.hid (show Calls Try.prog 72 #[.agg #[.int .i64 c, .int .i64 s], .int .i64 9] A2 fun e w' => e = .returned (.tuple #[.agg #[.int .i64 pc, .int .i64 ps], .int .i64 0]) ∧ Mod [] A2 w' from HC.out.mono fun e w' ⟨h1, h2⟩ => ⟨h2, h1⟩)
  clear m1 m2 k1 k2 g1 hc1 hc2 hf HC
  go_enter Try.func71, Try.ntmps71
  go_wp2_with fail
  refine HCC.out.mono ?_
  rintro e w3 ⟨rfl, m5⟩
  have hk5 := m5.heap HK.out (by simp)
  have p0 := cell_blk hk5 0
  have p1 := cell_blk hk5 1
  have f0 := frozen_blk hk5 0
  have f1 := frozen_blk hk5 1
  simp only [List.getElem?_toArray, List.getElem?_cons_succ, List.getElem?_cons_zero] at p0 p1
  have HM5 := Lib.hid (HM.out.trans m5)
  clear hk5 m5 HCC
  go_wp2_with fail
  refine bodyPost_ret (v := .tuple #[.agg #[.int .i64 pc, .int .i64 ps], .int .i64 0]) (by simp [results, Try.results71, go_sem, p0, p1]) rfl ⟨rfl, (HM5.out.setCellNew (p := ⟨w.heap.size + 1, 0, none⟩) (by simp only; omega) _).setCellNew (p := ⟨w.heap.size + 1, 1, none⟩) (by simp only; omega) _⟩
theorem eq_dec (x y : Int × Int) (w : World) : (binOp .eql 74 (.agg #[.int .i64 x.1, .int .i64 x.2]) (.agg #[.int .i64 y.1, .int .i64 y.2])).run Try.prog w = .ok (.bool (decide (x = y))) w := by
  obtain ⟨a, b⟩ := x
  obtain ⟨c, d⟩ := y
  go_simp
  repeat' split
  all_goals simp [*]
theorem guard_dec : Try.prog.eqGuardType Try.prog.depth 74 = false := by kernel_rfl
theorem decOk_norm {c : Int} {s : Nat} (hs : s ≤ 9) : decOk c s = decide (((c, (s : Int)) : Int × Int) = ((normZ c s).1, ((normZ c s).2 : Int))) := by
  have h1 := normZ_id (s := s) (c := c)
  have h2 : (((c, (s : Int)) : Int × Int) = ((normZ c s).1, ((normZ c s).2 : Int))) ↔ (s = 0 ∨ c % 10 ≠ 0) := by
    rw [← h1]
    constructor
    · intro e
      simp only [Prod.mk.injEq] at e
      exact Prod.ext e.1.symm (by have := e.2; omega)
    · intro e
      rw [e]
  rw [Bool.eq_iff_iff]
  simp only [decOk, Bool.and_eq_true, Bool.or_eq_true, decide_eq_true_eq]
  rw [h2]
  have h3 : Int.tmod c 10 = 0 ↔ c % 10 = 0 := by
    rw [← Int.dvd_iff_tmod_eq_zero, ← Int.dvd_iff_emod_eq_zero]
  constructor
  · rintro ⟨_, h | h⟩
    · exact .inl (by omega)
    · exact .inr fun e => h (h3.2 e)
  · rintro (h | h)
    · exact ⟨by omega, .inl (by omega)⟩
    · exact ⟨by omega, .inr fun e => h (h3.1 e)⟩
set_option maxHeartbeats 4000000 in
theorem ddmay_any (c s : Int) (hc1 : -9223372036854775808 ≤ c) (hc2 : c ≤ 9223372036854775807) (w : World) :
    Calls Try.prog 68 #[.agg #[.int .i64 c, .int .i64 s]] w fun e w' => e = .returned (.bool (decOk c s)) ∧ Mod [] w w' := by
  obtain ⟨A1, hA1, k1, z1, m1⟩ := alloc_named2 w (.cells #[.int .i64 c, .int .i64 s] 74)
  have q0 := cell_blk k1 0
  have q1 := cell_blk k1 1
  simp only [List.getElem?_toArray, List.getElem?_cons_succ, List.getElem?_cons_zero] at q0 q1
  have HM := Lib.hid m1
  have HK := Lib.hid k1
  have HC := Lib.hid (ddIs_any c s A1)
  by_cases hd : isDec s = true
  · rw [hd] at HC
    simp only [isDec, Bool.and_eq_true, decide_eq_true_eq] at hd
    obtain ⟨t, rfl⟩ := Int.eq_ofNat_of_zero_le hd.1
    have ht : t ≤ 9 := by omega
    have HP := Lib.hid (fun w => dput_any c t ht hc1 hc2 w)
    have HE := Lib.hid (decOk_norm (c := c) ht)
    generalize normZ c t = p at HP HE
    obtain ⟨pc, ps⟩ := p
    dsimp only at HP HE
    have HQ := Lib.hid (fun W => eq_dec (c, (t : Int)) (pc, (ps : Int)) W)
    rw [← HE.out] at HQ
    dsimp only at HQ
    clear m1 k1 hc1 hc2 hd
    go_enter Try.func68, Try.ntmps68
    go_wp2_with fail
    refine HC.out.mono ?_
    rintro e w1 ⟨rfl, m2⟩
    have q0' := m2.cellD q0
    have q1' := m2.cellD q1
    have HM2 := Lib.hid (HM.out.trans m2)
    have HK2 := Lib.hid (m2.heap HK.out (by simp))
    clear m2 HC
    go_wp2_with fail
    refine (HP.out w1).mono ?_
    rintro e w2 ⟨rfl, m3⟩
    obtain ⟨B1, hB1, j1, y1, n1⟩ := alloc_named2 w2 (.cells #[.int .i64 pc, .int .i64 ps] 74)
    have p0 := cell_blk j1 0
    have p1 := cell_blk j1 1
    simp only [List.getElem?_toArray, List.getElem?_cons_succ, List.getElem?_cons_zero] at p0 p1
    have x0 := (m3.trans n1).cellD q0'
    have x1 := (m3.trans n1).cellD q1'
    have HM3 := Lib.hid (HM2.out.trans (m3.trans n1))
    clear m3 n1 j1
    go_wp2_with ((with_reducible refine xEqAgg (t := 74) rfl (HQ.out _) guard_dec ?_ ?_ ?_ ?_); exact rfl; exact rfl; exact rfl)
    go_ret
    exact ⟨rfl, HM3.out⟩
  · have hd : isDec s = false := by simpa using hd
    rw [hd] at HC
    have HE := Lib.hid (show decOk c s = false by
      unfold decOk
      simp only [isDec] at hd
      rw [hd]
      rfl)
    clear m1 k1 hc1 hc2 hd
    go_enter Try.func68, Try.ntmps68
    go_wp2_with fail
    refine HC.out.mono ?_
    rintro e w1 ⟨rfl, m2⟩
    have HM2 := Lib.hid (HM.out.trans m2)
    clear m2 HC
    go_wp2_with fail
    go_ret
    exact ⟨by rw [HE.out]; rfl, HM2.out⟩
end Go.Proofs.Ytnoookcfacmdkaa
namespace Go.Proofs.Ytnoookcfacmdkaa
open Go.RowKit Go.ChangeMaps Go.Deep
set_option linter.unusedSimpArgs false
set_option linter.unusedVariables false
set_option maxRecDepth 20000

set_option maxHeartbeats 8000000 in
theorem vmay10_any (k c s e : Int) (hc1 : -9223372036854775808 ≤ c) (hc2 : c ≤ 9223372036854775807) (w : World) :
    Calls Try.prog 65 #[vKey k c s e] w fun x w' => x = .returned (.bool (mayV k c s e)) ∧ Mod [] w w' := by
  obtain ⟨A1, hA1, k1, z1, m1⟩ := alloc_named2 w (.cells #[.int .u8 k, .int .i64 c, .int .i64 s, .int .i64 e] 76)
  obtain ⟨A2, hA2, k2, z2, m2⟩ := alloc_named2 A1 (.cells #[.int .i64 0, .int .i64 0] 74)
  rw [z1] at k2
  have g1 := m2.heap k1 (by simp)
  have f0 := frozen_blk k2 0
  have f1 := frozen_blk k2 1
  have e0 := cell_blk k2 0
  have e1 := cell_blk k2 1
  obtain ⟨W2, hW2⟩ : ∃ W2, (A2.setCell ⟨w.heap.size + 1, 0, none⟩ (.int .i64 0)).setCell ⟨w.heap.size + 1, 1, none⟩ (.int .i64 0) = W2 := ⟨_, rfl⟩
  have j2 := box_set2 k2 (.int .i64 0) (.int .i64 0)
  have mm : Mod [w.heap.size + 1] A2 ((A2.setCell ⟨w.heap.size + 1, 0, none⟩ (.int .i64 0)).setCell ⟨w.heap.size + 1, 1, none⟩ (.int .i64 0)) := ((Mod.refl _ _).setCell (by simp) _).setCell (by simp) _
  have j1 := mm.heap g1 (by simp)
  have HM := Lib.hid (((m1.trans m2).setCellNew (p := ⟨w.heap.size + 1, 0, none⟩) (by simp only; omega) (.int .i64 0)).setCellNew (p := ⟨w.heap.size + 1, 1, none⟩) (by simp only; omega) (.int .i64 0))
  rw [hW2] at j1 j2 HM
  have q0 := cell_blk j1 0
  have q1 := cell_blk j1 1
  have q2 := cell_blk j1 2
  have q3 := cell_blk j1 3
  have r0 := cell_blk j2 0
  have r1 := cell_blk j2 1
  simp only [List.getElem?_toArray, List.getElem?_cons_succ, List.getElem?_cons_zero] at q0 q1 q2 q3 r0 r1 e0 e1
  have HC := Lib.hid (ddmay_any c s hc1 hc2 W2)
  clear mm j1 j2
  obtain ⟨z, hz⟩ : ∃ z, decide (((c, s) : Int × Int) = (0, 0)) = z := ⟨_, rfl⟩
  have HQ := Lib.hid (fun W => eq_dec (c, s) (0, 0) W)
  rw [hz] at HQ
  dsimp only at HQ
  have HZ := Lib.hid hz
  clear m1 m2 k1 k2 g1 hc1 hc2 z2 hz
  unfold vKey
  by_cases hk0 : k = 0
  · subst hk0
    cases z with
    | false =>
      have HE := Lib.hid (show mayV 0 c s e = false by
        have h := HZ.out
        simp only [decide_eq_false_iff_not, Prod.mk.injEq, not_and] at h
        unfold mayV
        rw [if_neg (by omega)]
        simp only [decide_eq_false_iff_not]
        rintro ⟨h1, h2, _⟩
        exact h h1 h2)
      clear HC
      go_enter Try.func65, Try.ntmps65
      go_wp2_with (((with_reducible refine xEqAgg (t := 74) rfl (HQ.out _) guard_dec ?_ ?_ ?_ ?_); exact rfl; exact rfl; exact rfl))
      go_ret
      exact ⟨by rw [HE.out]; rfl, HM.out⟩
    | true =>
      by_cases h0 : e = 0
      · subst h0
        have HE := Lib.hid (show mayV 0 c s 0 = true by
          have h := HZ.out
          simp only [decide_eq_true_eq, Prod.mk.injEq] at h
          unfold mayV
          rw [if_neg (by omega)]
          simp [h])
        clear HC
        go_enter Try.func65, Try.ntmps65
        go_wp2_with (((with_reducible refine xEqAgg (t := 74) rfl (HQ.out _) guard_dec ?_ ?_ ?_ ?_); exact rfl; exact rfl; exact rfl))
        go_ret
        exact ⟨by rw [HE.out]; rfl, HM.out⟩
      · have hb : (e == 0) = false := by simpa using h0
        have HE := Lib.hid (show mayV 0 c s e = false by
          unfold mayV
          rw [if_neg (by omega)]
          simp only [decide_eq_false_iff_not]
          omega)
        clear HC h0
        go_enter Try.func65, Try.ntmps65
        go_wp2_with (((with_reducible refine xEqAgg (t := 74) rfl (HQ.out _) guard_dec ?_ ?_ ?_ ?_); exact rfl; exact rfl; exact rfl))
        go_ret
        exact ⟨by rw [HE.out]; rfl, HM.out⟩
  · have hk0b : (k == 0) = false := by simpa using hk0
    by_cases hk2 : k = 2
    · subst hk2
      cases z with
      | false =>
        have HE := Lib.hid (show mayV 2 c s e = false by
          have h := HZ.out
          simp only [decide_eq_false_iff_not, Prod.mk.injEq, not_and] at h
          unfold mayV
          rw [if_neg (by omega)]
          simp only [decide_eq_false_iff_not]
          rintro ⟨h1, h2, _⟩
          exact h h1 h2)
        clear HC
        go_enter Try.func65, Try.ntmps65
        go_wp2_with (((with_reducible refine xEqAgg (t := 74) rfl (HQ.out _) guard_dec ?_ ?_ ?_ ?_); exact rfl; exact rfl; exact rfl))
        go_ret
        exact ⟨by rw [HE.out]; rfl, HM.out⟩
      | true =>
        by_cases h0 : e = 0
        · subst h0
          have HE := Lib.hid (show mayV 2 c s 0 = true by
            have h := HZ.out
            simp only [decide_eq_true_eq, Prod.mk.injEq] at h
            unfold mayV
            rw [if_neg (by omega)]
            simp [h])
          clear HC
          go_enter Try.func65, Try.ntmps65
          go_wp2_with (((with_reducible refine xEqAgg (t := 74) rfl (HQ.out _) guard_dec ?_ ?_ ?_ ?_); exact rfl; exact rfl; exact rfl))
          go_ret
          exact ⟨by rw [HE.out]; rfl, HM.out⟩
        · have hb : (e == 0) = false := by simpa using h0
          have HE := Lib.hid (show mayV 2 c s e = false by
            unfold mayV
            rw [if_neg (by omega)]
            simp only [decide_eq_false_iff_not]
            omega)
          clear HC h0
          go_enter Try.func65, Try.ntmps65
          go_wp2_with (((with_reducible refine xEqAgg (t := 74) rfl (HQ.out _) guard_dec ?_ ?_ ?_ ?_); exact rfl; exact rfl; exact rfl))
          go_ret
          exact ⟨by rw [HE.out]; rfl, HM.out⟩
    · have hk2b : (k == 2) = false := by simpa using hk2
      by_cases hk3 : k = 3
      · subst hk3
        cases z with
        | false =>
          have HE := Lib.hid (show mayV 3 c s e = false by
            have h := HZ.out
            simp only [decide_eq_false_iff_not, Prod.mk.injEq, not_and] at h
            unfold mayV
            rw [if_neg (by omega)]
            simp only [decide_eq_false_iff_not]
            rintro ⟨h1, h2, _⟩
            exact h h1 h2)
          clear HC
          go_enter Try.func65, Try.ntmps65
          go_wp2_with (((with_reducible refine xEqAgg (t := 74) rfl (HQ.out _) guard_dec ?_ ?_ ?_ ?_); exact rfl; exact rfl; exact rfl))
          go_ret
          exact ⟨by rw [HE.out]; rfl, HM.out⟩
        | true =>
          by_cases h0 : e = 0
          · subst h0
            have HE := Lib.hid (show mayV 3 c s 0 = true by
              have h := HZ.out
              simp only [decide_eq_true_eq, Prod.mk.injEq] at h
              unfold mayV
              rw [if_neg (by omega)]
              simp [h])
            clear HC
            go_enter Try.func65, Try.ntmps65
            go_wp2_with (((with_reducible refine xEqAgg (t := 74) rfl (HQ.out _) guard_dec ?_ ?_ ?_ ?_); exact rfl; exact rfl; exact rfl))
            go_ret
            exact ⟨by rw [HE.out]; rfl, HM.out⟩
          · have hb : (e == 0) = false := by simpa using h0
            have HE := Lib.hid (show mayV 3 c s e = false by
              unfold mayV
              rw [if_neg (by omega)]
              simp only [decide_eq_false_iff_not]
              omega)
            clear HC h0
            go_enter Try.func65, Try.ntmps65
            go_wp2_with (((with_reducible refine xEqAgg (t := 74) rfl (HQ.out _) guard_dec ?_ ?_ ?_ ?_); exact rfl; exact rfl; exact rfl))
            go_ret
            exact ⟨by rw [HE.out]; rfl, HM.out⟩
      · have hk3b : (k == 3) = false := by simpa using hk3
        by_cases hk1 : k = 1
        · subst hk1
          by_cases h0 : e = 0
          · subst h0
            have HE := Lib.hid (show mayV 1 c s 0 = decOk c s by simp [mayV])
            obtain ⟨d, hd⟩ : ∃ d, Hid (decOk c s = d) := ⟨_, Lib.hid rfl⟩
            rw [hd.out] at HC HE
            cases d with
            | true =>
              go_enter Try.func65, Try.ntmps65
              go_wp2_with fail
              refine HC.out.mono ?_
              rintro x w1 ⟨rfl, m3⟩
              have q3' := m3.cellD q3
              have HM3 := Lib.hid (HM.out.trans m3)
              clear m3 HC
              go_wp2_with fail
              go_ret
              exact ⟨by rw [HE.out]; rfl, HM3.out⟩
            | false =>
              go_enter Try.func65, Try.ntmps65
              go_wp2_with fail
              refine HC.out.mono ?_
              rintro x w1 ⟨rfl, m3⟩
              have HM3 := Lib.hid (HM.out.trans m3)
              clear m3 HC
              go_wp2_with fail
              go_ret
              exact ⟨by rw [HE.out]; rfl, HM3.out⟩
          · have hb : (e == 0) = false := by simpa using h0
            have HE := Lib.hid (show mayV 1 c s e = false by
              unfold mayV
              rw [if_neg (by omega)]
              simp only [decide_eq_false_iff_not]
              omega)
            obtain ⟨d, hd⟩ : ∃ d, Hid (decOk c s = d) := ⟨_, Lib.hid rfl⟩
            rw [hd.out] at HC
            clear h0
            cases d with
            | true =>
              go_enter Try.func65, Try.ntmps65
              go_wp2_with fail
              refine HC.out.mono ?_
              rintro x w1 ⟨rfl, m3⟩
              have q3' := m3.cellD q3
              have HM3 := Lib.hid (HM.out.trans m3)
              clear m3 HC
              go_wp2_with fail
              go_ret
              exact ⟨by rw [HE.out]; rfl, HM3.out⟩
            | false =>
              go_enter Try.func65, Try.ntmps65
              go_wp2_with fail
              refine HC.out.mono ?_
              rintro x w1 ⟨rfl, m3⟩
              have HM3 := Lib.hid (HM.out.trans m3)
              clear m3 HC
              go_wp2_with fail
              go_ret
              exact ⟨by rw [HE.out]; rfl, HM3.out⟩
        · have hk1b : (k == 1) = false := by simpa using hk1
          by_cases hk4 : k = 4
          · subst hk4
            cases z with
            | false =>
              have HE := Lib.hid (show mayV 4 c s e = false by
                have h := HZ.out
                simp only [decide_eq_false_iff_not, Prod.mk.injEq, not_and] at h
                unfold mayV
                rw [if_neg (by omega)]
                simp only [decide_eq_false_iff_not]
                rintro ⟨h1, h2, _⟩
                exact h h1 h2)
              clear HC
              go_enter Try.func65, Try.ntmps65
              go_wp2_with (((with_reducible refine xEqAgg (t := 74) rfl (HQ.out _) guard_dec ?_ ?_ ?_ ?_); exact rfl; exact rfl; exact rfl))
              go_ret
              exact ⟨by rw [HE.out]; rfl, HM.out⟩
            | true =>
              have hcs : c = 0 ∧ s = 0 := by
                have h := HZ.out
                simpa only [decide_eq_true_eq, Prod.mk.injEq] using h
              by_cases h11 : e = 11
              · subst h11
                have HE := Lib.hid (show mayV 4 c s 11 = true by unfold mayV; rw [if_neg (by omega)]; simp [hcs])
                clear HC hcs
                go_enter Try.func65, Try.ntmps65
                go_wp2_with (((with_reducible refine xEqAgg (t := 74) rfl (HQ.out _) guard_dec ?_ ?_ ?_ ?_); exact rfl; exact rfl; exact rfl))
                go_ret
                exact ⟨by rw [HE.out]; rfl, HM.out⟩
              · have h11b : (e == 11) = false := by simpa using h11
                by_cases h12 : e = 12
                · subst h12
                  have HE := Lib.hid (show mayV 4 c s 12 = true by unfold mayV; rw [if_neg (by omega)]; simp [hcs])
                  clear HC hcs
                  go_enter Try.func65, Try.ntmps65
                  go_wp2_with (((with_reducible refine xEqAgg (t := 74) rfl (HQ.out _) guard_dec ?_ ?_ ?_ ?_); exact rfl; exact rfl; exact rfl))
                  go_ret
                  exact ⟨by rw [HE.out]; rfl, HM.out⟩
                · have h12b : (e == 12) = false := by simpa using h12
                  by_cases h13 : e = 13
                  · subst h13
                    have HE := Lib.hid (show mayV 4 c s 13 = true by unfold mayV; rw [if_neg (by omega)]; simp [hcs])
                    clear HC hcs
                    go_enter Try.func65, Try.ntmps65
                    go_wp2_with (((with_reducible refine xEqAgg (t := 74) rfl (HQ.out _) guard_dec ?_ ?_ ?_ ?_); exact rfl; exact rfl; exact rfl))
                    go_ret
                    exact ⟨by rw [HE.out]; rfl, HM.out⟩
                  · have h13b : (e == 13) = false := by simpa using h13
                    have HE := Lib.hid (show mayV 4 c s e = false by unfold mayV; rw [if_neg (by omega)]; simp only [decide_eq_false_iff_not]; omega)
                    clear HC hcs h11 h12 h13
                    go_enter Try.func65, Try.ntmps65
                    go_wp2_with (((with_reducible refine xEqAgg (t := 74) rfl (HQ.out _) guard_dec ?_ ?_ ?_ ?_); exact rfl; exact rfl; exact rfl))
                    go_ret
                    exact ⟨by rw [HE.out]; rfl, HM.out⟩
          · have hk4b : (k == 4) = false := by simpa using hk4
            have HE := Lib.hid (show mayV k c s e = false by unfold mayV; rw [if_neg (by omega)]; simp only [decide_eq_false_iff_not]; omega)
            clear HC hk0 hk1 hk2 hk3 hk4
            go_enter Try.func65, Try.ntmps65
            go_wp2_with (((with_reducible refine xEqAgg (t := 74) rfl (HQ.out _) guard_dec ?_ ?_ ?_ ?_); exact rfl; exact rfl; exact rfl))
            go_ret
            exact ⟨by rw [HE.out]; rfl, HM.out⟩
end Go.Proofs.Ytnoookcfacmdkaa
