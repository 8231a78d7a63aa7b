/- Layer 11 at values: the closure that tells a segment. -/
import Derived.Test.YtngglpekdjhbdaaGreatWzAg
import Derived.Test.YtngglpekdjhbdaaGreatWzAa
import Derived.Test.YtngglpekdjhbdaaGreatWzAb
namespace Go.Proofs.YtngglpekdjhbdaaGreat
open Go.RowKit Go.ChangeMaps Go.Deep
set_option linter.unusedSimpArgs false
set_option linter.unusedVariables false
set_option maxRecDepth 20000

theorem results_row_row_tmp {P : Program} {fn : Func} {p p' u : Tmp} {ty : TypeId} (h : fn.results = #[.cell p ty, .cell p' ty, .tmp u]) (tmps : Array Value) (w : World) (g g' : Nat) (t : TypeId) (cs cs' : Array Value) (fr : Nat × Nat) (d : TypeDesc)
    (hp : tmps.getD p undef = .pointer (some ⟨g, 0, none⟩)) (hp' : tmps.getD p' undef = .pointer (some ⟨g', 0, none⟩)) (hg : w.heap[g]? = some (.cells cs t fr)) (hg' : w.heap[g']? = some (.cells cs' t fr))
    (hu : P.underlying ty = some d) (hd : (match d with | .struct _ | .array _ _ => true | _ => false) = true) (hi : (P.info? ty).map (·.size) = some cs.size) (hi' : (P.info? ty).map (·.size) = some cs'.size) :
    (results fn tmps).run P w = .ok (.tuple #[.agg cs, .agg cs', tmps.getD u undef]) w := by
  have q : tmps[p]?.getD undef = .pointer (some ⟨g, 0, none⟩) := by simpa using hp
  have q' : tmps[p']?.getD undef = .pointer (some ⟨g', 0, none⟩) := by simpa using hp'
  simp [results, h, q, q', asAddr, run_loadVar_row w g t ty cs fr d hg hu hd hi, run_loadVar_row w g' t ty cs' fr d hg' hu hd hi']
/-- two numbers raised to as many places -/
def bothN (c s c' s' : Int) : Wd × Wd := (raisedN c (max s s' - s).toNat, raisedN c' (max s s' - s').toNat)
set_option maxHeartbeats 8000000 in
theorem dcBoth_at (c c' s s' : Int) (hs : 0 ≤ s ∧ s ≤ 9) (hs' : 0 ≤ s' ∧ s' ≤ 9) (w : World) : Calls Tryz.prog 82 #[.agg #[.int .i64 c, .int .i64 s], .agg #[.int .i64 c', .int .i64 s']] w fun e w' => e = .returned (.tuple #[wdV (bothN c s c' s').1, wdV (bothN c s c' s').2, .int .i64 (max s s')]) ∧ Mod [] w w' := by
  have C1 : ∀ W, Calls Tryz.prog 91 #[.agg #[.int .i64 c, .int .i64 s], .int .i64 (max s s')] W fun e w' => e = .returned (wdV (bothN c s c' s').1) ∧ Mod [] W w' := fun W => by
    have := dcRaised_at c s.toNat (max s s' - s).toNat (by omega) W
    rw [show ((s.toNat : Nat) : Int) = s by omega, show ((s.toNat + (max s s' - s).toNat : Nat) : Int) = max s s' by omega] at this
    exact this
  have C2 : ∀ W, Calls Tryz.prog 91 #[.agg #[.int .i64 c', .int .i64 s'], .int .i64 (max s s')] W fun e w' => e = .returned (wdV (bothN c s c' s').2) ∧ Mod [] W w' := fun W => by
    have := dcRaised_at c' s'.toNat (max s s' - s').toNat (by omega) W
    rw [show ((s'.toNat : Nat) : Int) = s' by omega, show ((s'.toNat + (max s s' - s').toNat : Nat) : Int) = max s s' by omega] at this
    exact this
  generalize bothN c s c' s' = B at C1 C2 ⊢
  obtain ⟨⟨xn, xh, xl⟩, ⟨yn, yh, yl⟩⟩ := B
  have C1 := Lib.hid C1
  have C2 := Lib.hid C2
  generalize hm : max s s' = m at C1 C2 ⊢
  have HMX := Lib.hid hm
  clear hm
  obtain ⟨A1, hA1, n1, z1, m1⟩ := alloc_named2 w (.cells #[.int .i64 c, .int .i64 s] 33)
  obtain ⟨A2, hA2, n2, z2, m2⟩ := alloc_named2 A1 (.cells #[.int .i64 c', .int .i64 s'] 33)
  obtain ⟨A3, hA3, n3, z3, m3⟩ := alloc_named2 A2 (.cells #[.bool false, .int .u64 0, .int .u64 0] 150)
  obtain ⟨A4, hA4, n4, z4, m4⟩ := alloc_named2 A3 (.cells #[.bool false, .int .u64 0, .int .u64 0] 150)
  rw [z1] at n2 z2
  rw [z2] at n3 z3
  rw [z3] at n4
  have p1 := (m2.trans (m3.trans m4)).heap n1 (by simp)
  have p2 := (m3.trans m4).heap n2 (by simp)
  have HP2 := Lib.hid p2
  have HN3 := Lib.hid (m4.heap n3 (by simp))
  have HN4 := Lib.hid n4
  have HM := Lib.hid ((m1.trans (m2.trans (m3.trans m4))).drew)
  have x0 := cell_blk p1 0
  have x1 := cell_blk p1 1
  have y0 := cell_blk p2 0
  have y1 := cell_blk p2 1
  simp only [List.getElem?_toArray, List.getElem?_cons_succ, List.getElem?_cons_zero] at x0 x1 y0 y1
  clear n1 n2 n3 n4 p1 p2 m1 m2 m3 m4
  unfold wdV at C1 C2 ⊢
  dsimp only at C1 C2 ⊢
  go_enter Tryz.func82, Tryz.ntmps82
  go_wp2_with ((with_reducible apply xMax rfl); exact rfl; exact rfl; exact rfl)
  simp only [HMX.out]
  refine wp_plan [([0, 1, 3, 4, 6], 2, [3]), ([], 5, []), ([], 7, []), ([], 8, []), ([], 9, [])] [] (by kernel_rfl) (by kernel_rfl) ?_
  simp only [wpSegs, opsOf, List.map_cons, List.map_nil, opN, List.getD_cons_zero, List.getD_cons_succ]
  go_wp2_with fail
  refine ⟨by first | trivial | rfl, ?_⟩
  go_wp2_with fail
  refine (C1.out _).mono ?_
  rintro e w5 ⟨rfl, m5⟩
  have HB2 := Lib.hid (m5.heap (show A4.drew.heap[w.heap.size + 1]? = _ from HP2.out) (by simp))
  have HB3 := Lib.hid (m5.heap (show A4.drew.heap[w.heap.size + 1 + 1]? = _ from HN3.out) (by simp))
  have HB4 := Lib.hid (m5.heap (show A4.drew.heap[w.heap.size + 1 + 1 + 1]? = _ from HN4.out) (by simp))
  have HM5 := Lib.hid (HM.out.trans m5)
  have t0 := cell_blk HB2.out 0
  have t1 := cell_blk HB2.out 1
  simp only [List.getElem?_toArray, List.getElem?_cons_succ, List.getElem?_cons_zero] at t0 t1
  clear m5
  go_wp2_with fail
  refine ⟨?agA, ?_⟩
  case agA =>
    intro i hi hw
    simp only [List.mem_cons, List.not_mem_nil, or_false] at hi
    subst hi
    all_goals (simp only [opN, List.getD_cons_zero, List.getD_cons_succ, slotOf]; go_simp)
  go_wp2_with fail
  refine ⟨by first | trivial | rfl, ?_⟩
  go_wp2_with fail
  refine (C2.out _).mono ?_
  rintro e w6 ⟨rfl, m6⟩
  have b3 := m6.heap HB3.out (by simp)
  have f0 := frozen_blk b3 0
  have f1 := frozen_blk b3 1
  have f2 := frozen_blk b3 2
  have k0 := cell_blk b3 0
  have k1 := cell_blk b3 1
  have k2 := cell_blk b3 2
  obtain ⟨W7, h7, m7, b7⟩ := set3 b3 (.bool xn) (.int .u64 xh) (.int .u64 xl)
  have b4 := m7.heap (m6.heap HB4.out (by simp)) (by simp)
  have g0 := frozen_blk b4 0
  have g1 := frozen_blk b4 1
  have g2 := frozen_blk b4 2
  have l0 := cell_blk b4 0
  have l1 := cell_blk b4 1
  have l2 := cell_blk b4 2
  simp only [List.getElem?_toArray, List.getElem?_cons_succ, List.getElem?_cons_zero] at k0 k1 k2 l0 l1 l2
  obtain ⟨W8, h8, m8, b8⟩ := set3 b4 (.bool yn) (.int .u64 yh) (.int .u64 yl)
  have HX := Lib.hid (m8.heap b7 (by simp))
  have HY := Lib.hid b8
  have H7 := Lib.hid h7
  have H8 := Lib.hid h8
  have HM8 := Lib.hid (mod_over (mod_over (HM5.out.trans m6) m7 (by simp; omega)) m8 (by simp; omega))
  clear m6 m7 m8 b3 b4 b7 b8 h7 h8
  go_wp2_with fail
  refine ⟨again_nil, ?_⟩
  go_wp2_with fail
  refine ⟨by first | trivial | rfl, ?_⟩
  go_wp2_with fail
  simp only [H7.out]
  refine ⟨again_nil, ?_⟩
  go_wp2_with fail
  refine ⟨by first | trivial | rfl, ?_⟩
  go_wp2_with fail
  simp only [H8.out]
  refine ⟨again_nil, ?_⟩
  go_wp2_with fail
  refine ⟨by first | trivial | rfl, ?_⟩
  go_wp2_with fail
  refine ⟨again_nil, ?_⟩
  go_wp2_with fail
  refine ⟨by first | trivial | rfl, ?_⟩
  go_wp2_with fail
  refine bodyPost_ret (results_row_row_tmp (P := Tryz.prog) (t := 150) (cs := #[.bool xn, .int .u64 xh, .int .u64 xl]) (cs' := #[.bool yn, .int .u64 yh, .int .u64 yl]) (fr := (0, 0)) (g := w.heap.size + 1 + 1) (g' := w.heap.size + 1 + 1 + 1) (h := rfl) (hp := rfl) (hp' := rfl) (hg := HX.out) (hg' := HY.out) (hu := Tryz.underlying150) (hd := rfl) (hi := by rw [sizeWide]; rfl) (hi' := by rw [sizeWide]; rfl) ..) rfl ⟨rfl, HM8.out⟩
end Go.Proofs.YtngglpekdjhbdaaGreat
namespace Go.Proofs.YtngglpekdjhbdaaGreat
open Go.RowKit Go.ChangeMaps Go.Deep
set_option linter.unusedSimpArgs false
set_option linter.unusedVariables false
set_option maxRecDepth 20000

def cmpD (c s c' s' : Int) : Int := cmpW (bothN c s c' s').1 (bothN c s c' s').2
set_option maxHeartbeats 16000000 in
theorem dcCmp_at (c c' s s' : Int) (hs : 0 ≤ s ∧ s ≤ 9) (hs' : 0 ≤ s' ∧ s' ≤ 9) (w : World) : Calls Tryz.prog 67 #[.agg #[.int .i64 c, .int .i64 s], .agg #[.int .i64 c', .int .i64 s']] w fun e w' => e = .returned (.tuple #[.int .i64 (cmpD c s c' s'), .int .i64 0]) ∧ Mod [] w w' := by
  have CB := Lib.hid (fun W => dcBoth_at c c' s s' hs hs' W)
  have HR : Hid (cmpD c s c' s' = cmpW (bothN c s c' s').1 (bothN c s c' s').2) := Lib.hid rfl
  have CI := Lib.hid (fun (W : World) (g : Nat) (hb : W.heap[g]? = some (.cells #[.int .i64 c, .int .i64 s, .int .i64 c', .int .i64 s'] 33 (0, 0))) => dIs2_at hb hs hs')
  generalize bothN c s c' s' = B at CB HR
  obtain ⟨B1, B2⟩ := B
  have CW := Lib.hid (fun W => wdCmp_at B1 B2 W)
  dsimp only at CB HR
  rw [HR.out]
  generalize cmpW B1 B2 = r at CW
  clear HR hs hs'
  obtain ⟨xn, xh, xl⟩ := B1
  obtain ⟨yn, yh, yl⟩ := B2
  unfold wdV at CB CW
  dsimp only at CB CW
  generalize max s s' = mx at CB
  obtain ⟨A1, hA1, n1, z1, m1⟩ := alloc_named2 w (.cells #[.int .i64 c, .int .i64 s] 33)
  obtain ⟨A2, hA2, n2, z2, m2⟩ := alloc_named2 A1 (.cells #[.int .i64 c', .int .i64 s'] 33)
  obtain ⟨A3, hA3, n3, z3, m3⟩ := alloc_named2 A2 (.cells #[.int .i64 c, .int .i64 s, .int .i64 c', .int .i64 s'] 33)
  rw [z1] at n2 z2
  rw [z2] at n3
  have p01 := m2.heap n1 (by simp)
  have p1 := (m2.trans m3).heap n1 (by simp)
  have p2 := m3.heap n2 (by simp)
  have HN1 := Lib.hid p1
  have HN2 := Lib.hid p2
  have HN3 := Lib.hid n3
  have HM := Lib.hid (m1.trans (m2.trans m3))
  have x0 := cell_blk p01 0
  have x1 := cell_blk p01 1
  have y0 := cell_blk n2 0
  have y1 := cell_blk n2 1
  simp only [List.getElem?_toArray, List.getElem?_cons_succ, List.getElem?_cons_zero] at x0 x1 y0 y1
  clear n1 n2 n3 p1 p2 p01 m1 m2 m3
  go_enter Tryz.func67, Tryz.ntmps67
  go_wp2_with fail
  refine (CI.out _ _ HN3.out).mono ?_
  rintro e wK ⟨rfl, mB⟩
  have hb1 := mB.heap HN1.out (by simp)
  have hb2 := mB.heap HN2.out (by simp)
  have HMB := Lib.hid (HM.out.trans mB)
  have t10 := cell_blk hb1 0
  have t11 := cell_blk hb1 1
  have t20 := cell_blk hb2 0
  have t21 := cell_blk hb2 1
  simp only [List.getElem?_toArray, List.getElem?_cons_succ, List.getElem?_cons_zero] at t10 t11 t20 t21
  clear mB hb1 hb2
  go_wp2_with fail
  refine (CB.out _).mono ?_
  rintro e wC ⟨rfl, mC⟩
  have HMC := Lib.hid (HMB.out.trans mC)
  clear mC
  obtain ⟨wA, hwA, na, za, ma⟩ := alloc_named2 wC (.cells #[.bool false, .int .u64 0, .int .u64 0] 150)
  obtain ⟨wB, hwB, nb, zb, mb⟩ := alloc_named2 wA (.cells #[.bool false, .int .u64 0, .int .u64 0] 150)
  rw [za] at nb
  have na2 := mb.heap na (by simp)
  have HMb := Lib.hid (HMC.out.trans (ma.trans mb))
  have hwz := HMC.out.size
  have fa0 := frozen_blk na2 0
  have ka0 := cell_blk na2 0
  have fa1 := frozen_blk na2 1
  have ka1 := cell_blk na2 1
  have fa2 := frozen_blk na2 2
  have ka2 := cell_blk na2 2
  obtain ⟨Wa, ha, mSa, ba⟩ := set3 na2 (.bool xn) (.int .u64 xh) (.int .u64 xl)
  have nb2 := mSa.heap nb (by simp)
  have fb0 := frozen_blk nb 0
  have kb0 := cell_blk nb 0
  have fb1 := frozen_blk nb 1
  have kb1 := cell_blk nb 1
  have fb2 := frozen_blk nb 2
  have kb2 := cell_blk nb 2
  obtain ⟨Wb, hb, mSb, bb⟩ := set3 nb2 (.bool yn) (.int .u64 yh) (.int .u64 yl)
  have ba2 := mSb.heap ba (by simp)
  have ra0 := cell_blk ba2 0
  have rb0 := cell_blk bb 0
  have ra1 := cell_blk ba2 1
  have rb1 := cell_blk bb 1
  have ra2 := cell_blk ba2 2
  have rb2 := cell_blk bb 2
  simp only [List.getElem?_toArray, List.getElem?_cons_succ, List.getElem?_cons_zero] at ka0 ka1 ka2 kb0 kb1 kb2 ra0 ra1 ra2 rb0 rb1 rb2
  have HSa := Lib.hid ha
  have HSb := Lib.hid hb
  have HTb := Lib.hid (mod_over (mod_over HMb.out mSa (by simp; omega)) mSb (by simp; omega))
  clear na nb na2 nb2 ma mb mSa mSb ba bb ba2 ha hb hwz
  go_wp2_with fail
  simp only [HSa.out, HSb.out]
  go_wp2_with fail
  refine (CW.out _).mono ?_
  rintro e wE ⟨rfl, mE⟩
  have HME := Lib.hid (HTb.out.trans mE)
  clear mE
  go_wp2_with fail
  go_ret2
  exact ⟨rfl, HME.out⟩
end Go.Proofs.YtngglpekdjhbdaaGreat
namespace Go.Proofs.YtngglpekdjhbdaaGreat
open Go.RowKit Go.ChangeMaps Go.Deep
set_option linter.unusedSimpArgs false
set_option linter.unusedVariables false
set_option maxRecDepth 20000

/-- a number's places are few -/
def fewV (v : Vl) : Prop := 0 ≤ v.s ∧ v.s ≤ 9
def stepV (kind : Int) (s v : Vl) : Vl :=
  takeV s v (if kind = 2 then decide (cmpD v.c v.s s.c s.s < 0) else if kind = 3 then decide (0 < cmpD v.c v.s s.c s.s) else if kind = 4 then decide (v.k = 2) else decide (v.k = 3))
theorem takeV_few {s v : Vl} {b : Bool} (h : fewV s) (h' : fewV v) : fewV (takeV s v b) := by unfold takeV; split <;> assumption
theorem wnLeast_at {w : World} {b : Nat} {s v : Vl} (h : SumAt w b s) (hs : fewV s) (hv : fewV v) : Calls Tryz.prog 41 #[.pointer (some ⟨b, 0, none⟩), .agg (vlA v)] w fun x w' => x = .returned (.tuple #[]) ∧ SumAt w' b (stepV 2 s v) ∧ Mod [b] w w' := by
  obtain ⟨k, c, s, e⟩ := s
  obtain ⟨k', c', s', e'⟩ := v
  have HST := Lib.hid (show stepV 2 ⟨k, c, s, e⟩ ⟨k', c', s', e'⟩ = takeV ⟨k, c, s, e⟩ ⟨k', c', s', e'⟩ (decide (cmpD c' s' c s < 0)) from rfl)
  have CC := Lib.hid (fun W => dcCmp_at c' c s' s hv hs W)
  rw [HST.out]
  clear HST hs hv
  generalize cmpD c' s' c s = D at CC ⊢
  obtain ⟨A1, hA1, n1, z1, m1⟩ := alloc_named2 w (.cells #[.int .u8 k', .int .i64 c', .int .i64 s', .int .i64 e'] 35)
  have h1 : A1.heap[b]? = some (.cells #[.int .u8 k, .int .i64 c, .int .i64 s, .int .i64 e] 96 (0, 0)) := m1.heap h (by simp)
  have x0 := cell_blk n1 0
  have x1 := cell_blk n1 1
  have x2 := cell_blk n1 2
  have x3 := cell_blk n1 3
  have s0 := cell_blk h1 0
  have s1 := cell_blk h1 1
  have s2 := cell_blk h1 2
  have s3 := cell_blk h1 3
  simp only [List.getElem?_toArray, List.getElem?_cons_succ, List.getElem?_cons_zero] at x0 x1 x2 x3 s0 s1 s2 s3
  have HB := Lib.hid (show SumAt A1 b ⟨k, c, s, e⟩ from h1)
  have HN := Lib.hid n1
  have HM := Lib.hid m1
  clear n1 m1 h h1
  unfold vlA
  dsimp only
  go_enter Tryz.func41, Tryz.ntmps41
  go_wp2_with fail
  refine wp_plan [([0, 2, 1, 3, 4, 5, 6], 7, [])] [8, 9, 10, 11, 12] (by kernel_rfl) (by kernel_rfl) ?_
  simp only [wpSegs, opsOf, List.map_cons, List.map_nil, opN, List.getD_cons_zero, List.getD_cons_succ]
  go_wp2_with fail
  refine ⟨by first | trivial | rfl, ?_⟩
  go_wp2_with fail
  refine (CC.out _).mono ?_
  rintro x w2 ⟨rfl, m2⟩
  have HB2 : Hid (SumAt w2 b ⟨k, c, s, e⟩) := Lib.hid (m2.heap (show A1.drew.heap[b]? = _ from HB.out) (by simp))
  have hn := m2.heap (show A1.drew.heap[w.heap.size]? = _ from HN.out) (by simp)
  have HM2 := Lib.hid (HM.out.drew.trans m2)
  have y0 := cell_blk hn 0
  have y1 := cell_blk hn 1
  have y2 := cell_blk hn 2
  have y3 := cell_blk hn 3
  simp only [List.getElem?_toArray, List.getElem?_cons_succ, List.getElem?_cons_zero] at y0 y1 y2 y3
  clear hn m2
  go_wp2_with fail
  refine ⟨again_nil, ?_⟩
  go_wp2_with fail
  refine ⟨by first | trivial | rfl, ?_⟩
  go_wp2_with fail
  refine (wnTake_at (v := ⟨k', c', s', e'⟩) HB2.out).mono ?_
  rintro x w3 ⟨rfl, b3, m3⟩
  have H3 := Lib.hid b3
  have HM3 := Lib.hid (HM2.out.nil.trans m3)
  clear b3 m3
  go_wp2_with fail
  go_end0
  exact ⟨rfl, H3.out, HM3.out⟩
theorem wnMost_at {w : World} {b : Nat} {s v : Vl} (h : SumAt w b s) (hs : fewV s) (hv : fewV v) : Calls Tryz.prog 42 #[.pointer (some ⟨b, 0, none⟩), .agg (vlA v)] w fun x w' => x = .returned (.tuple #[]) ∧ SumAt w' b (stepV 3 s v) ∧ Mod [b] w w' := by
  obtain ⟨k, c, s, e⟩ := s
  obtain ⟨k', c', s', e'⟩ := v
  have HST := Lib.hid (show stepV 3 ⟨k, c, s, e⟩ ⟨k', c', s', e'⟩ = takeV ⟨k, c, s, e⟩ ⟨k', c', s', e'⟩ (decide (0 < cmpD c' s' c s)) from rfl)
  have CC := Lib.hid (fun W => dcCmp_at c' c s' s hv hs W)
  rw [HST.out]
  clear HST hs hv
  generalize cmpD c' s' c s = D at CC ⊢
  obtain ⟨A1, hA1, n1, z1, m1⟩ := alloc_named2 w (.cells #[.int .u8 k', .int .i64 c', .int .i64 s', .int .i64 e'] 35)
  have h1 : A1.heap[b]? = some (.cells #[.int .u8 k, .int .i64 c, .int .i64 s, .int .i64 e] 96 (0, 0)) := m1.heap h (by simp)
  have x0 := cell_blk n1 0
  have x1 := cell_blk n1 1
  have x2 := cell_blk n1 2
  have x3 := cell_blk n1 3
  have s0 := cell_blk h1 0
  have s1 := cell_blk h1 1
  have s2 := cell_blk h1 2
  have s3 := cell_blk h1 3
  simp only [List.getElem?_toArray, List.getElem?_cons_succ, List.getElem?_cons_zero] at x0 x1 x2 x3 s0 s1 s2 s3
  have HB := Lib.hid (show SumAt A1 b ⟨k, c, s, e⟩ from h1)
  have HN := Lib.hid n1
  have HM := Lib.hid m1
  clear n1 m1 h h1
  unfold vlA
  dsimp only
  go_enter Tryz.func42, Tryz.ntmps42
  go_wp2_with fail
  refine wp_plan [([0, 2, 1, 3, 4, 5, 6], 7, [])] [8, 9, 10, 11, 12] (by kernel_rfl) (by kernel_rfl) ?_
  simp only [wpSegs, opsOf, List.map_cons, List.map_nil, opN, List.getD_cons_zero, List.getD_cons_succ]
  go_wp2_with fail
  refine ⟨by first | trivial | rfl, ?_⟩
  go_wp2_with fail
  refine (CC.out _).mono ?_
  rintro x w2 ⟨rfl, m2⟩
  have HB2 : Hid (SumAt w2 b ⟨k, c, s, e⟩) := Lib.hid (m2.heap (show A1.drew.heap[b]? = _ from HB.out) (by simp))
  have hn := m2.heap (show A1.drew.heap[w.heap.size]? = _ from HN.out) (by simp)
  have HM2 := Lib.hid (HM.out.drew.trans m2)
  have y0 := cell_blk hn 0
  have y1 := cell_blk hn 1
  have y2 := cell_blk hn 2
  have y3 := cell_blk hn 3
  simp only [List.getElem?_toArray, List.getElem?_cons_succ, List.getElem?_cons_zero] at y0 y1 y2 y3
  clear hn m2
  go_wp2_with fail
  refine ⟨again_nil, ?_⟩
  go_wp2_with fail
  refine ⟨by first | trivial | rfl, ?_⟩
  go_wp2_with fail
  refine (wnTake_at (v := ⟨k', c', s', e'⟩) HB2.out).mono ?_
  rintro x w3 ⟨rfl, b3, m3⟩
  have H3 := Lib.hid b3
  have HM3 := Lib.hid (HM2.out.nil.trans m3)
  clear b3 m3
  go_wp2_with fail
  go_end0
  exact ⟨rfl, H3.out, HM3.out⟩
theorem wnAny_at {w : World} {b : Nat} {s v : Vl} (h : SumAt w b s) : Calls Tryz.prog 43 #[.pointer (some ⟨b, 0, none⟩), .agg (vlA v)] w fun x w' => x = .returned (.tuple #[]) ∧ SumAt w' b (stepV 4 s v) ∧ Mod [b] w w' := by
  obtain ⟨k', c', s', e'⟩ := v
  have HST := Lib.hid (show stepV 4 s ⟨k', c', s', e'⟩ = takeV s ⟨k', c', s', e'⟩ (decide (k' = 2)) from rfl)
  rw [HST.out]
  clear HST
  obtain ⟨A1, hA1, n1, z1, m1⟩ := alloc_named2 w (.cells #[.int .u8 k', .int .i64 c', .int .i64 s', .int .i64 e'] 35)
  have h1 : SumAt A1 b s := m1.heap h (by simp)
  have x0 := cell_blk n1 0
  have x1 := cell_blk n1 1
  have x2 := cell_blk n1 2
  have x3 := cell_blk n1 3
  simp only [List.getElem?_toArray, List.getElem?_cons_succ, List.getElem?_cons_zero] at x0 x1 x2 x3
  have HB := Lib.hid h1
  have HM := Lib.hid m1
  clear n1 m1 h h1
  have HD : (k' == (2 : Int)) = decide (k' = 2) := by by_cases hk : k' = 2 <;> simp [hk]
  generalize hkk : decide (k' = 2) = q at HD ⊢
  clear hkk
  unfold vlA
  dsimp only
  go_enter Tryz.func43, Tryz.ntmps43
  go_wp2_with fail
  refine (wnTake_at (v := ⟨k', c', s', e'⟩) HB.out).mono ?_
  rintro x w3 ⟨rfl, b3, m3⟩
  have H3 := Lib.hid b3
  have HM3 := Lib.hid (HM.out.nil.trans m3)
  clear b3 m3
  go_wp2_with fail
  go_end0
  exact ⟨rfl, H3.out, HM3.out⟩
theorem wnEvery_at {w : World} {b : Nat} {s v : Vl} (h : SumAt w b s) : Calls Tryz.prog 44 #[.pointer (some ⟨b, 0, none⟩), .agg (vlA v)] w fun x w' => x = .returned (.tuple #[]) ∧ SumAt w' b (stepV 5 s v) ∧ Mod [b] w w' := by
  obtain ⟨k', c', s', e'⟩ := v
  have HST := Lib.hid (show stepV 5 s ⟨k', c', s', e'⟩ = takeV s ⟨k', c', s', e'⟩ (decide (k' = 3)) from rfl)
  rw [HST.out]
  clear HST
  obtain ⟨A1, hA1, n1, z1, m1⟩ := alloc_named2 w (.cells #[.int .u8 k', .int .i64 c', .int .i64 s', .int .i64 e'] 35)
  have h1 : SumAt A1 b s := m1.heap h (by simp)
  have x0 := cell_blk n1 0
  have x1 := cell_blk n1 1
  have x2 := cell_blk n1 2
  have x3 := cell_blk n1 3
  simp only [List.getElem?_toArray, List.getElem?_cons_succ, List.getElem?_cons_zero] at x0 x1 x2 x3
  have HB := Lib.hid h1
  have HM := Lib.hid m1
  clear n1 m1 h h1
  have HD : (k' == (3 : Int)) = decide (k' = 3) := by by_cases hk : k' = 3 <;> simp [hk]
  generalize hkk : decide (k' = 3) = q at HD ⊢
  clear hkk
  unfold vlA
  dsimp only
  go_enter Tryz.func44, Tryz.ntmps44
  go_wp2_with fail
  refine (wnTake_at (v := ⟨k', c', s', e'⟩) HB.out).mono ?_
  rintro x w3 ⟨rfl, b3, m3⟩
  have H3 := Lib.hid b3
  have HM3 := Lib.hid (HM.out.nil.trans m3)
  clear b3 m3
  go_wp2_with fail
  go_end0
  exact ⟨rfl, H3.out, HM3.out⟩
end Go.Proofs.YtngglpekdjhbdaaGreat
namespace Go.Proofs.YtngglpekdjhbdaaGreat
open Go.RowKit Go.ChangeMaps Go.Deep
set_option linter.unusedSimpArgs false
set_option linter.unusedVariables false
set_option maxRecDepth 20000

def fitsV (kind : Int) (v : Vl) : Bool := if kind ≤ 3 then numOk v else truthOk v
/-- what is answered, of what was met and of what comes -/
def overV (kind : Int) : Vl → List Vl → Vl
  | s, [] => s
  | s, x :: l => if x.k = 0 then overV kind s l else if x.k = 4 then x else if fitsV kind x = true then overV kind (stepV kind s x) l else ⟨4, 0, 0, 8⟩
/-- the answer by the values' numbers -/
def ovZ (kind : Int) (l : List Int) : Int := iv (overV kind ⟨0, 0, 0, 0⟩ (l.map vl))
theorem vl_ovZ (kind : Int) (l : List Int) : vl (ovZ kind l) = overV kind ⟨0, 0, 0, 0⟩ (l.map vl) := vl_iv _
theorem valZ_vlA (z : Int) : valZ z = .agg (vlA (vl z)) := rfl
theorem overV_none {kind : Int} {s x : Vl} {l : List Vl} (h : x.k = 0) : overV kind s (x :: l) = overV kind s l := by rw [overV, if_pos h]
theorem overV_bad {kind : Int} {s x : Vl} {l : List Vl} (h : x.k = 4) : overV kind s (x :: l) = x := by rw [overV, if_neg (by omega), if_pos h]
theorem overV_not {kind : Int} {s x : Vl} {l : List Vl} (h0 : x.k ≠ 0) (h4 : x.k ≠ 4) (hf : fitsV kind x = false) : overV kind s (x :: l) = ⟨4, 0, 0, 8⟩ := by rw [overV, if_neg h0, if_neg h4, if_neg (by simp [hf])]
theorem overV_step {kind : Int} {s x : Vl} {l : List Vl} (h0 : x.k ≠ 0) (h4 : x.k ≠ 4) (hf : fitsV kind x = true) : overV kind s (x :: l) = overV kind (stepV kind s x) l := by rw [overV, if_neg h0, if_neg h4, if_pos hf]
theorem numOk_few {v : Vl} (h : numOk v = true) : fewV v := by
  unfold numOk decOkN at h
  simp only [Bool.and_eq_true, decide_eq_true_eq] at h
  exact ⟨h.2.1.1, h.2.1.2⟩
/-- what is asked of what was met: of numbers, few places -/
def metV (kind : Int) (s : Vl) : Prop := kind ≤ 3 → fewV s
theorem metV_zero (kind : Int) : metV kind ⟨0, 0, 0, 0⟩ := fun _ => ⟨by simp, by simp⟩
theorem metV_step {kind : Int} {s x : Vl} (h : metV kind s) (hf : fitsV kind x = true) : metV kind (stepV kind s x) := fun hk => by
  unfold fitsV at hf
  rw [if_pos hk] at hf
  exact takeV_few (h hk) (numOk_few hf)
end Go.Proofs.YtngglpekdjhbdaaGreat
namespace Go.Proofs.YtngglpekdjhbdaaGreat
open Go.RowKit Go.ChangeMaps Go.Deep Tr
set_option linter.unusedSimpArgs false
set_option linter.unusedVariables false
set_option maxRecDepth 20000

def encSgZ (s : Sg) : List Value := .int .i64 s.f :: .int .i64 s.t :: encZ s.v
theorem encSgZ_len (x : Sg) : (encSgZ x).length = 6 := rfl
theorem encSgZ_one (x : Sg) : ∀ v ∈ encSgZ x, v.oneCell' = true := by
  intro v hv
  simp only [encSgZ, List.mem_cons] at hv
  rcases hv with rfl | rfl | hv
  · rfl
  · rfl
  · exact encZ_one _ v hv
theorem elemSegV : ElemOk Tryz.prog 59 62 6 48 := .mk' Tryz.underlying59 (by omega) (by kernel_rfl)
/-- the two variables that the closure holds: the day, the row -/
structure TellZ (W : World) (Ba Bo base : Nat) (v : Value) (o : List Sg × Int) : Prop where
  day : W.heap[Ba]? = some (.cells #[.int .i64 o.2] 3 (0, 0))
  cell : W.heap[Bo]? = some (.cells #[v] 59 (0, 0))
  own : OwnR encSgZ 6 62 W base v o.1
  lt : Ba < base ∧ Bo < base ∧ Ba ≠ Bo
theorem TellZ.kept {ks : List Nat} {W W' : World} {Ba Bo base : Nat} {v : Value} {o : List Sg × Int} (h : TellZ W Ba Bo base v o) (m : Mod ks W W') (h0 : Ba ∉ ks) (h1 : Bo ∉ ks) (h2 : ∀ k, v.ownBlock = some k → k ∉ ks) : TellZ W' Ba Bo base v o :=
  ⟨m.heap h.day h0, m.heap h.cell h1, h.own.kept m h2, h.lt⟩
/-- what a telling leaves -/
def TellZP (W : World) (Ba Bo base : Nat) (v : Value) (o : List Sg × Int) (W' : World) : Prop :=
  ∃ v', TellZ W' Ba Bo base v' o ∧ Mod (Ba :: Bo :: blk v) W W'
theorem TellZP.after {W A W' : World} {Ba Bo base : Nat} {v : Value} {o : List Sg × Int} (h : TellZP A Ba Bo base v o W') (m : Mod [] W A) : TellZP W Ba Bo base v o W' := by
  obtain ⟨v', h1, h2⟩ := h
  exact ⟨v', h1, m.nil.trans h2⟩
set_option maxHeartbeats 4000000 in
theorem seg1Z_at {W : World} {Ba Bo base : Nat} {v : Value} {o : List Sg × Int} (h0 : TellZ W Ba Bo base v o) (tt vv : Int) (hl : o.1.length < 1073741824) (hbs : base ≤ W.heap.size) :
    Calls Tryz.prog 35 #[.int .i64 tt, valZ vv, .pointer (some ⟨Ba, 0, none⟩), .pointer (some ⟨Bo, 0, none⟩)] W fun e W' => e = .returned (.tuple #[]) ∧ TellZP W Ba Bo base v (addS o tt vv) W' := by
  obtain ⟨kv, cv, sv, ev, hvl⟩ := valZ_form vv
  rw [show valZ vv = .agg #[.int .u8 kv, .int .i64 cv, .int .i64 sv, .int .i64 ev] by unfold valZ; rw [hvl]]
  have hez : encZ vv = [.int .u8 kv, .int .i64 cv, .int .i64 sv, .int .i64 ev] := by unfold encZ; rw [hvl]
  obtain ⟨A1, hA1, n1, z1, m1⟩ := alloc_named2 W (.cells #[.int .u8 kv, .int .i64 cv, .int .i64 sv, .int .i64 ev] 35)
  have h := h0.kept m1 (by simp) (by simp) (by simp)
  replace hbs := Nat.le_trans hbs m1.size
  have HMA := Lib.hid m1
  have x0 := cell_blk n1 0
  have x1 := cell_blk n1 1
  have x2 := cell_blk n1 2
  have x3 := cell_blk n1 3
  simp only [List.getElem?_toArray, List.getElem?_cons_succ, List.getElem?_cons_zero] at x0 x1 x2 x3
  clear h0 hvl n1 m1
  have a0 := cell_blk h.day 0
  simp only [List.getElem?_toArray, List.getElem?_cons_zero] at a0
  by_cases hc : o.2 < tt
  · have hd : decide (o.2 < tt) = true := decide_eq_true hc
    have hob : ∀ k, v.ownBlock = some k → base ≤ k := fun k hk => (World.ownsRow.lt h.own k hk).1
    obtain ⟨l1, l2, l3⟩ := h.lt
    have c0 := cell_blk h.cell 0
    simp only [List.getElem?_toArray, List.getElem?_cons_zero] at c0
    obtain ⟨v', w', ra, ho', gr⟩ := own_append1 (P := Tryz.prog) (ty := 59) elemSegV encSgZ_len encSgZ_one h.own hbs ⟨o.2, tt, vv⟩ hl (by omega)
    dsimp only [encSgZ] at ra
    rw [hez, z1] at ra
    obtain ⟨a', n', c', rfl⟩ : ∃ a n c, v' = .slice a n c := by obtain ⟨a, c, e⟩ := ho'.lens; exact ⟨a, _, c, e⟩
    have hv' := gr.mod.heap h.cell (by rw [mem_blk]; intro hm; have := hob _ hm; omega)
    have hd' := gr.mod.heap h.day (by rw [mem_blk]; intro hm; have := hob _ hm; omega)
    have g0 := cell_blk hv' 0
    have g1 := frozen_blk hv' 0
    simp only [List.getElem?_toArray, List.getElem?_cons_zero] at g0
    have hob' : ∀ k, (Value.slice a' n' c').ownBlock = some k → base ≤ k := fun k hk => (World.ownsRow.lt ho' k hk).1
    have hm1 : Mod [Bo] w' (w'.setCell ⟨Bo, 0, none⟩ (.slice a' n' c')) := (Mod.refl _ _).setCell (by simp) _
    have hv2 := heap_setCell_blk hv' 0 (.slice a' n' c')
    have hd2 := hm1.heap hd' (by simpa using l3)
    have d0 := cell_blk hd2 0
    have d1 := frozen_blk hd2 0
    simp only [List.getElem?_toArray, List.getElem?_cons_zero] at d0
    have hm2 : Mod [Ba] (w'.setCell ⟨Bo, 0, none⟩ (.slice a' n' c')) ((w'.setCell ⟨Bo, 0, none⟩ (.slice a' n' c')).setCell ⟨Ba, 0, none⟩ (.int .i64 tt)) := (Mod.refl _ _).setCell (by simp) _
    have hd3 := heap_setCell_blk hd2 0 (.int .i64 tt)
    have hv3 := hm2.heap hv2 (by simpa using fun e => l3 e.symm)
    have HE := Lib.hid (show TellZP A1 Ba Bo base v (addS o tt vv) ((w'.setCell ⟨Bo, 0, none⟩ (.slice a' n' c')).setCell ⟨Ba, 0, none⟩ (.int .i64 tt)) from by
      unfold addS
      rw [if_pos hc]
      refine ⟨.slice a' n' c', ⟨by simpa using hd3, by simpa using hv3, (ho'.kept hm1 (fun k hk => by have := hob' k hk; simp; omega)).kept hm2 (fun k hk => by have := hob' k hk; simp; omega), h.lt⟩, ((gr.mod.mono fun k hk => by simp [hk]).trans (hm1.mono fun k hk => by simp at hk; simp [hk])).trans (hm2.mono fun k hk => by simp at hk; simp [hk])⟩)
    have ma := (Mod.refl [] A1).alloc (.cells #[.int .i64 o.2, .int .i64 tt, .int .u8 kv, .int .i64 cv, .int .i64 sv, .int .i64 ev] 62)
    have RA := Lib.hid ra
    clear hm1 hv2 hob' hv' ho' gr ra h hob hm2 hd3 hv3 hd2 hd' ma
    go_enter Tryz.func35, Tryz.ntmps35
    go_wp2_with ((with_reducible refine xAppendAt RA.out rfl rfl ?_ ?_ ?_ ?_); exact rfl; exact rfl; exact rfl)
    go_end0
    exact ⟨rfl, HE.out.after HMA.out⟩
  · have hd : decide (o.2 < tt) = false := decide_eq_false hc
    have HE := Lib.hid (show TellZP A1 Ba Bo base v (addS o tt vv) A1 from by
      unfold addS
      rw [if_neg hc]
      exact ⟨v, h, Mod.refl _ _⟩)
    clear h
    go_enter Tryz.func35, Tryz.ntmps35
    go_wp2_with fail
    go_end0
    exact ⟨rfl, HE.out.after HMA.out⟩
/-- where Segs stands in its loop -/
def SeZ (Ba Bo N : Nat) (wS : World) (o : List Sg × Int) (W : World) : Prop := ∃ v, TellZ W Ba Bo (N + 3) v o ∧ Mod [Ba, Bo] wS W
theorem SeZ.kept {Ba Bo N : Nat} {wS : World} {o : List Sg × Int} {A B : World} (h : SeZ Ba Bo N wS o A) (hN : wS.heap.size = N) (h0 : Ba < N) (h1 : Bo < N) (m : Mod [N, N + 1, N + 2] A B) : SeZ Ba Bo N wS o B := by
  obtain ⟨v, h2, h3⟩ := h
  refine ⟨v, h2.kept m (by simp; omega) (by simp; omega) (fun k hk => ?_), Mod.into' h3 m (fun k hk => .inl (by simp at hk; omega))⟩
  have := (World.ownsRow.lt h2.own k hk).1
  simp; omega
theorem SeZ.kept0 {Ba Bo N : Nat} {wS : World} {o : List Sg × Int} {A B : World} (h : SeZ Ba Bo N wS o A) (m : Mod [] A B) : SeZ Ba Bo N wS o B := by
  obtain ⟨v, h2, h3⟩ := h
  exact ⟨v, h2.kept m (by simp) (by simp) (by simp), h3.trans m.nil⟩
/-- a telling, in the loop -/
theorem SeZ.tell {Ba Bo N : Nat} {wS A B : World} {o o' : List Sg × Int} {v : Value} (hN : wS.heap.size = N) (hv : TellZ A Ba Bo (N + 3) v o) (hm : Mod [Ba, Bo] wS A) (h : TellZP A Ba Bo (N + 3) v o' B) (hA : N + 2 < A.heap.size) : SeZ Ba Bo N wS o' B ∧ ∀ p : Nat → Prop, ¬ p Ba → ¬ p Bo → (∀ k, p k → k < N + 3) → ModP p A B := by
  obtain ⟨v', h1, h2⟩ := h
  have hob : ∀ k, v.ownBlock = some k → N + 3 ≤ k := fun k hk => (World.ownsRow.lt hv.own k hk).1
  refine ⟨⟨v', h1, Mod.into' hm h2 (fun k hk => ?_)⟩, fun p p1 p2 p3 => ModP.of h2 (fun k hk hp => ?_)⟩
  · simp only [List.mem_cons, mem_blk] at hk
    rcases hk with rfl | rfl | hk
    · exact .inr (by simp)
    · exact .inr (by simp)
    · have := hob k hk
      exact .inl (by omega)
  · simp only [List.mem_cons, mem_blk] at hk
    rcases hk with rfl | rfl | hk
    · exact p1 hp
    · exact p2 hp
    · have := hob k hk
      have := p3 k hp
      omega
end Go.Proofs.YtngglpekdjhbdaaGreat
