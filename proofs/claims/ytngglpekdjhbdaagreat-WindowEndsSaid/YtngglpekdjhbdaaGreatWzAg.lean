/- Windows: decimal.raised. -/
import Derived.Test.YtngglpekdjhbdaaGreatWzAf
namespace Go.Proofs.YtngglpekdjhbdaaGreat
open Go.RowKit Go.ChangeMaps Go.Deep
set_option linter.unusedSimpArgs false
set_option linter.unusedVariables false
set_option maxRecDepth 20000

def canW (x : Wd) : Wd := putN x.neg x.hi x.lo
def cmpW (x y : Wd) : Int := if (canW x).neg = true then (if (canW y).neg = true then aboveN (canW y) (canW x) else -1) else (if (canW y).neg = true then 1 else aboveN (canW x) (canW y))
set_option maxHeartbeats 4000000 in
theorem wdCmp_at (x y : Wd) (w : World) : Calls Tryz.prog 83 #[wdV x, wdV y] w fun e w' => e = .returned (.int .i64 (cmpW x y)) ∧ Mod [] w w' := by
  have HR : Hid (cmpW x y = if (canW x).neg = true then (if (canW y).neg = true then aboveN (canW y) (canW x) else -1) else (if (canW y).neg = true then 1 else aboveN (canW x) (canW y))) := Lib.hid rfl
  generalize cmpW x y = R at HR ⊢
  obtain ⟨xn, xh, xl⟩ := x
  obtain ⟨yn, yh, yl⟩ := y
  have P1 := Lib.hid (fun W => wdPut_at xn xh xl W)
  have P2 := Lib.hid (fun W => wdPut_at yn yh yl W)
  rw [show canW ⟨xn, xh, xl⟩ = putN xn xh xl from rfl, show canW ⟨yn, yh, yl⟩ = putN yn yh yl from rfl] at HR
  generalize putN xn xh xl = X at HR P1
  generalize putN yn yh yl = Y at HR P2
  have CA := Lib.hid (fun W => wdAbove_at X Y W)
  have CB := Lib.hid (fun W => wdAbove_at Y X W)
  obtain ⟨Xn, Xh, Xl⟩ := X
  obtain ⟨Yn, Yh, Yl⟩ := Y
  obtain ⟨A1, hA1, n1, z1, m1⟩ := alloc_named2 w (.cells #[.bool xn, .int .u64 xh, .int .u64 xl] 150)
  obtain ⟨A2, hA2, n2, z2, m2⟩ := alloc_named2 A1 (.cells #[.bool yn, .int .u64 yh, .int .u64 yl] 150)
  have p1 := m2.heap n1 (by simp)
  rw [z1] at n2 z2
  have x0 := cell_blk p1 0
  have x1 := cell_blk p1 1
  have x2 := cell_blk p1 2
  have y0 := cell_blk n2 0
  have y1 := cell_blk n2 1
  have y2 := cell_blk n2 2
  simp only [List.getElem?_toArray, List.getElem?_cons_succ, List.getElem?_cons_zero] at x0 x1 x2 y0 y1 y2
  have HM := Lib.hid ((m1.trans m2).drew)
  have HP1 := Lib.hid p1
  have HN2 := Lib.hid n2
  clear n1 n2 p1 m1 m2
  unfold wdV at P1 P2 CA CB ⊢
  dsimp only at HR P1 P2 CA CB ⊢
  go_enter Tryz.func83, Tryz.ntmps83
  go_wp2_with fail
  refine wp_plan [([0, 2, 4, 7, 9, 11, 1, 3, 5, 8, 10, 12], 6, [7, 9, 11, 8, 10, 12]), ([], 13, []), ([], 14, []), ([], 15, [])] [] (by kernel_rfl) (by kernel_rfl) ?_
  simp only [wpSegs, opsOf, List.map_cons, List.map_nil, opN, List.getD_cons_zero, List.getD_cons_succ]
  go_wp2_with fail
  refine ⟨by first | trivial | rfl, ?_⟩
  go_wp2_with fail
  refine (P1.out _).mono ?_
  rintro e w3 ⟨rfl, m3⟩
  have b1 := m3.heap (show A2.drew.heap[w.heap.size]? = _ from HP1.out) (by simp)
  have b2 := m3.heap (show A2.drew.heap[w.heap.size + 1]? = _ from HN2.out) (by simp)
  have y0 := cell_blk b2 0
  have y1 := cell_blk b2 1
  have y2 := cell_blk b2 2
  simp only [List.getElem?_toArray, List.getElem?_cons_succ, List.getElem?_cons_zero] at y0 y1 y2
  have HB1 := Lib.hid b1
  have HB2 := Lib.hid b2
  have HM3 := Lib.hid (HM.out.trans m3)
  clear b1 b2 m3
  go_wp2_with fail
  refine ⟨?agA, ?_⟩
  case agA =>
    intro i hi hw
    simp only [List.mem_cons, List.not_mem_nil, or_false] at hi
    rcases hi with rfl | rfl | rfl | rfl | rfl | rfl
    all_goals (simp only [opN, List.getD_cons_zero, List.getD_cons_succ, slotOf]; go_simp)
  go_wp2_with fail
  refine ⟨by first | trivial | rfl, ?_⟩
  go_wp2_with fail
  refine (P2.out _).mono ?_
  rintro e w4 ⟨rfl, m4⟩
  have b1 := m4.heap HB1.out (by simp)
  have b2 := m4.heap HB2.out (by simp)
  have f10 := frozen_blk b1 0
  have f11 := frozen_blk b1 1
  have f12 := frozen_blk b1 2
  have c10 := cell_blk b1 0
  have c11 := cell_blk b1 1
  have c12 := cell_blk b1 2
  simp only [List.getElem?_toArray, List.getElem?_cons_succ, List.getElem?_cons_zero] at c10 c11 c12
  obtain ⟨W5, h5, m5, b5⟩ := set3 b1 (.bool Xn) (.int .u64 Xh) (.int .u64 Xl)
  have b52 := m5.heap b2 (by simp)
  have f20 := frozen_blk b52 0
  have f21 := frozen_blk b52 1
  have f22 := frozen_blk b52 2
  have c20 := cell_blk b52 0
  have c21 := cell_blk b52 1
  have c22 := cell_blk b52 2
  obtain ⟨W6, h6, m6, b6⟩ := set3 b52 (.bool Yn) (.int .u64 Yh) (.int .u64 Yl)
  have b61 := m6.heap b5 (by simp)
  have k0 := cell_blk b61 0
  have k1 := cell_blk b61 1
  have k2 := cell_blk b61 2
  have l0 := cell_blk b6 0
  have l1 := cell_blk b6 1
  have l2 := cell_blk b6 2
  simp only [List.getElem?_toArray, List.getElem?_cons_succ, List.getElem?_cons_zero] at c20 c21 c22 k0 k1 k2 l0 l1 l2
  have H5 := Lib.hid h5
  have H6 := Lib.hid h6
  have HM6 := Lib.hid (mod_over (mod_over (HM3.out.trans m4) m5 (by simp)) m6 (by simp))
  clear h5 h6 b1 b2 b5 b52 b6 b61 m4 m5 m6
  go_wp2_with fail
  refine ⟨again_nil, ?_⟩
  go_wp2_with fail
  refine ⟨by first | trivial | rfl, ?_⟩
  go_wp2_with fail
  simp only [H5.out]
  refine ⟨again_nil, ?_⟩
  go_wp2_with fail
  refine ⟨by first | trivial | rfl, ?_⟩
  go_wp2_with fail
  simp only [H6.out]
  refine ⟨again_nil, ?_⟩
  go_wp2_with fail
  refine ⟨by first | trivial | rfl, ?_⟩
  cases Xn with
  | true =>
    cases Yn with
    | true =>
      go_wp2_with fail
      refine (CB.out _).mono ?_
      rintro e w7 ⟨rfl, m7⟩
      have HM7 := Lib.hid (HM6.out.trans m7)
      clear m7
      go_wp2_with fail
      go_ret
      exact ⟨by rw [HR.out]; rfl, HM7.out⟩
    | false =>
      go_wp2_with fail
      go_ret
      exact ⟨by rw [HR.out]; rfl, HM6.out⟩
  | false =>
    cases Yn with
    | true =>
      go_wp2_with fail
      go_ret
      exact ⟨by rw [HR.out]; rfl, HM6.out⟩
    | false =>
      go_wp2_with fail
      refine (CA.out _).mono ?_
      rintro e w7 ⟨rfl, m7⟩
      have HM7 := Lib.hid (HM6.out.trans m7)
      clear m7
      go_wp2_with fail
      go_ret
      exact ⟨by rw [HR.out]; rfl, HM7.out⟩
end Go.Proofs.YtngglpekdjhbdaaGreat
namespace Go.Proofs.YtngglpekdjhbdaaGreat
open Go.RowKit Go.ChangeMaps Go.Deep
set_option linter.unusedSimpArgs false
set_option linter.unusedVariables false
set_option maxRecDepth 20000

set_option maxHeartbeats 4000000 in
theorem dIs2_at {w : World} {g : Nat} {c s c' s' : Int} (hb : w.heap[g]? = some (.cells #[.int .i64 c, .int .i64 s, .int .i64 c', .int .i64 s'] 33 (0, 0)))
    (hs : 0 ≤ s ∧ s ≤ 9) (hs' : 0 ≤ s' ∧ s' ≤ 9) : Calls Tryz.prog 81 #[.slice (some ⟨g, 0, none⟩) 2 2] w fun e w' => e = .returned (.bool true) ∧ Mod [] w w' := by
  have d0 : decide (s < 0) = false := decide_eq_false (by omega)
  have d1 : decide (9 < s) = false := decide_eq_false (by omega)
  have d2 : decide (s' < 0) = false := decide_eq_false (by omega)
  have d3 : decide (9 < s') = false := decide_eq_false (by omega)
  have hb2 := (((Mod.refl [] w).alloc (.cells #[.int .i64 c, .int .i64 s] 33))).heap hb (by simp)
  have h0 := cell_blk hb 0
  have h1 := cell_blk hb 1
  have h2' := cell_blk hb2 2
  have h3' := cell_blk hb2 3
  simp only [List.getElem?_toArray, List.getElem?_cons_succ, List.getElem?_cons_zero] at h0 h1 h2' h3'
  have HM := Lib.hid (((Mod.refl [] w).alloc (.cells #[.int .i64 c, .int .i64 s] 33)).alloc (.cells #[.int .i64 c', .int .i64 s'] 33))
  clear hb hb2
  go_enter Tryz.func81, Tryz.ntmps81
  go_wp2
  go_rounds 3
  all_goals
    go_ret
    exact ⟨rfl, HM.out⟩
theorem boolN_eq {a b : Bool} (h : (a = true) = (b = true)) : Ending.returned (.bool a) = .returned (.bool b) := by
  cases a <;> cases b <;> simp_all
def decOkN (c s : Int) : Bool := decide (0 ≤ s) && decide (s ≤ 9) && (decide (s = 0) || decide (Int.tmod c 10 ≠ 0))
theorem dMay_at (c s : Int) (w : World) : Calls Tryz.prog 69 #[.agg #[.int .i64 c, .int .i64 s]] w fun e w' => e = .returned (.bool (decOkN c s)) ∧ Mod [] w w' := by
  go_enter Tryz.func69, Tryz.ntmps69
  go_wp2
  go_rounds 2
  all_goals
    go_ret
    refine ⟨boolN_eq ?_, ?_⟩
    · simp [decOkN, *] <;> omega
    · exact ((((Mod.refl _ _).alloc _).alloc _).alloc _)
end Go.Proofs.YtngglpekdjhbdaaGreat
namespace Go.Proofs.YtngglpekdjhbdaaGreat
open Go.RowKit Go.ChangeMaps Go.Deep
set_option linter.unusedSimpArgs false
set_option linter.unusedVariables false
set_option maxRecDepth 20000

def numOk (v : Vl) : Bool := decide (v.k = 1) && decOkN v.c v.s
def truthOk (v : Vl) : Bool := decide (v.k = 2) || decide (v.k = 3)
theorem wnNum_at (k c s e : Int) (w : World) : Calls Tryz.prog 45 #[.agg #[.int .u8 k, .int .i64 c, .int .i64 s, .int .i64 e]] w fun x w' => x = .returned (.bool (numOk ⟨k, c, s, e⟩)) ∧ Mod [] w w' := by
  have hm := Lib.hid ((Mod.refl [] w).alloc (.cells #[.int .u8 k, .int .i64 c, .int .i64 s, .int .i64 e] 35))
  have CD := Lib.hid (fun W => dMay_at c s W)
  by_cases h : k = 1
  · subst h
    have HN := Lib.hid (show numOk ⟨1, c, s, e⟩ = decOkN c s by simp [numOk])
    generalize decOkN c s = b at CD HN
    go_enter Tryz.func45, Tryz.ntmps45
    go_wp2_with fail
    refine (CD.out _).mono ?_
    rintro x w1 ⟨rfl, m1⟩
    have HM := Lib.hid (hm.out.trans m1)
    clear m1
    go_wp2_with fail
    go_ret
    exact ⟨by rw [HN.out]; rfl, HM.out⟩
  · have hd : (k == 1) = false := by simpa using h
    have HN := Lib.hid (show numOk ⟨k, c, s, e⟩ = false by simp [numOk, h])
    generalize numOk ⟨k, c, s, e⟩ = b at HN ⊢
    clear h
    go_enter Tryz.func45, Tryz.ntmps45
    go_wp2_with fail
    go_ret
    exact ⟨by rw [HN.out]; rfl, hm.out⟩
theorem wnTruth_at (k c s e : Int) (w : World) : Calls Tryz.prog 46 #[.agg #[.int .u8 k, .int .i64 c, .int .i64 s, .int .i64 e]] w fun x w' => x = .returned (.bool (truthOk ⟨k, c, s, e⟩)) ∧ Mod [] w w' := by
  have hm := Lib.hid ((Mod.refl [] w).alloc (.cells #[.int .u8 k, .int .i64 c, .int .i64 s, .int .i64 e] 35))
  by_cases h : k = 2
  · subst h
    have HN := Lib.hid (show truthOk ⟨2, c, s, e⟩ = true by simp [truthOk])
    generalize truthOk ⟨2, c, s, e⟩ = b at HN ⊢
    go_enter Tryz.func46, Tryz.ntmps46
    go_wp2_with fail
    go_ret
    exact ⟨by rw [HN.out]; rfl, hm.out⟩
  · have hd : (k == 2) = false := by simpa using h
    by_cases h3 : k = 3
    · subst h3
      have HN := Lib.hid (show truthOk ⟨3, c, s, e⟩ = true by simp [truthOk])
      generalize truthOk ⟨3, c, s, e⟩ = b at HN ⊢
      go_enter Tryz.func46, Tryz.ntmps46
      go_wp2_with fail
      go_ret
      exact ⟨by rw [HN.out]; rfl, hm.out⟩
    · have hd3 : (k == 3) = false := by simpa using h3
      have HN := Lib.hid (show truthOk ⟨k, c, s, e⟩ = false by simp [truthOk, h, h3])
      generalize truthOk ⟨k, c, s, e⟩ = b at HN ⊢
      clear h h3
      go_enter Tryz.func46, Tryz.ntmps46
      go_wp2_with fail
      go_ret
      exact ⟨by rw [HN.out]; rfl, hm.out⟩
end Go.Proofs.YtngglpekdjhbdaaGreat
namespace Go.Proofs.YtngglpekdjhbdaaGreat
open Go.RowKit Go.ChangeMaps Go.Deep
set_option linter.unusedSimpArgs false
set_option linter.unusedVariables false
set_option maxRecDepth 20000

def vlA (v : Vl) : Array Value := #[.int .u8 v.k, .int .i64 v.c, .int .i64 v.s, .int .i64 v.e]
/-- the cell of what was met -/
def SumAt (w : World) (b : Nat) (v : Vl) : Prop := w.heap[b]? = some (.cells (vlA v) 96 (0, 0))
def takeV (s v : Vl) (better : Bool) : Vl := if s.k = 0 ∨ better = true then v else s
theorem wnTake_at {w : World} {b : Nat} {s v : Vl} {better : Bool} (h : SumAt w b s) : Calls Tryz.prog 68 #[.pointer (some ⟨b, 0, none⟩), .agg (vlA v), .bool better] w fun x w' => x = .returned (.tuple #[]) ∧ SumAt w' b (takeV s v better) ∧ Mod [b] w w' := by
  obtain ⟨k, c, s, e⟩ := s
  obtain ⟨k', c', s', e'⟩ := v
  unfold SumAt vlA at h ⊢
  dsimp only at h ⊢
  have mA := (Mod.refl [] w).alloc (.cells #[.int .u8 k', .int .i64 c', .int .i64 s', .int .i64 e'] 35)
  obtain ⟨A1, hA1, n1, z1, m1⟩ := alloc_named2 w (.cells #[.int .u8 k', .int .i64 c', .int .i64 s', .int .i64 e'] 35)
  have h1 := m1.heap h (by simp)
  have x0 := cell_blk n1 0
  have x1 := cell_blk n1 1
  have x2 := cell_blk n1 2
  have x3 := cell_blk n1 3
  have s0 := cell_blk h1 0
  have f0 := frozen_blk h1 0
  have f1 := frozen_blk h1 1
  have f2 := frozen_blk h1 2
  have f3 := frozen_blk h1 3
  have s1 := cell_blk h1 1
  have s2 := cell_blk h1 2
  have s3 := cell_blk h1 3
  simp only [List.getElem?_toArray, List.getElem?_cons_succ, List.getElem?_cons_zero] at x0 x1 x2 x3 s0 s1 s2 s3
  obtain ⟨W2, h2, m2, b2⟩ := set4 h1 (.int .u8 k') (.int .i64 c') (.int .i64 s') (.int .i64 e')
  have H2 := Lib.hid h2
  have HB2 := Lib.hid b2
  have HM2 := Lib.hid ((m1.nil (l := [b])).trans m2)
  have HM1 := Lib.hid (m1.nil (l := [b]))
  have HB1 := Lib.hid h1
  clear mA n1 m1 h h1 h2 b2 m2
  by_cases hz : k = 0
  · subst hz
    have HT := Lib.hid (show takeV ⟨0, c, s, e⟩ ⟨k', c', s', e'⟩ better = ⟨k', c', s', e'⟩ by simp [takeV])
    rw [HT.out]
    go_enter Tryz.func68, Tryz.ntmps68
    go_wp2_with fail
    simp only [H2.out]
    go_end0
    exact ⟨rfl, HB2.out, HM2.out⟩
  · have hd : (k == 0) = false := by simpa using hz
    cases better with
    | true =>
      have HT := Lib.hid (show takeV ⟨k, c, s, e⟩ ⟨k', c', s', e'⟩ true = ⟨k', c', s', e'⟩ by simp [takeV])
      rw [HT.out]
      clear hz
      go_enter Tryz.func68, Tryz.ntmps68
      go_wp2_with fail
      simp only [H2.out]
      go_end0
      exact ⟨rfl, HB2.out, HM2.out⟩
    | false =>
      have HT := Lib.hid (show takeV ⟨k, c, s, e⟩ ⟨k', c', s', e'⟩ false = ⟨k, c, s, e⟩ by simp [takeV, hz])
      rw [HT.out]
      clear hz
      go_enter Tryz.func68, Tryz.ntmps68
      go_wp2_with fail
      go_end0
      exact ⟨rfl, HB1.out, HM1.out⟩
end Go.Proofs.YtngglpekdjhbdaaGreat
namespace Go.Proofs.YtngglpekdjhbdaaGreat
open Go.RowKit Go.ChangeMaps Go.Deep
set_option linter.unusedSimpArgs false
set_option linter.unusedVariables false
set_option maxRecDepth 20000

theorem sched_plan3 {P : Program} {l : List Oper} {Q : Exit → Act → World → Prop} {k i k2 i2 k3 i3 : Nat} (segs : List (List Nat × Nat × List Nat)) (last : List Nat) {a : Act} {w : World} (hok : planOk P (waits (waits (waits l k i) k2 i2) k3 i3) segs last = true) (h : wpSegs P l (fun a w => Q .normal a w) last segs a w) : Sched P (waits (waits (waits l k i) k2 i2) k3 i3) Q a w :=
  sched_plan segs last hok (by rw [wpSegs_waits, wpSegs_waits, wpSegs_waits]; exact h)
/-- a number raised by n places, as the code has it -/
def raisedN (c : Int) (n : Nat) : Wd := timesN (ofN c).neg (sizeN c) (10 ^ n)
set_option maxHeartbeats 8000000 in
theorem dcRaised_at (c : Int) (s n : Nat) (hn : n ≤ 19) (w : World) : Calls Tryz.prog 91 #[.agg #[.int .i64 c, .int .i64 s], .int .i64 ((s + n : Nat) : Int)] w fun e w' => e = .returned (wdV (raisedN c n)) ∧ Mod [] w w' := by
  have hp : 10 ^ n ≤ 10 ^ 19 := Nat.pow_le_pow_right (by omega) hn
  have C1 := Lib.hid (fun W => wdOf_at c W)
  have C2 := Lib.hid (fun W => wdTen_at n hn W)
  have C3 := Lib.hid (fun W => wdTimes_at (ofN c).neg (sizeN c) (10 ^ n) (sizeN_lt c) (by omega) W)
  have HO := Lib.hid (show ofN c = ⟨(ofN c).neg, 0, sizeN c⟩ from rfl)
  rw [HO.out] at C1
  have HRR := Lib.hid (show raisedN c n = timesN (ofN c).neg (sizeN c) (10 ^ n) from rfl)
  generalize timesN (ofN c).neg (sizeN c) (10 ^ n) = R at C3 HRR
  generalize 10 ^ n = p at C2 C3 hp
  clear HO
  generalize (ofN c).neg = neg at C1 C3
  generalize sizeN c = lo at C1 C3
  obtain ⟨rn, rh, rl⟩ := R
  have hwrap : IntKind.i64.wrap (n : Int) = n := by simp [IntKind.wrap, IntKind.bits, IntKind.signed]; omega
  have hsub : ((s + n : Nat) : Int) - (s : Int) = n := by omega
  obtain ⟨A1, hA1, n1, z1, m1⟩ := alloc_named2 w (.cells #[.int .i64 c, .int .i64 s] 33)
  obtain ⟨A2, hA2, n2, z2, m2⟩ := alloc_named2 A1 (.cells #[.bool false, .int .u64 0, .int .u64 0] 150)
  have p1 := m2.heap n1 (by simp)
  rw [z1] at n2 z2
  have x0 := cell_blk p1 0
  have x1 := cell_blk p1 1
  simp only [List.getElem?_toArray, List.getElem?_cons_succ, List.getElem?_cons_zero] at x0 x1
  have HM := Lib.hid ((m1.trans m2).drew)
  have HN2 := Lib.hid n2
  have HP1 := Lib.hid p1
  clear n1 n2 p1 m1 m2
  rw [HRR.out]
  unfold wdV at C1 C3 ⊢
  dsimp only at C1 C3 ⊢
  generalize hw : ((s + n : Nat) : Int) = sn at hsub ⊢
  clear hw
  go_enter Tryz.func91, Tryz.ntmps91
  go_wp2_with fail
  refine wp_sched (by kernel_rfl) (sched_either 2 12 (by decide) (sched_either 7 12 (by decide) (sched_either 8 12 (by decide) (sched_plan3 [([0, 3, 4, 1, 5, 6], 2, [4, 5, 6]), ([], 7, []), ([], 8, []), ([9, 10, 11], 12, []), ([], 13, [])] [14] (by kernel_rfl) ?L1) (sched_plan3 [([0, 3, 4, 1, 5, 6], 2, [4, 5, 6]), ([], 7, []), ([], 12, []), ([], 8, []), ([9, 10, 11], 13, [])] [14] (by kernel_rfl) ?L2)) (sched_plan2 [([0, 3, 4, 1, 5, 6], 2, [4, 5, 6]), ([], 12, [4, 5, 6]), ([], 7, []), ([], 8, []), ([9, 10, 11], 13, [])] [14] (by kernel_rfl) ?L3)) (sched_plan1 [([0, 3, 4, 1, 5, 6], 12, [0, 4, 1, 5, 6]), ([], 2, [4, 5, 6]), ([], 7, []), ([], 8, []), ([9, 10, 11], 13, [])] [14] (by kernel_rfl) ?L4))
  case L1 =>
    simp only [wpSegs, opsOf, List.map_cons, List.map_nil, opN, List.getD_cons_zero, List.getD_cons_succ]
    go_wp2_with fail
    refine ⟨by first | trivial | rfl, ?_⟩
    go_wp2_with fail
    refine (C1.out _).mono ?_
    rintro e w3 ⟨rfl, m3⟩
    have HR3 := Lib.hid (m3.heap (show A2.drew.heap[w.heap.size + 1]? = _ from HN2.out) (by simp))
    have HM3 := Lib.hid (HM.out.trans m3)
    have y1 := cell_blk (m3.heap (show A2.drew.heap[w.heap.size]? = _ from HP1.out) (by simp)) 1
    simp only [List.getElem?_toArray, List.getElem?_cons_succ, List.getElem?_cons_zero] at y1
    clear m3
    go_wp2_with fail
    refine ⟨?agA, ?_⟩
    case agA =>
      intro i hi hw
      simp only [List.mem_cons, List.not_mem_nil, or_false] at hi
      rcases hi with rfl | rfl | rfl
      all_goals (simp only [opN, List.getD_cons_zero, List.getD_cons_succ, slotOf]; go_simp; try simp only [hwrap])
    go_wp2_with fail
    refine ⟨by first | trivial | rfl, ?_⟩
    go_wp2_with fail
    refine (C2.out _).mono ?_
    rintro e w4 ⟨rfl, rfl⟩
    go_wp2_with fail
    refine ⟨again_nil, ?_⟩
    go_wp2_with fail
    refine ⟨by first | trivial | rfl, ?_⟩
    go_wp2_with fail
    refine (C3.out _).mono ?_
    rintro e w4 ⟨rfl, m4⟩
    have HR4 := Lib.hid (m4.heap HR3.out (by simp))
    have HM4 := Lib.hid (HM3.out.trans m4)
    clear m4
    obtain ⟨W5, hW5, n5, z5, m5⟩ := alloc_named2 w4 (.cells #[.bool false, .int .u64 0, .int .u64 0] 150)
    have g0 := cell_blk n5 0
    have g1 := cell_blk n5 1
    have g2 := cell_blk n5 2
    have k0 := frozen_blk n5 0
    have k1 := frozen_blk n5 1
    have k2 := frozen_blk n5 2
    simp only [List.getElem?_toArray, List.getElem?_cons_succ, List.getElem?_cons_zero] at g0 g1 g2
    obtain ⟨W6, h6, m6, b6⟩ := set3 n5 (.bool rn) (.int .u64 rh) (.int .u64 rl)
    have q0 := cell_blk b6 0
    have q1 := cell_blk b6 1
    have q2 := cell_blk b6 2
    have hw4 := lt_of_heap HR4.out
    have r6 := m6.heap (m5.heap HR4.out (by simp)) (by simp; omega)
    have r0 := cell_blk r6 0
    have r1 := cell_blk r6 1
    have r2 := cell_blk r6 2
    have j0 := frozen_blk r6 0
    have j1 := frozen_blk r6 1
    have j2 := frozen_blk r6 2
    simp only [List.getElem?_toArray, List.getElem?_cons_succ, List.getElem?_cons_zero] at q0 q1 q2 r0 r1 r2
    obtain ⟨W7, h7, m7, b7⟩ := set3 r6 (.bool rn) (.int .u64 rh) (.int .u64 rl)
    have H6 := Lib.hid h6
    have H7 := Lib.hid h7
    have HB7 := Lib.hid b7
    have HM7 := Lib.hid (mod_over (mod_over (HM4.out.trans m5) m6 (by have := HM4.out.size; simp; omega)) m7 (by simp))
    clear m5 m6 m7 n5 b6 r6 b7 h6 h7
    go_wp2_with fail
    refine ⟨again_nil, ?_⟩
    go_wp2_with fail
    refine ⟨by first | trivial | rfl, ?_⟩
    go_wp2_with fail
    refine ⟨again_nil, ?_⟩
    go_wp2_with fail
    refine ⟨by first | trivial | rfl, ?_⟩
    go_wp2_with fail
    simp only [H6.out]
    refine ⟨again_nil, ?_⟩
    go_wp2_with fail
    refine ⟨by first | trivial | rfl, ?_⟩
    go_wp2_with fail
    simp only [H7.out]
    refine bodyPost_ret (results_cell_row (P := Tryz.prog) (t := 150) (cs := #[.bool rn, .int .u64 rh, .int .u64 rl]) (fr := (0, 0)) (g := w.heap.size + 1) (h := rfl) (hp := rfl) (hg := HB7.out) (hu := Tryz.underlying150) (hd := rfl) (hi := by rw [sizeWide]; rfl) ..) rfl ⟨rfl, HM7.out⟩
  case L2 =>
    simp only [wpSegs, opsOf, List.map_cons, List.map_nil, opN, List.getD_cons_zero, List.getD_cons_succ]
    go_wp2_with fail
    refine ⟨by first | trivial | rfl, ?_⟩
    go_wp2_with fail
    refine (C1.out _).mono ?_
    rintro e w3 ⟨rfl, m3⟩
    have HR3 := Lib.hid (m3.heap (show A2.drew.heap[w.heap.size + 1]? = _ from HN2.out) (by simp))
    have HP3 := Lib.hid (m3.heap (show A2.drew.heap[w.heap.size]? = _ from HP1.out) (by simp))
    have HM3 := Lib.hid (HM.out.trans m3)
    have y1 := cell_blk HP3.out 1
    simp only [List.getElem?_toArray, List.getElem?_cons_succ, List.getElem?_cons_zero] at y1
    have hw3 : w.heap.size + 1 < w3.heap.size := lt_of_heap HR3.out
    clear m3
    obtain ⟨W5, hW5, n5, z5, m5⟩ := alloc_named2 w3 (.cells #[.bool false, .int .u64 0, .int .u64 0] 150)
    have HN5 := Lib.hid n5
    have HM5 := Lib.hid (HM3.out.trans m5)
    have HR5 := Lib.hid (m5.heap HR3.out (by simp))
    clear n5 m5
    go_wp2_with fail
    refine ⟨?agA, ?_⟩
    case agA =>
      intro i hi hw
      simp only [List.mem_cons, List.not_mem_nil, or_false] at hi
      rcases hi with rfl | rfl | rfl
      all_goals (simp only [opN, List.getD_cons_zero, List.getD_cons_succ, slotOf]; go_simp; try simp only [hwrap])
    go_wp2_with fail
    refine ⟨by first | trivial | rfl, ?_⟩
    go_wp2_with fail
    refine (C2.out _).mono ?_
    rintro e w9 ⟨rfl, rfl⟩
    go_wp2_with fail
    refine ⟨again_nil, ?_⟩
    go_wp2_with fail
    refine ⟨by first | trivial | rfl, ?_⟩
    go_wp2_with fail
    refine ⟨again_nil, ?_⟩
    go_wp2_with fail
    refine ⟨by first | trivial | rfl, ?_⟩
    go_wp2_with fail
    refine (C3.out _).mono ?_
    rintro e w4 ⟨rfl, m4⟩
    have n6 := m4.heap HN5.out (by simp)
    have HM4 := Lib.hid (HM5.out.trans m4)
    have HR4 := m4.heap HR5.out (by simp)
    have g0 := cell_blk n6 0
    have g1 := cell_blk n6 1
    have g2 := cell_blk n6 2
    have k0 := frozen_blk n6 0
    have k1 := frozen_blk n6 1
    have k2 := frozen_blk n6 2
    simp only [List.getElem?_toArray, List.getElem?_cons_succ, List.getElem?_cons_zero] at g0 g1 g2
    obtain ⟨W6, h6, m6, b6⟩ := set3 n6 (.bool rn) (.int .u64 rh) (.int .u64 rl)
    have q0 := cell_blk b6 0
    have q1 := cell_blk b6 1
    have q2 := cell_blk b6 2
    have r6 := m6.heap HR4 (by simp; omega)
    have r0 := cell_blk r6 0
    have r1 := cell_blk r6 1
    have r2 := cell_blk r6 2
    have j0 := frozen_blk r6 0
    have j1 := frozen_blk r6 1
    have j2 := frozen_blk r6 2
    simp only [List.getElem?_toArray, List.getElem?_cons_succ, List.getElem?_cons_zero] at q0 q1 q2 r0 r1 r2
    obtain ⟨W7, h7, m7, b7⟩ := set3 r6 (.bool rn) (.int .u64 rh) (.int .u64 rl)
    have H6 := Lib.hid h6
    have H7 := Lib.hid h7
    have HB7 := Lib.hid b7
    have HM7 := Lib.hid (mod_over (mod_over HM4.out m6 (by simp; omega)) m7 (by simp))
    clear m4 m6 m7 n6 b6 r6 b7 h6 h7 HR4
    go_wp2_with fail
    refine ⟨again_nil, ?_⟩
    go_wp2_with fail
    refine ⟨by first | trivial | rfl, ?_⟩
    go_wp2_with fail
    simp only [H6.out]
    refine ⟨again_nil, ?_⟩
    go_wp2_with fail
    refine ⟨by first | trivial | rfl, ?_⟩
    go_wp2_with fail
    simp only [H7.out]
    refine bodyPost_ret (results_cell_row (P := Tryz.prog) (t := 150) (cs := #[.bool rn, .int .u64 rh, .int .u64 rl]) (fr := (0, 0)) (g := w.heap.size + 1) (h := rfl) (hp := rfl) (hg := HB7.out) (hu := Tryz.underlying150) (hd := rfl) (hi := by rw [sizeWide]; rfl) ..) rfl ⟨rfl, HM7.out⟩
  case L3 =>
    simp only [wpSegs, opsOf, List.map_cons, List.map_nil, opN, List.getD_cons_zero, List.getD_cons_succ]
    go_wp2_with fail
    refine ⟨by first | trivial | rfl, ?_⟩
    go_wp2_with fail
    refine (C1.out _).mono ?_
    rintro e w3 ⟨rfl, m3⟩
    have HR3 := Lib.hid (m3.heap (show A2.drew.heap[w.heap.size + 1]? = _ from HN2.out) (by simp))
    have HP3 := Lib.hid (m3.heap (show A2.drew.heap[w.heap.size]? = _ from HP1.out) (by simp))
    have HM3 := Lib.hid (HM.out.trans m3)
    have y1 := cell_blk HP3.out 1
    simp only [List.getElem?_toArray, List.getElem?_cons_succ, List.getElem?_cons_zero] at y1
    have hw3 : w.heap.size + 1 < w3.heap.size := lt_of_heap HR3.out
    obtain ⟨W5, hW5, n5, z5, m5⟩ := alloc_named2 w3 (.cells #[.bool false, .int .u64 0, .int .u64 0] 150)
    have HN5 := Lib.hid n5
    have HM5 := Lib.hid (HM3.out.trans m5)
    have HR5 := Lib.hid (m5.heap HR3.out (by simp))
    have t1 := cell_blk (m5.heap HP3.out (by simp)) 1
    simp only [List.getElem?_toArray, List.getElem?_cons_succ, List.getElem?_cons_zero] at t1
    clear n5 m5 m3
    go_wp2_with fail
    refine ⟨?agA, ?_⟩
    case agA =>
      intro i hi hw
      simp only [List.mem_cons, List.not_mem_nil, or_false] at hi
      rcases hi with rfl | rfl | rfl
      all_goals (simp only [opN, List.getD_cons_zero, List.getD_cons_succ, slotOf]; go_simp; try simp only [hwrap])
    go_wp2_with fail
    refine ⟨by first | trivial | rfl, ?_⟩
    go_wp2_with fail
    refine ⟨?agB, ?_⟩
    case agB =>
      intro i hi hw
      simp only [List.mem_cons, List.not_mem_nil, or_false] at hi
      rcases hi with rfl | rfl | rfl
      all_goals (simp only [opN, List.getD_cons_zero, List.getD_cons_succ, slotOf]; go_simp; try simp only [hwrap])
    go_wp2_with fail
    refine ⟨by first | trivial | rfl, ?_⟩
    go_wp2_with fail
    refine (C2.out _).mono ?_
    rintro e w9 ⟨rfl, rfl⟩
    go_wp2_with fail
    refine ⟨again_nil, ?_⟩
    go_wp2_with fail
    refine ⟨by first | trivial | rfl, ?_⟩
    go_wp2_with fail
    refine (C3.out _).mono ?_
    rintro e w4 ⟨rfl, m4⟩
    have n6 := m4.heap HN5.out (by simp)
    have HM4 := Lib.hid (HM5.out.trans m4)
    have HR4 := m4.heap HR5.out (by simp)
    have g0 := cell_blk n6 0
    have g1 := cell_blk n6 1
    have g2 := cell_blk n6 2
    have k0 := frozen_blk n6 0
    have k1 := frozen_blk n6 1
    have k2 := frozen_blk n6 2
    simp only [List.getElem?_toArray, List.getElem?_cons_succ, List.getElem?_cons_zero] at g0 g1 g2
    obtain ⟨W6, h6, m6, b6⟩ := set3 n6 (.bool rn) (.int .u64 rh) (.int .u64 rl)
    have q0 := cell_blk b6 0
    have q1 := cell_blk b6 1
    have q2 := cell_blk b6 2
    have r6 := m6.heap HR4 (by simp; omega)
    have r0 := cell_blk r6 0
    have r1 := cell_blk r6 1
    have r2 := cell_blk r6 2
    have j0 := frozen_blk r6 0
    have j1 := frozen_blk r6 1
    have j2 := frozen_blk r6 2
    simp only [List.getElem?_toArray, List.getElem?_cons_succ, List.getElem?_cons_zero] at q0 q1 q2 r0 r1 r2
    obtain ⟨W7, h7, m7, b7⟩ := set3 r6 (.bool rn) (.int .u64 rh) (.int .u64 rl)
    have H6 := Lib.hid h6
    have H7 := Lib.hid h7
    have HB7 := Lib.hid b7
    have HM7 := Lib.hid (mod_over (mod_over HM4.out m6 (by simp; omega)) m7 (by simp))
    clear m4 m6 m7 n6 b6 r6 b7 h6 h7 HR4
    go_wp2_with fail
    refine ⟨again_nil, ?_⟩
    go_wp2_with fail
    refine ⟨by first | trivial | rfl, ?_⟩
    go_wp2_with fail
    simp only [H6.out]
    refine ⟨again_nil, ?_⟩
    go_wp2_with fail
    refine ⟨by first | trivial | rfl, ?_⟩
    go_wp2_with fail
    simp only [H7.out]
    refine bodyPost_ret (results_cell_row (P := Tryz.prog) (t := 150) (cs := #[.bool rn, .int .u64 rh, .int .u64 rl]) (fr := (0, 0)) (g := w.heap.size + 1) (h := rfl) (hp := rfl) (hg := HB7.out) (hu := Tryz.underlying150) (hd := rfl) (hi := by rw [sizeWide]; rfl) ..) rfl ⟨rfl, HM7.out⟩
  case L4 =>
    simp only [wpSegs, opsOf, List.map_cons, List.map_nil, opN, List.getD_cons_zero, List.getD_cons_succ]
    obtain ⟨W5, hW5, n5, z5, m5⟩ := alloc_named2 A2 (.cells #[.bool false, .int .u64 0, .int .u64 0] 150)
    rw [z2] at n5
    have HN5 := Lib.hid n5
    have HM5 := Lib.hid (HM.out.trans ((show Mod [] A2.drew W5.drew from ⟨m5.os, m5.tape, m5.output, m5.size, m5.block⟩)))
    have HR5 := Lib.hid (m5.heap HN2.out (by simp))
    have HP5 := Lib.hid (m5.heap HP1.out (by simp))
    have t0 := cell_blk HP5.out 0
    have t1 := cell_blk HP5.out 1
    simp only [List.getElem?_toArray, List.getElem?_cons_succ, List.getElem?_cons_zero] at t0 t1
    clear n5 m5
    go_wp2_with fail
    refine ⟨by first | trivial | rfl, ?_⟩
    go_wp2_with fail
    refine ⟨?agA, ?_⟩
    case agA =>
      intro i hi hw
      simp only [List.mem_cons, List.not_mem_nil, or_false] at hi
      rcases hi with rfl | rfl | rfl | rfl | rfl
      all_goals (simp only [opN, List.getD_cons_zero, List.getD_cons_succ, slotOf]; go_simp; try simp only [hwrap])
    go_wp2_with fail
    refine ⟨by first | trivial | rfl, ?_⟩
    go_wp2_with fail
    refine (C1.out _).mono ?_
    rintro e w3 ⟨rfl, m3⟩
    have HR3 := Lib.hid (m3.heap (show W5.drew.heap[w.heap.size + 1]? = _ from HR5.out) (by simp))
    have HP3 := Lib.hid (m3.heap (show W5.drew.heap[w.heap.size]? = _ from HP5.out) (by simp))
    have HN3 := Lib.hid (m3.heap (show W5.drew.heap[w.heap.size + 1 + 1]? = _ from HN5.out) (by simp))
    have HM3 := Lib.hid (HM5.out.trans m3)
    have y1 := cell_blk HP3.out 1
    simp only [List.getElem?_toArray, List.getElem?_cons_succ, List.getElem?_cons_zero] at y1
    clear m3
    go_wp2_with fail
    refine ⟨?agB, ?_⟩
    case agB =>
      intro i hi hw
      simp only [List.mem_cons, List.not_mem_nil, or_false] at hi
      rcases hi with rfl | rfl | rfl
      all_goals (simp only [opN, List.getD_cons_zero, List.getD_cons_succ, slotOf]; go_simp; try simp only [hwrap])
    go_wp2_with fail
    refine ⟨by first | trivial | rfl, ?_⟩
    go_wp2_with fail
    refine (C2.out _).mono ?_
    rintro e w9 ⟨rfl, rfl⟩
    go_wp2_with fail
    refine ⟨again_nil, ?_⟩
    go_wp2_with fail
    refine ⟨by first | trivial | rfl, ?_⟩
    go_wp2_with fail
    refine (C3.out _).mono ?_
    rintro e w4 ⟨rfl, m4⟩
    have n6 := m4.heap HN3.out (by simp)
    have HM4 := Lib.hid (HM3.out.trans m4)
    have HR4 := m4.heap HR3.out (by simp)
    have g0 := cell_blk n6 0
    have g1 := cell_blk n6 1
    have g2 := cell_blk n6 2
    have k0 := frozen_blk n6 0
    have k1 := frozen_blk n6 1
    have k2 := frozen_blk n6 2
    simp only [List.getElem?_toArray, List.getElem?_cons_succ, List.getElem?_cons_zero] at g0 g1 g2
    obtain ⟨W6, h6, m6, b6⟩ := set3 n6 (.bool rn) (.int .u64 rh) (.int .u64 rl)
    have q0 := cell_blk b6 0
    have q1 := cell_blk b6 1
    have q2 := cell_blk b6 2
    have r6 := m6.heap HR4 (by first | (simp; done) | (simp; omega))
    have r0 := cell_blk r6 0
    have r1 := cell_blk r6 1
    have r2 := cell_blk r6 2
    have j0 := frozen_blk r6 0
    have j1 := frozen_blk r6 1
    have j2 := frozen_blk r6 2
    simp only [List.getElem?_toArray, List.getElem?_cons_succ, List.getElem?_cons_zero] at q0 q1 q2 r0 r1 r2
    obtain ⟨W7, h7, m7, b7⟩ := set3 r6 (.bool rn) (.int .u64 rh) (.int .u64 rl)
    have H6 := Lib.hid h6
    have H7 := Lib.hid h7
    have HB7 := Lib.hid b7
    have HM7 := Lib.hid (mod_over (mod_over HM4.out m6 (by first | (simp; done) | (simp; omega))) m7 (by simp))
    clear m4 m6 m7 n6 b6 r6 b7 h6 h7 HR4
    go_wp2_with fail
    refine ⟨again_nil, ?_⟩
    go_wp2_with fail
    refine ⟨by first | trivial | rfl, ?_⟩
    go_wp2_with fail
    simp only [H6.out]
    refine ⟨again_nil, ?_⟩
    go_wp2_with fail
    refine ⟨by first | trivial | rfl, ?_⟩
    go_wp2_with fail
    simp only [H7.out]
    refine bodyPost_ret (results_cell_row (P := Tryz.prog) (t := 150) (cs := #[.bool rn, .int .u64 rh, .int .u64 rl]) (fr := (0, 0)) (g := w.heap.size + 1) (h := rfl) (hp := rfl) (hg := HB7.out) (hu := Tryz.underlying150) (hd := rfl) (hi := by rw [sizeWide]; rfl) ..) rfl ⟨rfl, HM7.out⟩
end Go.Proofs.YtngglpekdjhbdaaGreat
