/- Layer 13: BitempRects, walked. -/
import Derived.Test.YtngglpekdjhbdaaBzU
import Derived.Deep.CutRange
namespace Go.Proofs.Ytngglpekdjhbdaa
open Go.RowKit Go.ChangeMaps Go.Deep Tr
set_option linter.unusedSimpArgs false
set_option linter.unusedVariables false
set_option maxRecDepth 20000

theorem i64_nat {n : Nat} (h : n ≤ 140737488355328) : wrap64 (n : Int) = (n : Int) := by unfold wrap64; omega
structure Tw where
  a : Int
  b : Int
def encTw (p : Tw) : List Value := [.int .i64 p.a, .int .i64 p.b]
theorem encTw_len (p : Tw) : (encTw p).length = 2 := rfl
/-- does a rectangle have a transaction and a day? -/
def pB (t d : Int) (r : Rc) : Bool := decide (r.f ≤ d) && (decide (d < r.t) && hasB t r)
theorem pB_iff (t d : Int) (r : Rc) : pB t d r = true ↔ r.has t d := by
  unfold pB Rc.has
  rw [Bool.and_eq_true, Bool.and_eq_true, decide_eq_true_iff, decide_eq_true_iff, hasB_iff]
def wantF (t d : Int) (l : List Rc) : Int := l.foldl (fun w r => if pB t d r = true then r.v else w) 0
theorem wantF_snoc (t d : Int) (l : List Rc) (r : Rc) : wantF t d (l ++ [r]) = if pB t d r = true then r.v else wantF t d l := by unfold wantF; rw [List.foldl_append]; rfl
theorem want_at {S : Bs} {last t d : Int} {R R' : List Rc} (hS : S.Ok last) (h1 : RectsOf S R) (h2 : OverDay S d R') : wantF t d R = ((R'.find? (hasB t)).map Rc.v).getD 0 := by
  refine fold_find (fun r => ?_) fun a b ha hb pa pb => ?_
  · rw [pB_iff, hasB_iff, h1.mem, h2]
    unfold Rc.has
    constructor
    · rintro ⟨⟨i, k1, k2⟩, k3, k4, k5, k6⟩
      exact ⟨⟨i, k1, k2, k3, k4⟩, k5, k6⟩
    · rintro ⟨⟨i, k1, k2, k3, k4⟩, k5, k6⟩
      exact ⟨⟨i, k1, k2⟩, k3, k4, k5, k6⟩
  · obtain ⟨i, k1, k2⟩ := (h1.mem a).1 ha
    obtain ⟨j, q1, q2⟩ := (h1.mem b).1 hb
    have e := only_one hS k1 q1 k2 q2 ((pB_iff t d a).1 pa) ((pB_iff t d b).1 pb)
    subst e
    have k2' : S.rs[i]? = some a := k2
    rw [q2] at k2'
    cases k2'
    rfl
set_option maxHeartbeats 16000000 in
theorem law13_at {w : World} (CK : ∀ W, Calls Try.prog 21 #[] W fun e w' => e = .returned (.bool true) ∧ Mod [] W w') {a0 a1 : Option Addr} {n0 n1 c0 c1 : Nat} {l : List Pt} {at_ : List Tw} (h0 : RowAt encPt w (.slice a0 n0 c0) l) (h1 : RowAt encTw w (.slice a1 n1 c1) at_) (hn0 : n0 ≤ 140737488355328) (hn1 : n1 ≤ 140737488355328) (hat : ∀ p ∈ at_, -9223372036854775808 ≤ p.b ∧ p.b ≤ 9223372036854775807) :
    Calls Try.prog 6 #[.slice a0 n0 c0, .slice a1 n1 c1] w fun e w' => e = .returned (.bool true) ∧ Mod [] w w' := by
  have HK := Lib.hid CK
  have CN := Lib.hid (btNew_at w)
  have H0 := Lib.hid h0
  have H1 := Lib.hid h1
  have HAT := Lib.hid hat
  have hl0 : n0 = l.length := by obtain ⟨y, z, e⟩ := h0.form; simp only [Value.slice.injEq] at e; exact e.2.1
  have hl1 : n1 = at_.length := by obtain ⟨y, z, e⟩ := h1.form; simp only [Value.slice.injEq] at e; exact e.2.1
  have HL0 := Lib.hid hl0
  have HL1 := Lib.hid hl1
  clear CK h0 h1 hat hl0 hl1
  by_cases hg : 40 < n0 ∨ 40 < n1
  · rcases Decidable.em (40 < n0) with hg0 | hg0
    · have d0 : decide ((40 : Int) < (n0 : Int)) = true := decide_eq_true (by omega)
      clear CN
      go_enter Try.func6, Try.ntmps6
      go_wp2_with fail
      refine (HK.out _).mono ?_
      rintro e w1 ⟨rfl, m1⟩
      go_wp2_with fail
      go_ret
      exact ⟨rfl, m1⟩
    · have d0 : decide ((40 : Int) < (n0 : Int)) = false := decide_eq_false (by omega)
      have d1 : decide ((40 : Int) < (n1 : Int)) = true := decide_eq_true (by omega)
      clear CN
      go_enter Try.func6, Try.ntmps6
      go_wp2_with fail
      refine (HK.out _).mono ?_
      rintro e w1 ⟨rfl, m1⟩
      go_wp2_with fail
      go_ret
      exact ⟨rfl, m1⟩
  have d0 : decide ((40 : Int) < (n0 : Int)) = false := decide_eq_false (by omega)
  have d1 : decide ((40 : Int) < (n1 : Int)) = false := decide_eq_false (by omega)
  have hn0' : n0 ≤ 40 := by omega
  have hn1' : n1 ≤ 40 := by omega
  clear hg hn0 hn1
  go_enter Try.func6, Try.ntmps6
  go_wp2_with fail
  refine CN.out.mono ?_
  rintro e w1 ⟨s, BB, rfl, hB, m1, hBB⟩
  have HP0 := Lib.hid (show Puts13 w s 0 w1 from ⟨BB, 0, 0, emptyB, [], hB, empty_ok, by omega, fun i r h => h.elim, by simp, by omega, by simp [emptyB], m1, hBB⟩)
  clear hB m1 hBB CN
  go_wp2_with fail
  go_loopw [33] (fun s33 W => ∃ i : Nat, i ≤ n0 ∧ s33 = .int .i64 i ∧ Hid (Puts13 w s i W)) (fun s33 _ => n0 - (intOf s33).toNat)
  case atStart => exact ⟨0, by omega, rfl, HP0⟩
  case round =>
    obtain ⟨i, hi, rfl, hP⟩ := hrel
    clear HP0
    by_cases hlt : i < n0
    · obtain ⟨x, hx⟩ : ∃ x, l[i]? = some x := ⟨l[i]'(by rw [← HL0.out]; exact hlt), List.getElem?_eq_getElem _⟩
      obtain ⟨hnl, q, o, haq, hc, hrow⟩ := RowAt.cells_at encPt_len (H0.out.kept0 hP.out.mod) hx
      subst haq
      have HLI := Lib.hid (run_loadAt_mid (P := Try.prog) _ q (o + i * 4) 55 _ _ hrow Try.underlying55 rfl (by kernel_rfl))
      obtain ⟨X, hX, nX, sX, mX⟩ := alloc_named2 wr (.cells #[.int .i64 x.t, .int .i64 x.a, .int .i64 x.b, .int .i64 x.v] 55)
      have i0 := cell_blk nX 0
      have i1 := cell_blk nX 1
      have i2 := cell_blk nX 2
      have i3 := cell_blk nX 3
      simp only [List.getElem?_toArray, List.getElem?_cons_succ, List.getElem?_cons_zero] at i0 i1 i2 i3
      have CP := Lib.hid (put_any (hP.out.kept mX) (by omega) x.t x.a x.b x.v)
      have hj0 : decide ((i : Int) < 0) = false := decide_eq_false (by omega)
      have hj1 : decide ((n0 : Int) ≤ (i : Int)) = false := decide_eq_false (by omega)
      have hj2 : decide ((i : Int) < (n0 : Int)) = true := decide_eq_true (by omega)
      dsimp only [encPt] at HLI
      clear hrow hnl hx hP nX sX mX
      go_wp2_with ((with_reducible refine xLoadAt rfl HLI.out ?_ ?_ ?_); exact rfl; exact rfl)
      refine CP.out.mono ?_
      rintro e w3 ⟨⟨y, rfl⟩, hP3⟩
      have HP3 := Lib.hid hP3
      clear hP3 CP
      go_wp2_with fail
      go_roundw
      case rel => exact ⟨i + 1, by omega, by go_num, HP3⟩
      case measure => simp [intOf]; omega
    · obtain rfl : i = n0 := by omega
      have hj2 : decide ((i : Int) < (i : Int)) = false := decide_eq_false (by omega)
      rename World => wR
      obtain ⟨BB, n, last, S, D, hB, hOk, hl0, hE, hDl, hnl, hrl, hmd, hBB⟩ := hP.out.ex
      have HB := Lib.hid hB
      have HOK := Lib.hid hOk
      have CR := Lib.hid (biRects_at hB hOk (by omega))
      have hrs : S.rs.length ≤ 90000 := by omega
      have HMD := Lib.hid hmd
      clear hB hOk hl0 hE hDl hnl hrl hmd hBB hP
      go_wp2_with fail
      refine CR.out.mono ?_
      rintro e w2 ⟨v, R, rfl, hRO, hRl, oR, m2⟩
      obtain ⟨ra, rc, rfl⟩ := oR.lens
      obtain ⟨M, hM0⟩ : ∃ M, R.length = M := ⟨_, rfl⟩
      rw [hM0] at oR hRl ⊢
      have HRO := Lib.hid hRO
      have HOR := Lib.hid oR
      have HMM := Lib.hid hM0
      have HM2 := Lib.hid m2
      have HMR := Lib.hid (Mod.refl [] w2)
      clear hRO oR hM0 m2 CR
      go_wp2_with fail
      go_loopw [50] (fun s50 W => ∃ j : Nat, j ≤ M ∧ s50 = .int .i64 j ∧ Hid (Mod [] w2 W)) (fun s50 _ => M - (intOf s50).toNat)
      case atStart => exact ⟨0, by omega, rfl, HMR⟩
      case round =>
        obtain ⟨j, hj, rfl, hM⟩ := hrel
        clear HMR
        by_cases hlt2 : j < M
        · obtain ⟨r, hr⟩ : ∃ r, R[j]? = some r := ⟨R[j]'(by rw [HMM.out]; exact hlt2), List.getElem?_eq_getElem _⟩
          obtain ⟨ii, hi1, hi2⟩ := (HRO.out.mem r).1 (List.mem_of_getElem? hr)
          have HROK := Lib.hid (HOK.out.ok ii r hi1 hi2)
          have RR0 : OwnR encRc 5 61 wr wR.heap.size (.slice ra R.length rc) R := by rw [HMM.out]; exact HOR.out.kept0 hM.out
          obtain ⟨q, cap, heq, hq, hcap⟩ := RR0.at_ hr
          simp only [Value.slice.injEq] at heq
          obtain ⟨rfl, _, rfl⟩ := heq
          have RR : RcRow wr wR.heap.size q R.length rc R := ⟨rfl, RR0⟩
          have hMc : M ≤ rc := by rw [← HMM.out]; exact hcap
          have HLI := Lib.hid (RR.load hr)
          obtain ⟨X, hX, nX, sX, mX⟩ := alloc_named2 wr (.cells #[.int .i64 r.f, .int .i64 r.t, .int .i64 r.s, .int .i64 r.u, .int .i64 r.v] 61)
          have e0 := cell_blk nX 0
          have e1 := cell_blk nX 1
          have e2 := cell_blk nX 2
          have e3 := cell_blk nX 3
          have e4 := cell_blk nX 4
          simp only [List.getElem?_toArray, List.getElem?_cons_succ, List.getElem?_cons_zero] at e0 e1 e2 e3 e4
          have RX := RR.kept0 mX
          have HRX := Lib.hid RX
          have CL := Lib.hid (biLast_at (HB.out.kept0 ((HM2.out.trans (hM.out.trans mX)).trans ((Mod.refl [] X).drew))))
          have hj0 : decide ((j : Int) < 0) = false := decide_eq_false (by omega)
          have hj1 : decide ((M : Int) ≤ (j : Int)) = false := decide_eq_false (by omega)
          have hj2 : decide ((j : Int) < (M : Int)) = true := decide_eq_true (by omega)
          have dv : (r.v == 0) = false := by have := HROK.out; simp; omega
          have dft : decide (r.t ≤ r.f) = false := decide_eq_false (by have := HROK.out; omega)
          have ds1 : decide (r.s < 1) = false := decide_eq_false (by have := HROK.out; omega)
          have dls : decide (last < r.s) = false := decide_eq_false (by have := HROK.out; omega)
          have HMX := Lib.hid (hM.out.trans mX)
          have HNX := Lib.hid nX
          have HRJ := Lib.hid hr
          have HSX := Lib.hid sX
          clear RR0 RR hq hcap nX sX mX RX hr hi1 hi2
          go_upto_region 15 with ((with_reducible refine xLoadAt rfl HLI.out ?_ ?_ ?_); exact rfl; exact rfl)
          clear hX
          go_cut [103] from 55 to 103 (fun s103 wx => s103 = .bool false ∧ Hid (Mod [] X wx))
          case first =>
            by_cases hu : r.u = 0
            · rcases Nat.eq_zero_or_pos j with rfl | hj
              · have du : (r.u != 0) = false := by simp [hu]
                have dj : decide ((0 : Int) < ((0 : Nat) : Int)) = false := by simp
                clear hu
                refine wp_plan [([0, 1, 2, 3, 4, 6, 5, 7, 8, 9, 10, 11, 12, 13, 14, 15, 16, 17, 18, 19, 20, 22, 21, 23, 24, 25, 26, 27, 28, 30, 29], 31, [28, 29])] [32, 33, 34, 35, 36, 37, 38, 39, 44, 40, 45, 41, 42, 43, 46, 47, 48] (by kernel_rfl) (by kernel_rfl) ?_
                simp only [wpSegs, opsOf, List.map_cons, List.map_nil, opN, List.getD_cons_zero, List.getD_cons_succ]
                go_wp2_with fail
                refine ⟨by first | trivial | rfl, ?_⟩
                go_wp2_with fail
                refine CL.out.mono ?_
                rintro e w5 ⟨rfl, rfl⟩
                go_wp2_with fail
                refine ⟨?agX11, ?_⟩
                case agX11 =>
                  intro i hi hw
                  simp only [List.mem_cons, List.not_mem_nil, or_false] at hi
                  rcases hi with rfl | rfl
                  all_goals (simp only [opN, List.getD_cons_zero, List.getD_cons_succ, slotOf]; go_simp)
                go_wp2_with fail
                refine ⟨by first | trivial | rfl, ?_⟩
                go_wp2_with fail
                go_meet
                case rel => exact ⟨rfl, Lib.hid ((Mod.refl [] X).drew)⟩
              · obtain ⟨p, rfl⟩ : ∃ p, j = p + 1 := ⟨j - 1, by omega⟩
                obtain ⟨y, hy⟩ : ∃ y, R[p]? = some y := ⟨R[p]'(by rw [HMM.out]; omega), List.getElem?_eq_getElem _⟩
                have y0 := (HRX.out.cells hy).1
                have dy : decide (r.f < y.f) = false := decide_eq_false (by
                  have := srt_get HRO.out.srt hy HRJ.out (by omega)
                  rw [Bool.eq_false_iff, Ne, ltR_iff] at this
                  omega)
                clear hy
                have du : (r.u != 0) = false := by simp [hu]
                have dj : decide ((0 : Int) < ((p + 1 : Nat) : Int)) = true := decide_eq_true (by omega)
                have dp0 : decide ((p : Int) < 0) = false := decide_eq_false (by omega)
                have dp1 : decide ((M : Int) ≤ (p : Int)) = false := decide_eq_false (by omega)
                clear hu
                refine wp_plan [([0, 1, 2, 3, 4, 6, 5, 7, 8, 9, 10, 11, 12, 13, 14, 15, 16, 17, 18, 19, 20, 22, 21, 23, 24, 25, 26, 27, 28, 30, 29], 31, [28, 29])] [32, 33, 34, 35, 36, 37, 38, 39, 44, 40, 45, 41, 42, 43, 46, 47, 48] (by kernel_rfl) (by kernel_rfl) ?_
                simp only [wpSegs, opsOf, List.map_cons, List.map_nil, opN, List.getD_cons_zero, List.getD_cons_succ]
                go_wp2_with fail
                refine ⟨by first | trivial | rfl, ?_⟩
                go_wp2_with fail
                refine CL.out.mono ?_
                rintro e w5 ⟨rfl, rfl⟩
                go_wp2_with fail
                refine ⟨?agX10, ?_⟩
                case agX10 =>
                  intro i hi hw
                  simp only [List.mem_cons, List.not_mem_nil, or_false] at hi
                  rcases hi with rfl | rfl
                  all_goals (simp only [opN, List.getD_cons_zero, List.getD_cons_succ, slotOf]; go_simp)
                go_wp2_with fail
                refine ⟨by first | trivial | rfl, ?_⟩
                go_wp2_with fail
                go_meet
                case rel => exact ⟨rfl, Lib.hid ((Mod.refl [] X).drew)⟩
            · rcases Nat.eq_zero_or_pos j with rfl | hj
              · have du : (r.u != 0) = true := by simp [hu]
                have du2 : decide (r.u ≤ r.s) = false := decide_eq_false (by have := HROK.out; omega)
                have dj : decide ((0 : Int) < ((0 : Nat) : Int)) = false := by simp
                clear hu
                refine wp_plan [([0, 1, 2, 3, 4, 6, 5, 7, 8, 9, 10, 11, 12, 13, 14, 15, 16, 17, 18, 19, 20, 22, 21, 23, 24, 25, 26, 27, 28, 30, 29], 31, [28, 29])] [32, 33, 34, 35, 36, 37, 38, 39, 44, 40, 45, 41, 42, 43, 46, 47, 48] (by kernel_rfl) (by kernel_rfl) ?_
                simp only [wpSegs, opsOf, List.map_cons, List.map_nil, opN, List.getD_cons_zero, List.getD_cons_succ]
                go_wp2_with fail
                refine ⟨by first | trivial | rfl, ?_⟩
                go_wp2_with fail
                refine CL.out.mono ?_
                rintro e w5 ⟨rfl, rfl⟩
                go_wp2_with fail
                refine ⟨?agX01, ?_⟩
                case agX01 =>
                  intro i hi hw
                  simp only [List.mem_cons, List.not_mem_nil, or_false] at hi
                  rcases hi with rfl | rfl
                  all_goals (simp only [opN, List.getD_cons_zero, List.getD_cons_succ, slotOf]; go_simp)
                go_wp2_with fail
                refine ⟨by first | trivial | rfl, ?_⟩
                go_wp2_with fail
                go_meet
                case rel => exact ⟨rfl, Lib.hid ((Mod.refl [] X).drew)⟩
              · obtain ⟨p, rfl⟩ : ∃ p, j = p + 1 := ⟨j - 1, by omega⟩
                obtain ⟨y, hy⟩ : ∃ y, R[p]? = some y := ⟨R[p]'(by rw [HMM.out]; omega), List.getElem?_eq_getElem _⟩
                have y0 := (HRX.out.cells hy).1
                have dy : decide (r.f < y.f) = false := decide_eq_false (by
                  have := srt_get HRO.out.srt hy HRJ.out (by omega)
                  rw [Bool.eq_false_iff, Ne, ltR_iff] at this
                  omega)
                clear hy
                have du : (r.u != 0) = true := by simp [hu]
                have du2 : decide (r.u ≤ r.s) = false := decide_eq_false (by have := HROK.out; omega)
                have dj : decide ((0 : Int) < ((p + 1 : Nat) : Int)) = true := decide_eq_true (by omega)
                have dp0 : decide ((p : Int) < 0) = false := decide_eq_false (by omega)
                have dp1 : decide ((M : Int) ≤ (p : Int)) = false := decide_eq_false (by omega)
                clear hu
                refine wp_plan [([0, 1, 2, 3, 4, 6, 5, 7, 8, 9, 10, 11, 12, 13, 14, 15, 16, 17, 18, 19, 20, 22, 21, 23, 24, 25, 26, 27, 28, 30, 29], 31, [28, 29])] [32, 33, 34, 35, 36, 37, 38, 39, 44, 40, 45, 41, 42, 43, 46, 47, 48] (by kernel_rfl) (by kernel_rfl) ?_
                simp only [wpSegs, opsOf, List.map_cons, List.map_nil, opN, List.getD_cons_zero, List.getD_cons_succ]
                go_wp2_with fail
                refine ⟨by first | trivial | rfl, ?_⟩
                go_wp2_with fail
                refine CL.out.mono ?_
                rintro e w5 ⟨rfl, rfl⟩
                go_wp2_with fail
                refine ⟨?agX00, ?_⟩
                case agX00 =>
                  intro i hi hw
                  simp only [List.mem_cons, List.not_mem_nil, or_false] at hi
                  rcases hi with rfl | rfl
                  all_goals (simp only [opN, List.getD_cons_zero, List.getD_cons_succ, slotOf]; go_simp)
                go_wp2_with fail
                refine ⟨by first | trivial | rfl, ?_⟩
                go_wp2_with fail
                go_meet
                case rel => exact ⟨rfl, Lib.hid ((Mod.refl [] X).drew)⟩
          case rest =>
            obtain ⟨rfl, hmc⟩ := hcut
            have HMC := Lib.hid (HMX.out.trans hmc.out)
            have HXC := Lib.hid hmc.out
            have HNC := Lib.hid (hmc.out.heap HNX.out (by simp))
            have HM0 := Lib.hid (Mod.refl [] wc)
            have hjc : decide ((rc : Int) < (j : Int)) = false := decide_eq_false (by omega)
            have hjc2 : decide ((j : Int) < 0) = false := decide_eq_false (by omega)
            clear hmc e0 e1 e2 e3 e4
            go_wp2_with fail
            go_loopw [108] (fun s108 W => ∃ k : Nat, k ≤ j ∧ s108 = .int .i64 k ∧ Hid (Mod [] wc W)) (fun s108 _ => j - (intOf s108).toNat)
            case atStart => exact ⟨0, by omega, rfl, HM0⟩
            case round =>
              obtain ⟨k, hk, rfl, hMk⟩ := hrel
              clear HM0
              by_cases hlt3 : k < j
              · obtain ⟨y, hy⟩ : ∃ y, R[k]? = some y := ⟨R[k]'(by rw [HMM.out]; omega), List.getElem?_eq_getElem _⟩
                have HAP := Lib.hid (show ApartR y r from by
                  obtain ⟨k1, k2⟩ := List.getElem?_eq_some_iff.1 hy
                  obtain ⟨k3, k4⟩ := List.getElem?_eq_some_iff.1 HRJ.out
                  have := List.pairwise_iff_getElem.1 HRO.out.apart k j k1 k3 hlt3
                  rw [k2, k4] at this
                  exact this)
                have RY := HRX.out.kept0 (HXC.out.trans hMk.out)
                have HLY := Lib.hid (RY.load hy)
                rename World => wk
                obtain ⟨Y, hY, nY, sY, mY⟩ := alloc_named2 wk (.cells #[.int .i64 y.f, .int .i64 y.t, .int .i64 y.s, .int .i64 y.u, .int .i64 y.v] 61)
                have hX3 := (hMk.out.trans mY).heap HNC.out (by simp)
                have e0 := cell_blk hX3 0
                have e1 := cell_blk hX3 1
                have e2 := cell_blk hX3 2
                have e3 := cell_blk hX3 3
                have y0 := cell_blk nY 0
                have y1 := cell_blk nY 1
                have y2 := cell_blk nY 2
                have y3 := cell_blk nY 3
                simp only [List.getElem?_toArray, List.getElem?_cons_succ, List.getElem?_cons_zero] at e0 e1 e2 e3 y0 y1 y2 y3
                have HMY := Lib.hid (hMk.out.trans mY)
                have hk0 : decide ((k : Int) < 0) = false := decide_eq_false (by omega)
                have hk1 : decide ((j : Int) ≤ (k : Int)) = false := decide_eq_false (by omega)
                have hk2 : decide ((k : Int) < (j : Int)) = true := decide_eq_true (by omega)
                clear hy RY hX3 nY sY mY hMk
                go_upto_region 20 with ((with_reducible refine xLoadAt rfl HLY.out ?_ ?_ ?_); exact rfl; exact rfl)
                clear hY
                go_cut [147] from 112 to 147 (fun s147 wx => s147 = .bool false ∧ wx = Y)
                case first =>
                  by_cases g1 : y.f < r.t
                  · have t1 : decide (y.f < r.t) = true := decide_eq_true g1
                    by_cases g2 : r.f < y.t
                    · have t2 : decide (r.f < y.t) = true := decide_eq_true g2
                      by_cases g3 : r.u = 0
                      · have t3 : (r.u == 0) = true := by simp [g3]
                        have g4 : ¬ (y.u = 0 ∨ r.s < y.u) := fun h => HAP.out ⟨g1, g2, .inl g3, h⟩
                        have t4 : (y.u == 0) = false := by simp; omega
                        have t5 : decide (r.s < y.u) = false := decide_eq_false (by omega)
                        clear g3 g4
                        go_wp2_with fail
                        go_meet
                        case rel => exact ⟨rfl, rfl⟩
                      · have t3 : (r.u == 0) = false := by simp [g3]
                        by_cases g5 : y.s < r.u
                        · have t5 : decide (y.s < r.u) = true := decide_eq_true g5
                          have g4 : ¬ (y.u = 0 ∨ r.s < y.u) := fun h => HAP.out ⟨g1, g2, .inr g5, h⟩
                          have t4 : (y.u == 0) = false := by simp; omega
                          have t6 : decide (r.s < y.u) = false := decide_eq_false (by omega)
                          clear g3 g4
                          go_wp2_with fail
                          go_meet
                          case rel => exact ⟨rfl, rfl⟩
                        · have t5 : decide (y.s < r.u) = false := decide_eq_false g5
                          clear g3
                          go_wp2_with fail
                          go_meet
                          case rel => exact ⟨rfl, rfl⟩
                    · have t2 : decide (r.f < y.t) = false := decide_eq_false g2
                      go_wp2_with fail
                      go_meet
                      case rel => exact ⟨rfl, rfl⟩
                  · have t1 : decide (y.f < r.t) = false := decide_eq_false g1
                    go_wp2_with fail
                    go_meet
                    case rel => exact ⟨rfl, rfl⟩
                case rest =>
                  obtain ⟨rfl, hwc⟩ := hcut
                  rw [hwc]
                  clear hwc e0 e1 e2 e3 y0 y1 y2 y3
                  go_wp2_with fail
                  go_roundw
                  case rel => exact ⟨k + 1, by omega, by go_num, HMY⟩
                  case measure => simp [intOf]; omega
              · obtain rfl : k = j := by omega
                have hk2 : decide ((k : Int) < (k : Int)) = false := decide_eq_false (by omega)
                have HEND := Lib.hid (HMC.out.trans hMk.out)
                go_wp2_with fail
                exact ⟨⟨k + 1, by omega, by go_num, HEND⟩, by simp [intOf]; omega⟩
        · obtain rfl : j = M := by omega
          have hj2 : decide ((j : Int) < (j : Int)) = false := decide_eq_false (by omega)
          have HMR := Lib.hid hM.out
          clear hM
          rename World => wz
          go_wp2_with fail
          go_loopw [152] (fun s152 W => ∃ k : Nat, k ≤ n1 ∧ s152 = .int .i64 k ∧ Hid (Mod [] w2 W)) (fun s152 _ => n1 - (intOf s152).toNat)
          case atStart => exact ⟨0, by omega, rfl, HMR⟩
          case round =>
            obtain ⟨k, hk, rfl, hMk⟩ := hrel
            clear HMR
            by_cases hlt4 : k < n1
            · obtain ⟨x, hx⟩ : ∃ x, at_[k]? = some x := ⟨at_[k]'(by rw [← HL1.out]; exact hlt4), List.getElem?_eq_getElem _⟩
              have HXR := Lib.hid (HAT.out x (List.mem_of_getElem? hx))
              obtain ⟨hnl, q, o, haq, hc, hrow⟩ := RowAt.cells_at encTw_len (H1.out.kept0 (HMD.out.trans (HM2.out.trans hMk.out))) hx
              subst haq
              have HLI := Lib.hid (run_loadAt_mid (P := Try.prog) _ q (o + k * 2) 24 _ _ hrow Try.underlying24 rfl (by kernel_rfl))
              rename World => wk
              obtain ⟨X, hX, nX, sX, mX⟩ := alloc_named2 wk (.cells #[.int .i64 x.a, .int .i64 x.b] 24)
              have i0 := cell_blk nX 0
              have i1 := cell_blk nX 1
              simp only [List.getElem?_toArray, List.getElem?_cons_succ, List.getElem?_cons_zero] at i0 i1
              have hk0 : decide ((k : Int) < 0) = false := decide_eq_false (by omega)
              have hk1 : decide ((n1 : Int) ≤ (k : Int)) = false := decide_eq_false (by omega)
              have hk2 : decide ((k : Int) < (n1 : Int)) = true := decide_eq_true (by omega)
              have HMX := Lib.hid (hMk.out.trans mX)
              have HNX := Lib.hid nX
              have CL := Lib.hid (biLast_at (HB.out.kept0 ((HM2.out.trans (hMk.out.trans mX)).trans ((Mod.refl [] X).drew))))
              dsimp only [encTw] at HLI
              obtain ⟨t', ht'⟩ : ∃ t', min (max x.a 0) last = t' := ⟨_, rfl⟩
              have HT := Lib.hid ht'
              clear hnl hx hc hrow nX sX mX hMk ht'
              go_upto_region 27 with ((with_reducible refine xLoadAt rfl HLI.out ?_ ?_ ?_); exact rfl; exact rfl)
              clear hX
              go_cut [15, 16] from 156 to 161 (fun s15 s16 wx => s15 = .int .i64 t' ∧ s16 = .int .i64 0 ∧ Hid (Mod [] X wx))
              case first =>
                refine wp_sched (by kernel_rfl) (sched_either 2 4 (by decide) (sched_plan1 [([0, 3, 1], 2, []), ([], 4, []), ([], 5, [])] [6, 7] (by kernel_rfl) ?L1) (sched_plan1 [([0, 3, 1], 4, [0, 1]), ([], 2, []), ([], 5, [])] [6, 7] (by kernel_rfl) ?L2))
                case L1 =>
                  simp only [wpSegs, opsOf, List.map_cons, List.map_nil, opN, List.getD_cons_zero, List.getD_cons_succ]
                  go_wp2_with fail
                  refine ⟨by first | trivial | rfl, ?_⟩
                  go_wp2_with ((with_reducible apply xMax rfl); exact rfl; exact rfl; exact rfl)
                  refine ⟨again_nil, ?_⟩
                  go_wp2_with fail
                  refine ⟨by first | trivial | rfl, ?_⟩
                  go_wp2_with fail
                  refine CL.out.mono ?_
                  rintro e w5 ⟨rfl, rfl⟩
                  go_wp2_with fail
                  refine ⟨again_nil, ?_⟩
                  go_wp2_with fail
                  refine ⟨by first | trivial | rfl, ?_⟩
                  go_wp2_with ((with_reducible apply xMin rfl); exact rfl; exact rfl; exact rfl)
                  refine ⟨again_nil, ?_⟩
                  go_wp2_with fail
                  refine ⟨by first | trivial | rfl, ?_⟩
                  go_wp2_with fail
                  go_meet
                  case rel => exact ⟨by rw [HT.out], rfl, Lib.hid ((Mod.refl [] X).drew)⟩
                case L2 =>
                  simp only [wpSegs, opsOf, List.map_cons, List.map_nil, opN, List.getD_cons_zero, List.getD_cons_succ]
                  go_wp2_with fail
                  refine ⟨by first | trivial | rfl, ?_⟩
                  go_wp2_with fail
                  refine CL.out.mono ?_
                  rintro e w5 ⟨rfl, rfl⟩
                  go_wp2_with fail
                  refine ⟨?agM2, ?_⟩
                  case agM2 =>
                    intro i hi hw
                    simp only [List.mem_cons, List.not_mem_nil, or_false] at hi
                    rcases hi with rfl | rfl
                    all_goals (simp only [opN, List.getD_cons_zero, List.getD_cons_succ, slotOf]; go_simp)
                  go_wp2_with fail
                  refine ⟨by first | trivial | rfl, ?_⟩
                  go_wp2_with ((with_reducible apply xMax rfl); exact rfl; exact rfl; exact rfl)
                  refine ⟨again_nil, ?_⟩
                  go_wp2_with fail
                  refine ⟨by first | trivial | rfl, ?_⟩
                  go_wp2_with ((with_reducible apply xMin rfl); exact rfl; exact rfl; exact rfl)
                  refine ⟨again_nil, ?_⟩
                  go_wp2_with fail
                  refine ⟨by first | trivial | rfl, ?_⟩
                  go_wp2_with fail
                  go_meet
                  case rel => exact ⟨by rw [HT.out], rfl, Lib.hid ((Mod.refl [] X).drew)⟩
              case rest =>
                obtain ⟨rfl, rfl, hmc⟩ := hcut
                have HXC := Lib.hid hmc.out
                have HMC := Lib.hid (HMX.out.trans hmc.out)
                have HNC := Lib.hid (hmc.out.heap HNX.out (by simp))
                have HM0 := Lib.hid (Mod.refl [] wc)
                have HZ0 : Hid ((0 : Int) = wantF t' x.b (R.take 0)) := Lib.hid rfl
                clear hmc i0 i1
                go_wp2_with fail
                go_loopw [16, 164] (fun s16 s164 W => ∃ (m : Nat) (z : Int), m ≤ j ∧ s16 = .int .i64 z ∧ s164 = .int .i64 m ∧ Hid (z = wantF t' x.b (R.take m)) ∧ Hid (Mod [] wc W)) (fun _ s164 _ => j - (intOf s164).toNat)
                case atStart => exact ⟨0, 0, by omega, rfl, rfl, HZ0, HM0⟩
                case round =>
                  obtain ⟨m, z, hm, rfl, rfl, hZ, hMm⟩ := hrel
                  clear HZ0 HM0
                  by_cases hlt5 : m < j
                  · obtain ⟨y, hy⟩ : ∃ y, R[m]? = some y := ⟨R[m]'(by rw [HMM.out]; omega), List.getElem?_eq_getElem _⟩
                    have hyl := (List.getElem?_eq_some_iff.1 hy).1
                    have hye := (List.getElem?_eq_some_iff.1 hy).2
                    rename World => wm
                    have RR0 : OwnR encRc 5 61 wm wR.heap.size (.slice ra R.length rc) R := by rw [HMM.out]; exact HOR.out.kept0 (HMC.out.trans hMm.out)
                    obtain ⟨qq, cap, heq, hq, hcap⟩ := RR0.at_ hy
                    simp only [Value.slice.injEq] at heq
                    obtain ⟨rfl, _, rfl⟩ := heq
                    have HLY := Lib.hid ((show RcRow wm wR.heap.size qq R.length rc R from ⟨rfl, RR0⟩).load hy)
                    obtain ⟨Y, hY, nY, sY, mY⟩ := alloc_named2 wm (.cells #[.int .i64 y.f, .int .i64 y.t, .int .i64 y.s, .int .i64 y.u, .int .i64 y.v] 61)
                    have hX3 := (hMm.out.trans mY).heap HNC.out (by simp)
                    have e1 := cell_blk hX3 1
                    have y0 := cell_blk nY 0
                    have y1 := cell_blk nY 1
                    have y2 := cell_blk nY 2
                    have y3 := cell_blk nY 3
                    have y4 := cell_blk nY 4
                    simp only [List.getElem?_toArray, List.getElem?_cons_succ, List.getElem?_cons_zero] at e1 y0 y1 y2 y3 y4
                    have HMY := Lib.hid (hMm.out.trans mY)
                    have hm0 : decide ((m : Int) < 0) = false := decide_eq_false (by omega)
                    have hm1 : decide ((j : Int) ≤ (m : Int)) = false := decide_eq_false (by omega)
                    have hm2 : decide ((m : Int) < (j : Int)) = true := decide_eq_true (by omega)
                    have HW := Lib.hid (show wantF t' x.b (R.take (m + 1)) = if pB t' x.b y = true then y.v else z from by
                      rw [List.take_succ_eq_append_getElem hyl, hye, wantF_snoc, hZ.out])
                    clear hy hyl hye RR0 hq hcap hX3 nY sY mY hMm hZ
                    go_upto_region 31 with ((with_reducible refine xLoadAt rfl HLY.out ?_ ?_ ?_); exact rfl; exact rfl)
                    clear hY
                    go_cut [196] from 168 to 196 (fun s196 wx => ∃ B : Bool, s196 = .bool B ∧ Hid (B = pB t' x.b y) ∧ wx = Y)
                    case first =>
                      by_cases g1 : y.f ≤ x.b
                      · have t1 : decide (y.f ≤ x.b) = true := decide_eq_true g1
                        by_cases g2 : x.b < y.t
                        · have t2 : decide (x.b < y.t) = true := decide_eq_true g2
                          by_cases g3 : y.s ≤ t'
                          · have t3 : decide (y.s ≤ t') = true := decide_eq_true g3
                            by_cases g4 : y.u = 0
                            · have t4 : (y.u == 0) = true := by simp [g4]
                              have HPB := Lib.hid (show true = pB t' x.b y by unfold pB hasB; simp [g1, g2, g3, g4])
                              clear g4
                              go_wp2_with fail
                              go_meet
                              case rel => exact ⟨true, rfl, HPB, rfl⟩
                            · have t4 : (y.u == 0) = false := by simp [g4]
                              by_cases g5 : t' < y.u
                              · have t5 : decide (t' < y.u) = true := decide_eq_true g5
                                have HPB := Lib.hid (show true = pB t' x.b y by unfold pB hasB; simp [g1, g2, g3, g5])
                                clear g4
                                go_wp2_with fail
                                go_meet
                                case rel => exact ⟨true, rfl, HPB, rfl⟩
                              · have t5 : decide (t' < y.u) = false := decide_eq_false g5
                                have HPB := Lib.hid (show false = pB t' x.b y by unfold pB hasB; simp [g1, g2, g3, g4, g5])
                                clear g4
                                go_wp2_with fail
                                go_meet
                                case rel => exact ⟨false, rfl, HPB, rfl⟩
                          · have t3 : decide (y.s ≤ t') = false := decide_eq_false g3
                            have HPB := Lib.hid (show false = pB t' x.b y by unfold pB hasB; simp [g3])
                            go_wp2_with fail
                            go_meet
                            case rel => exact ⟨false, rfl, HPB, rfl⟩
                        · have t2 : decide (x.b < y.t) = false := decide_eq_false g2
                          have HPB := Lib.hid (show false = pB t' x.b y by unfold pB hasB; simp [g2])
                          go_wp2_with fail
                          go_meet
                          case rel => exact ⟨false, rfl, HPB, rfl⟩
                      · have t1 : decide (y.f ≤ x.b) = false := decide_eq_false g1
                        have HPB := Lib.hid (show false = pB t' x.b y by unfold pB hasB; simp [g1])
                        go_wp2_with fail
                        go_meet
                        case rel => exact ⟨false, rfl, HPB, rfl⟩
                    case rest =>
                      obtain ⟨B, rfl, HPB, hwc⟩ := hcut
                      rw [hwc]
                      clear hwc
                      cases B with
                      | true =>
                        have HZ2 := Lib.hid (show y.v = wantF t' x.b (R.take (m + 1)) by rw [HW.out, ← HPB.out, if_pos rfl])
                        clear HW HPB
                        go_wp2_with fail
                        go_roundw
                        case rel => exact ⟨m + 1, y.v, by omega, rfl, by go_num, HZ2, HMY⟩
                        case measure => simp [intOf]; omega
                      | false =>
                        have HZ2 := Lib.hid (show z = wantF t' x.b (R.take (m + 1)) by rw [HW.out, ← HPB.out, if_neg (by simp)])
                        clear HW HPB
                        go_wp2_with fail
                        go_roundw
                        case rel => exact ⟨m + 1, z, by omega, rfl, by go_num, HZ2, HMY⟩
                        case measure => simp [intOf]; omega
                  · obtain rfl : m = j := by omega
                    have hm2 : decide ((m : Int) < (m : Int)) = false := decide_eq_false (by omega)
                    have HZ := Lib.hid (show z = wantF t' x.b R by have := hZ.out; rw [← HMM.out, List.take_length] at this; exact this)
                    have hXm := hMm.out.heap HNC.out (by simp)
                    have e0 := cell_blk hXm 0
                    have e1 := cell_blk hXm 1
                    simp only [List.getElem?_toArray, List.getElem?_cons_succ, List.getElem?_cons_zero] at e0 e1
                    have CA := Lib.hid (biAt_at (HB.out.kept0 (HM2.out.trans (HMC.out.trans hMm.out))) HOK.out hrs x.a HXR.out)
                    rw [HT.out] at CA
                    have HMm := Lib.hid (HMC.out.trans hMm.out)
                    clear hXm hMm hZ
                    go_wp2_with fail
                    refine CA.out.mono ?_
                    rintro e w5 ⟨R', hOD, he, m5⟩
                    rw [← want_at HOK.out HRO.out hOD, ← HZ.out] at he
                    subst he
                    have hzz : (z != z) = false := by simp
                    have HM5 := Lib.hid (HMm.out.trans m5)
                    clear hOD m5 CA
                    go_wp2_with fail
                    exact ⟨⟨k + 1, by omega, by go_num, HM5⟩, by simp [intOf]; omega⟩
            · obtain rfl : k = n1 := by omega
              have hk2 : decide ((k : Int) < (k : Int)) = false := decide_eq_false (by omega)
              have HMK := Lib.hid (HMD.out.trans (HM2.out.trans hMk.out))
              clear hMk
              go_wp2_with fail
              refine (HK.out _).mono ?_
              rintro e w6 ⟨rfl, m6⟩
              have HE := Lib.hid (HMK.out.trans m6)
              clear m6
              go_wp2_with fail
              go_ret
              exact ⟨rfl, HE.out⟩
end Go.Proofs.Ytngglpekdjhbdaa
