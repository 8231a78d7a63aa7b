/- Windows: known: a lag; the least. -/
import Derived.Test.YtngglpekdjhbdaaGreatWzAa
import Derived.Test.YtngglpekdjhbdaaGreatWzAi
import Derived.Test.YtngglpekdjhbdaaGreatWzAk
import Derived.Test.YtngglpekdjhbdaaGreatWzJ
namespace Go.Proofs.YtngglpekdjhbdaaGreat
open Go.RowKit Go.ChangeMaps Go.Deep
set_option linter.unusedSimpArgs false
set_option linter.unusedVariables false
set_option maxRecDepth 20000

theorem num19_at (n : Int) (w : World) : Calls Tryz.prog 13 #[.int .i64 n] w fun e w' => e = .returned (valZ (iv ⟨1, n, 0, 0⟩)) ∧ Mod [] w w' := by
  have HV := Lib.hid (show valZ (iv ⟨1, n, 0, 0⟩) = .agg #[.int .u8 1, .int .i64 n, .int .i64 0, .int .i64 0] by unfold valZ; rw [vl_iv])
  rw [HV.out]
  have mA := Lib.hid ((Mod.refl [] w).alloc (.cells #[.int .u8 1, .int .i64 n, .int .i64 0, .int .i64 0] 35))
  have bA := Lib.hid (heap_alloc_new w (.cells #[.int .u8 1, .int .i64 n, .int .i64 0, .int .i64 0] 35))
  go_enter Tryz.func13, Tryz.ntmps13
  go_wp2_with fail
  refine bodyPost_ret (results_cell_row (P := Tryz.prog) (t := 35) (cs := #[.int .u8 1, .int .i64 n, .int .i64 0, .int .i64 0]) (fr := (0, 0)) (g := w.heap.size) (h := rfl) (hp := rfl) (hg := bA.out) (hu := Tryz.underlying35) (hd := rfl) (hi := by kernel_rfl) ..) rfl ⟨rfl, mA.out⟩
theorem plain19_at (k c s e : Int) (w : World) : Calls Tryz.prog 12 #[.agg #[.int .u8 k, .int .i64 c, .int .i64 s, .int .i64 e]] w fun x w' => (∃ b, x = .returned (.bool b)) ∧ Mod [] w w' := by
  have hm := Lib.hid ((Mod.refl [] w).alloc (.cells #[.int .u8 k, .int .i64 c, .int .i64 s, .int .i64 e] 35))
  have h2 : (k = 1) ∨ ((k == 1) = false) := by by_cases h : k = 1 <;> simp [h]
  have h3 : (k = 4) ∨ ((k == 4) = false) := by by_cases h : k = 4 <;> simp [h]
  have h4 : (c = 0 ∧ s = 0) ∨ (c = 0 ∧ (s == 0) = false) ∨ ((c == 0) = false) := by by_cases h : c = 0 <;> by_cases h' : s = 0 <;> simp [h, h']
  have h5 : (e = 0) ∨ ((e == 0) = false) := by by_cases h : e = 0 <;> simp [h]
  go_enter Tryz.func12, Tryz.ntmps12
  rcases h2 with rfl | h2
  · rcases h5 with rfl | h5
    all_goals
      go_wp2_with fail
      go_ret
      exact ⟨⟨_, rfl⟩, hm.out⟩
  · rcases h4 with ⟨rfl, rfl⟩ | ⟨rfl, h4⟩ | h4
    · rcases h3 with rfl | h3
      · go_wp2_with fail
        go_ret
        exact ⟨⟨_, rfl⟩, hm.out⟩
      · rcases h5 with rfl | h5
        all_goals
          go_wp2_with fail
          go_ret
          exact ⟨⟨_, rfl⟩, hm.out⟩
    all_goals
      go_wp2_with fail
      go_ret
      exact ⟨⟨_, rfl⟩, hm.out⟩
/-- great says a truth; where it says no, the puts are few -/
def Few19 (L : List Sg) (e : Ending) : Prop := ∃ q, e = .returned (.bool q) ∧ (q = false → L.length ≤ 30)
theorem great19_at {w : World} {v : Value} {L : List Sg} (hv : RowAt encSgZ w v L) (hl : L.length ≤ 140737488355328) (k b : Int) :
    Calls Tryz.prog 4 #[v, .agg #[.int .u8 k, .int .i64 b]] w fun e w' => Few19 L e ∧ Mod [] w w' := by
  obtain ⟨la, lc, rfl⟩ := hv.form
  have HV := Lib.hid hv
  clear hv
  obtain ⟨A1, hA1, n1, z1, m1⟩ := alloc_named2 w (.cells #[.int .u8 k, .int .i64 b] 24)
  have HN := Lib.hid n1
  have HM := Lib.hid m1
  clear n1 m1
  go_enter Tryz.func4, Tryz.ntmps4
  go_wp2_with fail
  go_loopw [5] (fun s5 W => ∃ j : Nat, j ≤ L.length ∧ j ≤ 31 ∧ s5 = .int .i64 j ∧ Hid (Mod [] A1 W)) (fun s5 _ => L.length - (intOf s5).toNat)
  case atStart => exact ⟨0, by omega, by omega, rfl, Lib.hid (Mod.refl _ _)⟩
  case round =>
    obtain ⟨j, hj, hj1, rfl, hS⟩ := hrel
    by_cases hlt : j < L.length
    · have d1 : decide ((j : Int) < (L.length : Int)) = true := decide_eq_true (by omega)
      by_cases h30 : j ≤ 30
      · have d2 : decide ((j : Int) ≤ 30) = true := decide_eq_true (by omega)
        obtain ⟨q, o, rfl, hqc, hg⟩ := (HV.out.kept0 (HM.out.trans hS.out)).get encSgZ_len hlt
        obtain ⟨kv, cv, sv, ev, hvl⟩ := valZ_form (L[j]).v
        have hez : encSgZ L[j] = [.int .i64 (L[j]).f, .int .i64 (L[j]).t, .int .u8 kv, .int .i64 cv, .int .i64 sv, .int .i64 ev] := by unfold encSgZ encZ; rw [hvl]
        rw [hez] at hg
        have hrow : wr.rangeAt q (o + j * 6 + 2) [.int .u8 kv, .int .i64 cv, .int .i64 sv, .int .i64 ev] := fun jj u hu => by
          have := hg (jj + 2) u (by have := (List.getElem?_eq_some_iff.1 hu).1; simp at this; omega) (by simpa using hu)
          rw [← this]
          congr 2
          omega
        have HLI := Lib.hid (run_loadAt_mid (P := Tryz.prog) _ q (o + j * 6 + 2) 35 _ _ hrow Tryz.underlying35 rfl (by kernel_rfl))
        have hj0 : decide ((j : Int) < 0) = false := decide_eq_false (by omega)
        have hj1' : decide ((L.length : Int) ≤ (j : Int)) = false := decide_eq_false (by omega)
        clear hez hvl hg hrow
        go_wp2_with ((with_reducible refine xLoadAt rfl HLI.out ?_ ?_ ?_); exact rfl; exact rfl)
        refine (plain19_at kv cv sv ev _).mono ?_
        rintro e w2 ⟨⟨pb, rfl⟩, m2⟩
        have HN2 := Lib.hid (hS.out.trans m2)
        clear m2
        cases pb with
        | true =>
          go_wp2_with fail
          go_roundw
          case rel => exact ⟨j + 1, by omega, by omega, by go_num, HN2⟩
          case measure => simp [intOf]; omega
        | false =>
          go_wp2_with fail
          go_ret
          exact ⟨⟨true, rfl, fun h => absurd h (by decide)⟩, HM.out.trans HN2.out⟩
      · have d2 : decide ((j : Int) ≤ 30) = false := decide_eq_false (by omega)
        have d3 : decide ((30 : Int) < (L.length : Int)) = true := decide_eq_true (by omega)
        go_wp2_with fail
        go_ret
        exact ⟨⟨true, rfl, fun h => absurd h (by decide)⟩, HM.out.trans hS.out⟩
    · have d1 : decide ((j : Int) < (L.length : Int)) = false := decide_eq_false (by omega)
      by_cases h30 : 30 < L.length
      · have d3 : decide ((30 : Int) < (L.length : Int)) = true := decide_eq_true (by omega)
        go_wp2_with fail
        go_ret
        exact ⟨⟨true, rfl, fun h => absurd h (by decide)⟩, HM.out.trans hS.out⟩
      · have d3 : decide ((30 : Int) < (L.length : Int)) = false := decide_eq_false (by omega)
        have hn := hS.out.heap HN.out (by simp)
        have c0 := cell_blk hn 0
        have c1 := cell_blk hn 1
        simp only [List.getElem?_toArray, List.getElem?_cons_succ, List.getElem?_cons_zero] at c0 c1
        clear hn
        have H30 := Lib.hid h30
        clear h30
        by_cases h60 : 60 < b
        · have d4 : decide (60 < b) = true := decide_eq_true h60
          go_wp2_with fail
          go_ret
          exact ⟨⟨_, rfl, fun _ => by have := H30.out; omega⟩, HM.out.trans hS.out⟩
        · have d4 : decide (60 < b) = false := decide_eq_false h60
          go_wp2_with fail
          go_ret
          exact ⟨⟨false, rfl, fun _ => by have := H30.out; omega⟩, HM.out.trans hS.out⟩
end Go.Proofs.YtngglpekdjhbdaaGreat
namespace Go.Proofs.YtngglpekdjhbdaaGreat
open Go.RowKit Go.ChangeMaps Go.Deep
set_option linter.unusedSimpArgs false
set_option linter.unusedVariables false
set_option maxRecDepth 20000

def upM (g : Int → Int) (a b v : Int) : Int → Int := if 1 ≤ a ∧ a < b ∧ b ≤ 3652060 then upd g a b v else g
theorem upM_low {g : Int → Int} (hg : ∀ d, d < 1 → g d = 0) (a b v : Int) : ∀ d, d < 1 → upM g a b v d = 0 := fun d hd => by
  unfold upM
  split
  · rename_i h
    unfold upd
    rw [if_neg (by omega)]
    exact hg d hd
  · exact hg d hd
def madeW (ops : List Sg) : Int → Int := ops.foldl (fun g o => upM g o.f o.t o.v) (fun _ => 0)
theorem madeW_snoc (ops : List Sg) (o : Sg) : madeW (ops ++ [o]) = upM (madeW ops) o.f o.t o.v := by unfold madeW; rw [List.foldl_append]; rfl
theorem madeW_low : ∀ (n : Nat) (ops : List Sg), ops.length = n → ∀ d, d < 1 → madeW ops d = 0
  | 0, ops, h, d, hd => by
    obtain rfl := List.eq_nil_of_length_eq_zero h
    rfl
  | n + 1, ops, h, d, hd => by
    rcases List.eq_nil_or_concat ops with rfl | ⟨ops', o, rfl⟩
    · simp at h
    · rw [List.concat_eq_append] at h ⊢
      rw [madeW_snoc]
      exact upM_low (fun d hd => madeW_low n ops' (by simp at h; omega) d hd) _ _ _ d hd
/-- a timeline of the call's own -/
def OwnL (w : World) (g n : Nat) (gf : Int → Int) (W : World) : Prop := ∃ B, ValAt W g B n gf ∧ (∀ x ∈ B, w.heap.size ≤ x) ∧ Mod [] w W
theorem putW_at {w W : World} {g n : Nat} {gf : Int → Int} (h : OwnL w g n gf W) (hn : n ≤ 40000) (a b v : Int) :
    Calls Tryz.prog 15 #[.pointer (some ⟨g, 0, none⟩), .agg #[.int .i64 a, .int .i64 b], valZ v] W fun e w' => (∃ x, e = .returned (.int .i64 x)) ∧ OwnL w g (n + 1) (upM gf a b v) w' := by
  obtain ⟨B, h1, h2, h3⟩ := h
  unfold upM
  by_cases hab : mayS a b
  · refine (putZ_line h1 hn hab).mono ?_
    rintro e w' ⟨rfl, B', q1, q2, q3⟩
    refine ⟨⟨_, rfl⟩, B', ?_, fun x hx => ?_, mod_over h3 q2 h2⟩
    · rw [if_pos (show 1 ≤ a ∧ a < b ∧ b ≤ 3652060 from hab)]
      exact q1
    · rcases q3 x hx with h4 | h4
      · exact h2 x h4
      · have := h3.size
        omega
  · refine (putZ_not h1 hab).mono ?_
    rintro e w' ⟨rfl, hm⟩
    refine ⟨⟨_, rfl⟩, B, ?_, h2, h3.trans hm⟩
    rw [if_neg (show ¬ (1 ≤ a ∧ a < b ∧ b ≤ 3652060) from hab)]
    obtain ⟨M, E, q1, q2, q3, q4, q5⟩ := (h1.kept0 hm).ex
    exact ⟨M, E, q1, q2, q3, by omega, by omega⟩
set_option maxHeartbeats 4000000 in
theorem made19_at {w : World} {v : Value} {L : List Sg} (hv : RowAt encSgZ w v L) (hl : L.length ≤ 1000) :
    Calls Tryz.prog 6 #[v] w fun e w' => ∃ g, e = .returned (.pointer (some ⟨g, 0, none⟩)) ∧ OwnL w g L.length (madeW L) w' := by
  obtain ⟨la, lc, rfl⟩ := hv.form
  have HV := Lib.hid hv
  have CN := Lib.hid (tvNew_line w)
  clear hv
  go_enter Tryz.func6, Tryz.ntmps6
  go_wp2_with fail
  refine CN.out.mono ?_
  rintro e w1 ⟨rfl, hN, m1⟩
  have HST := Lib.hid (show OwnL w (w.heap.size + 1) 0 (madeW (L.take 0)) w1 from ⟨_, hN, by simp, m1⟩)
  clear CN hN m1
  go_wp2_with fail
  go_loopw [9] (fun s9 W => ∃ j : Nat, j ≤ L.length ∧ s9 = .int .i64 j ∧ Hid (OwnL w (w.heap.size + 1) j (madeW (L.take j)) W)) (fun s9 _ => L.length - (intOf s9).toNat)
  case atStart => exact ⟨0, by omega, rfl, HST⟩
  case round =>
    clear HST
    obtain ⟨j, hj, rfl, hS⟩ := hrel
    by_cases hlt : j < L.length
    · obtain ⟨B, q1, q2, q3⟩ := hS.out
      obtain ⟨q, o, rfl, hqc, hg⟩ := (HV.out.kept0 q3).get encSgZ_len hlt
      have hF := madeW_snoc (L.take j) L[j]
      rw [← List.take_succ_eq_append_getElem hlt] at hF
      generalize hs : L[j] = s at hg hF
      obtain ⟨f, t, z⟩ := s
      obtain ⟨kv, cv, sv, ev, hvl⟩ := valZ_form z
      have hez : encSgZ ⟨f, t, z⟩ = [.int .i64 f, .int .i64 t, .int .u8 kv, .int .i64 cv, .int .i64 sv, .int .i64 ev] := by unfold encSgZ encZ; rw [hvl]
      rw [hez] at hg
      have hrow : wr.rangeAt q (o + j * 6) [.int .i64 f, .int .i64 t, .int .u8 kv, .int .i64 cv, .int .i64 sv, .int .i64 ev] := fun jj u hu => by
        have := hg jj u (by have := (List.getElem?_eq_some_iff.1 hu).1; simpa using this) hu
        rw [← this]
        congr 2
        omega
      have HLI := Lib.hid (run_loadAt_mid (P := Tryz.prog) _ q (o + j * 6) 48 _ _ hrow Tryz.underlying48 rfl (by kernel_rfl))
      obtain ⟨I1, hI1, nI, zI, mI⟩ := alloc_named2 wr (.cells #[.int .i64 f, .int .i64 t, .int .u8 kv, .int .i64 cv, .int .i64 sv, .int .i64 ev] 48)
      have i0 := cell_blk nI 0
      have i1 := cell_blk nI 1
      have i2 := cell_blk nI 2
      have i3 := cell_blk nI 3
      have i4 := cell_blk nI 4
      have i5 := cell_blk nI 5
      simp only [List.getElem?_toArray, List.getElem?_cons_succ, List.getElem?_cons_zero] at i0 i1 i2 i3 i4 i5
      have hj0 : decide ((j : Int) < 0) = false := decide_eq_false (by omega)
      have hj1 : decide ((L.length : Int) ≤ (j : Int)) = false := decide_eq_false (by omega)
      have hj2 : decide ((j : Int) < (L.length : Int)) = true := decide_eq_true (by omega)
      have CP := Lib.hid (putW_at (show OwnL w (w.heap.size + 1) j (madeW (L.take j)) I1 from ⟨B, q1.kept0 mI, q2, q3.trans mI⟩) (by omega) f t z)
      dsimp only at hF
      rw [← hF, show valZ z = .agg #[.int .u8 kv, .int .i64 cv, .int .i64 sv, .int .i64 ev] by unfold valZ; rw [hvl]] at CP
      clear hs hez hvl hg hrow nI mI hqc q1 q2 q3 hF hS
      go_wp2_with ((with_reducible refine xLoadAt rfl HLI.out ?_ ?_ ?_); exact rfl; exact rfl)
      refine CP.out.mono ?_
      rintro e w4 ⟨⟨x, rfl⟩, hF⟩
      have HN := Lib.hid hF
      clear CP hF
      go_wp2_with fail
      go_roundw
      case rel => exact ⟨j + 1, by omega, by go_num, HN⟩
      case measure => simp [intOf]; omega
    · have hje : j = L.length := by omega
      have hj2 : decide ((j : Int) < (L.length : Int)) = false := decide_eq_false (by omega)
      have hS2 := hS.out
      rw [List.take_of_length_le (by omega), hje] at hS2
      have HE := Lib.hid hS2
      clear hS2 hS
      go_wp2_with fail
      go_ret
      exact ⟨_, rfl, HE.out⟩
end Go.Proofs.YtngglpekdjhbdaaGreat
namespace Go.Proofs.YtngglpekdjhbdaaGreat
open Go.RowKit Go.ChangeMaps Go.Deep
set_option linter.unusedSimpArgs false
set_option linter.unusedVariables false
set_option maxRecDepth 20000

def exN (n : Int) : Int := iv ⟨1, n, 0, 0⟩
theorem vl_exN (n : Int) : vl (exN n) = ⟨1, n, 0, 0⟩ := vl_iv _
theorem valZ_exN (n : Int) : valZ (exN n) = .agg #[.int .u8 1, .int .i64 n, .int .i64 0, .int .i64 0] := by unfold valZ; rw [vl_exN]
theorem exN_ne {a b : Int} (h : a ≠ b) : exN a ≠ exN b := fun e => by
  have := congrArg vl e
  rw [vl_exN, vl_exN] at this
  injection this with _ h2
  exact h h2
theorem exN_zero (a : Int) : exN a ≠ 0 := fun e => by
  have := congrArg vl e
  rw [vl_exN, vl_zero] at this
  injection this with h1
  exact absurd h1 (by decide)
def exOps : List Sg := [⟨5, 8, exN 3⟩, ⟨8, 9, exN 1⟩]
def exG : Int → Int := madeW exOps
theorem exG_eq (d : Int) : exG d = if 8 ≤ d ∧ d < 9 then exN 1 else if 5 ≤ d ∧ d < 8 then exN 3 else 0 := by
  simp [exG, exOps, madeW, upM, upd]
theorem ex_cmp : cmpD 1 0 3 0 < 0 := by decide +kernel
theorem ex_ok (n : Int) : fitsV 2 ⟨1, n, 0, 0⟩ = true := by simp [fitsV, numOk, decOkN]
theorem ex_runs7 : runsV exG 7 3 = [exN 3, exN 1, 0] := by
  have h1 := exN_ne (a := 3) (b := 1) (by decide)
  have h2 := exN_zero 1
  have e7 : exG 7 = exN 3 := by rw [exG_eq]; simp
  have e8 : exG 8 = exN 1 := by rw [exG_eq]; simp
  have e9 : exG 9 = 0 := by rw [exG_eq]; simp
  simp [runsV, e7, e8, e9, h1, h2, h2.symm, h1.symm]
theorem ex_runs5 : runsV exG 5 3 = [exN 3] := by
  have e5 : exG 5 = exN 3 := by rw [exG_eq]; simp
  have e6 : exG 6 = exN 3 := by rw [exG_eq]; simp
  have e7 : exG 7 = exN 3 := by rw [exG_eq]; simp
  simp [runsV, e7, e5, e6]
theorem ex_runs8 : runsV exG 8 3 = [exN 1, 0] := by
  have h2 := exN_zero 1
  have e8 : exG 8 = exN 1 := by rw [exG_eq]; simp
  have e9 : exG 9 = 0 := by rw [exG_eq]; simp
  have e10 : exG 10 = 0 := by rw [exG_eq]; simp
  simp [runsV, e8, e9, e10, h2, h2.symm]
theorem ex_runs9 : runsV exG 9 3 = [0] := by
  have e9 : exG 9 = 0 := by rw [exG_eq]; simp
  have e10 : exG 10 = 0 := by rw [exG_eq]; simp
  have e11 : exG 11 = 0 := by rw [exG_eq]; simp
  simp [runsV, e9, e10, e11]
theorem ov_zero (s : Vl) : overV 2 s [vl 0] = s := by rw [vl_zero, overV_none rfl, overV]
theorem ov_one (n : Int) (l : List Vl) : overV 2 ⟨0, 0, 0, 0⟩ (⟨1, n, 0, 0⟩ :: l) = overV 2 ⟨1, n, 0, 0⟩ l := by
  rw [overV_step (by simp) (by simp) (ex_ok n)]
  rfl
theorem ex_lag : valZ (dayZ 1 2 exG 9) = .agg #[.int .u8 1, .int .i64 3, .int .i64 0, .int .i64 0] := by
  have e7 : exG 7 = exN 3 := by rw [exG_eq]; simp
  unfold dayZ
  rw [if_pos (by omega), winH_lag, show (9 : Int) - 2 = 7 by omega, e7, valZ_exN]
theorem winH_2 (d : Int) (h : 3 ≤ d) : winH 2 2 exG d = ovZ 2 (runsV exG (d - 2) 3) := by
  unfold winH dayH
  rw [decide_eq_false (by decide), if_neg (by simp), show max (d - 2) 1 = d - 2 by omega, show (d + 1 - (d - 2)).toNat = 3 by omega]
theorem ex_least : valZ (dayZ 2 2 exG 9) = .agg #[.int .u8 1, .int .i64 1, .int .i64 0, .int .i64 0] := by
  unfold dayZ
  rw [if_pos (by omega), winH_2 9 (by omega), show (9 : Int) - 2 = 7 by omega, ex_runs7, valZ_vlA, vl_ovZ]
  simp only [List.map_cons, List.map_nil, vl_exN]
  rw [ov_one, overV_step (by simp) (by simp) (ex_ok 1), ov_zero]
  unfold stepV takeV
  rw [if_pos (.inr (by simpa using ex_cmp))]
  rfl
theorem ex_line7 : valZ (lineH (winH 2 2 exG) 7) = .agg #[.int .u8 1, .int .i64 3, .int .i64 0, .int .i64 0] := by
  unfold lineH
  rw [if_pos (by omega), winH_2 7 (by omega), show (7 : Int) - 2 = 5 by omega, ex_runs5, valZ_vlA, vl_ovZ]
  simp only [List.map_cons, List.map_nil, vl_exN]
  rw [ov_one, overV]
  rfl
theorem ex_line10 : valZ (lineH (winH 2 2 exG) 10) = .agg #[.int .u8 1, .int .i64 1, .int .i64 0, .int .i64 0] := by
  unfold lineH
  rw [if_pos (by omega), winH_2 10 (by omega), show (10 : Int) - 2 = 8 by omega, ex_runs8, valZ_vlA, vl_ovZ]
  simp only [List.map_cons, List.map_nil, vl_exN]
  rw [ov_one, ov_zero]
  rfl
theorem ex_line11 : valZ (lineH (winH 2 2 exG) 11) = .agg #[.int .u8 0, .int .i64 0, .int .i64 0, .int .i64 0] := by
  unfold lineH
  rw [if_pos (by omega), winH_2 11 (by omega), show (11 : Int) - 2 = 9 by omega, ex_runs9, valZ_vlA, vl_ovZ]
  simp only [List.map_cons, List.map_nil]
  rw [ov_zero]
  rfl
end Go.Proofs.YtngglpekdjhbdaaGreat
namespace Go.Proofs.YtngglpekdjhbdaaGreat
open Go.RowKit Go.ChangeMaps Go.Deep
set_option linter.unusedSimpArgs false
set_option linter.unusedVariables false
set_option maxRecDepth 20000

theorem rowW_lit {α : Type} {enc : α → List Value} {E : TypeId} (w : World) (l : List α) (c : Array Value) (n b : Nat) (hc : c = (flat enc l).toArray) (hn : n = l.length) (hb : b = w.heap.size) : RowAt enc (w.alloc (.cells c E)) (.slice (some ⟨b, 0, none⟩) n n) l := by
  subst hc; subst hn; subst hb
  exact .at_ _ 0 _ l (Nat.le_refl _) (fun j u hu => by
    rw [Nat.zero_add, cell_blk (heap_alloc_new w _)]
    simpa using hu)
theorem num19_cells (n : Int) (w : World) : Calls Tryz.prog 13 #[.int .i64 n] w fun e w' => e = .returned (.agg #[.int .u8 1, .int .i64 n, .int .i64 0, .int .i64 0]) ∧ Mod [] w w' := by
  have := num19_at n w
  rwa [show iv ⟨1, n, 0, 0⟩ = exN n from rfl, valZ_exN] at this
set_option maxHeartbeats 16000000 in
theorem known19_at (w : World) : Calls Tryz.prog 5 #[] w fun e w' => e = .returned (.bool true) ∧ Mod [] w w' := by
  go_enter Tryz.func5, Tryz.ntmps5
  go_wp2_with fail
  refine (num19_cells 3 _).mono ?_
  rintro e w1 ⟨rfl, m1⟩
  have HM1 := Lib.hid m1
  clear m1
  go_wp2_with fail
  refine (num19_cells 1 _).mono ?_
  rintro e w2 ⟨rfl, m2⟩
  have HM2 := Lib.hid (HM1.out.trans m2)
  have CM := Lib.hid (made19_at (L := exOps) (rowW_lit (enc := encSgZ) (E := 48) w2 exOps #[.int .i64 5, .int .i64 8, .int .u8 1, .int .i64 3, .int .i64 0, .int .i64 0, .int .i64 8, .int .i64 9, .int .u8 1, .int .i64 1, .int .i64 0, .int .i64 0] 2 w2.heap.size (by
    simp only [exOps, flat_cons, flat_nil, encSgZ, encZ, vl_exN]
    rfl) rfl rfl) (by simp [exOps]))
  have HMA := Lib.hid (HM2.out.alloc (.cells #[.int .i64 5, .int .i64 8, .int .u8 1, .int .i64 3, .int .i64 0, .int .i64 0, .int .i64 8, .int .i64 9, .int .u8 1, .int .i64 1, .int .i64 0, .int .i64 0] 48))
  clear m2
  go_wp2_with fail
  refine CM.out.mono ?_
  rintro e w3 ⟨g, rfl, B, hB, hBs, m3⟩
  have HM3 := Lib.hid (HMA.out.trans m3)
  have HB := Lib.hid (show ValAt w3 g B 2 exG from hB)
  have C1 := Lib.hid (dayT_at (k := 1) (b := 2) HB.out (by omega) (by unfold winOk; omega) 9)
  rw [ex_lag] at C1
  clear CM hB hBs m3 HMA HM2 HM1
  go_wp2_with fail
  refine C1.out.mono ?_
  rintro e w4 ⟨rfl, m4⟩
  obtain ⟨A4, hA4, n4, z4, k4⟩ := alloc_named2 w4 (.cells #[.int .u8 1, .int .i64 3, .int .i64 0, .int .i64 0] 35)
  have HA4 := Lib.hid hA4
  clear hA4
  have H4 := Lib.hid (show ValAt A4 g B 2 exG ∧ A4.heap[w4.heap.size]? = some (.cells #[.int .u8 1, .int .i64 3, .int .i64 0, .int .i64 0] 35 (0, 0)) ∧ Mod [] w A4 from ⟨HB.out.kept0 (m4.trans k4), n4, HM3.out.trans (m4.trans k4)⟩)
  have C2 := Lib.hid (dayT_at (k := 2) (b := 2) H4.out.1 (by omega) (by unfold winOk; omega) 9)
  rw [ex_least] at C2
  clear m4 n4 k4 C1 HM3 HB
  go_wp2_with fail
  simp only [HA4.out]
  refine C2.out.mono ?_
  rintro e w5 ⟨rfl, m5⟩
  obtain ⟨A5, hA5, n5, z5, k5⟩ := alloc_named2 w5 (.cells #[.int .u8 1, .int .i64 1, .int .i64 0, .int .i64 0] 35)
  have HA5 := Lib.hid hA5
  clear hA5
  have H5 := Lib.hid (show ValAt A5 g B 2 exG ∧ A5.heap[w4.heap.size]? = some (.cells #[.int .u8 1, .int .i64 3, .int .i64 0, .int .i64 0] 35 (0, 0)) ∧ A5.heap[w5.heap.size]? = some (.cells #[.int .u8 1, .int .i64 1, .int .i64 0, .int .i64 0] 35 (0, 0)) ∧ Mod [] w A5 from ⟨H4.out.1.kept0 (m5.trans k5), (m5.trans k5).heap H4.out.2.1 (by simp), n5, H4.out.2.2.trans (m5.trans k5)⟩)
  have C3 := Lib.hid (line_at (k := 2) (b := 2) H5.out.1 (by omega) (madeW_low _ _ rfl) (by unfold winOk; omega))
  clear m5 n5 k5 C2 H4
  go_wp2_with fail
  simp only [HA5.out]
  refine C3.out.mono ?_
  rintro e w6 ⟨g2, B2, n2, rfl, h2, ⟨hn2, hB2⟩, m6⟩
  have H6 := Lib.hid (show w6.heap[w4.heap.size]? = some (.cells #[.int .u8 1, .int .i64 3, .int .i64 0, .int .i64 0] 35 (0, 0)) ∧ w6.heap[w5.heap.size]? = some (.cells #[.int .u8 1, .int .i64 1, .int .i64 0, .int .i64 0] 35 (0, 0)) ∧ Mod [] w w6 from ⟨m6.heap H5.out.2.1 (by simp), m6.heap H5.out.2.2.1 (by simp), H5.out.2.2.2.trans m6⟩)
  have HL := Lib.hid h2
  have HN2 := Lib.hid hn2
  have C4 := Lib.hid (dayT_not (w := w6) (k := 6) (b := 0) (by unfold winOk; omega) (.pointer (some ⟨g, 0, none⟩)) 9)
  rw [valZ_zero] at C4
  clear h2 hn2 hB2 m6 C3 H5
  go_wp2_with fail
  refine C4.out.mono ?_
  rintro e w7 ⟨rfl, m7⟩
  obtain ⟨A8, hA8, n8, z8, k8⟩ := alloc_named2 w7 (.cells #[.int .u8 0, .int .i64 0, .int .i64 0, .int .i64 0] 35)
  have HA8 := Lib.hid hA8
  clear hA8
  have H8 := Lib.hid (show A8.heap[w4.heap.size]? = some (.cells #[.int .u8 1, .int .i64 3, .int .i64 0, .int .i64 0] 35 (0, 0)) ∧ A8.heap[w5.heap.size]? = some (.cells #[.int .u8 1, .int .i64 1, .int .i64 0, .int .i64 0] 35 (0, 0)) ∧ ValAt A8 g2 B2 n2 (lineH (winH 2 2 exG)) ∧ Mod [] w A8 from ⟨(m7.trans k8).heap H6.out.1 (by simp), (m7.trans k8).heap H6.out.2.1 (by simp), HL.out.kept0 (m7.trans k8), H6.out.2.2.trans (m7.trans k8)⟩)
  have p0 := cell_blk H8.out.1 0
  have p1 := cell_blk H8.out.1 1
  have p2 := cell_blk H8.out.1 2
  have p3 := cell_blk H8.out.1 3
  have q0 := cell_blk H8.out.2.1 0
  have q1 := cell_blk H8.out.2.1 1
  have q2 := cell_blk H8.out.2.1 2
  have q3 := cell_blk H8.out.2.1 3
  simp only [List.getElem?_toArray, List.getElem?_cons_succ, List.getElem?_cons_zero] at p0 p1 p2 p3 q0 q1 q2 q3
  have CA := Lib.hid (fun (W : World) (m : Mod [] A8 W) (d : Int) (hd : -9223372036854775808 ≤ d ∧ d ≤ 9223372036854775807) => atZ_line (H8.out.2.2.1.kept0 m) HN2.out hd)
  clear m7 n8 k8 C4 H6 HL HN2
  go_wp2_with fail
  simp only [HA8.out]
  refine wp_sched (by kernel_rfl) (sched_either 38 39 (by decide) (sched_plan1 [([0, 1, 2, 3, 4, 5, 6, 7, 8, 9, 10, 11, 12, 13, 14, 15], 16, [15]), ([17, 18, 19, 20], 21, [20]), ([22, 23, 24, 25], 26, []), ([], 27, []), ([28, 29, 30, 31], 32, []), ([], 33, []), ([34, 35, 36, 37], 38, []), ([], 39, [])] [40, 41, 42] (by kernel_rfl) ?L1) (sched_plan1 [([0, 1, 2, 3, 4, 5, 6, 7, 8, 9, 10, 11, 12, 13, 14, 15], 16, [15]), ([17, 18, 19, 20], 21, [20]), ([22, 23, 24, 25], 26, []), ([], 27, []), ([28, 29, 30, 31], 32, []), ([], 33, []), ([34, 35, 36, 37], 39, []), ([], 38, [])] [40, 41, 42] (by kernel_rfl) ?L2))
  case L1 =>
    simp only [wpSegs, opsOf, List.map_cons, List.map_nil, opN, List.getD_cons_zero, List.getD_cons_succ]
    go_wp2_with fail
    refine ⟨by first | trivial | rfl, ?_⟩
    go_wp2_with fail
    refine (num19_cells 3 _).mono ?_
    rintro e v1 ⟨rfl, k1⟩
    have K1 := Lib.hid ((Mod.refl [] A8).drew.trans k1)
    have b0 := K1.out.heap H8.out.1 (by simp)
    have b1 := K1.out.heap H8.out.2.1 (by simp)
    have p0 := cell_blk b0 0
    have p1 := cell_blk b0 1
    have p2 := cell_blk b0 2
    have p3 := cell_blk b0 3
    have q0 := cell_blk b1 0
    have q1 := cell_blk b1 1
    have q2 := cell_blk b1 2
    have q3 := cell_blk b1 3
    simp only [List.getElem?_toArray, List.getElem?_cons_succ, List.getElem?_cons_zero] at p0 p1 p2 p3 q0 q1 q2 q3
    clear k1 b0 b1
    go_wp2_with fail
    refine ⟨?agA, ?_⟩
    case agA =>
      intro i hi hw
      simp only [List.mem_cons, List.not_mem_nil, or_false] at hi
      subst hi
      all_goals (simp only [opN, List.getD_cons_zero, List.getD_cons_succ, slotOf]; go_simp)
    go_wp2_with fail
    refine ⟨by first | trivial | rfl, ?_⟩
    go_wp2_with fail
    refine (num19_cells 1 _).mono ?_
    rintro e v2 ⟨rfl, k2⟩
    have K2 := Lib.hid (K1.out.trans k2)
    have b1 := K2.out.heap H8.out.2.1 (by simp)
    have q0 := cell_blk b1 0
    have q1 := cell_blk b1 1
    have q2 := cell_blk b1 2
    have q3 := cell_blk b1 3
    simp only [List.getElem?_toArray, List.getElem?_cons_succ, List.getElem?_cons_zero] at q0 q1 q2 q3
    clear k2 b1
    go_wp2_with fail
    refine ⟨?agB, ?_⟩
    case agB =>
      intro i hi hw
      simp only [List.mem_cons, List.not_mem_nil, or_false] at hi
      subst hi
      all_goals (simp only [opN, List.getD_cons_zero, List.getD_cons_succ, slotOf]; go_simp)
    go_wp2_with fail
    refine ⟨by first | trivial | rfl, ?_⟩
    have D7 := CA.out v2 K2.out 7 (by omega)
    rw [ex_line7] at D7
    have D7 := Lib.hid D7
    go_wp2_with fail
    refine D7.out.mono ?_
    rintro e v3 ⟨rfl, k3⟩
    have K3 := Lib.hid (K2.out.trans k3)
    clear k3
    go_wp2_with fail
    refine ⟨again_nil, ?_⟩
    go_wp2_with fail
    refine ⟨by first | trivial | rfl, ?_⟩
    go_wp2_with fail
    refine (num19_cells 3 _).mono ?_
    rintro e v4 ⟨rfl, k4⟩
    have K4 := Lib.hid (K3.out.trans k4)
    clear k4
    go_wp2_with fail
    refine ⟨again_nil, ?_⟩
    go_wp2_with fail
    refine ⟨by first | trivial | rfl, ?_⟩
    have D10 := CA.out v4 K4.out 10 (by omega)
    rw [ex_line10] at D10
    have D10 := Lib.hid D10
    go_wp2_with fail
    refine D10.out.mono ?_
    rintro e v5 ⟨rfl, k5⟩
    have K5 := Lib.hid (K4.out.trans k5)
    clear k5
    go_wp2_with fail
    refine ⟨again_nil, ?_⟩
    go_wp2_with fail
    refine ⟨by first | trivial | rfl, ?_⟩
    go_wp2_with fail
    refine (num19_cells 1 _).mono ?_
    rintro e v6 ⟨rfl, k6⟩
    have K6 := Lib.hid (K5.out.trans k6)
    clear k6
    go_wp2_with fail
    refine ⟨again_nil, ?_⟩
    go_wp2_with fail
    refine ⟨by first | trivial | rfl, ?_⟩
    have D11 := CA.out v6 K6.out 11 (by omega)
    rw [ex_line11] at D11
    have D11 := Lib.hid D11
    go_wp2_with fail
    refine D11.out.mono ?_
    rintro e v7 ⟨rfl, k7⟩
    have K7 := Lib.hid (H8.out.2.2.2.trans (K6.out.trans k7))
    clear k7
    go_wp2_with fail
    refine ⟨again_nil, ?_⟩
    go_wp2_with fail
    refine ⟨by first | trivial | rfl, ?_⟩
    go_wp2_with fail
    refine ⟨again_nil, ?_⟩
    go_wp2_with fail
    refine ⟨by first | trivial | rfl, ?_⟩
    go_wp2_with fail
    go_ret
    exact ⟨rfl, K7.out⟩
  case L2 =>
    simp only [wpSegs, opsOf, List.map_cons, List.map_nil, opN, List.getD_cons_zero, List.getD_cons_succ]
    go_wp2_with fail
    refine ⟨by first | trivial | rfl, ?_⟩
    go_wp2_with fail
    refine (num19_cells 3 _).mono ?_
    rintro e v1 ⟨rfl, k1⟩
    have K1 := Lib.hid ((Mod.refl [] A8).drew.trans k1)
    have b0 := K1.out.heap H8.out.1 (by simp)
    have b1 := K1.out.heap H8.out.2.1 (by simp)
    have p0 := cell_blk b0 0
    have p1 := cell_blk b0 1
    have p2 := cell_blk b0 2
    have p3 := cell_blk b0 3
    have q0 := cell_blk b1 0
    have q1 := cell_blk b1 1
    have q2 := cell_blk b1 2
    have q3 := cell_blk b1 3
    simp only [List.getElem?_toArray, List.getElem?_cons_succ, List.getElem?_cons_zero] at p0 p1 p2 p3 q0 q1 q2 q3
    clear k1 b0 b1
    go_wp2_with fail
    refine ⟨?agA, ?_⟩
    case agA =>
      intro i hi hw
      simp only [List.mem_cons, List.not_mem_nil, or_false] at hi
      subst hi
      all_goals (simp only [opN, List.getD_cons_zero, List.getD_cons_succ, slotOf]; go_simp)
    go_wp2_with fail
    refine ⟨by first | trivial | rfl, ?_⟩
    go_wp2_with fail
    refine (num19_cells 1 _).mono ?_
    rintro e v2 ⟨rfl, k2⟩
    have K2 := Lib.hid (K1.out.trans k2)
    have b1 := K2.out.heap H8.out.2.1 (by simp)
    have q0 := cell_blk b1 0
    have q1 := cell_blk b1 1
    have q2 := cell_blk b1 2
    have q3 := cell_blk b1 3
    simp only [List.getElem?_toArray, List.getElem?_cons_succ, List.getElem?_cons_zero] at q0 q1 q2 q3
    clear k2 b1
    go_wp2_with fail
    refine ⟨?agB, ?_⟩
    case agB =>
      intro i hi hw
      simp only [List.mem_cons, List.not_mem_nil, or_false] at hi
      subst hi
      all_goals (simp only [opN, List.getD_cons_zero, List.getD_cons_succ, slotOf]; go_simp)
    go_wp2_with fail
    refine ⟨by first | trivial | rfl, ?_⟩
    have D7 := CA.out v2 K2.out 7 (by omega)
    rw [ex_line7] at D7
    have D7 := Lib.hid D7
    go_wp2_with fail
    refine D7.out.mono ?_
    rintro e v3 ⟨rfl, k3⟩
    have K3 := Lib.hid (K2.out.trans k3)
    clear k3
    go_wp2_with fail
    refine ⟨again_nil, ?_⟩
    go_wp2_with fail
    refine ⟨by first | trivial | rfl, ?_⟩
    go_wp2_with fail
    refine (num19_cells 3 _).mono ?_
    rintro e v4 ⟨rfl, k4⟩
    have K4 := Lib.hid (K3.out.trans k4)
    clear k4
    go_wp2_with fail
    refine ⟨again_nil, ?_⟩
    go_wp2_with fail
    refine ⟨by first | trivial | rfl, ?_⟩
    have D10 := CA.out v4 K4.out 10 (by omega)
    rw [ex_line10] at D10
    have D10 := Lib.hid D10
    go_wp2_with fail
    refine D10.out.mono ?_
    rintro e v5 ⟨rfl, k5⟩
    have K5 := Lib.hid (K4.out.trans k5)
    clear k5
    go_wp2_with fail
    refine ⟨again_nil, ?_⟩
    go_wp2_with fail
    refine ⟨by first | trivial | rfl, ?_⟩
    go_wp2_with fail
    refine (num19_cells 1 _).mono ?_
    rintro e v6 ⟨rfl, k6⟩
    have K6 := Lib.hid (K5.out.trans k6)
    clear k6
    go_wp2_with fail
    refine ⟨again_nil, ?_⟩
    go_wp2_with fail
    refine ⟨by first | trivial | rfl, ?_⟩
    have D11 := CA.out v6 K6.out 11 (by omega)
    rw [ex_line11] at D11
    have D11 := Lib.hid D11
    go_wp2_with fail
    refine ⟨again_nil, ?_⟩
    go_wp2_with fail
    refine ⟨by first | trivial | rfl, ?_⟩
    go_wp2_with fail
    refine D11.out.mono ?_
    rintro e v7 ⟨rfl, k7⟩
    have K7 := Lib.hid (H8.out.2.2.2.trans (K6.out.trans k7))
    clear k7
    go_wp2_with fail
    refine ⟨again_nil, ?_⟩
    go_wp2_with fail
    refine ⟨by first | trivial | rfl, ?_⟩
    go_wp2_with fail
    go_ret
    exact ⟨rfl, K7.out⟩
end Go.Proofs.YtngglpekdjhbdaaGreat
