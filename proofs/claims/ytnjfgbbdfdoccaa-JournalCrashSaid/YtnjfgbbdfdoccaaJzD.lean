/- The document's journal: the frame behind the last one. -/
import Derived.Test.YtnjfgbbdfdoccaaJzC
import Derived.Test.YtnjfgbbdfdoccaaJnK
import Derived.Test.YtnjfgbbdfdoccaaJnP
import Derived.Test.YtnjfgbbdfdoccaaJnR
namespace Go.Proofs.Ytnjfgbbdfdoccaa
open Go.RowKit Go.ChangeMaps
set_option linter.unusedSimpArgs false
set_option linter.unusedVariables false
set_option maxRecDepth 20000

def Mj.ckPlan (J : Mj) (n : Int) : List (Int × List Int) :=
  (if J.l.length = 0 then [(beginP n (J.epoch + 1), zeros64)] else layPlan (beginP n (J.epoch + 1)) (frameP 1 (J.epoch + 1) J.l.length (ckOwn J.l)) (manyP (ckOwn J.l).length)) ++ [((J.epoch + 1) % 2, superP (J.epoch + 1))]
def Mj.ckM (J : Mj) : Int := if J.l.length = 0 then 0 else ((manyP (ckOwn J.l).length : Nat) : Int)
def Mj.check (J : Mj) (R : Rk) : Int × Mj × Rk :=
  if J.dead = true then (16, J, R)
  else if J.epoch = 4294967295 ∨ (0 < J.l.length ∧ halfP R.n < ((manyP (ckOwn J.l).length : Nat) : Int) + 1) then (7, J, R)
  else if (R.does (J.ckPlan R.n)).1 = 0 then (0, { J.done R (J.ckPlan R.n) with epoch := J.epoch + 1, at_ := beginP R.n (J.epoch + 1) + J.ckM }, (R.does (J.ckPlan R.n)).2)
  else ((R.does (J.ckPlan R.n)).1, J.done R (J.ckPlan R.n), (R.does (J.ckPlan R.n)).2)
theorem Mj.ckPlan_isB {J : Mj} (n : Int) (hB : ∀ x ∈ J.l, IsB x) : ∀ x ∈ J.ckPlan n, IsB x.2 ∧ x.2.length ≤ 65536 := by
  intro x hx
  unfold Mj.ckPlan at hx
  have hz : IsB zeros64 := isB_zeros 64
  have hz2 : zeros64.length = 64 := rfl
  rcases List.mem_append.1 hx with hx | hx
  · split at hx
    · simp only [List.mem_singleton] at hx
      subst hx
      exact ⟨hz, by rw [hz2]; omega⟩
    · exact layPlan_isM (frameP_isB (by omega) (ckOwn_isB hB)) x hx
  · simp only [List.mem_singleton] at hx
    subst hx
    exact ⟨superP_isB _, by rw [superP_len]; omega⟩
set_option maxHeartbeats 16000000 in
theorem mjCheck_at {w : World} {base j b : Nat} {J : Mj} {R : Rk} (h : MAt w base j b J R) (hk : MOk J R) (hown : (ckOwn J.l).length ≤ 67108864) (hB : ∀ x ∈ J.l, IsB x) (hbs : base ≤ w.heap.size) :
    Calls Try.prog 20 #[.pointer (some ⟨j, 0, none⟩)] w fun e w' => e = .returned (.int .i64 (J.check R).1) ∧ MAt w' base j b (J.check R).2.1 (J.check R).2.2 ∧ Mod [j, b] w w' := by
  have H := Lib.hid h
  obtain ⟨c0, c1, c2, c4, b0⟩ := h.cells
  by_cases hd : J.dead = true
  · have HP := Lib.hid (show J.check R = (16, J, R) from if_pos hd)
    rw [hd] at c4
    clear h
    go_enter Try.func20, Try.ntmps20
    go_wp2_with fail
    go_ret
    exact ⟨by rw [HP.out]; rfl, by rw [HP.out]; exact H.out, Mod.refl _ _⟩
  · have hdf : J.dead = false := by simpa using hd
    rw [hdf] at c4
    obtain ⟨n0, n1, e0, e1, a0, a1, w0, w1, l0, r0, k0⟩ := hk
    have HK := Lib.hid (⟨n0, n1, e0, e1, a0, a1, w0, w1, l0, r0, k0⟩ : MOk J R)
    have HB := Lib.hid hB
    have HOWN := Lib.hid hown
    obtain ⟨nl, hnl⟩ : ∃ n, J.l.length = n := ⟨_, rfl⟩
    have HNL := Lib.hid hnl
    have HMANY := Lib.hid (show ∀ u, Calls Try.prog 45 #[.int .i64 (strOfNums (ckOwn J.l)).size] u fun e w' => e = .returned (.int .i64 (manyP (ckOwn J.l).length)) ∧ u = w' from fun u => by rw [strs_len]; exact mjMany_at _ (by omega) u)
    have hmb : manyP (ckOwn J.l).length ≤ 1048580 := by unfold manyP; omega
    have hh : 0 ≤ halfP R.n ∧ halfP R.n ≤ 32767 := by unfold halfP; omega
    obtain ⟨hh0, hh1⟩ := hh
    have HHALF := Lib.hid (show ∀ u, Calls Try.prog 46 #[.int .i64 R.n] u fun e w' => e = .returned (.int .i64 (halfP R.n)) ∧ u = w' from fun u => mjHalf_at R.n (by omega) n1 u)
    have HBEG := Lib.hid (show ∀ u, Calls Try.prog 47 #[.int .i64 R.n, .int .i64 (J.epoch + 1)] u fun e w' => e = .returned (.int .i64 (beginP R.n (J.epoch + 1))) ∧ u = w' from fun u => mjBegin_at R.n (J.epoch + 1) (by omega) n1 (by omega) (by omega) u)
    have hbg : 2 ≤ beginP R.n (J.epoch + 1) ∧ beginP R.n (J.epoch + 1) ≤ 32769 := by
      unfold beginP
      have : (J.epoch + 1) % 2 = 0 ∨ (J.epoch + 1) % 2 = 1 := by omega
      rcases this with h | h <;> rw [h] <;> omega
    have HFR := Lib.hid (show ∀ u, Calls Try.prog 49 #[.int .i64 1, .int .i64 (J.epoch + 1), .int .i64 (nl : Int), .string (strOfNums (ckOwn J.l))] u fun e w' => e = .returned (.string (strOfNums (frameP 1 (J.epoch + 1) nl (ckOwn J.l)))) ∧ Mod [] u w' from fun u => mjFrame_at 1 (J.epoch + 1) nl (ckOwn J.l) (by omega) (ckOwn_isB hB) (by omega) (by omega) (by omega) u)
    have HPL := Lib.hid (show ∀ u, Calls Try.prog 48 #[.int .i64 (beginP R.n (J.epoch + 1)), .string (strOfNums (frameP 1 (J.epoch + 1) nl (ckOwn J.l)))] u fun e w' => ∃ v, e = .returned v ∧ OwnR encRw 2 53 w' u.heap.size v (rowsOf (layPlan (beginP R.n (J.epoch + 1)) (frameP 1 (J.epoch + 1) nl (ckOwn J.l)) (manyP (ckOwn J.l).length))) ∧ Mod [] u w' from fun u =>
      mjPlan_at _ (by omega) _ (manyP (ckOwn J.l).length) (by unfold manyP; omega) (frameP_len _ _ _ _) u)
    have HPAD := Lib.hid (show ∀ u, Calls Try.prog 40 #[.string ⟨#[]⟩, .int .i64 64] u fun e w' => e = .returned (.string (strOfNums zeros64)) ∧ Mod [] u w' from fun u => mjPadded_at [] 64 (by decide) (by omega) u)
    have HSUP := Lib.hid (show ∀ u, Calls Try.prog 42 #[.int .i64 (J.epoch + 1)] u fun e w' => e = .returned (.string (strOfNums (superP (J.epoch + 1)))) ∧ Mod [] u w' from fun u => mjSuper_at (J.epoch + 1) (by omega) (by omega) u)
    have HPLN := Lib.hid (show J.ckPlan R.n = (if nl = 0 then [(beginP R.n (J.epoch + 1), zeros64)] else layPlan (beginP R.n (J.epoch + 1)) (frameP 1 (J.epoch + 1) nl (ckOwn J.l)) (manyP (ckOwn J.l).length)) ++ [((J.epoch + 1) % 2, superP (J.epoch + 1))] from by unfold Mj.ckPlan; rw [hnl])
    have HPI := Lib.hid (Mj.ckPlan_isB (J := J) R.n hB)
    have HCK := Lib.hid (show J.check R = if J.epoch = 4294967295 ∨ (0 < nl ∧ halfP R.n < ((manyP (ckOwn J.l).length : Nat) : Int) + 1) then (7, J, R)
        else if (R.does (J.ckPlan R.n)).1 = 0 then (0, { J.done R (J.ckPlan R.n) with epoch := J.epoch + 1, at_ := beginP R.n (J.epoch + 1) + (if nl = 0 then 0 else ((manyP (ckOwn J.l).length : Nat) : Int)) }, (R.does (J.ckPlan R.n)).2)
        else ((R.does (J.ckPlan R.n)).1, J.done R (J.ckPlan R.n), (R.does (J.ckPlan R.n)).2) from by
      unfold Mj.check Mj.ckM; rw [if_neg hd, hnl])
    have HLN := Lib.hid (show ∀ i : Nat, (strOfNums (ckOwn (J.l.take i))).size ≤ 67108864 from fun i => by rw [strs_len]; exact Nat.le_trans (ckOwn_le i) hown)
    have HWE := Lib.hid (show IntKind.i64.wrap (J.epoch + 1) = J.epoch + 1 from IntWalk.i64_in _ (by omega))
    have HTM := Lib.hid (show (J.epoch + 1).tmod 2 = (J.epoch + 1) % 2 from Int.tmod_eq_emod_of_nonneg (by omega))
    have HST0 := Lib.hid (show (⟨#[]⟩ : ByteArray) = strOfNums (ckOwn (J.l.take 0)) from rfl)
    clear h hd hdf hown hB w0 w1 k0 r0 a0 a1
    rw [hnl] at l0
    go_enter Try.func20, Try.ntmps20
    go_wp2_with fail
    go_loopw [3, 4] (fun s3 s4 W => ∃ i : Nat, i ≤ nl ∧ s4 = .int .i64 i ∧ s3 = .string (strOfNums (ckOwn (J.l.take i))) ∧ Hid (Mod [] w W)) (fun _ s4 _ => nl - (intOf s4).toNat)
    case atStart => exact ⟨0, by omega, rfl, rfl, Lib.hid (Mod.refl _ _)⟩
    case round =>
      obtain ⟨i, hi, rfl, rfl, HM⟩ := hrel
      have HN := Lib.hid (H.out.kept0 HM.out)
      obtain ⟨⟨lv, av, f1, f2, f3⟩, fd⟩ := HN.out
      obtain ⟨la, lc, hlv⟩ := f2.lens
      rw [List.length_map, HNL.out] at hlv
      subst hlv
      have q1 : wr.cell? ⟨j, 1, none⟩ = some (.int .i64 J.epoch) := by rw [cell_blk f1]; rfl
      have q0 : wr.cell? ⟨j, 0, none⟩ = some (.pointer (some ⟨b, 0, none⟩)) := by rw [cell_blk f1]; rfl
      have q3 : wr.cell? ⟨j, 3, none⟩ = some (.slice la nl lc) := by rw [cell_blk f1]; rfl
      have qb := HN.out.cells.2.2.2.2
      clear c0 c1 c2 c4 b0
      by_cases hlt : i < nl
      · have hlt2 : i < J.l.length := by rw [HNL.out]; exact hlt
        have hrow := f2.row
        have hle : (J.l.map strOfNums).length = nl := by rw [List.length_map, HNL.out]
        rw [← hle] at hrow
        obtain ⟨q, o, heq, hc, hg⟩ := RowAt.get encStr_len hrow (i := i) (by rw [hle]; exact hlt)
        cases heq
        have p0 := hg 0 (.string (strOfNums J.l[i])) (by omega) (by simp [encStr])
        simp only [Nat.mul_one, Nat.add_zero] at p0
        have htk : J.l.take (i + 1) = J.l.take i ++ [J.l[i]] := List.take_succ_eq_append_getElem hlt2
        have hck : ckOwn (J.l.take (i + 1)) = ckOwn (J.l.take i) ++ (fourP (J.l[i]).length ++ J.l[i]) := by rw [htk, ckOwn_snoc]
        have hs1 := HLN.out (i + 1)
        have hs0 := HLN.out i
        have hstr := (strs_append (ckOwn (J.l.take i)) (fourP (J.l[i]).length ++ J.l[i])).symm
        rw [← strs_append (fourP (J.l[i]).length), ← hck, ← ByteArray.append_assoc] at hstr
        have hsz := strs_len J.l[i]
        have hsz2 := strs_len (ckOwn (J.l.take (i + 1)))
        have hsz3 := strs_len (ckOwn (J.l.take i))
        have hcl := congrArg List.length hck
        rw [List.length_append, List.length_append, fourP_len] at hcl
        have HF := Lib.hid (show ∀ u, Calls Try.prog 44 #[.int .i64 (strOfNums J.l[i]).size] u fun e w' => e = .returned (.string (strOfNums (fourP (J.l[i]).length))) ∧ Mod [] u w' from fun u => by rw [hsz]; exact mjFour_at _ (by omega) (by omega) u)
        have h4 : (strOfNums (fourP (J.l[i]).length)).size = 4 := strs_len _
        have z1 : ¬ 9223372036854775807 < (strOfNums (ckOwn (J.l.take i))).size + (strOfNums (fourP (J.l[i]).length)).size := by omega
        have z2 : ¬ 9223372036854775807 < (strOfNums (ckOwn (J.l.take i)) ++ strOfNums (fourP (J.l[i]).length)).size + (strOfNums J.l[i]).size := by rw [ByteArray.size_append]; omega
        have HSTR := Lib.hid hstr
        obtain ⟨D0, hD0, mD0⟩ : ∃ D, wr.drew = D ∧ Mod [] wr D := ⟨_, rfl, (Mod.refl [] wr).drew⟩
        have q3a := mD0.cellD q3
        have p0a := mD0.cellD p0
        have HLD := Lib.hid (show ∀ u, Mod [] D0 u → u.cell? ⟨j, 3, none⟩ = some (.slice (some ⟨q, o, none⟩) nl lc) ∧ u.cell? ⟨q, o + i, none⟩ = some (.string (strOfNums J.l[i])) from fun u m => ⟨m.cellD q3a, m.cellD p0a⟩)
        have HMD := Lib.hid (HM.out.trans mD0)
        generalize strOfNums (fourP (J.l[i]).length) = t4 at *
        generalize strOfNums J.l[i] = tl at *
        generalize hA : strOfNums (ckOwn (J.l.take (i + 1))) = tn at *
        generalize strOfNums (ckOwn (J.l.take i)) = t0 at *
        have HA := Lib.hid hA
        have d1 : decide ((i : Int) < (nl : Int)) = true := decide_eq_true (by omega)
        have d2 : decide ((i : Int) < 0) = false := decide_eq_false (by omega)
        have d3 : decide ((nl : Int) ≤ (i : Int)) = false := decide_eq_false (by omega)
        have hcb : nl ≤ lc := by rw [← hle]; exact hc
        clear f1 f2 f3 fd hrow hc hg htk hck hstr hsz hsz2 hsz3 hcl hA q1 q0 qb HN p0 hle mD0 hlt2 hs0 hs1
        go_wp2_with fail
        refine wp_plan [([0, 1, 5, 11, 15, 2, 12, 3, 13, 4, 14, 6, 16, 7, 17, 8], 9, [12, 13, 14, 16, 17]), ([10, 18], 19, [])] [] (by kernel_rfl) (by kernel_rfl) ?_
        simp only [wpSegs, opsOf, List.map_cons, List.map_nil, opN, List.getD_cons_zero, List.getD_cons_succ]
        rw [hD0]
        go_wp2_with fail
        refine ⟨by first | trivial | rfl, ?_⟩
        go_wp2_with fail
        refine (HF.out _).mono ?_
        rintro e w2 ⟨rfl, m2⟩
        obtain ⟨q3b, p0b⟩ := HLD.out _ m2
        have HMD := Lib.hid (HMD.out.trans m2)
        clear m2 q3a p0a q3
        go_wp2_with fail
        refine ⟨?ag1, ?_⟩
        case ag1 =>
          intro i hi hw
          simp only [List.mem_cons, List.not_mem_nil, or_false] at hi
          rcases hi with rfl | rfl | rfl | rfl | rfl
          all_goals (simp only [opN, List.getD_cons_zero, List.getD_cons_succ, slotOf]; go_simp)
        go_wp2_with fail
        refine ⟨by first | trivial | rfl, ?_⟩
        go_wp2_with fail
        refine ⟨again_nil, ?_⟩
        go_wp2_with fail
        refine ⟨by first | trivial | rfl, ?_⟩
        go_wp2_with fail
        rw [← HSTR.out]
        go_roundw
        case rel => exact ⟨i + 1, by omega, by go_num, by rw [HA.out], HMD⟩
        case measure => simp [intOf]; omega
      · obtain rfl : i = nl := by omega
        have d1 : decide ((i : Int) < (i : Int)) = false := decide_eq_false (by omega)
        have htk : J.l.take i = J.l := by rw [List.take_of_length_le (by rw [HNL.out]; omega)]
        rw [htk]
        have hsz := strs_len (ckOwn J.l)
        have HS2 := Lib.hid hsz
        generalize manyP (ckOwn J.l).length = mm at *
        generalize hSO : strOfNums (ckOwn J.l) = so at *
        generalize halfP R.n = hf at *
        clear htk hsz
        by_cases k1 : J.epoch = 4294967295
        · have t1 : (J.epoch == 4294967295) = true := by simpa using k1
          have HC7 := Lib.hid (show J.check R = (7, J, R) from by rw [HCK.out, if_pos (.inl k1)])
          go_wp2_with (first | (refine (HMANY.out _).mono ?_; rintro e w9 ⟨rfl, rfl⟩) | (refine (HHALF.out _).mono ?_; rintro e w9 ⟨rfl, rfl⟩))
          go_ret
          exact ⟨by rw [HC7.out]; rfl, by rw [HC7.out]; exact HN.out, HM.out.nil⟩
        · have t1 : (J.epoch == 4294967295) = false := by simpa using k1
          by_cases k2 : i = 0
          · have t2 : decide (0 < (i : Int)) = false := decide_eq_false (by omega)
            have t3 : ((i : Int) == 0) = true := by simpa using k2
            have hi0 : (i : Int) = 0 := by omega
            rw [hi0] at HFR HPL
            obtain ⟨D1, hD1, mD1⟩ : ∃ D, wr.drew = D ∧ Mod [] wr D := ⟨_, rfl, (Mod.refl [] wr).drew⟩
            have x0 := mD1.cellD q0
            have x1 := mD1.cellD q1
            have x3 := mD1.cellD q3
            have xb := mD1.cellD qb
            have HM := Lib.hid (HM.out.trans mD1)
            clear mD1
            go_wp2_with (first | (refine (HMANY.out _).mono ?_; rintro e w9 ⟨rfl, rfl⟩) | (refine (HHALF.out _).mono ?_; rintro e w9 ⟨rfl, rfl⟩))
            clear q0 q1 q3 qb
            refine wp_plan [([0, 7, 1, 8, 2, 9, 3, 10, 4, 11, 5, 6], 12, [])] [13] (by kernel_rfl) (by kernel_rfl) ?_
            simp only [wpSegs, opsOf, List.map_cons, List.map_nil, opN, List.getD_cons_zero, List.getD_cons_succ]
            rw [hD1]
            go_wp2_with fail
            refine ⟨by first | trivial | rfl, ?_⟩
            go_wp2_with fail
            refine (HBEG.out _).mono ?_
            rintro e w9 ⟨rfl, rfl⟩
            obtain ⟨D2, hD2, mD2⟩ : ∃ D, D1.drew = D ∧ Mod [] D1 D := ⟨_, rfl, (Mod.refl [] D1).drew⟩
            have y0 := mD2.cellD x0
            have y1 := mD2.cellD x1
            have y3 := mD2.cellD x3
            have yb := mD2.cellD xb
            have HM := Lib.hid (HM.out.trans mD2)
            clear x0 x1 x3 xb mD2 hD1
            go_wp2_with fail
            refine ⟨again_nil, ?_⟩
            go_wp2_with fail
            refine ⟨by first | trivial | rfl, ?_⟩
            go_wp2_with fail
            refine wp_plan [([0, 1, 6, 11, 2, 7, 3, 8, 4, 9, 5, 10], 12, []), ([], 13, [])] [14] (by kernel_rfl) (by kernel_rfl) ?_
            simp only [wpSegs, opsOf, List.map_cons, List.map_nil, opN, List.getD_cons_zero, List.getD_cons_succ]
            rw [hD2]
            go_wp2_with fail
            refine ⟨by first | trivial | rfl, ?_⟩
            go_wp2_with fail
            refine (HFR.out _).mono ?_
            rintro e W3 ⟨rfl, m3⟩
            have HM := Lib.hid (HM.out.trans m3)
            have z0 := m3.cellD y0
            have z1 := m3.cellD y1
            have z3 := m3.cellD y3
            have zb := m3.cellD yb
            clear y0 y1 y3 yb m3 hD2
            go_wp2_with fail
            refine ⟨again_nil, ?_⟩
            go_wp2_with fail
            refine ⟨by first | trivial | rfl, ?_⟩
            go_wp2_with fail
            refine (HPL.out _).mono ?_
            rintro e W4 ⟨pv, rfl, ho, m4⟩
            have HB3 := Lib.hid (show w.heap.size ≤ W3.heap.size from HM.out.size)
            have HM := Lib.hid (HM.out.trans m4)
            have y0 := m4.cellD z0
            have y1 := m4.cellD z1
            have y3 := m4.cellD z3
            have yb := m4.cellD zb
            clear z0 z1 z3 zb m4
            have HO := Lib.hid ho
            clear ho
            go_wp2_with fail
            refine ⟨again_nil, ?_⟩
            go_wp2_with fail
            refine ⟨by first | trivial | rfl, ?_⟩
            go_wp2_with fail
            refine (HPAD.out _).mono ?_
            rintro e W5 ⟨rfl, m5⟩
            have HM := Lib.hid (HM.out.trans m5)
            have z0 := m5.cellD y0
            have z1 := m5.cellD y1
            have z3 := m5.cellD y3
            have zb := m5.cellD yb
            clear y0 y1 y3 yb m5 HO
            obtain ⟨W6, hAl, kA, zA, mA⟩ := alloc_named2 W5 (.cells #[.int .i64 (beginP R.n (J.epoch + 1)), .string (strOfNums zeros64)] 53)
            obtain ⟨gA, hgA⟩ : ∃ g, W5.heap.size = g := ⟨_, rfl⟩
            rw [hgA] at kA
            have hO := own_lit (enc := encRw) (k := 2) (base := w.heap.size) (l := rowsOf [(beginP R.n (J.epoch + 1), zeros64)]) kA rfl (n := 1) rfl encRw_len (by rw [← hgA]; exact HM.out.size) (by simp [rowsOf])
            have HM := Lib.hid (HM.out.trans mA)
            have HO := Lib.hid hO
            have y0 := mA.cellD z0
            have y1 := mA.cellD z1
            have y3 := mA.cellD z3
            have yb := mA.cellD zb
            clear z0 z1 z3 zb kA zA mA hO
            go_wp2_with fail
            try rw [hAl]
            try rw [hgA]
            clear hAl hgA
            obtain ⟨D7, hD7, mD7⟩ : ∃ D, W6.drew = D ∧ Mod [] W6 D := ⟨_, rfl, (Mod.refl [] W6).drew⟩
            have HM := Lib.hid (HM.out.trans mD7)
            have HO := Lib.hid (HO.out.kept0 mD7)
            have x0 := mD7.cellD y0
            have x1 := mD7.cellD y1
            clear y0 y1 y3 yb mD7
            refine wp_plan [([0, 1, 2, 8, 3, 9, 4, 10, 5, 11, 6, 12, 7], 13, [3, 4, 5, 6, 7]), ([], 14, []), ([], 15, []), ([], 16, []), ([], 17, [])] [18] (by kernel_rfl) (by kernel_rfl) ?_
            simp only [wpSegs, opsOf, List.map_cons, List.map_nil, opN, List.getD_cons_zero, List.getD_cons_succ]
            rw [hD7]
            go_wp2_with fail
            refine ⟨by first | trivial | rfl, ?_⟩
            go_wp2_with fail
            refine (HSUP.out _).mono ?_
            rintro e W8 ⟨rfl, m8⟩
            have HM := Lib.hid (HM.out.trans m8)
            have HO := Lib.hid (HO.out.kept0 m8)
            have y1 := m8.cellD x1
            clear x0 x1 m8 hD7
            go_wp2_with fail
            refine ⟨?ag2, ?_⟩
            case ag2 =>
              intro i hi hw
              simp only [List.mem_cons, List.not_mem_nil, or_false] at hi
              rcases hi with rfl | rfl | rfl | rfl | rfl
              all_goals (simp only [opN, List.getD_cons_zero, List.getD_cons_succ, slotOf]; go_simp; try first | exact HWE.out | exact HTM.out)
            go_wp2_with fail
            refine ⟨by first | trivial | rfl, ?_⟩
            go_wp2_with fail
            refine ⟨again_nil, ?_⟩
            have HPE := Lib.hid (show rowsOf [(beginP R.n (J.epoch + 1), zeros64)] ++ [((J.epoch + 1) % 2, strOfNums (superP (J.epoch + 1)))] = rowsOf (J.ckPlan R.n) from by rw [HPLN.out, if_pos k2]; simp [rowsOf])
            have hlen : (rowsOf [(beginP R.n (J.epoch + 1), zeros64)]).length < 1073741824 := by simp [rowsOf]
            have HPN := Lib.hid (show (J.ckPlan R.n).length ≤ 40000 from by rw [HPLN.out, if_pos k2]; simp)
            obtain ⟨v9, W9, ra, ho9, gr⟩ := own_append1 (P := Try.prog) (ty := 44) elemRw encRw_len encRw_one HO.out HM.out.size ((J.epoch + 1) % 2, strOfNums (superP (J.epoch + 1))) hlen (by omega)
            have hm9 := gr.intoNil HO.out (Nat.le_refl _) HM.out
            dsimp only [encRw] at ra
            rw [HPE.out] at ho9
            have HRA := Lib.hid ra
            have HM9 := Lib.hid hm9
            have CD := Lib.hid (mjDo_at (H.out.kept0 hm9) ho9 HPI.out (Nat.le_trans hbs hm9.size) (by have := HK.out.r0; have := HPN.out; omega) (by have := HK.out.w0; have := HK.out.w1; omega) (by have := HK.out.k0; have := HPN.out; omega) (by have := HPN.out; omega))
            clear ra ho9 gr hm9 hlen HO y1
            go_wp2_with fail
            refine ⟨by first | trivial | rfl, ?_⟩
            go_wp2_with fail
            refine ⟨again_nil, ?_⟩
            go_wp2_with fail
            refine ⟨by first | trivial | rfl, ?_⟩
            go_wp2_with ((with_reducible refine xAppendAt HRA.out rfl rfl ?_ ?_ ?_ ?_); exact rfl; exact rfl; exact rfl)
            refine ⟨again_nil, ?_⟩
            go_wp2_with fail
            refine ⟨by first | trivial | rfl, ?_⟩
            go_wp2_with fail
            refine CD.out.mono ?_
            rintro e W10 ⟨rfl, hM10, m10⟩
            have HM10 := Lib.hid (show MAt W10 base j b (J.done R (J.ckPlan R.n)) (R.does (J.ckPlan R.n)).2 from hM10)
            have HMM := Lib.hid (HM9.out.nil.trans m10)
            clear hM10 m10 CD HRA
            go_wp2_with fail
            refine ⟨again_nil, ?_⟩
            go_wp2_with fail
            refine ⟨by first | trivial | rfl, ?_⟩
            obtain ⟨err, herr⟩ : ∃ e, (R.does (J.ckPlan R.n)).1 = e := ⟨_, rfl⟩
            have HERR := Lib.hid herr
            rw [herr]
            clear herr
            by_cases hz : err = 0
            · have t9 : (err == 0) = true := by simpa using hz
              have HC2 := Lib.hid (show J.check R = (0, { J.done R (J.ckPlan R.n) with epoch := J.epoch + 1, at_ := beginP R.n (J.epoch + 1) }, (R.does (J.ckPlan R.n)).2) from by
                rw [HCK.out, if_neg (by omega), if_pos (by rw [HERR.out]; exact hz), if_pos k2, Int.add_zero])
              subst hz
              have u1 : W10.cell? ⟨j, 1, none⟩ = some (.int .i64 J.epoch) := HM10.out.cells.2.1
              have u2 : W10.cell? ⟨j, 2, none⟩ = some (.int .i64 J.at_) := HM10.out.cells.2.2.1
              have gg : W10.frozen? ⟨j, 1, none⟩ = false ∧ W10.frozen? ⟨j, 2, none⟩ = false := by
                obtain ⟨⟨lv, av, e1, _⟩, _⟩ := HM10.out
                exact ⟨frozen_blk e1 1, frozen_blk e1 2⟩
              obtain ⟨g1, g2⟩ := gg
              obtain ⟨hM11, s11⟩ := HM10.out.setEp (J.epoch + 1)
              obtain ⟨hM12, s12⟩ := hM11.setAt (beginP R.n (J.epoch + 1))
              have v2 := hM11.cells.2.2.1
              have g3 : (W10.setCell ⟨j, 1, none⟩ (.int .i64 (J.epoch + 1))).frozen? ⟨j, 2, none⟩ = false := by
                obtain ⟨⟨lv, av, e1, _⟩, _⟩ := hM11
                exact frozen_blk e1 2
              have HM12 := Lib.hid hM12
              have HMM := Lib.hid ((HMM.out.trans (s11.mono (by simp))).trans (s12.mono (by simp)))
              clear hM11 hM12 s11 s12
              go_wp2_with fail
              go_ret
              exact ⟨by rw [HC2.out]; rfl, by rw [HC2.out]; exact HM12.out, HMM.out⟩
            · have t9 : (err == 0) = false := by simpa using hz
              have HC2 := Lib.hid (show J.check R = (err, J.done R (J.ckPlan R.n), (R.does (J.ckPlan R.n)).2) from by
                rw [HCK.out, if_neg (by omega), if_neg (by rw [HERR.out]; exact hz), HERR.out])
              clear hz
              go_wp2_with fail
              go_ret
              exact ⟨by rw [HC2.out]; rfl, by rw [HC2.out]; exact HM10.out, HMM.out⟩
          · have t2 : decide (0 < (i : Int)) = true := decide_eq_true (by omega)
            have t3 : ((i : Int) == 0) = false := by simpa using k2
            by_cases k3 : hf < (mm : Int) + 1
            · have t4 : decide (hf < (mm : Int) + 1) = true := decide_eq_true k3
              have HC7 := Lib.hid (show J.check R = (7, J, R) from by rw [HCK.out, if_pos (.inr ⟨by omega, k3⟩)])
              go_wp2_with (first | (refine (HMANY.out _).mono ?_; rintro e w9 ⟨rfl, rfl⟩) | (refine (HHALF.out _).mono ?_; rintro e w9 ⟨rfl, rfl⟩))
              go_ret
              exact ⟨by rw [HC7.out]; rfl, by rw [HC7.out]; exact HN.out, HM.out.nil⟩
            · have t4 : decide (hf < (mm : Int) + 1) = false := decide_eq_false k3
              obtain ⟨D1, hD1, mD1⟩ : ∃ D, wr.drew = D ∧ Mod [] wr D := ⟨_, rfl, (Mod.refl [] wr).drew⟩
              have x0 := mD1.cellD q0
              have x1 := mD1.cellD q1
              have x3 := mD1.cellD q3
              have xb := mD1.cellD qb
              have HM := Lib.hid (HM.out.trans mD1)
              clear mD1
              go_wp2_with (first | (refine (HMANY.out _).mono ?_; rintro e w9 ⟨rfl, rfl⟩) | (refine (HHALF.out _).mono ?_; rintro e w9 ⟨rfl, rfl⟩))
              clear q0 q1 q3 qb
              refine wp_plan [([0, 7, 1, 8, 2, 9, 3, 10, 4, 11, 5, 6], 12, [])] [13] (by kernel_rfl) (by kernel_rfl) ?_
              simp only [wpSegs, opsOf, List.map_cons, List.map_nil, opN, List.getD_cons_zero, List.getD_cons_succ]
              rw [hD1]
              go_wp2_with fail
              refine ⟨by first | trivial | rfl, ?_⟩
              go_wp2_with fail
              refine (HBEG.out _).mono ?_
              rintro e w9 ⟨rfl, rfl⟩
              obtain ⟨D2, hD2, mD2⟩ : ∃ D, D1.drew = D ∧ Mod [] D1 D := ⟨_, rfl, (Mod.refl [] D1).drew⟩
              have y0 := mD2.cellD x0
              have y1 := mD2.cellD x1
              have y3 := mD2.cellD x3
              have yb := mD2.cellD xb
              have HM := Lib.hid (HM.out.trans mD2)
              clear x0 x1 x3 xb mD2 hD1
              go_wp2_with fail
              refine ⟨again_nil, ?_⟩
              go_wp2_with fail
              refine ⟨by first | trivial | rfl, ?_⟩
              go_wp2_with fail
              refine wp_plan [([0, 1, 6, 11, 2, 7, 3, 8, 4, 9, 5, 10], 12, []), ([], 13, [])] [14] (by kernel_rfl) (by kernel_rfl) ?_
              simp only [wpSegs, opsOf, List.map_cons, List.map_nil, opN, List.getD_cons_zero, List.getD_cons_succ]
              rw [hD2]
              go_wp2_with fail
              refine ⟨by first | trivial | rfl, ?_⟩
              go_wp2_with fail
              refine (HFR.out _).mono ?_
              rintro e W3 ⟨rfl, m3⟩
              have HM := Lib.hid (HM.out.trans m3)
              have z0 := m3.cellD y0
              have z1 := m3.cellD y1
              have z3 := m3.cellD y3
              have zb := m3.cellD yb
              clear y0 y1 y3 yb m3 hD2
              go_wp2_with fail
              refine ⟨again_nil, ?_⟩
              go_wp2_with fail
              refine ⟨by first | trivial | rfl, ?_⟩
              go_wp2_with fail
              refine (HPL.out _).mono ?_
              rintro e W4 ⟨pv, rfl, ho, m4⟩
              have HB3 := Lib.hid (show w.heap.size ≤ W3.heap.size from HM.out.size)
              have HM := Lib.hid (HM.out.trans m4)
              have HB8 := Lib.hid (show W3.heap.size ≤ W4.heap.size from m4.size)
              have y0 := m4.cellD z0
              have y1 := m4.cellD z1
              have y3 := m4.cellD z3
              have yb := m4.cellD zb
              clear z0 z1 z3 zb m4
              have HO := Lib.hid ho
              clear ho
              go_wp2_with fail
              refine ⟨again_nil, ?_⟩
              go_wp2_with fail
              refine ⟨by first | trivial | rfl, ?_⟩
              go_wp2_with fail
              obtain ⟨D7, hD7, mD7⟩ : ∃ D, W4.drew = D ∧ Mod [] W4 D := ⟨_, rfl, (Mod.refl [] W4).drew⟩
              have HM := Lib.hid (HM.out.trans mD7)
              have HB8 := Lib.hid (Nat.le_trans HB8.out mD7.size)
              have HO := Lib.hid (HO.out.kept0 mD7)
              have x0 := mD7.cellD y0
              have x1 := mD7.cellD y1
              clear y0 y1 y3 yb mD7
              refine wp_plan [([0, 1, 2, 8, 3, 9, 4, 10, 5, 11, 6, 12, 7], 13, [3, 4, 5, 6, 7]), ([], 14, []), ([], 15, []), ([], 16, []), ([], 17, [])] [18] (by kernel_rfl) (by kernel_rfl) ?_
              simp only [wpSegs, opsOf, List.map_cons, List.map_nil, opN, List.getD_cons_zero, List.getD_cons_succ]
              rw [hD7]
              go_wp2_with fail
              refine ⟨by first | trivial | rfl, ?_⟩
              go_wp2_with fail
              refine (HSUP.out _).mono ?_
              rintro e W8 ⟨rfl, m8⟩
              have HM := Lib.hid (HM.out.trans m8)
              have HB8 := Lib.hid (Nat.le_trans HB8.out m8.size)
              have HO := Lib.hid (HO.out.kept0 m8)
              have y1 := m8.cellD x1
              clear x0 x1 m8 hD7
              go_wp2_with fail
              refine ⟨?ag2, ?_⟩
              case ag2 =>
                intro i hi hw
                simp only [List.mem_cons, List.not_mem_nil, or_false] at hi
                rcases hi with rfl | rfl | rfl | rfl | rfl
                all_goals (simp only [opN, List.getD_cons_zero, List.getD_cons_succ, slotOf]; go_simp; try first | exact HWE.out | exact HTM.out)
              go_wp2_with fail
              refine ⟨by first | trivial | rfl, ?_⟩
              go_wp2_with fail
              refine ⟨again_nil, ?_⟩
              have HPE := Lib.hid (show rowsOf (layPlan (beginP R.n (J.epoch + 1)) (frameP 1 (J.epoch + 1) i (ckOwn J.l)) mm) ++ [((J.epoch + 1) % 2, strOfNums (superP (J.epoch + 1)))] = rowsOf (J.ckPlan R.n) from by rw [HPLN.out, if_neg (by omega)]; simp [rowsOf])
              have hlen : (rowsOf (layPlan (beginP R.n (J.epoch + 1)) (frameP 1 (J.epoch + 1) i (ckOwn J.l)) mm)).length < 1073741824 := by simp [rowsOf, layPlan_len]; omega
              have HPN := Lib.hid (show (J.ckPlan R.n).length ≤ 40000 from by rw [HPLN.out, if_neg (by omega), List.length_append, layPlan_len]; simp; omega)
              obtain ⟨v9, W9, ra, ho9, gr⟩ := own_append1 (P := Try.prog) (ty := 44) elemRw encRw_len encRw_one HO.out HB8.out ((J.epoch + 1) % 2, strOfNums (superP (J.epoch + 1))) hlen (by omega)
              have hm9 := gr.intoNil HO.out HB3.out HM.out
              dsimp only [encRw] at ra
              rw [HPE.out] at ho9
              have HRA := Lib.hid ra
              have HM9 := Lib.hid hm9
              have CD := Lib.hid (mjDo_at (H.out.kept0 hm9) ho9 HPI.out (Nat.le_trans hbs hm9.size) (by have := HK.out.r0; have := HPN.out; omega) (by have := HK.out.w0; have := HK.out.w1; omega) (by have := HK.out.k0; have := HPN.out; omega) (by have := HPN.out; omega))
              clear ra ho9 gr hm9 hlen HO y1
              go_wp2_with fail
              refine ⟨by first | trivial | rfl, ?_⟩
              go_wp2_with fail
              refine ⟨again_nil, ?_⟩
              go_wp2_with fail
              refine ⟨by first | trivial | rfl, ?_⟩
              go_wp2_with ((with_reducible refine xAppendAt HRA.out rfl rfl ?_ ?_ ?_ ?_); exact rfl; exact rfl; exact rfl)
              refine ⟨again_nil, ?_⟩
              go_wp2_with fail
              refine ⟨by first | trivial | rfl, ?_⟩
              go_wp2_with fail
              refine CD.out.mono ?_
              rintro e W10 ⟨rfl, hM10, m10⟩
              have HM10 := Lib.hid (show MAt W10 base j b (J.done R (J.ckPlan R.n)) (R.does (J.ckPlan R.n)).2 from hM10)
              have HMM := Lib.hid (HM9.out.nil.trans m10)
              clear hM10 m10 CD HRA
              go_wp2_with fail
              refine ⟨again_nil, ?_⟩
              go_wp2_with fail
              refine ⟨by first | trivial | rfl, ?_⟩
              obtain ⟨err, herr⟩ : ∃ e, (R.does (J.ckPlan R.n)).1 = e := ⟨_, rfl⟩
              have HERR := Lib.hid herr
              rw [herr]
              clear herr
              by_cases hz : err = 0
              · have t9 : (err == 0) = true := by simpa using hz
                have HC2 := Lib.hid (show J.check R = (0, { J.done R (J.ckPlan R.n) with epoch := J.epoch + 1, at_ := beginP R.n (J.epoch + 1) + (mm : Int) }, (R.does (J.ckPlan R.n)).2) from by
                  rw [HCK.out, if_neg (by omega), if_pos (by rw [HERR.out]; exact hz), if_neg (by omega)])
                subst hz
                have u1 : W10.cell? ⟨j, 1, none⟩ = some (.int .i64 J.epoch) := HM10.out.cells.2.1
                have u2 : W10.cell? ⟨j, 2, none⟩ = some (.int .i64 J.at_) := HM10.out.cells.2.2.1
                have gg : W10.frozen? ⟨j, 1, none⟩ = false ∧ W10.frozen? ⟨j, 2, none⟩ = false := by
                  obtain ⟨⟨lv, av, e1, _⟩, _⟩ := HM10.out
                  exact ⟨frozen_blk e1 1, frozen_blk e1 2⟩
                obtain ⟨g1, g2⟩ := gg
                obtain ⟨hM11, s11⟩ := HM10.out.setEp (J.epoch + 1)
                obtain ⟨hM12, s12⟩ := hM11.setAt (beginP R.n (J.epoch + 1) + (mm : Int))
                have v2 := hM11.cells.2.2.1
                have g3 : (W10.setCell ⟨j, 1, none⟩ (.int .i64 (J.epoch + 1))).frozen? ⟨j, 2, none⟩ = false := by
                  obtain ⟨⟨lv, av, e1, _⟩, _⟩ := hM11
                  exact frozen_blk e1 2
                have HM12 := Lib.hid hM12
                have HMM := Lib.hid ((HMM.out.trans (s11.mono (by simp))).trans (s12.mono (by simp)))
                clear hM11 hM12 s11 s12
                go_wp2_with fail
                go_ret
                exact ⟨by rw [HC2.out]; rfl, by rw [HC2.out]; exact HM12.out, HMM.out⟩
              · have t9 : (err == 0) = false := by simpa using hz
                have HC2 := Lib.hid (show J.check R = (err, J.done R (J.ckPlan R.n), (R.does (J.ckPlan R.n)).2) from by
                  rw [HCK.out, if_neg (by omega), if_neg (by rw [HERR.out]; exact hz), HERR.out])
                clear hz
                go_wp2_with fail
                go_ret
                exact ⟨by rw [HC2.out]; rfl, by rw [HC2.out]; exact HM10.out, HMM.out⟩
end Go.Proofs.Ytnjfgbbdfdoccaa
namespace Go.Proofs.Ytnjfgbbdfdoccaa
open Go.RowKit Go.ChangeMaps
set_option linter.unusedSimpArgs false
set_option linter.unusedVariables false
set_option maxRecDepth 20000

theorem elemStrK : ElemOk Try.prog 32 9 1 16 := .mk' Try.underlying32 (by omega) (by kernel_rfl)
set_option maxHeartbeats 4000000 in
theorem mjRead_at {w : World} {b : Nat} {R : Rk} {D : Dk} (h : DkAt w b R) (hS : Same D R) (hd : R.down = false) (h64 : ∀ k, (D.sec k).length = 64) (at_ : Int) (n : Nat) (h0 : 0 ≤ at_) (h1 : at_ + n ≤ R.n) (h2 : R.n ≤ 65536) :
    Calls Try.prog 64 #[.pointer (some ⟨b, 0, none⟩), .int .i64 at_, .int .i64 n] w fun e w' => e = .returned (.string (strOfNums (secsP D at_ n))) ∧ Mod [] w w' := by
  have H := Lib.hid h
  have HD := Lib.hid hd
  have HST := Lib.hid (show (⟨#[]⟩ : ByteArray) = strOfNums (secsP D at_ 0) from rfl)
  have HSC := Lib.hid (fun k => hS.sec k)
  have HL := Lib.hid (fun i => secsP_len h64 at_ i)
  have H64 := Lib.hid h64
  clear h hd hS h64
  go_enter Try.func64, Try.ntmps64
  go_wp2_with fail
  go_loopw [7, 8] (fun s7 s8 W => ∃ i : Nat, i ≤ n ∧ s8 = .int .i64 i ∧ s7 = .string (strOfNums (secsP D at_ i)) ∧ Hid (Mod [] w W)) (fun _ s8 _ => n - (intOf s8).toNat)
  case atStart => exact ⟨0, by omega, rfl, rfl, Lib.hid (Mod.refl _ _)⟩
  case round =>
    obtain ⟨i, hi, rfl, rfl, HM⟩ := hrel
    by_cases hlt : i < n
    · have d1 : decide ((i : Int) < (n : Int)) = true := decide_eq_true (by omega)
      obtain ⟨v, g, hR, hne⟩ := H.out.kept0 HM.out
      have CR := Lib.hid (rread_done hR (at_ + i) (by
        unfold Rk.asked
        rw [HD.out, if_neg (by decide), if_neg (by omega)]))
      rw [← HSC.out (at_ + i)] at CR
      have z1 : (strOfNums (secsP D at_ i)).size = i * 64 := by rw [strs_len, HL.out]
      have z2 : (strOfNums (D.sec (at_ + i))).size = 64 := by rw [strs_len, H64.out]
      have hz : ¬ 9223372036854775807 < (strOfNums (secsP D at_ i)).size + (strOfNums (D.sec (at_ + i))).size := by omega
      have HE := Lib.hid (show strOfNums (secsP D at_ i) ++ strOfNums (D.sec (at_ + i)) = strOfNums (secsP D at_ (i + 1)) from by rw [strs_append, secsP_succ])
      generalize strOfNums (D.sec (at_ + i)) = t1 at *
      generalize strOfNums (secsP D at_ i) = t0 at *
      clear hR hne
      go_wp2_with fail
      refine CR.out.mono ?_
      rintro e w2 ⟨rfl, m2⟩
      have HM := Lib.hid (HM.out.trans m2)
      clear m2 CR
      go_wp2_with fail
      rw [HE.out]
      go_roundw
      case rel => exact ⟨i + 1, by omega, by go_num, rfl, HM⟩
      case measure => simp [intOf]; omega
    · obtain rfl : i = n := by omega
      have d1 : decide ((i : Int) < (i : Int)) = false := decide_eq_false (by omega)
      go_wp2_with fail
      go_ret
      exact ⟨rfl, HM.out⟩
def PartsM (w : World) (s : List Int) (n : Int) (e : Ending) (w' : World) : Prop :=
  Mod [] w w' ∧ ((∃ l v, partsP s n = some l ∧ e = .returned (.tuple #[v, .bool true]) ∧ OwnR encStr 1 9 w' w.heap.size v (l.map strOfNums)) ∨ (partsP s n = none ∧ ∃ v, e = .returned (.tuple #[v, .bool false])))
set_option maxHeartbeats 8000000 in
theorem mjParts_at (s : List Int) (hs : IsB s) (hl : s.length ≤ 134217728) (n : Int) (w : World) :
    Calls Try.prog 72 #[.string (strOfNums s), .int .i64 n] w (PartsM w s n) := by
  have hsz := strs_len s
  have HB := Lib.hid hs
  have HNUM := Lib.hid (show ∀ k : Nat, k + 4 ≤ s.length → ∀ u, Calls Try.prog 65 #[.string (strOfNums s), .int .i64 k] u fun e w' => e = .returned (.int .i64 (numP (s.drop k))) ∧ Mod [] u w' from fun k hk u => mjNumber_at s k hk (by omega) hs u)
  have HSL := Lib.hid (fun i j h1 h2 => str_slice s i j h1 h2)
  obtain ⟨ns, hns⟩ : ∃ ns, s.length = ns := ⟨_, rfl⟩
  have HNS := Lib.hid hns
  rw [hns] at hsz hl
  generalize strOfNums s = t at *
  clear hs hns
  go_enter Try.func72, Try.ntmps72
  go_wp2_with fail
  go_loopw [6, 7] (fun s6 s7 W => ∃ (k : Nat) (acc : List (List Int)), k ≤ ns ∧ acc.length ≤ k ∧ s7 = .int .i64 k ∧ Hid (OwnR encStr 1 9 W w.heap.size s6 (acc.map strOfNums) ∧ Mod [] w W ∧ ∃ f, ns - k ≤ f ∧ partsF s.length s = (partsF f (s.drop k)).map (fun r => (acc ++ r.1, r.2)))) (fun _ s7 _ => ns - (intOf s7).toNat)
  case atStart => exact ⟨0, [], by omega, by simp, rfl, Lib.hid ⟨OwnR.nil_ _ _, Mod.refl _ _, s.length, by have := HNS.out; omega, by rw [List.drop_zero]; cases partsF s.length s <;> simp⟩⟩
  case round =>
    obtain ⟨k, acc, hk, hak, rfl, hS⟩ := hrel
    obtain ⟨hO, hM, f, hf, hF⟩ := hS.out
    have hdl : (s.drop k).length = ns - k := by rw [List.length_drop, HNS.out]
    by_cases h4 : k + 4 ≤ ns
    · have d1 : decide ((k : Int) + 4 ≤ (t.size : Int)) = true := decide_eq_true (by omega)
      obtain ⟨g, rfl⟩ : ∃ g, f = g + 1 := ⟨f - 1, by omega⟩
      have CN := Lib.hid (HNUM.out k (by have := HNS.out; omega) wr)
      obtain ⟨v0, v1⟩ := numP_range (HB.out.drop k)
      have hpf : partsF (g + 1) (s.drop k) = if numP (s.drop k) < 1 ∨ 65536 < numP (s.drop k) ∨ ((s.drop k).length : Int) - 4 < numP (s.drop k) then none else (partsF g (((s.drop k).drop 4).drop (numP (s.drop k)).toNat)).map fun r => (((s.drop k).drop 4).take (numP (s.drop k)).toNat :: r.1, r.2) := by
        conv => lhs; unfold partsF
        rw [if_pos (by omega)]
      rw [hdl] at hpf
      have HPF := Lib.hid hpf
      have HF := Lib.hid hF
      have HO := Lib.hid hO
      have HM := Lib.hid hM
      obtain ⟨kk, hkk⟩ : ∃ kk, numP (s.drop k) = kk := ⟨_, rfl⟩
      rw [hkk] at CN v0 v1 HPF
      clear hpf hF hO hM hS hkk
      by_cases hbad : kk < 1 ∨ 65536 < kk ∨ ((ns - k : Nat) : Int) - 4 < kk
      · have HN := Lib.hid (show partsP s n = none from by
          have e : partsF s.length s = none := by rw [HF.out, HPF.out, if_pos hbad]; rfl
          unfold partsP
          rw [e])
        have hcs : (kk < 1) ∨ (¬ kk < 1 ∧ 65536 < kk) ∨ (¬ kk < 1 ∧ ¬ 65536 < kk ∧ (t.size : Int) < (k : Int) + 4 + kk) := by omega
        rcases hcs with hk1 | ⟨hk1, hk2⟩ | ⟨hk1, hk2, hk3⟩
        · have dk1 : decide (kk < 1) = true := decide_eq_true hk1
          clear hbad
          go_wp2_with fail
          refine CN.out.mono ?_
          rintro e w1 ⟨rfl, m1⟩
          have HM := Lib.hid (HM.out.trans m1)
          clear m1 CN
          go_wp2_with fail
          go_ret2
          exact ⟨HM.out, .inr ⟨HN.out, _, rfl⟩⟩
        · have dk1 : decide (kk < 1) = false := decide_eq_false hk1
          have dk2 : decide (65536 < kk) = true := decide_eq_true hk2
          clear hbad
          go_wp2_with fail
          refine CN.out.mono ?_
          rintro e w1 ⟨rfl, m1⟩
          have HM := Lib.hid (HM.out.trans m1)
          clear m1 CN
          go_wp2_with fail
          go_ret2
          exact ⟨HM.out, .inr ⟨HN.out, _, rfl⟩⟩
        · have dk1 : decide (kk < 1) = false := decide_eq_false hk1
          have dk2 : decide (65536 < kk) = false := decide_eq_false hk2
          have dk3 : decide ((t.size : Int) < (k : Int) + 4 + kk) = true := decide_eq_true hk3
          clear hbad
          go_wp2_with fail
          refine CN.out.mono ?_
          rintro e w1 ⟨rfl, m1⟩
          have HM := Lib.hid (HM.out.trans m1)
          clear m1 CN
          go_wp2_with fail
          go_ret2
          exact ⟨HM.out, .inr ⟨HN.out, _, rfl⟩⟩
      · obtain ⟨m, rfl⟩ := Int.eq_ofNat_of_zero_le v0
        have hm1 : 1 ≤ m ∧ m ≤ 65536 ∧ k + 4 + m ≤ ns := by omega
        obtain ⟨m1, m2, m3⟩ := hm1
        have dk1 : decide ((m : Int) < 1) = false := decide_eq_false (by omega)
        have dk2 : decide (65536 < (m : Int)) = false := decide_eq_false (by omega)
        have dk3 : decide ((t.size : Int) < (k : Int) + 4 + m) = false := decide_eq_false (by omega)
        have HX := Lib.hid (HSL.out (k + 4) (k + 4 + m) (by omega) (by have := HNS.out; omega))
        rw [show k + 4 + m - (k + 4) = m from by omega] at HX
        have HF2 := Lib.hid (show partsF s.length s = (partsF g (s.drop (k + 4 + m))).map (fun r => ((acc ++ [(s.drop (k + 4)).take m]) ++ r.1, r.2)) from by
          rw [HF.out, HPF.out, if_neg hbad, Int.toNat_natCast, List.drop_drop, List.drop_drop, Option.map_map]
          congr 1
          funext r
          simp)
        clear hbad
        go_wp2_with fail
        refine CN.out.mono ?_
        rintro e w1 ⟨rfl, mw⟩
        have HM := Lib.hid (HM.out.trans mw)
        have HO := Lib.hid (HO.out.kept0 mw)
        obtain ⟨v', w', ra, ho', gr⟩ := own_append1 (P := Try.prog) (ty := 32) elemStrK encStr_len encStr_one HO.out HM.out.size (t.extract (k + 4) (k + 4 + m)) (by rw [List.length_map]; omega) (by omega)
        have HM2 := Lib.hid (gr.intoNil HO.out (Nat.le_refl _) HM.out)
        dsimp only [encStr] at ra
        have HO2 := Lib.hid (show OwnR encStr 1 9 w' w.heap.size v' ((acc ++ [(s.drop (k + 4)).take m]).map strOfNums) from by
          rw [List.map_append, List.map_singleton, ← HX.out]; exact ho')
        have RA := Lib.hid ra
        clear mw CN ra ho' gr
        go_wp2_with ((with_reducible refine xAppendAt RA.out rfl rfl ?_ ?_ ?_ ?_); exact rfl; exact rfl; exact rfl)
        go_roundw
        case rel => exact ⟨k + 4 + m, acc ++ [(s.drop (k + 4)).take m], by omega, by simp; omega, by go_num, Lib.hid ⟨HO2.out, HM2.out, g, by omega, HF2.out⟩⟩
        case measure => simp [intOf]; omega
    · have d1 : decide ((k : Int) + 4 ≤ (t.size : Int)) = false := decide_eq_false (by omega)
      have hpe : partsF f (s.drop k) = some ([], decide ((s.drop k).length = 0)) := by
        cases f with
        | zero => rfl
        | succ g => unfold partsF; rw [if_neg (by omega)]
      have hPS : partsF s.length s = some (acc, decide (ns - k = 0)) := by rw [hF, hpe, hdl]; simp
      have hPP : partsP s n = if decide (ns - k = 0) = true ∧ (acc.length : Int) = n ∧ 0 < n then some acc else none := by
        unfold partsP; rw [hPS]
      have HPP := Lib.hid hPP
      obtain ⟨la, lc, hlv⟩ := hO.lens
      rw [List.length_map] at hlv
      subst hlv
      have HO := Lib.hid hO
      have HM := Lib.hid hM
      clear hpe hPS hPP hF hO hM hS hdl hf
      by_cases q1 : k = ns
      · have t1 : ((k : Int) == (t.size : Int)) = true := by simp; omega
        by_cases q2 : (acc.length : Int) = n
        · have t2 : ((acc.length : Int) == n) = true := by simpa using q2
          by_cases q3 : 0 < n
          · have t3 : decide (0 < n) = true := decide_eq_true q3
            have HN := Lib.hid (show partsP s n = some acc from by rw [HPP.out, if_pos ⟨decide_eq_true (by omega), q2, q3⟩])
            go_wp2_with fail
            go_ret2
            exact ⟨HM.out, .inl ⟨acc, _, HN.out, rfl, HO.out⟩⟩
          · have t3 : decide (0 < n) = false := decide_eq_false q3
            have HN := Lib.hid (show partsP s n = none from by rw [HPP.out, if_neg (fun h => q3 h.2.2)])
            go_wp2_with fail
            go_ret2
            exact ⟨HM.out, .inr ⟨HN.out, _, rfl⟩⟩
        · have t2 : ((acc.length : Int) == n) = false := by simpa using q2
          have HN := Lib.hid (show partsP s n = none from by rw [HPP.out, if_neg (fun h => q2 h.2.1)])
          go_wp2_with fail
          go_ret2
          exact ⟨HM.out, .inr ⟨HN.out, _, rfl⟩⟩
      · have t1 : ((k : Int) == (t.size : Int)) = false := by simp; omega
        have HN := Lib.hid (show partsP s n = none from by rw [HPP.out, if_neg (fun h => by have := of_decide_eq_true h.1; omega)])
        go_wp2_with fail
        go_ret2
        exact ⟨HM.out, .inr ⟨HN.out, _, rfl⟩⟩
end Go.Proofs.Ytnjfgbbdfdoccaa
namespace Go.Proofs.Ytnjfgbbdfdoccaa
open Go.RowKit Go.ChangeMaps
set_option linter.unusedSimpArgs false
set_option linter.unusedVariables false
set_option maxRecDepth 20000

theorem strs_inj {a b : List Int} (ha : IsB a) (hb : IsB b) (h : strOfNums a = strOfNums b) : a = b := by
  have hl : a.length = b.length := by rw [← strs_len, ← strs_len, h]
  refine List.ext_getElem hl fun i h1 h2 => ?_
  have e1 := strs_get ha i h1 (by rw [strs_len]; exact h1)
  have e2 := strs_get hb i h2 (by rw [strs_len]; exact h2)
  rw [← e1, ← e2]
  simp only [h]
def Mj.jk (M : Mj) : Jk := ⟨M.epoch, M.at_, M.l, M.dead⟩
def Mj.take (M : Mj) (D : Dk) : Mj := { M with l := M.l ++ (M.jk.next D).1, at_ := M.at_ + (M.jk.next D).2 }
def MMod (base j : Nat) (w w' : World) : Prop := ∃ ks, Mod ks w w' ∧ ∀ k ∈ ks, k = j ∨ base ≤ k
def NextM (w : World) (base j b : Nat) (M : Mj) (R : Rk) (D : Dk) (e : Ending) (w' : World) : Prop :=
  e = .returned (.bool (decide (0 < (M.jk.next D).2))) ∧ MAt w' base j b (M.take D) R ∧ MMod base j w w'
theorem NextM.no {w w' : World} {base j b : Nat} {M : Mj} {R : Rk} {D : Dk} (hn : M.jk.next D = ([], 0)) (h : MAt w base j b M R) (hm : Mod [] w w') : NextM w base j b M R D (.returned (.bool false)) w' := by
  have e : M.take D = M := by unfold Mj.take; rw [hn]; simp
  exact ⟨by rw [hn]; rfl, by rw [e]; exact h.kept0 hm, [], hm, by simp⟩
theorem NextM.yes {w w' : World} {base j b : Nat} {M : Mj} {R : Rk} {D : Dk} {L : List (List Int)} {m : Nat} (hn : M.jk.next D = (L, (m : Int))) (h0 : 0 < m) (h : MAt w' base j b { M with l := M.l ++ L, at_ := M.at_ + m } R) (hm : MMod base j w w') : NextM w base j b M R D (.returned (.bool true)) w' :=
  ⟨by rw [hn]; simp only; rw [decide_eq_true (by omega)], by unfold Mj.take; rw [hn]; exact h, hm⟩
/-- records put behind those that are there -/
theorem MAt.push {w w' : World} {base j b : Nat} {M : Mj} {R : Rk} (h : MAt w base j b M R) {lv lv' av : Value} {L : List (List Int)} (e1 : w.heap[j]? = some (.cells #[.pointer (some ⟨b, 0, none⟩), .int .i64 M.epoch, .int .i64 M.at_, lv, .bool M.dead, av] 55 (0, 0))) (e2 : OwnR encStr 1 9 w base lv (M.l.map strOfNums)) (e3 : OwnR encRw 2 53 w base av M.asked)
    (ho : OwnR encStr 1 9 w' base lv' ((M.l ++ L).map strOfNums)) (gr : Grew w lv w' lv') :
    w'.heap[j]? = some (.cells #[.pointer (some ⟨b, 0, none⟩), .int .i64 M.epoch, .int .i64 M.at_, lv, .bool M.dead, av] 55 (0, 0)) ∧ MAt (w'.setCell ⟨j, 3, none⟩ lv') base j b { M with l := M.l ++ L } R := by
  obtain ⟨hjb, _, _⟩ := h.ne
  have hd := h.disk
  have hj : j ∉ blk lv := fun hk => own_ne e2 e1 (by decide) j (mem_blk.1 hk) rfl
  obtain ⟨v0, eb⟩ := hd.cell
  have hb : b ∉ blk lv := fun hk => own_ne e2 eb (by decide) b (mem_blk.1 hk) rfl
  have f1 := gr.mod.heap e1 hj
  have hset := heap_setCell_blk f1 3 lv'
  simp at hset
  have ms : Mod [j] w' (w'.setCell ⟨j, 3, none⟩ lv') := (Mod.refl _ _).setCell (by simp) _
  have f3 : OwnR encRw 2 53 w' base av M.asked := e3.kept gr.mod (fun k hk hm => by
    have h1 := mem_blk.1 hm
    obtain ⟨c, hc⟩ := ownsRow_cells e2 h1
    exact own_ne e3 hc (by decide) k hk rfl)
  have fd : DkAt w' b R := hd.kept gr.mod hb (fun k hk cs f hc => by
    obtain ⟨c, hc2⟩ := ownsRow_cells e2 (mem_blk.1 hk)
    rw [hc] at hc2
    simp only [Option.some.injEq, Obj.cells.injEq] at hc2
    exact absurd hc2.2.1 (by decide))
  refine ⟨f1, ⟨lv', av, hset, ho.kept ms (fun k hk hm => ?_), f3.kept ms (fun k hk hm => ?_)⟩, fd.kept ms (by simp; omega) (fun k hk cs f hc => ?_)⟩
  · simp only [List.mem_singleton] at hm
    exact own_ne ho f1 (by decide) k hk hm
  · simp only [List.mem_singleton] at hm
    exact own_ne f3 f1 (by decide) k hk hm
  · simp only [List.mem_singleton] at hk
    subst hk
    rw [f1] at hc
    simp only [Option.some.injEq, Obj.cells.injEq] at hc
    exact absurd hc.2.1 (by decide)
set_option maxHeartbeats 16000000 in
theorem mjNext_at {w : World} {base j b : Nat} {M : Mj} {R : Rk} {D : Dk} (h : MAt w base j b M R) (hk : MOk M R) (hS : Same D R) (hd : R.down = false) (hB : ∀ k, IsB (D.sec k)) (h64 : ∀ k, (D.sec k).length = 64) (hbs : base ≤ w.heap.size) :
    Calls Try.prog 66 #[.pointer (some ⟨j, 0, none⟩)] w (NextM w base j b M R D) := by
  obtain ⟨lf0, lf1⟩ := mleft_range hk
  have HK := Lib.hid hk
  obtain ⟨n0, n1, e0, e1, a0, a1, q0, q1, l0, q3, q4⟩ := hk
  have H := Lib.hid h
  have hDn : D.n = R.n := hS.n
  obtain ⟨sz, hsz⟩ := Int.eq_ofNat_of_zero_le (numP_range ((hB M.at_).drop 10)).1
  have hszb : sz ≤ 4294967295 := by have := (numP_range ((hB M.at_).drop 10)).2; omega
  obtain ⟨m0, m1⟩ := numP_range ((hB M.at_).drop 6)
  have hkd : 0 ≤ (D.sec M.at_).getD 1 0 ∧ (D.sec M.at_).getD 1 0 < 256 := by
    have h1 : 1 < (D.sec M.at_).length := by rw [h64]; omega
    rw [List.getD_eq_getElem?_getD, List.getElem?_eq_getElem h1]
    exact hB _ _ (List.getElem_mem h1)
  have hix1 : ∀ u : World, (Instr.index 9 (.string (strOfNums (D.sec M.at_))) (.int .i64 1)).run Try.prog u = .ok (.int .u8 ((D.sec M.at_).getD 1 0)) u := fun u => by
    have h1 : 1 < (D.sec M.at_).length := by rw [h64]; omega
    have := str_index (hB M.at_) 1 h1 u
    rw [List.getD_eq_getElem?_getD, List.getElem?_eq_getElem h1]
    exact this
  have hmm : (((sz : Int) + 81) / 64) = ((manyP sz : Nat) : Int) := by unfold manyP; omega
  have hlf : leftP M.jk D = M.left R := by unfold leftP Mj.left Mj.jk; rw [hDn]
  have HNX := Lib.hid (show M.jk.next D = if M.left R < 2 then ([], 0) else if M.left R < ((manyP sz : Nat) : Int) + 1 then ([], 0) else
      if secsP D M.at_ (manyP sz) = frameP ((D.sec M.at_).getD 1 0) M.epoch (numP ((D.sec M.at_).drop 6)) (((secsP D M.at_ (manyP sz)).drop 14).take sz) then
        (if (D.sec M.at_).getD 1 0 = 0 ∧ 1 ≤ (sz : Int) ∧ (sz : Int) ≤ 65536 ∧ numP ((D.sec M.at_).drop 6) = (M.l.length : Int) + 1 then ([((secsP D M.at_ (manyP sz)).drop 14).take sz], ((manyP sz : Nat) : Int))
        else if (D.sec M.at_).getD 1 0 = 1 ∧ M.at_ = beginP R.n M.epoch then
          (match partsP (((secsP D M.at_ (manyP sz)).drop 14).take sz) (numP ((D.sec M.at_).drop 6)) with
          | some l => (l, ((manyP sz : Nat) : Int))
          | none => ([], 0))
        else ([], 0))
      else ([], 0) from by
    unfold Jk.next
    rw [hlf]
    simp only [Mj.jk]
    simp only [hsz, hmm, hDn, Int.toNat_natCast]
    rfl)
  have HLEFT := Lib.hid (show ∀ u, Mod [] w u → Calls Try.prog 62 #[.pointer (some ⟨j, 0, none⟩)] u fun e w' => e = .returned (.int .i64 (M.left R)) ∧ Mod [] u w' from fun u m => mjLeft_at (H.out.kept0 m) HK.out)
  have hfb : ∀ x : Nat, IsB (secsP D M.at_ x) := fun x => secsP_isB hB M.at_ x
  have hbh := begin_half (D := D) (by omega) (by omega) M.epoch
  rw [hDn] at hbh
  obtain ⟨bh0, bh1, bh2, bh3⟩ := hbh
  have hleft : M.left R = beginP R.n M.epoch + halfP R.n - M.at_ := rfl
  have HS6 := Lib.hid (show ∀ u, Calls Try.prog 65 #[.string (strOfNums (D.sec M.at_)), .int .i64 6] u fun e w' => e = .returned (.int .i64 (numP ((D.sec M.at_).drop 6))) ∧ Mod [] u w' from fun u => mjNumber_at (D.sec M.at_) 6 (by rw [h64]; omega) (by omega) (hB _) u)
  have HS10 := Lib.hid (show ∀ u, Calls Try.prog 65 #[.string (strOfNums (D.sec M.at_)), .int .i64 10] u fun e w' => e = .returned (.int .i64 (sz : Int)) ∧ Mod [] u w' from fun u => by
    have := mjNumber_at (D.sec M.at_) 10 (by rw [h64]; omega) (by omega) (hB _) u
    rw [hsz] at this
    exact this)
  by_cases c1 : M.left R < 2
  · have HN := Lib.hid (show M.jk.next D = ([], 0) from by rw [HNX.out, if_pos c1])
    generalize M.left R = lf at *
    have d1 : decide (lf < 2) = true := decide_eq_true c1
    clear hix1 hfb h hS hB h64 HS6 HS10
    go_enter Try.func66, Try.ntmps66
    go_wp2_with fail
    refine (HLEFT.out _ (Mod.refl _ _)).mono ?_
    rintro e w1 ⟨rfl, m1⟩
    have HM := Lib.hid m1
    clear m1
    go_wp2_with fail
    go_ret
    exact NextM.no HN.out H.out HM.out
  · have HREAD1 := Lib.hid (show ∀ u, Mod [] w u → Calls Try.prog 64 #[.pointer (some ⟨b, 0, none⟩), .int .i64 M.at_, .int .i64 1] u fun e w' => e = .returned (.string (strOfNums (D.sec M.at_))) ∧ Mod [] u w' from fun u m => by
      have := mjRead_at (H.out.kept0 m).disk hS hd h64 M.at_ 1 (by omega) (by omega) n1
      rw [secsP_one] at this
      exact this)
    have HREAD2 := Lib.hid (show M.at_ + (manyP sz : Nat) ≤ R.n → ∀ u, Mod [] w u → Calls Try.prog 64 #[.pointer (some ⟨b, 0, none⟩), .int .i64 M.at_, .int .i64 (manyP sz : Nat)] u fun e w' => e = .returned (.string (strOfNums (secsP D M.at_ (manyP sz)))) ∧ Mod [] u w' from fun hle u m => mjRead_at (H.out.kept0 m).disk hS hd h64 M.at_ (manyP sz) (by omega) hle n1)
    have HMANY := Lib.hid (show ∀ u, Calls Try.prog 45 #[.int .i64 sz] u fun e w' => e = .returned (.int .i64 (manyP sz : Nat)) ∧ u = w' from fun u => mjMany_at sz (by omega) u)
    have HBEG := Lib.hid (show ∀ u, Calls Try.prog 47 #[.int .i64 R.n, .int .i64 M.epoch] u fun e w' => e = .returned (.int .i64 (beginP R.n M.epoch)) ∧ u = w' from fun u => mjBegin_at R.n M.epoch (by omega) n1 e0 (by omega) u)
    have HFBL := Lib.hid (secsP_len h64 M.at_ (manyP sz))
    have HFB := Lib.hid (hfb (manyP sz))
    have hmz : sz + 18 ≤ manyP sz * 64 ∧ manyP sz * 64 ≤ sz + 81 := by unfold manyP; omega
    have d1 : decide (M.left R < 2) = false := decide_eq_false c1
    have HDI := Lib.hid hfb
    have HSA := Lib.hid (hB M.at_)
    have hlfn : 2 ≤ M.left R := by omega
    generalize hKD : (D.sec M.at_).getD 1 0 = KD at *
    generalize hNM : numP ((D.sec M.at_).drop 6) = NM at *
    generalize hSA : strOfNums (D.sec M.at_) = sa at *
    obtain ⟨kd0, kd1⟩ := hkd
    have HIX := Lib.hid hix1
    have HWL := Lib.hid (show IntKind.i64.wrap ((M.l.length : Int) + 1) = (M.l.length : Int) + 1 from IntWalk.i64_in _ (by omega))
    have HWK := Lib.hid (show IntKind.i64.wrap KD = KD from IntWalk.i64_in _ (by omega))
    have HCELL := Lib.hid (show ∀ u, Mod [] w u → u.cell? ⟨j, 0, none⟩ = some (.pointer (some ⟨b, 0, none⟩)) ∧ u.cell? ⟨j, 1, none⟩ = some (.int .i64 M.epoch) ∧ u.cell? ⟨j, 2, none⟩ = some (.int .i64 M.at_) ∧ u.cell? ⟨b, 0, none⟩ = some (.int .i64 R.n) from fun u m => by
      have := (H.out.kept0 m).cells
      exact ⟨this.1, this.2.1, this.2.2.1, this.2.2.2.2⟩)
    obtain ⟨lf, hlfe⟩ : ∃ lf, M.left R = lf := ⟨_, rfl⟩
    have HLE := Lib.hid hlfe
    have HLQ := Lib.hid hleft
    rw [hlfe] at HNX HLEFT lf0 lf1 c1 d1 hlfn
    have HC1 := Lib.hid c1
    clear hix1 hfb h hS hB h64 hKD hNM hSA hlfe hlf hleft hsz hmm q0 q1 q3 q4
    go_enter Try.func66, Try.ntmps66
    go_wp2_with fail
    refine (HLEFT.out _ (Mod.refl _ _)).mono ?_
    rintro e w1 ⟨rfl, m1⟩
    obtain ⟨D0, hD0, mD0⟩ : ∃ D, w1.drew = D ∧ Mod [] w1 D := ⟨_, rfl, (Mod.refl [] w1).drew⟩
    have HM := Lib.hid (m1.trans mD0)
    obtain ⟨p0, p1, p2, pb⟩ := HCELL.out _ HM.out
    clear m1 mD0
    go_wp2_with fail
    refine wp_plan [([0, 4, 1, 5, 2, 6, 3, 7], 8, [])] [9] (by kernel_rfl) (by kernel_rfl) ?_
    simp only [wpSegs, opsOf, List.map_cons, List.map_nil, opN, List.getD_cons_zero, List.getD_cons_succ]
    rw [hD0]
    go_wp2_with fail
    refine ⟨by first | trivial | rfl, ?_⟩
    go_wp2_with fail
    refine (HREAD1.out _ HM.out).mono ?_
    rintro e w2 ⟨rfl, m2⟩
    have HM := Lib.hid (HM.out.trans m2)
    clear m2 hD0 p0 p1 p2 pb
    go_wp2_with fail
    refine ⟨again_nil, ?_⟩
    go_wp2_with fail
    refine ⟨by first | trivial | rfl, ?_⟩
    go_upto_region 4 with fail
    go_cut [4, 5, 6] from 23 to 29 (fun s4 s5 s6 wx => s4 = .int .i64 KD ∧ s5 = .int .i64 NM ∧ s6 = .int .i64 (sz : Int) ∧ Hid (Mod [] w2 wx))
    case first =>
      refine wp_sched (by kernel_rfl) (sched_either 1 4 (by decide) (sched_plan1 [([0, 3, 5], 1, []), ([2], 4, [2]), ([], 6, [2])] [7, 8, 9] (by kernel_rfl) ?L1) (sched_either 1 6 (by decide) (sched_plan2 [([0, 3, 5], 4, []), ([], 1, []), ([2], 6, [2])] [7, 8, 9] (by kernel_rfl) ?L2) (sched_plan2 [([0, 3, 5], 4, []), ([], 6, []), ([], 1, [])] [2, 7, 8, 9] (by kernel_rfl) ?L3)))
      case L1 =>
        simp only [wpSegs, opsOf, List.map_cons, List.map_nil, opN, List.getD_cons_zero, List.getD_cons_succ]
        obtain ⟨W0, hW0, mW0⟩ : ∃ D, w2.drew = D ∧ Mod [] w2 D := ⟨_, rfl, (Mod.refl [] w2).drew⟩
        rw [hW0]
        have HMX := Lib.hid mW0
        clear hW0 mW0
        go_wp2_with fail
        refine ⟨by first | trivial | rfl, ?_⟩
        go_wp2_with ((with_reducible refine xIndexJ rfl (HIX.out _) ?_ ?_ ?_ ?_); exact rfl; exact rfl; exact rfl)
        refine ⟨again_nil, ?_⟩
        go_wp2_with fail
        refine ⟨by first | trivial | rfl, ?_⟩
        go_wp2_with fail
        refine (HS6.out _).mono ?_
        rintro e X1 ⟨rfl, mA⟩
        have HMX := Lib.hid (HMX.out.trans mA)
        clear mA
        go_wp2_with fail
        refine ⟨?agL11, ?_⟩
        case agL11 =>
          intro i hi hw
          simp only [List.mem_cons, List.not_mem_nil, or_false] at hi
          subst hi
          all_goals (simp only [opN, List.getD_cons_zero, List.getD_cons_succ, slotOf]; go_simp; try exact HWK.out)
        go_wp2_with fail
        refine ⟨by first | trivial | rfl, ?_⟩
        go_wp2_with fail
        refine (HS10.out _).mono ?_
        rintro e X2 ⟨rfl, mA⟩
        have HMX := Lib.hid (HMX.out.trans mA)
        clear mA
        go_wp2_with fail
        refine ⟨?agL12, ?_⟩
        case agL12 =>
          intro i hi hw
          simp only [List.mem_cons, List.not_mem_nil, or_false] at hi
          subst hi
          all_goals (simp only [opN, List.getD_cons_zero, List.getD_cons_succ, slotOf]; go_simp; try exact HWK.out)
        go_wp2_with fail
        refine ⟨by first | trivial | rfl, ?_⟩
        go_wp2_with fail
        go_meet
        case rel => exact ⟨rfl, rfl, rfl, HMX⟩
      case L2 =>
        simp only [wpSegs, opsOf, List.map_cons, List.map_nil, opN, List.getD_cons_zero, List.getD_cons_succ]
        obtain ⟨W0, hW0, mW0⟩ : ∃ D, w2.drew = D ∧ Mod [] w2 D := ⟨_, rfl, (Mod.refl [] w2).drew⟩
        rw [hW0]
        have HMX := Lib.hid mW0
        clear hW0 mW0
        go_wp2_with fail
        refine ⟨by first | trivial | rfl, ?_⟩
        go_wp2_with fail
        refine (HS6.out _).mono ?_
        rintro e X0 ⟨rfl, mA⟩
        have HMX := Lib.hid (HMX.out.trans mA)
        clear mA
        go_wp2_with fail
        refine ⟨again_nil, ?_⟩
        go_wp2_with fail
        refine ⟨by first | trivial | rfl, ?_⟩
        go_wp2_with ((with_reducible refine xIndexJ rfl (HIX.out _) ?_ ?_ ?_ ?_); exact rfl; exact rfl; exact rfl)
        refine ⟨again_nil, ?_⟩
        go_wp2_with fail
        refine ⟨by first | trivial | rfl, ?_⟩
        go_wp2_with fail
        refine (HS10.out _).mono ?_
        rintro e X2 ⟨rfl, mA⟩
        have HMX := Lib.hid (HMX.out.trans mA)
        clear mA
        go_wp2_with fail
        refine ⟨?agL22, ?_⟩
        case agL22 =>
          intro i hi hw
          simp only [List.mem_cons, List.not_mem_nil, or_false] at hi
          subst hi
          all_goals (simp only [opN, List.getD_cons_zero, List.getD_cons_succ, slotOf]; go_simp; try exact HWK.out)
        go_wp2_with fail
        refine ⟨by first | trivial | rfl, ?_⟩
        go_wp2_with fail
        go_meet
        case rel => exact ⟨rfl, rfl, rfl, HMX⟩
      case L3 =>
        simp only [wpSegs, opsOf, List.map_cons, List.map_nil, opN, List.getD_cons_zero, List.getD_cons_succ]
        obtain ⟨W0, hW0, mW0⟩ : ∃ D, w2.drew = D ∧ Mod [] w2 D := ⟨_, rfl, (Mod.refl [] w2).drew⟩
        rw [hW0]
        have HMX := Lib.hid mW0
        clear hW0 mW0
        go_wp2_with fail
        refine ⟨by first | trivial | rfl, ?_⟩
        go_wp2_with fail
        refine (HS6.out _).mono ?_
        rintro e X0 ⟨rfl, mA⟩
        have HMX := Lib.hid (HMX.out.trans mA)
        clear mA
        go_wp2_with fail
        refine ⟨again_nil, ?_⟩
        go_wp2_with fail
        refine ⟨by first | trivial | rfl, ?_⟩
        go_wp2_with fail
        refine (HS10.out _).mono ?_
        rintro e X1 ⟨rfl, mA⟩
        have HMX := Lib.hid (HMX.out.trans mA)
        clear mA
        go_wp2_with fail
        refine ⟨again_nil, ?_⟩
        go_wp2_with fail
        refine ⟨by first | trivial | rfl, ?_⟩
        go_wp2_with ((with_reducible refine xIndexJ rfl (HIX.out _) ?_ ?_ ?_ ?_); exact rfl; exact rfl; exact rfl)
        refine ⟨again_nil, ?_⟩
        go_wp2_with fail
        refine ⟨by first | trivial | rfl, ?_⟩
        go_wp2_with fail
        go_meet
        case rel => exact ⟨rfl, rfl, rfl, HMX⟩
    case rest =>
      obtain ⟨rfl, rfl, rfl, hMc⟩ := hcut
      have HM := Lib.hid (HM.out.trans hMc.out)
      clear hMc
      by_cases c2 : 64 * lf < (sz : Int)
      · have d2 : decide (64 * lf < (sz : Int)) = true := decide_eq_true c2
        have HN := Lib.hid (show M.jk.next D = ([], 0) from by rw [HNX.out, if_neg (show ¬ lf < 2 from by omega), if_pos (by omega)])
        go_wp2_with fail
        refine (HLEFT.out _ HM.out).mono ?_
        rintro e w3 ⟨rfl, m3⟩
        have HM := Lib.hid (HM.out.trans m3)
        clear m3
        go_wp2_with fail
        go_ret
        exact NextM.no HN.out H.out HM.out
      · have d2 : decide (64 * lf < (sz : Int)) = false := decide_eq_false c2
        by_cases c3 : lf < ((manyP sz : Nat) : Int) + 1
        · have HN := Lib.hid (show M.jk.next D = ([], 0) from by rw [HNX.out, if_neg (show ¬ lf < 2 from by omega), if_pos c3])
          generalize manyP sz = mm at *
          have d3 : decide (lf < (mm : Int) + 1) = true := decide_eq_true c3
          go_wp2_with fail
          refine (HLEFT.out _ HM.out).mono ?_
          rintro e w3 ⟨rfl, m3⟩
          have HM := Lib.hid (HM.out.trans m3)
          clear m3
          go_wp2_with fail
          refine (HMANY.out _).mono ?_
          rintro e w4 ⟨rfl, rfl⟩
          go_wp2_with fail
          refine (HLEFT.out _ HM.out).mono ?_
          rintro e w4 ⟨rfl, m4⟩
          have HM := Lib.hid (HM.out.trans m4)
          clear m4
          go_wp2_with fail
          go_ret
          exact NextM.no HN.out H.out HM.out
        · have hle : M.at_ + ((manyP sz : Nat) : Int) ≤ R.n := by have := HLQ.out; have := HLE.out; omega
          have HR2 := Lib.hid (HREAD2.out hle)
          have hOB : IsB (((secsP D M.at_ (manyP sz)).drop 14).take sz) := fun y hy => HFB.out y (List.mem_of_mem_drop (List.mem_of_mem_take hy))
          have hOL : (((secsP D M.at_ (manyP sz)).drop 14).take sz).length = sz := by rw [List.length_take, List.length_drop, HFBL.out]; omega
          have HX := Lib.hid (str_slice (secsP D M.at_ (manyP sz)) 14 (14 + sz) (by omega) (by rw [HFBL.out]; omega))
          rw [show 14 + sz - 14 = sz from by omega] at HX
          have HFR := Lib.hid (show ∀ u, Calls Try.prog 49 #[.int .i64 KD, .int .i64 M.epoch, .int .i64 NM, .string (strOfNums (((secsP D M.at_ (manyP sz)).drop 14).take sz))] u fun e w' => e = .returned (.string (strOfNums (frameP KD M.epoch NM (((secsP D M.at_ (manyP sz)).drop 14).take sz)))) ∧ Mod [] u w' from fun u =>
            mjFrame_at KD M.epoch NM _ (by rw [hOL]; omega) hOB ⟨kd0, kd1⟩ (by omega) (by omega) u)
          have HPARTS := Lib.hid (show ∀ u, Calls Try.prog 72 #[.string (strOfNums (((secsP D M.at_ (manyP sz)).drop 14).take sz)), .int .i64 NM] u (PartsM u (((secsP D M.at_ (manyP sz)).drop 14).take sz) NM) from fun u => mjParts_at _ hOB (by rw [hOL]; omega) NM u)
          have HEQ := Lib.hid (fun (e : strOfNums (secsP D M.at_ (manyP sz)) = strOfNums (frameP KD M.epoch NM (((secsP D M.at_ (manyP sz)).drop 14).take sz))) => strs_inj HFB.out (frameP_isB ⟨kd0, kd1⟩ hOB) e)
          have htl : (strOfNums (secsP D M.at_ (manyP sz))).size = manyP sz * 64 := by rw [strs_len, HFBL.out]
          have HOL := Lib.hid hOL
          have HNX2 := Lib.hid (HNX.out.trans ((if_neg (show ¬ lf < 2 from by omega)).trans (if_neg c3)))
          have HEQ2 := Lib.hid (show secsP D M.at_ (manyP sz) = frameP KD M.epoch NM (((secsP D M.at_ (manyP sz)).drop 14).take sz) → strOfNums (secsP D M.at_ (manyP sz)) = strOfNums (frameP KD M.epoch NM (((secsP D M.at_ (manyP sz)).drop 14).take sz)) from fun e => congrArg strOfNums e)
          have hmb : manyP sz ≤ 65536 := by omega
          have hmp : 1 ≤ manyP sz := by unfold manyP; omega
          clear hOB hOL hle HREAD2 HNX
          generalize ((secsP D M.at_ (manyP sz)).drop 14).take sz = OW at *
          generalize hFF : frameP KD M.epoch NM OW = FF at *
          generalize hSB : secsP D M.at_ (manyP sz) = SB at *
          generalize manyP sz = mm at *
          generalize strOfNums SB = tb at *
          generalize strOfNums FF = tf at *
          have d3 : decide (lf < (mm : Int) + 1) = false := decide_eq_false c3
          clear hFF hSB
          go_wp2_with fail
          refine (HLEFT.out _ HM.out).mono ?_
          rintro e w3 ⟨rfl, m3⟩
          have HM := Lib.hid (HM.out.trans m3)
          clear m3
          go_wp2_with fail
          refine (HMANY.out _).mono ?_
          rintro e w4 ⟨rfl, rfl⟩
          go_wp2_with fail
          refine (HLEFT.out _ HM.out).mono ?_
          rintro e w4 ⟨rfl, m4⟩
          have HM := Lib.hid (HM.out.trans m4)
          clear m4
          go_wp2_with fail
          refine (HMANY.out _).mono ?_
          rintro e w5 ⟨rfl, rfl⟩
          obtain ⟨D8, hD8, mD8⟩ : ∃ D, w4.drew = D ∧ Mod [] w4 D := ⟨_, rfl, (Mod.refl [] w4).drew⟩
          have HM := Lib.hid (HM.out.trans mD8)
          obtain ⟨p0, p1, p2, pb⟩ := HCELL.out _ HM.out
          clear mD8
          go_wp2_with fail
          refine wp_plan [([0, 4, 8, 1, 5, 2, 6, 3, 7], 9, [])] [10] (by kernel_rfl) (by kernel_rfl) ?_
          simp only [wpSegs, opsOf, List.map_cons, List.map_nil, opN, List.getD_cons_zero, List.getD_cons_succ]
          rw [hD8]
          go_wp2_with fail
          refine ⟨by first | trivial | rfl, ?_⟩
          go_wp2_with fail
          refine (HR2.out _ HM.out).mono ?_
          rintro e w5 ⟨rfl, m5⟩
          have HM := Lib.hid (HM.out.trans m5)
          obtain ⟨r0, r1, r2, rb⟩ := HCELL.out _ HM.out
          clear m5 hD8 p0 p1 p2 pb
          go_wp2_with fail
          refine ⟨again_nil, ?_⟩
          go_wp2_with fail
          refine ⟨by first | trivial | rfl, ?_⟩
          go_wp2_with fail
          rw [HX.out]
          refine (HFR.out _).mono ?_
          rintro e w6 ⟨rfl, m6⟩
          have HM := Lib.hid (HM.out.trans m6)
          clear m6 r0 r1 r2 rb
          by_cases c4 : tb = tf
          · have hSF := HEQ.out c4
            rw [if_pos hSF] at HNX2
            have d4 := str_yesB c4
            have HK2 := Lib.hid HNX2.out
            clear hSF
            by_cases c5 : KD = 0
            · have t5 : (KD == 0) = true := by simpa using c5
              have t6 : (KD == 1) = false := by rw [c5]; rfl
              by_cases v1 : 1 ≤ (sz : Int)
              · have u1 : decide (1 ≤ (sz : Int)) = true := decide_eq_true v1
                by_cases v2 : (sz : Int) ≤ 65536
                · have u2 : decide ((sz : Int) ≤ 65536) = true := decide_eq_true v2
                  by_cases v3 : NM = (M.l.length : Int) + 1
                  · have u3 : (NM == (M.l.length : Int) + 1) = true := by simpa using v3
                    obtain ⟨L, hL⟩ : ∃ L, [OW] = L := ⟨_, rfl⟩
                    have HNY := Lib.hid (show M.jk.next D = (L, (mm : Int)) from by rw [HNX2.out, if_pos ⟨c5, v1, v2, v3⟩, hL])
                    have HLL := Lib.hid (show L.length ≤ 1000000 from by rw [← hL]; simp)
                    obtain ⟨D15, hD15, mD15⟩ : ∃ D, w6.drew = D ∧ Mod [] w6 D := ⟨_, rfl, (Mod.refl [] w6).drew⟩
                    have HM := Lib.hid (HM.out.trans mD15)
                    obtain ⟨⟨lv, av, f1, f2, f3⟩, fd⟩ := H.out.kept0 HM.out
                    obtain ⟨la, lc, hlv⟩ := f2.lens
                    rw [List.length_map] at hlv
                    subst hlv
                    have q3 : D15.cell? ⟨j, 3, none⟩ = some (.slice la M.l.length lc) := by rw [cell_blk f1]; rfl
                    obtain ⟨W15, hAl, kA, zA, mA⟩ := alloc_named2 D15 (.cells #[.string (strOfNums OW)] 9)
                    obtain ⟨gA, hgA⟩ : ∃ g, D15.heap.size = g := ⟨_, rfl⟩
                    rw [hgA] at kA
                    have HMO := Lib.hid (show OwnR encStr 1 9 W15 0 (.slice (some ⟨gA, 0, none⟩) 1 1) ([OW].map strOfNums) from own_lit kA rfl rfl encStr_len (by omega) (by simp))
                    have q3b := mA.cellD q3
                    have HM := Lib.hid (HM.out.trans mA)
                    clear mD15 f1 f2 f3 fd kA zA mA
                    go_wp2_with fail
                    refine wp_plan [([0, 2, 3, 4, 5, 6, 7, 8, 9, 10, 11, 12, 13, 14, 15, 16, 17], 1, [3, 6, 11, 12, 13, 14, 15, 16])] [18, 19] (by kernel_rfl) (by kernel_rfl) ?_
                    simp only [wpSegs, opsOf, List.map_cons, List.map_nil, opN, List.getD_cons_zero, List.getD_cons_succ]
                    rw [hD15]
                    go_wp2_with fail
                    refine ⟨by first | trivial | rfl, ?_⟩
                    go_wp2_with fail
                    try rw [hgA]
                    try rw [hAl]
                    clear hAl hgA q3
                    refine ⟨?agF, ?_⟩
                    case agF =>
                      intro i hi hw
                      simp only [List.mem_cons, List.not_mem_nil, or_false] at hi
                      rcases hi with rfl | rfl | rfl | rfl | rfl | rfl | rfl | rfl
                      all_goals (first | (exact absurd (show false = true from hw) (by decide)) | (simp only [opN, List.getD_cons_zero, List.getD_cons_succ, slotOf]; go_simp; try exact HWL.out))
                    clear q3b
                    go_wp2_with fail
                    refine ⟨by first | trivial | rfl, ?_⟩
                    go_wp2_with fail
                    obtain ⟨D16, hD16, mD16⟩ : ∃ D, W15.drew = D ∧ Mod [] W15 D := ⟨_, rfl, (Mod.refl [] W15).drew⟩
                    have HM := Lib.hid (HM.out.trans mD16)
                    have HMO := Lib.hid (HMO.out.kept0 mD16)
                    clear mD16
                    refine wp_plan [([0, 1, 2, 3, 7, 14, 4, 8, 15, 5, 9, 16, 6, 10, 17, 11, 12, 13], 18, [4, 5, 6])] [19, 20] (by kernel_rfl) (by kernel_rfl) ?_
                    simp only [wpSegs, opsOf, List.map_cons, List.map_nil, opN, List.getD_cons_zero, List.getD_cons_succ]
                    rw [hD16]
                    go_wp2_with fail
                    refine ⟨by first | trivial | rfl, ?_⟩
                    go_wp2_with fail
                    refine ⟨?agS, ?_⟩
                    case agS =>
                      intro i hi hw
                      simp only [List.mem_cons, List.not_mem_nil, or_false] at hi
                      rcases hi with rfl | rfl | rfl
                      all_goals (first | (exact absurd (show false = true from hw) (by decide)) | (simp only [opN, List.getD_cons_zero, List.getD_cons_succ, slotOf]; go_simp; try exact HWL.out))
                    go_wp2_with fail
                    refine ⟨by first | trivial | rfl, ?_⟩
                    rw [hL] at HMO
                    clear hL
                    obtain ⟨⟨lv, av, f1, f2, f3⟩, fd⟩ := H.out.kept0 HM.out
                    have q3 : D16.cell? ⟨j, 3, none⟩ = some lv := by rw [cell_blk f1]; rfl
                    obtain ⟨lv', w9, ra, ho, gr⟩ := own_append (P := Try.prog) (ty := 32) (tx := 32) elemStrK encStr_len f2 (Nat.le_trans hbs HM.out.size) (HMO.out.row.src encStr_len encStr_one Try.underlying32) (by rw [List.length_map, List.length_map]; have := HLL.out; omega) (by omega)
                    rw [← List.map_append] at ho
                    obtain ⟨f1', hP⟩ := (H.out.kept0 HM.out).push f1 f2 f3 ho gr
                    have hks := fun k hk => (World.ownsRow.lt f2 k (mem_blk.1 hk)).1
                    obtain ⟨xa, xc, hv2⟩ := ho.lens
                    obtain ⟨xn, hxn⟩ : ∃ n, ((M.l ++ L).map strOfNums).length = n := ⟨_, rfl⟩
                    rw [hxn] at hv2
                    subst hv2
                    have g3 := frozen_blk f1' 3
                    have c3' := cell_blk f1' 3
                    simp only [List.getElem?_toArray, List.getElem?_cons_succ, List.getElem?_cons_zero] at c3'
                    have ms : Mod [j] w9 (w9.setCell ⟨j, 3, none⟩ (.slice xa xn xc)) := (Mod.refl _ _).setCell (by simp) _
                    obtain ⟨hP2, ms2⟩ := hP.setAt (M.at_ + mm)
                    have r2 := hP.cells.2.2.1
                    have g2 : (w9.setCell ⟨j, 3, none⟩ (.slice xa xn xc)).frozen? ⟨j, 2, none⟩ = false := by
                      obtain ⟨⟨lv, av, e1, _⟩, _⟩ := hP
                      exact frozen_blk e1 2
                    have HMM := Lib.hid (show MMod base j w ((w9.setCell ⟨j, 3, none⟩ (.slice xa xn xc)).setCell ⟨j, 2, none⟩ (.int .i64 (M.at_ + mm))) from ⟨j :: blk lv, ((HM.out.nil.trans (gr.mod.mono (fun k hk => List.mem_cons_of_mem _ hk))).trans (ms.mono (by simp))).trans (ms2.mono (by simp)), fun k hk => by
                      rcases List.mem_cons.1 hk with e | hk
                      · exact .inl e
                      · exact .inr (hks k hk)⟩)
                    have HRA := Lib.hid ra
                    have HP2 := Lib.hid hP2
                    clear f1 f2 f3 fd ra ho gr f1' hP hks hxn ms hP2 ms2
                    go_wp2_with ((with_reducible refine xAppendAt HRA.out rfl rfl ?_ ?_ ?_ ?_); exact rfl; exact rfl; exact rfl)
                    go_ret
                    exact NextM.yes HNY.out (by omega) HP2.out HMM.out
                  · have u3 : (NM == (M.l.length : Int) + 1) = false := by simpa using v3
                    have HN := Lib.hid (show M.jk.next D = ([], 0) from by rw [HNX2.out, if_neg (fun h => v3 h.2.2.2), if_neg (fun h => by rw [c5] at h; exact absurd h.1 (by decide))])
                    obtain ⟨D15, hD15, mD15⟩ : ∃ D, w6.drew = D ∧ Mod [] w6 D := ⟨_, rfl, (Mod.refl [] w6).drew⟩
                    have HM := Lib.hid (HM.out.trans mD15)
                    obtain ⟨⟨lv, av, f1, f2, f3⟩, fd⟩ := H.out.kept0 HM.out
                    obtain ⟨la, lc, hlv⟩ := f2.lens
                    rw [List.length_map] at hlv
                    subst hlv
                    have q3 : D15.cell? ⟨j, 3, none⟩ = some (.slice la M.l.length lc) := by rw [cell_blk f1]; rfl
                    obtain ⟨W15, hAl, kA, zA, mA⟩ := alloc_named2 D15 (.cells #[.string (strOfNums OW)] 9)
                    obtain ⟨gA, hgA⟩ : ∃ g, D15.heap.size = g := ⟨_, rfl⟩
                    rw [hgA] at kA
                    have HMO := Lib.hid (show OwnR encStr 1 9 W15 0 (.slice (some ⟨gA, 0, none⟩) 1 1) ([OW].map strOfNums) from own_lit kA rfl rfl encStr_len (by omega) (by simp))
                    have q3b := mA.cellD q3
                    have HM := Lib.hid (HM.out.trans mA)
                    clear mD15 f1 f2 f3 fd kA zA mA
                    go_wp2_with fail
                    refine wp_plan [([0, 2, 3, 4, 5, 6, 7, 8, 9, 10, 11, 12, 13, 14, 15, 16, 17], 1, [3, 6, 11, 12, 13, 14, 15, 16])] [18, 19] (by kernel_rfl) (by kernel_rfl) ?_
                    simp only [wpSegs, opsOf, List.map_cons, List.map_nil, opN, List.getD_cons_zero, List.getD_cons_succ]
                    rw [hD15]
                    go_wp2_with fail
                    refine ⟨by first | trivial | rfl, ?_⟩
                    go_wp2_with fail
                    try rw [hgA]
                    try rw [hAl]
                    clear hAl hgA q3
                    refine ⟨?agF, ?_⟩
                    case agF =>
                      intro i hi hw
                      simp only [List.mem_cons, List.not_mem_nil, or_false] at hi
                      rcases hi with rfl | rfl | rfl | rfl | rfl | rfl | rfl | rfl
                      all_goals (first | (exact absurd (show false = true from hw) (by decide)) | (simp only [opN, List.getD_cons_zero, List.getD_cons_succ, slotOf]; go_simp; try exact HWL.out))
                    clear q3b
                    go_wp2_with fail
                    refine ⟨by first | trivial | rfl, ?_⟩
                    go_wp2_with fail
                    obtain ⟨D16, hD16, mD16⟩ : ∃ D, W15.drew = D ∧ Mod [] W15 D := ⟨_, rfl, (Mod.refl [] W15).drew⟩
                    have HM := Lib.hid (HM.out.trans mD16)
                    have HMO := Lib.hid (HMO.out.kept0 mD16)
                    clear mD16
                    refine wp_plan [([0, 1, 2, 3, 7, 14, 4, 8, 15, 5, 9, 16, 6, 10, 17, 11, 12, 13], 18, [4, 5, 6])] [19, 20] (by kernel_rfl) (by kernel_rfl) ?_
                    simp only [wpSegs, opsOf, List.map_cons, List.map_nil, opN, List.getD_cons_zero, List.getD_cons_succ]
                    rw [hD16]
                    go_wp2_with fail
                    refine ⟨by first | trivial | rfl, ?_⟩
                    go_wp2_with fail
                    refine ⟨?agS, ?_⟩
                    case agS =>
                      intro i hi hw
                      simp only [List.mem_cons, List.not_mem_nil, or_false] at hi
                      rcases hi with rfl | rfl | rfl
                      all_goals (first | (exact absurd (show false = true from hw) (by decide)) | (simp only [opN, List.getD_cons_zero, List.getD_cons_succ, slotOf]; go_simp; try exact HWL.out))
                    go_wp2_with fail
                    refine ⟨by first | trivial | rfl, ?_⟩
                    go_wp2_with fail
                    go_ret
                    exact NextM.no HN.out H.out HM.out
                · have u2 : decide ((sz : Int) ≤ 65536) = false := decide_eq_false v2
                  have HN := Lib.hid (show M.jk.next D = ([], 0) from by rw [HNX2.out, if_neg (fun h => v2 h.2.2.1), if_neg (fun h => by rw [c5] at h; exact absurd h.1 (by decide))])
                  obtain ⟨D15, hD15, mD15⟩ : ∃ D, w6.drew = D ∧ Mod [] w6 D := ⟨_, rfl, (Mod.refl [] w6).drew⟩
                  have HM := Lib.hid (HM.out.trans mD15)
                  obtain ⟨⟨lv, av, f1, f2, f3⟩, fd⟩ := H.out.kept0 HM.out
                  obtain ⟨la, lc, hlv⟩ := f2.lens
                  rw [List.length_map] at hlv
                  subst hlv
                  have q3 : D15.cell? ⟨j, 3, none⟩ = some (.slice la M.l.length lc) := by rw [cell_blk f1]; rfl
                  obtain ⟨W15, hAl, kA, zA, mA⟩ := alloc_named2 D15 (.cells #[.string (strOfNums OW)] 9)
                  obtain ⟨gA, hgA⟩ : ∃ g, D15.heap.size = g := ⟨_, rfl⟩
                  rw [hgA] at kA
                  have HMO := Lib.hid (show OwnR encStr 1 9 W15 0 (.slice (some ⟨gA, 0, none⟩) 1 1) ([OW].map strOfNums) from own_lit kA rfl rfl encStr_len (by omega) (by simp))
                  have q3b := mA.cellD q3
                  have HM := Lib.hid (HM.out.trans mA)
                  clear mD15 f1 f2 f3 fd kA zA mA
                  go_wp2_with fail
                  refine wp_plan [([0, 2, 3, 4, 5, 6, 7, 8, 9, 10, 11, 12, 13, 14, 15, 16, 17], 1, [3, 6, 11, 12, 13, 14, 15, 16])] [18, 19] (by kernel_rfl) (by kernel_rfl) ?_
                  simp only [wpSegs, opsOf, List.map_cons, List.map_nil, opN, List.getD_cons_zero, List.getD_cons_succ]
                  rw [hD15]
                  go_wp2_with fail
                  refine ⟨by first | trivial | rfl, ?_⟩
                  go_wp2_with fail
                  try rw [hgA]
                  try rw [hAl]
                  clear hAl hgA q3
                  refine ⟨?agF, ?_⟩
                  case agF =>
                    intro i hi hw
                    simp only [List.mem_cons, List.not_mem_nil, or_false] at hi
                    rcases hi with rfl | rfl | rfl | rfl | rfl | rfl | rfl | rfl
                    all_goals (first | (exact absurd (show false = true from hw) (by decide)) | (simp only [opN, List.getD_cons_zero, List.getD_cons_succ, slotOf]; go_simp; try exact HWL.out))
                  clear q3b
                  go_wp2_with fail
                  refine ⟨by first | trivial | rfl, ?_⟩
                  go_wp2_with fail
                  obtain ⟨D16, hD16, mD16⟩ : ∃ D, W15.drew = D ∧ Mod [] W15 D := ⟨_, rfl, (Mod.refl [] W15).drew⟩
                  have HM := Lib.hid (HM.out.trans mD16)
                  have HMO := Lib.hid (HMO.out.kept0 mD16)
                  clear mD16
                  refine wp_plan [([0, 1, 2, 3, 7, 14, 4, 8, 15, 5, 9, 16, 6, 10, 17, 11, 12, 13], 18, [4, 5, 6])] [19, 20] (by kernel_rfl) (by kernel_rfl) ?_
                  simp only [wpSegs, opsOf, List.map_cons, List.map_nil, opN, List.getD_cons_zero, List.getD_cons_succ]
                  rw [hD16]
                  go_wp2_with fail
                  refine ⟨by first | trivial | rfl, ?_⟩
                  go_wp2_with fail
                  refine ⟨?agS, ?_⟩
                  case agS =>
                    intro i hi hw
                    simp only [List.mem_cons, List.not_mem_nil, or_false] at hi
                    rcases hi with rfl | rfl | rfl
                    all_goals (first | (exact absurd (show false = true from hw) (by decide)) | (simp only [opN, List.getD_cons_zero, List.getD_cons_succ, slotOf]; go_simp; try exact HWL.out))
                  go_wp2_with fail
                  refine ⟨by first | trivial | rfl, ?_⟩
                  go_wp2_with fail
                  go_ret
                  exact NextM.no HN.out H.out HM.out
              · have u1 : decide (1 ≤ (sz : Int)) = false := decide_eq_false v1
                have HN := Lib.hid (show M.jk.next D = ([], 0) from by rw [HNX2.out, if_neg (fun h => v1 h.2.1), if_neg (fun h => by rw [c5] at h; exact absurd h.1 (by decide))])
                obtain ⟨D15, hD15, mD15⟩ : ∃ D, w6.drew = D ∧ Mod [] w6 D := ⟨_, rfl, (Mod.refl [] w6).drew⟩
                have HM := Lib.hid (HM.out.trans mD15)
                obtain ⟨⟨lv, av, f1, f2, f3⟩, fd⟩ := H.out.kept0 HM.out
                obtain ⟨la, lc, hlv⟩ := f2.lens
                rw [List.length_map] at hlv
                subst hlv
                have q3 : D15.cell? ⟨j, 3, none⟩ = some (.slice la M.l.length lc) := by rw [cell_blk f1]; rfl
                obtain ⟨W15, hAl, kA, zA, mA⟩ := alloc_named2 D15 (.cells #[.string (strOfNums OW)] 9)
                obtain ⟨gA, hgA⟩ : ∃ g, D15.heap.size = g := ⟨_, rfl⟩
                rw [hgA] at kA
                have HMO := Lib.hid (show OwnR encStr 1 9 W15 0 (.slice (some ⟨gA, 0, none⟩) 1 1) ([OW].map strOfNums) from own_lit kA rfl rfl encStr_len (by omega) (by simp))
                have q3b := mA.cellD q3
                have HM := Lib.hid (HM.out.trans mA)
                clear mD15 f1 f2 f3 fd kA zA mA
                go_wp2_with fail
                refine wp_plan [([0, 2, 3, 4, 5, 6, 7, 8, 9, 10, 11, 12, 13, 14, 15, 16, 17], 1, [3, 6, 11, 12, 13, 14, 15, 16])] [18, 19] (by kernel_rfl) (by kernel_rfl) ?_
                simp only [wpSegs, opsOf, List.map_cons, List.map_nil, opN, List.getD_cons_zero, List.getD_cons_succ]
                rw [hD15]
                go_wp2_with fail
                refine ⟨by first | trivial | rfl, ?_⟩
                go_wp2_with fail
                try rw [hgA]
                try rw [hAl]
                clear hAl hgA q3
                refine ⟨?agF, ?_⟩
                case agF =>
                  intro i hi hw
                  simp only [List.mem_cons, List.not_mem_nil, or_false] at hi
                  rcases hi with rfl | rfl | rfl | rfl | rfl | rfl | rfl | rfl
                  all_goals (first | (exact absurd (show false = true from hw) (by decide)) | (simp only [opN, List.getD_cons_zero, List.getD_cons_succ, slotOf]; go_simp; try exact HWL.out))
                clear q3b
                go_wp2_with fail
                refine ⟨by first | trivial | rfl, ?_⟩
                go_wp2_with fail
                obtain ⟨D16, hD16, mD16⟩ : ∃ D, W15.drew = D ∧ Mod [] W15 D := ⟨_, rfl, (Mod.refl [] W15).drew⟩
                have HM := Lib.hid (HM.out.trans mD16)
                have HMO := Lib.hid (HMO.out.kept0 mD16)
                clear mD16
                refine wp_plan [([0, 1, 2, 3, 7, 14, 4, 8, 15, 5, 9, 16, 6, 10, 17, 11, 12, 13], 18, [4, 5, 6])] [19, 20] (by kernel_rfl) (by kernel_rfl) ?_
                simp only [wpSegs, opsOf, List.map_cons, List.map_nil, opN, List.getD_cons_zero, List.getD_cons_succ]
                rw [hD16]
                go_wp2_with fail
                refine ⟨by first | trivial | rfl, ?_⟩
                go_wp2_with fail
                refine ⟨?agS, ?_⟩
                case agS =>
                  intro i hi hw
                  simp only [List.mem_cons, List.not_mem_nil, or_false] at hi
                  rcases hi with rfl | rfl | rfl
                  all_goals (first | (exact absurd (show false = true from hw) (by decide)) | (simp only [opN, List.getD_cons_zero, List.getD_cons_succ, slotOf]; go_simp; try exact HWL.out))
                go_wp2_with fail
                refine ⟨by first | trivial | rfl, ?_⟩
                go_wp2_with fail
                go_ret
                exact NextM.no HN.out H.out HM.out
            · have t5 : (KD == 0) = false := by simpa using c5
              by_cases c6 : KD = 1
              · have t6 : (KD == 1) = true := by simpa using c6
                obtain ⟨D16, hD16, mD16⟩ : ∃ D, w6.drew = D ∧ Mod [] w6 D := ⟨_, rfl, (Mod.refl [] w6).drew⟩
                have HM := Lib.hid (HM.out.trans mD16)
                obtain ⟨p0, p1, p2, pb⟩ := HCELL.out _ HM.out
                clear mD16
                go_wp2_with fail
                refine wp_plan [([0, 1, 2, 3, 7, 14, 4, 8, 15, 5, 9, 16, 6, 10, 17, 11, 12, 13], 18, [4, 5, 6])] [19, 20] (by kernel_rfl) (by kernel_rfl) ?_
                simp only [wpSegs, opsOf, List.map_cons, List.map_nil, opN, List.getD_cons_zero, List.getD_cons_succ]
                rw [hD16]
                go_wp2_with fail
                refine ⟨by first | trivial | rfl, ?_⟩
                go_wp2_with fail
                refine (HBEG.out _).mono ?_
                rintro e w7 ⟨rfl, rfl⟩
                go_wp2_with fail
                refine ⟨?agB, ?_⟩
                case agB =>
                  intro i hi hw
                  simp only [List.mem_cons, List.not_mem_nil, or_false] at hi
                  rcases hi with rfl | rfl | rfl
                  all_goals (simp only [opN, List.getD_cons_zero, List.getD_cons_succ, slotOf]; go_simp)
                go_wp2_with fail
                refine ⟨by first | trivial | rfl, ?_⟩
                clear p0 p1 p2 pb
                by_cases c7 : M.at_ = beginP R.n M.epoch
                · have t7 : (M.at_ == beginP R.n M.epoch) = true := by simpa using c7
                  have HC7 := Lib.hid c7
                  clear c7
                  go_wp2_with fail
                  refine (HPARTS.out _).mono ?_
                  rintro e w8 ⟨m8, hp⟩
                  have HM := Lib.hid (HM.out.trans m8)
                  rcases hp with ⟨L, v, hL, rfl, ho⟩ | ⟨hL, v, rfl⟩
                  · have HNY := Lib.hid (show M.jk.next D = (L, (mm : Int)) from by rw [HNX2.out, if_neg (fun h => c5 h.1), if_pos ⟨c6, HC7.out⟩, hL])
                    have HLL := Lib.hid (show L.length ≤ 1000000 from by have := partsP_len hL; rw [HOL.out] at this; omega)
                    have HMO := Lib.hid ho
                    clear hL ho m8
                    obtain ⟨⟨lv, av, f1, f2, f3⟩, fd⟩ := H.out.kept0 HM.out
                    have q3 : w8.cell? ⟨j, 3, none⟩ = some lv := by rw [cell_blk f1]; rfl
                    obtain ⟨lv', w9, ra, ho, gr⟩ := own_append (P := Try.prog) (ty := 32) (tx := 32) elemStrK encStr_len f2 (Nat.le_trans hbs HM.out.size) (HMO.out.row.src encStr_len encStr_one Try.underlying32) (by rw [List.length_map, List.length_map]; have := HLL.out; omega) (by omega)
                    rw [← List.map_append] at ho
                    obtain ⟨f1', hP⟩ := (H.out.kept0 HM.out).push f1 f2 f3 ho gr
                    have hks := fun k hk => (World.ownsRow.lt f2 k (mem_blk.1 hk)).1
                    obtain ⟨xa, xc, hv2⟩ := ho.lens
                    obtain ⟨xn, hxn⟩ : ∃ n, ((M.l ++ L).map strOfNums).length = n := ⟨_, rfl⟩
                    rw [hxn] at hv2
                    subst hv2
                    have g3 := frozen_blk f1' 3
                    have c3' := cell_blk f1' 3
                    simp only [List.getElem?_toArray, List.getElem?_cons_succ, List.getElem?_cons_zero] at c3'
                    have ms : Mod [j] w9 (w9.setCell ⟨j, 3, none⟩ (.slice xa xn xc)) := (Mod.refl _ _).setCell (by simp) _
                    obtain ⟨hP2, ms2⟩ := hP.setAt (M.at_ + mm)
                    have r2 := hP.cells.2.2.1
                    have g2 : (w9.setCell ⟨j, 3, none⟩ (.slice xa xn xc)).frozen? ⟨j, 2, none⟩ = false := by
                      obtain ⟨⟨lv, av, e1, _⟩, _⟩ := hP
                      exact frozen_blk e1 2
                    have HMM := Lib.hid (show MMod base j w ((w9.setCell ⟨j, 3, none⟩ (.slice xa xn xc)).setCell ⟨j, 2, none⟩ (.int .i64 (M.at_ + mm))) from ⟨j :: blk lv, ((HM.out.nil.trans (gr.mod.mono (fun k hk => List.mem_cons_of_mem _ hk))).trans (ms.mono (by simp))).trans (ms2.mono (by simp)), fun k hk => by
                      rcases List.mem_cons.1 hk with e | hk
                      · exact .inl e
                      · exact .inr (hks k hk)⟩)
                    have HRA := Lib.hid ra
                    have HP2 := Lib.hid hP2
                    clear f1 f2 f3 fd ra ho gr f1' hP hks hxn ms hP2 ms2
                    go_wp2_with ((with_reducible refine xAppendAt HRA.out rfl rfl ?_ ?_ ?_ ?_); exact rfl; exact rfl; exact rfl)
                    go_ret
                    exact NextM.yes HNY.out (by omega) HP2.out HMM.out
                  · have HN := Lib.hid (show M.jk.next D = ([], 0) from by rw [HNX2.out, if_neg (fun h => c5 h.1), if_pos ⟨c6, HC7.out⟩, hL])
                    clear hL m8
                    go_wp2_with fail
                    go_ret
                    exact NextM.no HN.out H.out HM.out
                · have t7 : (M.at_ == beginP R.n M.epoch) = false := by simpa using c7
                  have HN := Lib.hid (show M.jk.next D = ([], 0) from by rw [HNX2.out, if_neg (fun h => c5 h.1), if_neg (fun h => c7 h.2)])
                  go_wp2_with fail
                  go_ret
                  exact NextM.no HN.out H.out HM.out
              · have t6 : (KD == 1) = false := by simpa using c6
                have HN := Lib.hid (show M.jk.next D = ([], 0) from by rw [HNX2.out, if_neg (fun h => c5 h.1), if_neg (fun h => c6 h.1)])
                go_wp2_with fail
                obtain ⟨D16, hD16, mD16⟩ : ∃ D, w6.drew = D ∧ Mod [] w6 D := ⟨_, rfl, (Mod.refl [] w6).drew⟩
                have HM := Lib.hid (HM.out.trans mD16)
                clear mD16
                refine wp_plan [([0, 1, 2, 3, 7, 14, 4, 8, 15, 5, 9, 16, 6, 10, 17, 11, 12, 13], 18, [4, 5, 6])] [19, 20] (by kernel_rfl) (by kernel_rfl) ?_
                simp only [wpSegs, opsOf, List.map_cons, List.map_nil, opN, List.getD_cons_zero, List.getD_cons_succ]
                rw [hD16]
                go_wp2_with fail
                refine ⟨by first | trivial | rfl, ?_⟩
                go_wp2_with fail
                refine ⟨?agS, ?_⟩
                case agS =>
                  intro i hi hw
                  simp only [List.mem_cons, List.not_mem_nil, or_false] at hi
                  rcases hi with rfl | rfl | rfl
                  all_goals (first | (exact absurd (show false = true from hw) (by decide)) | (simp only [opN, List.getD_cons_zero, List.getD_cons_succ, slotOf]; go_simp; try exact HWL.out))
                go_wp2_with fail
                refine ⟨by first | trivial | rfl, ?_⟩
                go_wp2_with fail
                go_ret
                exact NextM.no HN.out H.out HM.out
          · have HN := Lib.hid (show M.jk.next D = ([], 0) from by rw [HNX2.out, if_neg (fun e => c4 (HEQ2.out e))])
            have d4 := str_noB c4
            go_wp2_with fail
            go_ret
            exact NextM.no HN.out H.out HM.out
end Go.Proofs.Ytnjfgbbdfdoccaa
