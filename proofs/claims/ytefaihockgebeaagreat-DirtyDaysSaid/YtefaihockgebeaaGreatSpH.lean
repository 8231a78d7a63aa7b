/- The document's spans: Two, Of, May, Same. -/
import Derived.Test.YtefaihockgebeaaGreatSpG
namespace Go.Proofs.YtefaihockgebeaaGreat
open Go.RowKit Go.ChangeMaps Go.Deep
set_option linter.unusedSimpArgs false
set_option linter.unusedVariables false
set_option maxRecDepth 20000

abbrev OwnB (w : World) (base : Nat) (v : Value) (l : List Bool) : Prop := OwnR encB 1 4 w base v l
def twoF (a b : List Sp) (kind : Int) (e : Int) : Bool := opK kind (hasB a e) (hasB b e)
theorem twoS_eq (a b : List Sp) (kind : Int) : twoS a b kind = mergeS ((pairs (endsS (endsS [] a) b)).filter fun x => twoF a b kind x.1) := rfl
set_option maxHeartbeats 8000000 in
theorem rTwo_any (u v : Value) (a b : List Sp) (kind : Int) (w : World) (hu : SpansAt w u a) (hv : SpansAt w v b) (ha : a.length ≤ 20000) (hb : b.length ≤ 20000) :
    Calls Tryz.prog 24 #[u, v, .int .i64 kind] w fun e w' => ∃ v', e = .returned v' ∧ OwnS w' w.heap.size v' (twoS a b kind) ∧ Mod [] w w' := by
  have HU := Lib.hid hu
  have HV := Lib.hid hv
  obtain ⟨ua, uc, rfl⟩ := hu.form
  obtain ⟨va, vc, rfl⟩ := hv.form
  have hE1 := length_endsS a []
  have hE2 := length_endsS b (endsS [] a)
  have HE1 := Lib.hid (show (endsS [] a).length ≤ 100000 by simp at hE1; omega)
  have HE2 := Lib.hid (show (endsS (endsS [] a) b).length ≤ 100000 by simp at hE1; omega)
  have HA := Lib.hid (rEnds_any (.slice none 0 0) (.slice ua a.length uc) [] a w (.nil _ _) hu (by simp) (by omega))
  have HB := Lib.hid (fun (v1 : Value) (w1 : World) (h1 : IntsIn w1 v1 (endsS [] a)) (m : Mod [] w w1) => rEnds_any v1 (.slice va b.length vc) (endsS [] a) b w1 h1 (HV.out.kept0 m) HE1.out (by omega))
  clear hu hv hE1 hE2
  have HK : Hid (kind = 0 ∨ kind = 1 ∨ (kind ≠ 0 ∧ kind ≠ 1)) := Lib.hid (by omega)
  go_enter Tryz.func24, Tryz.ntmps24
  go_wp2_with fail
  refine HA.out.mono ?_
  rintro e w1 ⟨v1, rfl, i1, m1⟩
  have HB2 := Lib.hid (HB.out v1 w1 i1 m1)
  have HM1 := Lib.hid m1
  clear i1 m1 HA HB
  go_wp2_with fail
  refine HB2.out.mono ?_
  rintro e w2 ⟨v2, rfl, i2, m2⟩
  have HI := Lib.hid i2
  have HM2 := Lib.hid (HM1.out.trans m2)
  clear i2 m2 HB2 HM1
  have HF : Hid (∀ i (h : i < (endsS (endsS [] a) b).length), ((endsS (endsS [] a) b).map (twoF a b kind)).take (i + 1) = ((endsS (endsS [] a) b).map (twoF a b kind)).take i ++ [twoF a b kind (endsS (endsS [] a) b)[i]]) := Lib.hid fun i h => by
    rw [List.take_succ_eq_append_getElem (by simpa using h), List.getElem_map]
  have HT := Lib.hid (twoS_eq a b kind)
  have hEl := HE2.out
  clear HE1 HE2
  generalize endsS (endsS [] a) b = E at HI HF HT hEl
  obtain ⟨ea, ec, rfl⟩ := HI.out.form
  go_wp2_with fail
  go_loopw [8, 9] (fun s8 s9 wr => ∃ i : Nat, i ≤ E.length ∧ s9 = .int .i64 i ∧ Hid (OwnB wr w2.heap.size s8 ((E.map (twoF a b kind)).take i)) ∧ Hid (Mod [] w2 wr)) (fun _ s9 _ => E.length - (intOf s9).toNat)
  case atStart => exact ⟨0, by omega, rfl, Lib.hid (OwnR.nil_ _ _), Lib.hid (Mod.refl _ _)⟩
  case round =>
    obtain ⟨i, hi, rfl, hown, hM⟩ := hrel
    by_cases hlt : i < E.length
    · obtain ⟨b0, o0, rfl, hc0, q0⟩ := (HI.out.kept0 hM.out).get1 hlt
      have HFF := Lib.hid (HF.out i hlt)
      have HLN := Lib.hid (show ((E.map (twoF a b kind)).take i).length < 1073741824 by rw [List.length_take, List.length_map]; omega)
      generalize E[i] = d at q0 HFF
      have hm0 := (Mod.refl [] wr).drew
      have HX := Lib.hid (rHas_any (.slice ua a.length uc) a d wr.drew (HU.out.kept0 ((HM2.out.trans hM.out).trans hm0)) (by omega))
      have HY := Lib.hid (rHas_any (.slice va b.length vc) b d wr.drew (HV.out.kept0 ((HM2.out.trans hM.out).trans hm0)) (by omega))
      have HZ : Hid (∀ z : Bool, ∃ v' w', (Builtin.append_ #[83, 83] 83 #[u8, .slice (some ⟨wr.drew.heap.size, 0, none⟩) 1 1]).run Tryz.prog (wr.drew.alloc (.cells #[.bool z] 4)) = .ok v' w' ∧ OwnB w' w2.heap.size v' ((E.map (twoF a b kind)).take i ++ [z]) ∧ Mod [] w2 w') := Lib.hid fun z => by
        obtain ⟨v', w', g1, g2, g3⟩ := own_append1 elemBool encB_len encB_one (hown.out.kept0 hm0) (Nat.le_trans hM.out.size hm0.size) (ty := 83) z HLN.out (by omega)
        exact ⟨v', w', g1, g2, g3.intoNil (hown.out.kept0 hm0) (Nat.le_refl _) (hM.out.trans hm0)⟩
      have HQ : Hid (∀ x y, hasB a d = x → hasB b d = y → twoF a b kind d = opK kind x y) := Lib.hid fun x y hx hy => by rw [twoF, hx, hy]
      have HQ2 := Lib.hid (HQ.out _ _ rfl rfl)
      have HQ3 := HQ2
      clear hm0 HQ HQ2
      generalize hasB a d = x at HX HQ3
      generalize hasB b d = y at HY HQ3
      rcases HK.out with hk | hk | ⟨hk, hk'⟩
      · subst hk
        cases x with
        | true =>
          obtain ⟨v', w', g1, g2, g3⟩ := HZ.out true
          have G1 := Lib.hid g1
          have G2 := Lib.hid (show OwnB w' w2.heap.size v' ((E.map (twoF a b (0))).take (i + 1)) by
            rw [HFF.out, HQ3.out]
            simpa [opK] using g2)
          have G3 := Lib.hid g3
          clear g1 g2 g3 HZ HQ3 HFF
          go_wp2_with fail
          refine wp_plan [([0, 1, 2, 6, 7, 8, 3, 9, 4, 10], 5, [9, 10]), ([], 11, [])] [12, 13] (by kernel_rfl) (by kernel_rfl) ?_
          simp only [wpSegs, opsOf, List.map_cons, List.map_nil, opN, List.getD_cons_zero, List.getD_cons_succ]
          go_wp2_with fail
          refine ⟨by first | trivial | rfl, ?_⟩
          go_wp2_with fail
          refine HX.out.mono ?_
          rintro e w3 ⟨rfl, rfl⟩
          go_wp2_with fail
          refine ⟨?ag0true, ?_⟩
          case ag0true =>
            intro i hi hw
            simp only [List.mem_cons, List.not_mem_nil, or_false] at hi
            rcases hi with rfl | rfl
            all_goals (simp only [opN, List.getD_cons_zero, List.getD_cons_succ, slotOf]; go_simp)
          go_wp2_with fail
          refine ⟨by first | trivial | rfl, ?_⟩
          go_wp2_with fail
          refine HY.out.mono ?_
          rintro e w3 ⟨rfl, rfl⟩
          go_wp2_with fail
          refine ⟨again_nil, ?_⟩
          go_wp2_with fail
          refine ⟨by first | trivial | rfl, ?_⟩
          go_wp2_with ((with_reducible refine xAppendAt G1.out rfl rfl ?_ ?_ ?_ ?_); exact rfl; exact rfl; exact rfl)
          go_roundw
          case rel => exact ⟨i + 1, by omega, by go_num, G2, G3⟩
          case measure => simp [intOf]; omega
        | false =>
          obtain ⟨v', w', g1, g2, g3⟩ := HZ.out y
          have G1 := Lib.hid g1
          have G2 := Lib.hid (show OwnB w' w2.heap.size v' ((E.map (twoF a b (0))).take (i + 1)) by
            rw [HFF.out, HQ3.out]
            simpa [opK] using g2)
          have G3 := Lib.hid g3
          clear g1 g2 g3 HZ HQ3 HFF
          go_wp2_with fail
          refine wp_plan [([0, 1, 2, 6, 7, 8, 3, 9, 4, 10], 5, [9, 10]), ([], 11, [])] [12, 13] (by kernel_rfl) (by kernel_rfl) ?_
          simp only [wpSegs, opsOf, List.map_cons, List.map_nil, opN, List.getD_cons_zero, List.getD_cons_succ]
          go_wp2_with fail
          refine ⟨by first | trivial | rfl, ?_⟩
          go_wp2_with fail
          refine HX.out.mono ?_
          rintro e w3 ⟨rfl, rfl⟩
          go_wp2_with fail
          refine ⟨?ag0false, ?_⟩
          case ag0false =>
            intro i hi hw
            simp only [List.mem_cons, List.not_mem_nil, or_false] at hi
            rcases hi with rfl | rfl
            all_goals (simp only [opN, List.getD_cons_zero, List.getD_cons_succ, slotOf]; go_simp)
          go_wp2_with fail
          refine ⟨by first | trivial | rfl, ?_⟩
          go_wp2_with fail
          refine HY.out.mono ?_
          rintro e w3 ⟨rfl, rfl⟩
          go_wp2_with fail
          refine ⟨again_nil, ?_⟩
          go_wp2_with fail
          refine ⟨by first | trivial | rfl, ?_⟩
          go_wp2_with ((with_reducible refine xAppendAt G1.out rfl rfl ?_ ?_ ?_ ?_); exact rfl; exact rfl; exact rfl)
          go_roundw
          case rel => exact ⟨i + 1, by omega, by go_num, G2, G3⟩
          case measure => simp [intOf]; omega
      · subst hk
        cases x with
        | true =>
          obtain ⟨v', w', g1, g2, g3⟩ := HZ.out y
          have G1 := Lib.hid g1
          have G2 := Lib.hid (show OwnB w' w2.heap.size v' ((E.map (twoF a b (1))).take (i + 1)) by
            rw [HFF.out, HQ3.out]
            simpa [opK] using g2)
          have G3 := Lib.hid g3
          clear g1 g2 g3 HZ HQ3 HFF
          go_wp2_with fail
          refine wp_plan [([0, 1, 2, 6, 7, 8, 3, 9, 4, 10], 5, [9, 10]), ([], 11, [])] [12, 13] (by kernel_rfl) (by kernel_rfl) ?_
          simp only [wpSegs, opsOf, List.map_cons, List.map_nil, opN, List.getD_cons_zero, List.getD_cons_succ]
          go_wp2_with fail
          refine ⟨by first | trivial | rfl, ?_⟩
          go_wp2_with fail
          refine HX.out.mono ?_
          rintro e w3 ⟨rfl, rfl⟩
          go_wp2_with fail
          refine ⟨?ag1true, ?_⟩
          case ag1true =>
            intro i hi hw
            simp only [List.mem_cons, List.not_mem_nil, or_false] at hi
            rcases hi with rfl | rfl
            all_goals (simp only [opN, List.getD_cons_zero, List.getD_cons_succ, slotOf]; go_simp)
          go_wp2_with fail
          refine ⟨by first | trivial | rfl, ?_⟩
          go_wp2_with fail
          refine HY.out.mono ?_
          rintro e w3 ⟨rfl, rfl⟩
          go_wp2_with fail
          refine ⟨again_nil, ?_⟩
          go_wp2_with fail
          refine ⟨by first | trivial | rfl, ?_⟩
          go_wp2_with ((with_reducible refine xAppendAt G1.out rfl rfl ?_ ?_ ?_ ?_); exact rfl; exact rfl; exact rfl)
          go_roundw
          case rel => exact ⟨i + 1, by omega, by go_num, G2, G3⟩
          case measure => simp [intOf]; omega
        | false =>
          obtain ⟨v', w', g1, g2, g3⟩ := HZ.out false
          have G1 := Lib.hid g1
          have G2 := Lib.hid (show OwnB w' w2.heap.size v' ((E.map (twoF a b (1))).take (i + 1)) by
            rw [HFF.out, HQ3.out]
            simpa [opK] using g2)
          have G3 := Lib.hid g3
          clear g1 g2 g3 HZ HQ3 HFF
          go_wp2_with fail
          refine wp_plan [([0, 1, 2, 6, 7, 8, 3, 9, 4, 10], 5, [9, 10]), ([], 11, [])] [12, 13] (by kernel_rfl) (by kernel_rfl) ?_
          simp only [wpSegs, opsOf, List.map_cons, List.map_nil, opN, List.getD_cons_zero, List.getD_cons_succ]
          go_wp2_with fail
          refine ⟨by first | trivial | rfl, ?_⟩
          go_wp2_with fail
          refine HX.out.mono ?_
          rintro e w3 ⟨rfl, rfl⟩
          go_wp2_with fail
          refine ⟨?ag1false, ?_⟩
          case ag1false =>
            intro i hi hw
            simp only [List.mem_cons, List.not_mem_nil, or_false] at hi
            rcases hi with rfl | rfl
            all_goals (simp only [opN, List.getD_cons_zero, List.getD_cons_succ, slotOf]; go_simp)
          go_wp2_with fail
          refine ⟨by first | trivial | rfl, ?_⟩
          go_wp2_with fail
          refine HY.out.mono ?_
          rintro e w3 ⟨rfl, rfl⟩
          go_wp2_with fail
          refine ⟨again_nil, ?_⟩
          go_wp2_with fail
          refine ⟨by first | trivial | rfl, ?_⟩
          go_wp2_with ((with_reducible refine xAppendAt G1.out rfl rfl ?_ ?_ ?_ ?_); exact rfl; exact rfl; exact rfl)
          go_roundw
          case rel => exact ⟨i + 1, by omega, by go_num, G2, G3⟩
          case measure => simp [intOf]; omega
      · have hk0 : (kind == 0) = false := by simpa using hk
        have hk1 : (kind == 1) = false := by simpa using hk'
        have HKN := Lib.hid (And.intro hk hk')
        clear hk hk'
        cases x with
        | true =>
          obtain ⟨v', w', g1, g2, g3⟩ := HZ.out (!y)
          have G1 := Lib.hid g1
          have G2 := Lib.hid (show OwnB w' w2.heap.size v' ((E.map (twoF a b (kind))).take (i + 1)) by
            rw [HFF.out, HQ3.out]
            simpa [opK, HKN.out.1, HKN.out.2] using g2)
          have G3 := Lib.hid g3
          clear g1 g2 g3 HZ HQ3 HFF
          go_wp2_with fail
          refine wp_plan [([0, 1, 2, 6, 7, 8, 3, 9, 4, 10], 5, [9, 10]), ([], 11, [])] [12, 13] (by kernel_rfl) (by kernel_rfl) ?_
          simp only [wpSegs, opsOf, List.map_cons, List.map_nil, opN, List.getD_cons_zero, List.getD_cons_succ]
          go_wp2_with fail
          refine ⟨by first | trivial | rfl, ?_⟩
          go_wp2_with fail
          refine HX.out.mono ?_
          rintro e w3 ⟨rfl, rfl⟩
          go_wp2_with fail
          refine ⟨?ag2true, ?_⟩
          case ag2true =>
            intro i hi hw
            simp only [List.mem_cons, List.not_mem_nil, or_false] at hi
            rcases hi with rfl | rfl
            all_goals (simp only [opN, List.getD_cons_zero, List.getD_cons_succ, slotOf]; go_simp)
          go_wp2_with fail
          refine ⟨by first | trivial | rfl, ?_⟩
          go_wp2_with fail
          refine HY.out.mono ?_
          rintro e w3 ⟨rfl, rfl⟩
          go_wp2_with fail
          refine ⟨again_nil, ?_⟩
          go_wp2_with fail
          refine ⟨by first | trivial | rfl, ?_⟩
          go_wp2_with ((with_reducible refine xAppendAt G1.out rfl rfl ?_ ?_ ?_ ?_); exact rfl; exact rfl; exact rfl)
          go_roundw
          case rel => exact ⟨i + 1, by omega, by go_num, G2, G3⟩
          case measure => simp [intOf]; omega
        | false =>
          obtain ⟨v', w', g1, g2, g3⟩ := HZ.out false
          have G1 := Lib.hid g1
          have G2 := Lib.hid (show OwnB w' w2.heap.size v' ((E.map (twoF a b (kind))).take (i + 1)) by
            rw [HFF.out, HQ3.out]
            simpa [opK, HKN.out.1, HKN.out.2] using g2)
          have G3 := Lib.hid g3
          clear g1 g2 g3 HZ HQ3 HFF
          go_wp2_with fail
          refine wp_plan [([0, 1, 2, 6, 7, 8, 3, 9, 4, 10], 5, [9, 10]), ([], 11, [])] [12, 13] (by kernel_rfl) (by kernel_rfl) ?_
          simp only [wpSegs, opsOf, List.map_cons, List.map_nil, opN, List.getD_cons_zero, List.getD_cons_succ]
          go_wp2_with fail
          refine ⟨by first | trivial | rfl, ?_⟩
          go_wp2_with fail
          refine HX.out.mono ?_
          rintro e w3 ⟨rfl, rfl⟩
          go_wp2_with fail
          refine ⟨?ag2false, ?_⟩
          case ag2false =>
            intro i hi hw
            simp only [List.mem_cons, List.not_mem_nil, or_false] at hi
            rcases hi with rfl | rfl
            all_goals (simp only [opN, List.getD_cons_zero, List.getD_cons_succ, slotOf]; go_simp)
          go_wp2_with fail
          refine ⟨by first | trivial | rfl, ?_⟩
          go_wp2_with fail
          refine HY.out.mono ?_
          rintro e w3 ⟨rfl, rfl⟩
          go_wp2_with fail
          refine ⟨again_nil, ?_⟩
          go_wp2_with fail
          refine ⟨by first | trivial | rfl, ?_⟩
          go_wp2_with ((with_reducible refine xAppendAt G1.out rfl rfl ?_ ?_ ?_ ?_); exact rfl; exact rfl; exact rfl)
          go_roundw
          case rel => exact ⟨i + 1, by omega, by go_num, G2, G3⟩
          case measure => simp [intOf]; omega
    · have HR := Lib.hid (show (E.map (twoF a b kind)).take i = E.map (twoF a b kind) from List.take_of_length_le (by rw [List.length_map]; omega))
      have hB := hown.out.row
      rw [HR.out] at hB
      have HG := Lib.hid (rRight_any (.slice ea E.length ec) u8 E (twoF a b kind) wr (HI.out.kept0 hM.out) hB (by omega))
      have HMr := Lib.hid (HM2.out.trans hM.out)
      clear hB
      go_wp2_with fail
      refine HG.out.mono ?_
      rintro e w3 ⟨v3, rfl, o3, m3⟩
      have HO := Lib.hid o3
      have HM3 := Lib.hid (HMr.out.trans m3)
      clear o3 m3
      go_wp2_with fail
      go_ret
      exact ⟨_, rfl, by rw [HT.out]; exact HO.out.mono HMr.out.size, HM3.out⟩
end Go.Proofs.YtefaihockgebeaaGreat
