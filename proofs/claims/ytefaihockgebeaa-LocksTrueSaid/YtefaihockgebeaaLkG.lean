/- Locks: the document's Rises. -/
import Derived.Test.YtefaihockgebeaaLkC
namespace Go.Proofs.Ytefaihockgebeaa
open Go.RowKit Go.ChangeMaps Go.Deep
set_option linter.unusedSimpArgs false
set_option linter.unusedVariables false
set_option maxRecDepth 20000

set_option maxHeartbeats 8000000 in
theorem rRises_any (v : Value) (us : List (Int × Value)) (rs : List Rn) (w : World) (h : RunsAt w v us rs) (hl : rs.length ≤ 140737488355328) (hsl : ∀ r ∈ rs, r.segs.length ≤ 140737488355328) :
    Calls Try.prog 47 #[v] w fun e w' => e = .returned (.bool (runsOk none rs)) ∧ Mod [] w w' := by
  have H := Lib.hid h
  have HSL := Lib.hid hsl
  obtain ⟨a, c, rfl⟩ := h.form
  clear h hsl
  go_enter Try.func47, Try.ntmps47
  go_wp2_with fail
  go_loopw [3] (fun s3 wr => ∃ i : Nat, i ≤ rs.length ∧ s3 = .int .i64 i ∧ Hid (Mod [] w wr) ∧ Hid (runsOk (prevR rs i) (rs.drop i) = runsOk none rs)) (fun s3 _ => rs.length - (intOf s3).toNat)
  case atStart => exact ⟨0, by omega, rfl, Lib.hid (Mod.refl _ _), Lib.hid rfl⟩
  case round =>
    obtain ⟨i, hi, rfl, hM, hv⟩ := hrel
    rename World => wo
    by_cases hlt : i < rs.length
    · obtain ⟨b, o, s, rfl, he, hc, e0, e1, hs⟩ := (H.out.kept0 hM.out).get hlt
      obtain ⟨sa, sc, rfl⟩ := hs.form
      have hlr : rs[i].segs.length ≤ 140737488355328 := HSL.out _ (List.getElem_mem hlt)
      have HPR := Lib.hid (show prevR rs (i + 1) = some rs[i].rule by simp [prevR, hlt])
      have hd := hv.out
      rw [← List.getElem_cons_drop hlt, runsOk] at hd
      have HD := Lib.hid hd
      clear hd
      generalize rs[i] = r at e0 e1 hs hlr HD HPR
      obtain ⟨rule, segs⟩ := r
      dsimp only at e0 e1 hs hlr HD HPR
      have HS := Lib.hid hs
      clear hs
      cases i with
      | zero =>
        have HD0 := Lib.hid (show (segsOk none segs && runsOk (some rule) (rs.drop (0 + 1))) = runsOk none rs by rw [← HD.out]; simp [prevR])
        simp only [Nat.zero_mul, Nat.add_zero] at e0 e1
        go_wp2_with fail
        refine wp_plan [] [0, 1, 2, 3, 4, 8, 9, 10, 5, 6, 11, 7, 12, 13, 14, 15] (by kernel_rfl) (by kernel_rfl) ?_
        simp only [wpSegs, opsOf, List.map_cons, List.map_nil, opN, List.getD_cons_zero, List.getD_cons_succ]
        go_wp2_with fail
        refine ⟨by first | trivial | rfl, ?_⟩
        go_wp2_with fail
        go_loopw [5] (fun s5 wx => ∃ k : Nat, k ≤ segs.length ∧ s5 = .int .i64 k ∧ Hid (Mod [] w wx) ∧ Hid (Mod [] wo wx) ∧ Hid (segsOk (prevS segs k) (segs.drop k) = segsOk none segs)) (fun s5 _ => segs.length - (intOf s5).toNat)
        case atStart => exact ⟨0, by omega, rfl, Lib.hid hM.out.drew, Lib.hid ((Mod.refl [] wo).drew), Lib.hid rfl⟩
        case round =>
          obtain ⟨k, hk, rfl, HMX, hM2, hv2⟩ := hrel
          by_cases hlt2 : k < segs.length
          · have hsx := HS.out.kept0 hM2.out
            have HSX := Lib.hid hsx
            obtain ⟨b2, o2, rfl, hc2, hseg⟩ := hsx.get6 hlt2
            have HPS := Lib.hid (show prevS segs (k + 1) = some segs[k].t by simp [prevS, hlt2])
            have hd2 := hv2.out
            rw [← List.getElem_cons_drop hlt2, segsOk] at hd2
            have HD2 := Lib.hid hd2
            clear hd2 hsx
            generalize segs[k] = x at hseg HD2 HPS
            obtain ⟨x1, x2, x3, x4, x5, x6⟩ := x
            obtain ⟨g0, g1, g2, g3, g4, g5⟩ := hseg
            dsimp only at g0 g1 g2 g3 g4 g5 HD2 HPS
            by_cases h1 : x2 ≤ x1
            · have HF := Lib.hid (show runsOk none rs = false by rw [← HD0.out, ← HD2.out]; simp [h1])
              go_wp2_with fail
              refine wp_plan [] [0, 1, 5, 6, 2, 7, 3, 8, 4, 9, 10, 11, 12, 13, 14, 15, 16, 21, 22, 17, 23, 18, 24, 19, 25, 20, 26, 27, 28] (by kernel_rfl) (by kernel_rfl) ?_
              simp only [wpSegs, opsOf, List.map_cons, List.map_nil, opN, List.getD_cons_zero, List.getD_cons_succ]
              go_wp2_with fail
              refine ⟨by first | trivial | rfl, ?_⟩
              go_wp2_with fail
              go_ret
              exact ⟨by rw [HF.out]; rfl, HMX.out.drew⟩
            · cases k with
              | zero =>
                have HR := Lib.hid (show segsOk (prevS segs (0 + 1)) (segs.drop (0 + 1)) = segsOk none segs by rw [HPS.out, ← HD2.out]; simp [prevS, h1])
                simp only [Nat.zero_mul, Nat.add_zero] at g0 g1 g2 g3 g4 g5
                go_wp2_with fail
                refine wp_plan [] [0, 1, 5, 6, 2, 7, 3, 8, 4, 9, 10, 11, 12, 13, 14, 15, 16, 21, 22, 17, 23, 18, 24, 19, 25, 20, 26, 27, 28] (by kernel_rfl) (by kernel_rfl) ?_
                simp only [wpSegs, opsOf, List.map_cons, List.map_nil, opN, List.getD_cons_zero, List.getD_cons_succ]
                go_wp2_with fail
                refine ⟨by first | trivial | rfl, ?_⟩
                go_wp2_with fail
                go_roundw
                case rel => exact ⟨0 + 1, by omega, by go_num, Lib.hid HMX.out.drew, Lib.hid hM2.out.drew, HR⟩
                case measure => simp [intOf]; omega
              | succ m =>
                have hm' : m < segs.length := by omega
                have cm := HSX.out.cell1 hm'
                have HPW := Lib.hid (show prevS segs (m + 1) = some segs[m].t by simp [prevS, hm'])
                generalize segs[m].t = q2 at cm HPW
                by_cases h2 : x1 < q2
                · have HF := Lib.hid (show runsOk none rs = false by rw [← HD0.out, ← HD2.out, HPW.out]; simp [h2])
                  go_wp2_with fail
                  refine wp_plan [] [0, 1, 5, 6, 2, 7, 3, 8, 4, 9, 10, 11, 12, 13, 14, 15, 16, 21, 22, 17, 23, 18, 24, 19, 25, 20, 26, 27, 28] (by kernel_rfl) (by kernel_rfl) ?_
                  simp only [wpSegs, opsOf, List.map_cons, List.map_nil, opN, List.getD_cons_zero, List.getD_cons_succ]
                  go_wp2_with fail
                  refine ⟨by first | trivial | rfl, ?_⟩
                  go_wp2_with fail
                  go_ret
                  exact ⟨by rw [HF.out]; rfl, HMX.out.drew⟩
                · have HR := Lib.hid (show segsOk (prevS segs (m + 1 + 1)) (segs.drop (m + 1 + 1)) = segsOk none segs by rw [HPS.out, ← HD2.out, HPW.out]; simp [h1, h2])
                  go_wp2_with fail
                  refine wp_plan [] [0, 1, 5, 6, 2, 7, 3, 8, 4, 9, 10, 11, 12, 13, 14, 15, 16, 21, 22, 17, 23, 18, 24, 19, 25, 20, 26, 27, 28] (by kernel_rfl) (by kernel_rfl) ?_
                  simp only [wpSegs, opsOf, List.map_cons, List.map_nil, opN, List.getD_cons_zero, List.getD_cons_succ]
                  go_wp2_with fail
                  refine ⟨by first | trivial | rfl, ?_⟩
                  go_wp2_with fail
                  go_roundw
                  case rel => exact ⟨m + 1 + 1, by omega, by go_num, Lib.hid HMX.out.drew, Lib.hid hM2.out.drew, HR⟩
                  case measure => simp [intOf]; omega
          · have HE := Lib.hid (show segsOk none segs = true by rw [← hv2.out, List.drop_of_length_le (by omega)]; rfl)
            have HN := Lib.hid (show runsOk (prevR rs (0 + 1)) (rs.drop (0 + 1)) = runsOk none rs by rw [HPR.out, ← HD0.out, HE.out, Bool.true_and])
            go_wp2_with fail
            go_roundw
            case rel => exact ⟨0 + 1, by omega, by go_num, HMX, HN⟩
            case measure => simp [intOf]; omega
      | succ j =>
        have hj : j < rs.length := by omega
        have cj := (H.out.kept0 hM.out).cell hj
        have HPV := Lib.hid (show prevR rs (j + 1) = some rs[j].rule by simp [prevR, hj])
        generalize rs[j].rule = q at cj HPV
        by_cases hle : rule ≤ q
        · have HF := Lib.hid (show runsOk none rs = false by rw [← HD.out, HPV.out]; simp [hle])
          go_wp2_with fail
          refine wp_plan [] [0, 1, 2, 3, 4, 8, 9, 10, 5, 6, 11, 7, 12, 13, 14, 15] (by kernel_rfl) (by kernel_rfl) ?_
          simp only [wpSegs, opsOf, List.map_cons, List.map_nil, opN, List.getD_cons_zero, List.getD_cons_succ]
          go_wp2_with fail
          refine ⟨by first | trivial | rfl, ?_⟩
          go_wp2_with fail
          go_ret
          exact ⟨by rw [HF.out]; rfl, hM.out.drew⟩
        · have HD0 := Lib.hid (show (segsOk none segs && runsOk (some rule) (rs.drop (j + 1 + 1))) = runsOk none rs by rw [← HD.out, HPV.out]; simp [hle])
          go_wp2_with fail
          refine wp_plan [] [0, 1, 2, 3, 4, 8, 9, 10, 5, 6, 11, 7, 12, 13, 14, 15] (by kernel_rfl) (by kernel_rfl) ?_
          simp only [wpSegs, opsOf, List.map_cons, List.map_nil, opN, List.getD_cons_zero, List.getD_cons_succ]
          go_wp2_with fail
          refine ⟨by first | trivial | rfl, ?_⟩
          go_wp2_with fail
          go_loopw [5] (fun s5 wx => ∃ k : Nat, k ≤ segs.length ∧ s5 = .int .i64 k ∧ Hid (Mod [] w wx) ∧ Hid (Mod [] wo wx) ∧ Hid (segsOk (prevS segs k) (segs.drop k) = segsOk none segs)) (fun s5 _ => segs.length - (intOf s5).toNat)
          case atStart => exact ⟨0, by omega, rfl, Lib.hid hM.out.drew, Lib.hid ((Mod.refl [] wo).drew), Lib.hid rfl⟩
          case round =>
            obtain ⟨k, hk, rfl, HMX, hM2, hv2⟩ := hrel
            by_cases hlt2 : k < segs.length
            · have hsx := HS.out.kept0 hM2.out
              have HSX := Lib.hid hsx
              obtain ⟨b2, o2, rfl, hc2, hseg⟩ := hsx.get6 hlt2
              have HPS := Lib.hid (show prevS segs (k + 1) = some segs[k].t by simp [prevS, hlt2])
              have hd2 := hv2.out
              rw [← List.getElem_cons_drop hlt2, segsOk] at hd2
              have HD2 := Lib.hid hd2
              clear hd2 hsx
              generalize segs[k] = x at hseg HD2 HPS
              obtain ⟨x1, x2, x3, x4, x5, x6⟩ := x
              obtain ⟨g0, g1, g2, g3, g4, g5⟩ := hseg
              dsimp only at g0 g1 g2 g3 g4 g5 HD2 HPS
              by_cases h1 : x2 ≤ x1
              · have HF := Lib.hid (show runsOk none rs = false by rw [← HD0.out, ← HD2.out]; simp [h1])
                go_wp2_with fail
                refine wp_plan [] [0, 1, 5, 6, 2, 7, 3, 8, 4, 9, 10, 11, 12, 13, 14, 15, 16, 21, 22, 17, 23, 18, 24, 19, 25, 20, 26, 27, 28] (by kernel_rfl) (by kernel_rfl) ?_
                simp only [wpSegs, opsOf, List.map_cons, List.map_nil, opN, List.getD_cons_zero, List.getD_cons_succ]
                go_wp2_with fail
                refine ⟨by first | trivial | rfl, ?_⟩
                go_wp2_with fail
                go_ret
                exact ⟨by rw [HF.out]; rfl, HMX.out.drew⟩
              · cases k with
                | zero =>
                  have HR := Lib.hid (show segsOk (prevS segs (0 + 1)) (segs.drop (0 + 1)) = segsOk none segs by rw [HPS.out, ← HD2.out]; simp [prevS, h1])
                  simp only [Nat.zero_mul, Nat.add_zero] at g0 g1 g2 g3 g4 g5
                  go_wp2_with fail
                  refine wp_plan [] [0, 1, 5, 6, 2, 7, 3, 8, 4, 9, 10, 11, 12, 13, 14, 15, 16, 21, 22, 17, 23, 18, 24, 19, 25, 20, 26, 27, 28] (by kernel_rfl) (by kernel_rfl) ?_
                  simp only [wpSegs, opsOf, List.map_cons, List.map_nil, opN, List.getD_cons_zero, List.getD_cons_succ]
                  go_wp2_with fail
                  refine ⟨by first | trivial | rfl, ?_⟩
                  go_wp2_with fail
                  go_roundw
                  case rel => exact ⟨0 + 1, by omega, by go_num, Lib.hid HMX.out.drew, Lib.hid hM2.out.drew, HR⟩
                  case measure => simp [intOf]; omega
                | succ m =>
                  have hm' : m < segs.length := by omega
                  have cm := HSX.out.cell1 hm'
                  have HPW := Lib.hid (show prevS segs (m + 1) = some segs[m].t by simp [prevS, hm'])
                  generalize segs[m].t = q2 at cm HPW
                  by_cases h2 : x1 < q2
                  · have HF := Lib.hid (show runsOk none rs = false by rw [← HD0.out, ← HD2.out, HPW.out]; simp [h2])
                    go_wp2_with fail
                    refine wp_plan [] [0, 1, 5, 6, 2, 7, 3, 8, 4, 9, 10, 11, 12, 13, 14, 15, 16, 21, 22, 17, 23, 18, 24, 19, 25, 20, 26, 27, 28] (by kernel_rfl) (by kernel_rfl) ?_
                    simp only [wpSegs, opsOf, List.map_cons, List.map_nil, opN, List.getD_cons_zero, List.getD_cons_succ]
                    go_wp2_with fail
                    refine ⟨by first | trivial | rfl, ?_⟩
                    go_wp2_with fail
                    go_ret
                    exact ⟨by rw [HF.out]; rfl, HMX.out.drew⟩
                  · have HR := Lib.hid (show segsOk (prevS segs (m + 1 + 1)) (segs.drop (m + 1 + 1)) = segsOk none segs by rw [HPS.out, ← HD2.out, HPW.out]; simp [h1, h2])
                    go_wp2_with fail
                    refine wp_plan [] [0, 1, 5, 6, 2, 7, 3, 8, 4, 9, 10, 11, 12, 13, 14, 15, 16, 21, 22, 17, 23, 18, 24, 19, 25, 20, 26, 27, 28] (by kernel_rfl) (by kernel_rfl) ?_
                    simp only [wpSegs, opsOf, List.map_cons, List.map_nil, opN, List.getD_cons_zero, List.getD_cons_succ]
                    go_wp2_with fail
                    refine ⟨by first | trivial | rfl, ?_⟩
                    go_wp2_with fail
                    go_roundw
                    case rel => exact ⟨m + 1 + 1, by omega, by go_num, Lib.hid HMX.out.drew, Lib.hid hM2.out.drew, HR⟩
                    case measure => simp [intOf]; omega
            · have HE := Lib.hid (show segsOk none segs = true by rw [← hv2.out, List.drop_of_length_le (by omega)]; rfl)
              have HN := Lib.hid (show runsOk (prevR rs (j + 1 + 1)) (rs.drop (j + 1 + 1)) = runsOk none rs by rw [HPR.out, ← HD0.out, HE.out, Bool.true_and])
              go_wp2_with fail
              go_roundw
              case rel => exact ⟨j + 1 + 1, by omega, by go_num, HMX, HN⟩
              case measure => simp [intOf]; omega
    · have HE := Lib.hid (show runsOk none rs = true by rw [← hv.out, List.drop_of_length_le (by omega)]; rfl)
      go_wp2_with fail
      go_ret
      exact ⟨by rw [HE.out]; rfl, hM.out⟩
end Go.Proofs.Ytefaihockgebeaa
