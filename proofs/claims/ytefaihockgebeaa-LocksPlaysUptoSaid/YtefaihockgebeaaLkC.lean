/- Locks: rises, and the document's Rises. -/
import Derived.BigQuiet
import Derived.Test.YtefaihockgebeaaLkA
namespace Go.Proofs.Ytefaihockgebeaa
open Go.RowKit Go.ChangeMaps Go.Deep
set_option linter.unusedSimpArgs false
set_option linter.unusedVariables false
set_option maxRecDepth 20000

def segsOk : Option Int → List Sg → Bool
  | _, [] => true
  | p, x :: l => !(decide (x.t ≤ x.f) || p.any (fun q => decide (x.f < q))) && segsOk (some x.t) l
def runsOk : Option Int → List Rn → Bool
  | _, [] => true
  | p, r :: l => !(p.any (fun q => decide (r.rule ≤ q))) && segsOk none r.segs && runsOk (some r.rule) l
def prevS (l : List Sg) : Nat → Option Int
  | 0 => none
  | i + 1 => l[i]?.map (·.t)
def prevR (l : List Rn) : Nat → Option Int
  | 0 => none
  | i + 1 => l[i]?.map (·.rule)
theorem RunsAt.cell {w : World} {b o n c : Nat} {us : List (Int × Value)} {rs : List Rn} (h : RunsAt w (.slice (some ⟨b, o, none⟩) n c) us rs) {i : Nat} (hi : i < rs.length) : w.cell? ⟨b, o + i * 2, none⟩ = some (.int .i64 rs[i].rule) := by
  obtain ⟨b', o', s, e, _, _, h0, _⟩ := h.get hi
  simp only [Option.some.injEq, Addr.mk.injEq, and_true] at e
  obtain ⟨rfl, rfl⟩ := e
  exact h0
theorem RowAt.cell1 {w : World} {b o c : Nat} {l : List Sg} (h : SegsAt w (.slice (some ⟨b, o, none⟩) l.length c) l) {i : Nat} (hi : i < l.length) : w.cell? ⟨b, o + i * 6 + 1, none⟩ = some (.int .i64 l[i].t) := by
  obtain ⟨b', o', e, _, h0⟩ := h.get6 hi
  simp only [Option.some.injEq, Addr.mk.injEq, and_true] at e
  obtain ⟨rfl, rfl⟩ := e
  exact h0.c1
set_option maxHeartbeats 4000000 in
theorem lkRises_any (v : Value) (us : List (Int × Value)) (rs : List Rn) (w : World) (h : RunsAt w v us rs) (hl : rs.length ≤ 140737488355328) (hsl : ∀ r ∈ rs, r.segs.length ≤ 140737488355328) :
    Calls Try.prog 82 #[v] w fun e w' => e = .returned (.bool (runsOk none rs)) ∧ Mod [] w w' := by
  have H := Lib.hid h
  have HSL := Lib.hid hsl
  obtain ⟨a, c, rfl⟩ := h.form
  clear h hsl
  go_enter Try.func82, Try.ntmps82
  go_wp2_with fail
  go_loopw [9] (fun s9 wr => ∃ i : Nat, i ≤ rs.length ∧ s9 = .int .i64 i ∧ Hid (Mod [] w wr) ∧ Hid (runsOk (prevR rs i) (rs.drop i) = runsOk none rs)) (fun s9 _ => rs.length - (intOf s9).toNat)
  case atStart => exact ⟨0, by omega, rfl, Lib.hid (Mod.refl _ _), Lib.hid rfl⟩
  case round =>
    obtain ⟨i, hi, rfl, hM, hv⟩ := hrel
    rename World => wo
    by_cases hlt : i < rs.length
    · obtain ⟨b, o, s, rfl, he, hc, e0, e1, hs⟩ := (H.out.kept0 hM.out).get hlt
      obtain ⟨sa, sc, rfl⟩ := hs.form
      have hlr : rs[i].segs.length ≤ 140737488355328 := HSL.out _ (List.getElem_mem hlt)
      have HPR := Lib.hid (show prevR rs (i + 1) = some rs[i].rule by simp [prevR, hlt])
      have hd := hv.out
      rw [← List.getElem_cons_drop hlt, runsOk] at hd
      have HD := Lib.hid hd
      clear hd
      generalize rs[i] = r at e0 e1 hs hlr HD HPR
      obtain ⟨rule, segs⟩ := r
      dsimp only at e0 e1 hs hlr HD HPR
      have HS := Lib.hid hs
      have HMA := Lib.hid (hM.out.alloc (.cells #[.int .i64 rule, .slice sa segs.length sc] 80))
      have HNB := Lib.hid (heap_alloc_new wo (.cells #[.int .i64 rule, .slice sa segs.length sc] 80))
      clear hs
      cases i with
      | zero =>
        have HD0 := Lib.hid (show (segsOk none segs && runsOk (some rule) (rs.drop (0 + 1))) = runsOk none rs by rw [← HD.out]; simp [prevR])
        simp only [Nat.zero_mul, Nat.add_zero] at e0 e1
        go_wp2_with fail
        go_quiet (fail)
        go_wp2_with fail
        go_loopw [30] (fun s30 wr => ∃ k : Nat, k ≤ segs.length ∧ s30 = .int .i64 k ∧ Hid (Mod [] (wo.alloc (.cells #[.int .i64 rule, .slice sa segs.length sc] 80)) wr) ∧ Hid (segsOk (prevS segs k) (segs.drop k) = segsOk none segs)) (fun s30 _ => segs.length - (intOf s30).toNat)
        case atStart => exact ⟨0, by omega, rfl, Lib.hid ((Mod.refl [] _).drewN _), Lib.hid rfl⟩
        case round =>
          obtain ⟨k, hk, rfl, hM2, hv2⟩ := hrel
          have HMX := Lib.hid (HMA.out.trans hM2.out)
          by_cases hlt2 : k < segs.length
          · have hsx := ((HS.out.kept0 ((Mod.refl [] wo).alloc _)).kept0 hM2.out)
            have HSX := Lib.hid hsx
            obtain ⟨b2, o2, rfl, hc2, hseg⟩ := hsx.get6 hlt2
            have HPS := Lib.hid (show prevS segs (k + 1) = some segs[k].t by simp [prevS, hlt2])
            have hd2 := hv2.out
            rw [← List.getElem_cons_drop hlt2, segsOk] at hd2
            have HD2 := Lib.hid hd2
            clear hd2 hsx
            generalize segs[k] = x at hseg HD2 HPS
            obtain ⟨x1, x2, x3, x4, x5, x6⟩ := x
            obtain ⟨g0, g1, g2, g3, g4, g5⟩ := hseg
            dsimp only at g0 g1 g2 g3 g4 g5 HD2 HPS
            have hma := hM2.out.alloc (.cells #[.int .i64 x1, .int .i64 x2, .int .u8 x3, .int .i64 x4, .int .i64 x5, .int .i64 x6] 116)
            have HMB := Lib.hid hma
            have HMW := Lib.hid (HMA.out.trans hma)
            have hx4 := hma.heap HNB.out (by simp)
            have q1 := cell_blk hx4 1
            simp only [List.getElem?_toArray, List.getElem?_cons_succ, List.getElem?_cons_zero] at q1
            clear hma hx4
            by_cases h1 : x2 ≤ x1
            · have HF := Lib.hid (show runsOk none rs = false by rw [← HD0.out, ← HD2.out]; simp [h1])
              go_wp2_with fail
              refine wp_plan [] [0, 2, 1, 3, 4, 5, 6, 7, 8, 9, 11, 13, 10, 12, 14, 15, 16, 17, 18, 19, 20] (by kernel_rfl) (by kernel_rfl) ?_
              simp only [wpSegs, opsOf, List.map_cons, List.map_nil, opN, List.getD_cons_zero, List.getD_cons_succ]
              go_wp2_with fail
              refine ⟨by first | trivial | rfl, ?_⟩
              go_wp2_with fail
              go_ret
              exact ⟨by rw [HF.out]; rfl, by first | exact HMW.out.drew | exact HMW.out.drewN _⟩
            · cases k with
              | zero =>
                have HR := Lib.hid (show segsOk (prevS segs (0 + 1)) (segs.drop (0 + 1)) = segsOk none segs by rw [HPS.out, ← HD2.out]; simp [prevS, h1])
                simp only [Nat.zero_mul, Nat.add_zero] at g0 g1 g2 g3 g4 g5
                go_wp2_with fail
                refine wp_plan [] [0, 2, 1, 3, 4, 5, 6, 7, 8, 9, 11, 13, 10, 12, 14, 15, 16, 17, 18, 19, 20] (by kernel_rfl) (by kernel_rfl) ?_
                simp only [wpSegs, opsOf, List.map_cons, List.map_nil, opN, List.getD_cons_zero, List.getD_cons_succ]
                go_wp2_with fail
                refine ⟨by first | trivial | rfl, ?_⟩
                go_wp2_with fail
                go_roundw
                case rel => exact ⟨0 + 1, by omega, by go_num, Lib.hid (by first | exact HMB.out.drew | exact HMB.out.drewN _), HR⟩
                case measure => simp [intOf]; omega
              | succ m =>
                have hm' : m < segs.length := by omega
                have cm := HSX.out.cell1 hm'
                have cm' := (World.cell?_alloc_lt wr (.cells #[.int .i64 x1, .int .i64 x2, .int .u8 x3, .int .i64 x4, .int .i64 x5, .int .i64 x6] 116) ⟨b2, o2 + m * 6 + 1, none⟩ (World.block_lt_of_cell? _ _ cm)).trans cm
                have HPW := Lib.hid (show prevS segs (m + 1) = some segs[m].t by simp [prevS, hm'])
                generalize segs[m].t = q2 at cm cm' HPW
                by_cases h2 : x1 < q2
                · have HF := Lib.hid (show runsOk none rs = false by rw [← HD0.out, ← HD2.out, HPW.out]; simp [h2])
                  go_wp2_with fail
                  refine wp_plan [] [0, 2, 1, 3, 4, 5, 6, 7, 8, 9, 11, 13, 10, 12, 14, 15, 16, 17, 18, 19, 20] (by kernel_rfl) (by kernel_rfl) ?_
                  simp only [wpSegs, opsOf, List.map_cons, List.map_nil, opN, List.getD_cons_zero, List.getD_cons_succ]
                  go_wp2_with fail
                  refine ⟨by first | trivial | rfl, ?_⟩
                  go_wp2_with fail
                  go_ret
                  exact ⟨by rw [HF.out]; rfl, by first | exact HMW.out.drew | exact HMW.out.drewN _⟩
                · have HR := Lib.hid (show segsOk (prevS segs (m + 1 + 1)) (segs.drop (m + 1 + 1)) = segsOk none segs by rw [HPS.out, ← HD2.out, HPW.out]; simp [h1, h2])
                  go_wp2_with fail
                  refine wp_plan [] [0, 2, 1, 3, 4, 5, 6, 7, 8, 9, 11, 13, 10, 12, 14, 15, 16, 17, 18, 19, 20] (by kernel_rfl) (by kernel_rfl) ?_
                  simp only [wpSegs, opsOf, List.map_cons, List.map_nil, opN, List.getD_cons_zero, List.getD_cons_succ]
                  go_wp2_with fail
                  refine ⟨by first | trivial | rfl, ?_⟩
                  go_wp2_with fail
                  go_roundw
                  case rel => exact ⟨m + 1 + 1, by omega, by go_num, Lib.hid (by first | exact HMB.out.drew | exact HMB.out.drewN _), HR⟩
                  case measure => simp [intOf]; omega
          · have HE := Lib.hid (show segsOk none segs = true by rw [← hv2.out, List.drop_of_length_le (by omega)]; rfl)
            have HN := Lib.hid (show runsOk (prevR rs (0 + 1)) (rs.drop (0 + 1)) = runsOk none rs by rw [HPR.out, ← HD0.out, HE.out, Bool.true_and])
            go_wp2_with fail
            go_roundw
            case rel => exact ⟨0 + 1, by omega, by go_num, HMX, HN⟩
            case measure => simp [intOf]; omega
      | succ j =>
        have hj : j < rs.length := by omega
        have cj := (H.out.kept0 hM.out).cell hj
        have cj' := (World.cell?_alloc_lt wo (.cells #[.int .i64 rule, .slice sa segs.length sc] 80) ⟨b, o + j * 2, none⟩ (World.block_lt_of_cell? _ _ cj)).trans cj
        have HPV := Lib.hid (show prevR rs (j + 1) = some rs[j].rule by simp [prevR, hj])
        generalize rs[j].rule = q at cj cj' HPV
        by_cases hle : rule ≤ q
        · have HF := Lib.hid (show runsOk none rs = false by rw [← HD.out, HPV.out]; simp [hle])
          go_wp2_with fail
          go_quiet (fail)
          go_wp2_with fail
          go_ret
          exact ⟨by rw [HF.out]; rfl, HMA.out.drewN _⟩
        · have HD0 := Lib.hid (show (segsOk none segs && runsOk (some rule) (rs.drop (j + 1 + 1))) = runsOk none rs by rw [← HD.out, HPV.out]; simp [hle])
          go_wp2_with fail
          go_quiet (fail)
          go_wp2_with fail
          go_loopw [30] (fun s30 wr => ∃ k : Nat, k ≤ segs.length ∧ s30 = .int .i64 k ∧ Hid (Mod [] (wo.alloc (.cells #[.int .i64 rule, .slice sa segs.length sc] 80)) wr) ∧ Hid (segsOk (prevS segs k) (segs.drop k) = segsOk none segs)) (fun s30 _ => segs.length - (intOf s30).toNat)
          case atStart => exact ⟨0, by omega, rfl, Lib.hid ((Mod.refl [] _).drewN _), Lib.hid rfl⟩
          case round =>
            obtain ⟨k, hk, rfl, hM2, hv2⟩ := hrel
            have HMX := Lib.hid (HMA.out.trans hM2.out)
            by_cases hlt2 : k < segs.length
            · have hsx := ((HS.out.kept0 ((Mod.refl [] wo).alloc _)).kept0 hM2.out)
              have HSX := Lib.hid hsx
              obtain ⟨b2, o2, rfl, hc2, hseg⟩ := hsx.get6 hlt2
              have HPS := Lib.hid (show prevS segs (k + 1) = some segs[k].t by simp [prevS, hlt2])
              have hd2 := hv2.out
              rw [← List.getElem_cons_drop hlt2, segsOk] at hd2
              have HD2 := Lib.hid hd2
              clear hd2 hsx
              generalize segs[k] = x at hseg HD2 HPS
              obtain ⟨x1, x2, x3, x4, x5, x6⟩ := x
              obtain ⟨g0, g1, g2, g3, g4, g5⟩ := hseg
              dsimp only at g0 g1 g2 g3 g4 g5 HD2 HPS
              have hma := hM2.out.alloc (.cells #[.int .i64 x1, .int .i64 x2, .int .u8 x3, .int .i64 x4, .int .i64 x5, .int .i64 x6] 116)
              have HMB := Lib.hid hma
              have HMW := Lib.hid (HMA.out.trans hma)
              have hx4 := hma.heap HNB.out (by simp)
              have q1 := cell_blk hx4 1
              simp only [List.getElem?_toArray, List.getElem?_cons_succ, List.getElem?_cons_zero] at q1
              clear hma hx4
              by_cases h1 : x2 ≤ x1
              · have HF := Lib.hid (show runsOk none rs = false by rw [← HD0.out, ← HD2.out]; simp [h1])
                go_wp2_with fail
                refine wp_plan [] [0, 2, 1, 3, 4, 5, 6, 7, 8, 9, 11, 13, 10, 12, 14, 15, 16, 17, 18, 19, 20] (by kernel_rfl) (by kernel_rfl) ?_
                simp only [wpSegs, opsOf, List.map_cons, List.map_nil, opN, List.getD_cons_zero, List.getD_cons_succ]
                go_wp2_with fail
                refine ⟨by first | trivial | rfl, ?_⟩
                go_wp2_with fail
                go_ret
                exact ⟨by rw [HF.out]; rfl, by first | exact HMW.out.drew | exact HMW.out.drewN _⟩
              · cases k with
                | zero =>
                  have HR := Lib.hid (show segsOk (prevS segs (0 + 1)) (segs.drop (0 + 1)) = segsOk none segs by rw [HPS.out, ← HD2.out]; simp [prevS, h1])
                  simp only [Nat.zero_mul, Nat.add_zero] at g0 g1 g2 g3 g4 g5
                  go_wp2_with fail
                  refine wp_plan [] [0, 2, 1, 3, 4, 5, 6, 7, 8, 9, 11, 13, 10, 12, 14, 15, 16, 17, 18, 19, 20] (by kernel_rfl) (by kernel_rfl) ?_
                  simp only [wpSegs, opsOf, List.map_cons, List.map_nil, opN, List.getD_cons_zero, List.getD_cons_succ]
                  go_wp2_with fail
                  refine ⟨by first | trivial | rfl, ?_⟩
                  go_wp2_with fail
                  go_roundw
                  case rel => exact ⟨0 + 1, by omega, by go_num, Lib.hid (by first | exact HMB.out.drew | exact HMB.out.drewN _), HR⟩
                  case measure => simp [intOf]; omega
                | succ m =>
                  have hm' : m < segs.length := by omega
                  have cm := HSX.out.cell1 hm'
                  have cm' := (World.cell?_alloc_lt wr (.cells #[.int .i64 x1, .int .i64 x2, .int .u8 x3, .int .i64 x4, .int .i64 x5, .int .i64 x6] 116) ⟨b2, o2 + m * 6 + 1, none⟩ (World.block_lt_of_cell? _ _ cm)).trans cm
                  have HPW := Lib.hid (show prevS segs (m + 1) = some segs[m].t by simp [prevS, hm'])
                  generalize segs[m].t = q2 at cm cm' HPW
                  by_cases h2 : x1 < q2
                  · have HF := Lib.hid (show runsOk none rs = false by rw [← HD0.out, ← HD2.out, HPW.out]; simp [h2])
                    go_wp2_with fail
                    refine wp_plan [] [0, 2, 1, 3, 4, 5, 6, 7, 8, 9, 11, 13, 10, 12, 14, 15, 16, 17, 18, 19, 20] (by kernel_rfl) (by kernel_rfl) ?_
                    simp only [wpSegs, opsOf, List.map_cons, List.map_nil, opN, List.getD_cons_zero, List.getD_cons_succ]
                    go_wp2_with fail
                    refine ⟨by first | trivial | rfl, ?_⟩
                    go_wp2_with fail
                    go_ret
                    exact ⟨by rw [HF.out]; rfl, by first | exact HMW.out.drew | exact HMW.out.drewN _⟩
                  · have HR := Lib.hid (show segsOk (prevS segs (m + 1 + 1)) (segs.drop (m + 1 + 1)) = segsOk none segs by rw [HPS.out, ← HD2.out, HPW.out]; simp [h1, h2])
                    go_wp2_with fail
                    refine wp_plan [] [0, 2, 1, 3, 4, 5, 6, 7, 8, 9, 11, 13, 10, 12, 14, 15, 16, 17, 18, 19, 20] (by kernel_rfl) (by kernel_rfl) ?_
                    simp only [wpSegs, opsOf, List.map_cons, List.map_nil, opN, List.getD_cons_zero, List.getD_cons_succ]
                    go_wp2_with fail
                    refine ⟨by first | trivial | rfl, ?_⟩
                    go_wp2_with fail
                    go_roundw
                    case rel => exact ⟨m + 1 + 1, by omega, by go_num, Lib.hid (by first | exact HMB.out.drew | exact HMB.out.drewN _), HR⟩
                    case measure => simp [intOf]; omega
            · have HE := Lib.hid (show segsOk none segs = true by rw [← hv2.out, List.drop_of_length_le (by omega)]; rfl)
              have HN := Lib.hid (show runsOk (prevR rs (j + 1 + 1)) (rs.drop (j + 1 + 1)) = runsOk none rs by rw [HPR.out, ← HD0.out, HE.out, Bool.true_and])
              go_wp2_with fail
              go_roundw
              case rel => exact ⟨j + 1 + 1, by omega, by go_num, HMX, HN⟩
              case measure => simp [intOf]; omega
    · have HE := Lib.hid (show runsOk none rs = true by rw [← hv.out, List.drop_of_length_le (by omega)]; rfl)
      go_wp2_with fail
      go_ret
      exact ⟨by rw [HE.out]; rfl, hM.out⟩
end Go.Proofs.Ytefaihockgebeaa
