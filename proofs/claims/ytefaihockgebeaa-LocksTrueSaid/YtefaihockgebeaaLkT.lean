/- Locks: LocksTrue's walk. Printed by gen/lkt.py. -/
import Derived.Test.YtefaihockgebeaaLkM
import Derived.Test.YtefaihockgebeaaLkG
import Derived.Test.YtefaihockgebeaaLkH
import Derived.Test.YtefaihockgebeaaLkP
namespace Go.Proofs.Ytefaihockgebeaa
open Go.RowKit Go.ChangeMaps Go.Deep
set_option linter.unusedSimpArgs false
set_option linter.unusedVariables false
set_option maxRecDepth 20000
theorem takeO_some : ∀ (l : List (Int × Int)) (o : Option (Int × Int)), l.foldl takeO o = none → l = [] ∧ o = none
  | [], o, h => ⟨rfl, h⟩
  | x :: l, o, h => by
    have := (takeO_some l (takeO o x) h).2
    cases o with
    | none => simp [takeO] at this
    | some y => simp only [takeO] at this; split at this <;> cases this
theorem least_none_all {f t : Int} {rs : List Rn} (hr : ∀ r ∈ rs, segsOk none r.segs = true) (h : leastL (failsL f t rs) = none) : ∀ d, f ≤ d → d < t → ∀ r ∈ rs, trueG r.segs d = true := by
  have h0 := (takeO_some _ _ h).1
  intro d h1 h2 r hm
  have hge : t ≤ firstG r.segs f := by
    refine Int.not_lt.1 fun hlt => ?_
    have : (firstG r.segs f, r.rule) ∈ failsL f t rs := by
      clear h h0
      induction rs with
      | nil => cases hm
      | cons x rs ih =>
        rw [failsL, List.mem_append]
        cases hm with
        | head => rw [if_pos hlt]; exact .inl (by simp)
        | tail _ hm => exact .inr (ih (fun z hz => hr z (.tail _ hz)) hm)
    rw [h0] at this; cases this
  exact (firstG_spec (d := f) (hr r hm)).2.1 d h1 (by omega)
theorem ops_lit (w : World) (v : Value) (vs : List (Int × Value)) (rs : List Rn) (h : RunsAt w v vs rs) : OpsAt (w.alloc (.cells #[.int .i64 0, .int .i64 0, .int .i64 0, v] 68)) (.slice (some ⟨w.heap.size, 0, none⟩) 1 1) [((0, 0, 0), v)] [⟨0, 0, 0, rs⟩] :=
  ⟨row_lit (enc := encO) (E := 68) w [((0, 0, 0), v)] _ 1 rfl rfl, rfl, fun j h1 h2 => by
    have : j = 0 := by simp at h1; omega
    subst this
    exact ⟨rfl, vs, h.kept0 ((Mod.refl [] w).alloc _)⟩⟩
set_option maxHeartbeats 16000000 in
theorem true28_any (f t : Int) (v : Value) (us : List (Int × Value)) (rs : List Rn) (w : World) (h : RunsAt w v us rs) (hl : rs.length ≤ 140737488355328) (hsl : ∀ r ∈ rs, r.segs.length ≤ 140737488355328) :
    Calls Try.prog 9 #[.agg #[.int .i64 f, .int .i64 t], v] w fun e w' => e = .returned (.bool true) ∧ Mod [] w w' := by
  have HSL := Lib.hid hsl
  have HR := Lib.hid h
  obtain ⟨a, c, rfl⟩ := h.form
  clear h hsl
  obtain ⟨W1, hW1, n1, s1, m1⟩ := alloc_named w (.cells #[.int .i64 f, .int .i64 t] 64)
  have HB1 := Lib.hid n1
  have HM1 := Lib.hid m1
  have HOP := Lib.hid (ops_lit W1 _ us rs (HR.out.kept0 m1))
  have HMG := Lib.hid ((Mod.refl [] W1).alloc (.cells #[.int .i64 0, .int .i64 0, .int .i64 0, .slice a rs.length c] 68))
  have HG := Lib.hid (great28_any _ _ _ _ HOP.out (by simp) (by simpa using hl) (by simpa using HSL.out))
  clear n1 m1
  go_enter Try.func9, Try.ntmps9
  go_wp2_with fail
  rw [← s1]
  refine HG.out.mono ?_
  rintro e w2 ⟨⟨g, rfl⟩, rfl⟩
  have HB2 := Lib.hid (HMG.out.heap HB1.out (by simp))
  have HM2 := Lib.hid (HM1.out.trans HMG.out)
  generalize W1.alloc (.cells #[.int .i64 0, .int .i64 0, .int .i64 0, .slice a rs.length c] 68) = W2 at *
  clear HG HOP HMG hW1
  have b0 := cell_blk HB2.out 0
  have b1 := cell_blk HB2.out 1
  simp only [List.getElem?_toArray, List.getElem?_cons_succ, List.getElem?_cons_zero] at b0 b1
  cases g with
  | true =>
    go_wp2_with fail
    refine (known28_any _).mono ?_
    rintro e wk ⟨rfl, mk⟩
    have HMK := Lib.hid (HM2.out.trans mk)
    go_wp2_with fail
    go_ret
    exact ⟨rfl, HMK.out⟩
  | false =>
    go_wp2_with fail
    refine (rMay28_any f t _).mono ?_
    rintro e w3 ⟨rfl, m3⟩
    have HM3 := Lib.hid (HM2.out.trans m3)
    have HB3 := Lib.hid (m3.heap HB2.out (by simp))
    have HR3 := Lib.hid (HR.out.kept0 HM3.out)
    clear m3
    have b0 := cell_blk HB3.out 0
    have b1 := cell_blk HB3.out 1
    simp only [List.getElem?_toArray, List.getElem?_cons_succ, List.getElem?_cons_zero] at b0 b1
    cases hmay : mayD f t with
    | false =>
      go_wp2_with fail
      refine (known28_any _).mono ?_
      rintro e wk ⟨rfl, mk⟩
      have HMK := Lib.hid (HM3.out.trans mk)
      go_wp2_with fail
      go_ret
      exact ⟨rfl, HMK.out⟩
    | true =>
      have HMAY := Lib.hid hmay
      simp only [mayD, Bool.and_eq_true, decide_eq_true_eq] at hmay
      obtain ⟨⟨hf1, hf2⟩, hf3⟩ := hmay
      by_cases h300 : 300 < t - f
      · go_wp2_with fail
        refine (known28_any _).mono ?_
        rintro e wk ⟨rfl, mk⟩
        have HMK := Lib.hid (HM3.out.trans mk)
        go_wp2_with fail
        go_ret
        exact ⟨rfl, HMK.out⟩
      · have HRS := Lib.hid (rRises_any _ us rs w3 HR3.out hl HSL.out)
        go_wp2_with fail
        refine HRS.out.mono ?_
        rintro e w4 ⟨rfl, m4⟩
        have HM4 := Lib.hid (HM3.out.trans m4)
        have HB4 := Lib.hid (m4.heap HB3.out (by simp))
        have HR4 := Lib.hid (HR3.out.kept0 m4)
        clear m4 HRS
        cases hris : runsOk none rs with
        | false =>
          go_wp2_with fail
          refine (known28_any _).mono ?_
          rintro e wk ⟨rfl, mk⟩
          have HMK := Lib.hid (HM4.out.trans mk)
          go_wp2_with fail
          go_ret
          exact ⟨rfl, HMK.out⟩
        | true =>
          have HRIS := Lib.hid hris
          have HOK := Lib.hid (runsOk_all hris)
          clear hris
          go_wp2_with fail
          refine (lkNew_any w4).mono ?_
          rintro e w5 ⟨rfl, rfl⟩
          obtain ⟨W5, hW5, n5, s5, m5⟩ := alloc_named w4 (.cells #[.slice none 0 0] 119)
          rw [hW5]
          have HB5 := Lib.hid (m5.heap HB4.out (by simp))
          have HR5 := Lib.hid (HR4.out.kept0 m5)
          have HM5 := Lib.hid (HM4.out.trans m5)
          have HSM := Lib.hid (lkSubmit_go w4.heap.size f t _ (.slice none 0 0) [] us rs W5 n5 (.nil none 0) (by simp) HR5.out hl HSL.out HMAY.out HRIS.out)
          have HSB := Lib.hid (show w.heap.size < w4.heap.size from lt_of_heap HB4.out)
          have HN5 := Lib.hid n5
          have b0 := cell_blk HB5.out 0
          have b1 := cell_blk HB5.out 1
          simp only [List.getElem?_toArray, List.getElem?_cons_succ, List.getElem?_cons_zero] at b0 b1
          generalize hS : w4.heap.size = S at *
          clear hW5 n5 m5 HB4 HR4 HM4 HB3 HR3 HM3 HB2
          go_wp2_with fail
          refine HSM.out.mono ?_
          rintro e W6 (⟨x, hx, rfl, m6⟩ | ⟨hn, rfl, m6, sv', out, hB', ho, hb, hlo⟩)
          · have HLE := Lib.hid hx
            have HMS := Lib.hid (HM5.out.trans m6)
            obtain ⟨W4, hW4, n4, s4, m4⟩ := alloc_named W6 (.cells #[.int .i64 x.1, .int .i64 x.2] 75)
            have HB4 := Lib.hid (m4.heap (m6.heap HB5.out (by simp)) (by simp))
            have HL4 := Lib.hid (m4.heap (m6.heap HN5.out (by simp)) (by simp))
            have HR4 := Lib.hid ((HR5.out.kept0 m6).kept0 m4)
            have HM4 := Lib.hid (HMS.out.trans m4)
            have HP4 := Lib.hid n4
            have b0 := cell_blk HB4.out 0
            have b1 := cell_blk HB4.out 1
            simp only [List.getElem?_toArray, List.getElem?_cons_succ, List.getElem?_cons_zero] at b0 b1
            generalize hP : W6.heap.size = P at n4 HP4
            simp only [encF]
            clear hx m6 n4 m4 s4
            go_wp2_with fail
            go_loopw [9] (fun s9 wr => ∃ d : Int, f ≤ d ∧ d ≤ t ∧ s9 = .int .i64 d ∧ Hid (Mod [] W4 wr) ∧ Hid (∀ e, f ≤ e → e < d → ∀ r ∈ rs, trueG r.segs e = true)) (fun s9 _ => (t - intOf s9).toNat)
            case atStart => exact ⟨f, by omega, by omega, rfl, Lib.hid (Mod.refl _ _), Lib.hid (fun e h1 h2 => by omega)⟩
            case round =>
              obtain ⟨d, hd1, hd2, rfl, hM, hI⟩ := hrel
              rename World => wo
              have hx := hM.out.heap HB4.out (by simp)
              have b0 := cell_blk hx 0
              have b1 := cell_blk hx 1
              simp only [List.getElem?_toArray, List.getElem?_cons_succ, List.getElem?_cons_zero] at b0 b1
              clear hx
              by_cases hdt : d < t
              · go_wp2_with fail
                go_loopw [56] (fun s56 wr => ∃ k : Nat, k ≤ rs.length ∧ s56 = .int .i64 k ∧ Hid (Mod [] W4 wr) ∧ Hid (∀ r ∈ rs.take k, trueG r.segs d = true)) (fun s56 _ => rs.length - (intOf s56).toNat)
                case atStart => exact ⟨0, by omega, rfl, hM, Lib.hid (fun r hr => by simp at hr)⟩
                case round =>
                  obtain ⟨k, hk, rfl, hM2, hI2⟩ := hrel
                  by_cases hlt : k < rs.length
                  · obtain ⟨b, o, s, rfl, he, hc, e0, e1, hs⟩ := (HR4.out.kept0 hM2.out).get hlt
                    obtain ⟨sa, sc, rfl⟩ := hs.form
                    have hlr := HSL.out _ (List.getElem_mem hlt)
                    have HAL := Lib.hid (hM2.out.alloc (.cells #[.int .i64 rs[k].rule, .slice sa rs[k].segs.length sc] 80))
                    have HTR := Lib.hid (rTrue_any d rs[k].rule _ rs[k].segs (wr.alloc (.cells #[.int .i64 rs[k].rule, .slice sa rs[k].segs.length sc] 80)) (hs.kept0 ((Mod.refl [] wr).alloc _)) hlr)
                    have HNR := Lib.hid (heap_alloc_new wr (.cells #[.int .i64 rs[k].rule, .slice sa rs[k].segs.length sc] 80))
                    clear hs
                    by_cases ht : trueG rs[k].segs d = true
                    · rw [ht] at HTR
                      have HIN := Lib.hid (show ∀ r ∈ rs.take (k + 1), trueG r.segs d = true from (fun r hr => by
                        rw [List.take_succ_eq_append_getElem hlt, List.mem_append] at hr
                        rcases hr with hr | hr
                        · exact hI2.out r hr
                        · simp at hr; subst hr; exact ht))
                      go_wp2_with fail
                      refine HTR.out.mono ?_
                      rintro e w5 ⟨rfl, m5⟩
                      have HM5 := Lib.hid (HAL.out.trans m5)
                      clear m5 HTR
                      go_wp2_with fail
                      go_roundw
                      case rel => exact ⟨k + 1, by omega, by go_num, HM5, HIN⟩
                      case measure => simp [intOf]; omega
                    · have htf : trueG rs[k].segs d = false := by simpa using ht
                      rw [htf] at HTR
                      have HXE := Lib.hid (show x = (d, rs[k].rule) by
                        have h1 := least_some HOK.out hd1 hdt hI.out (a := rs.take k) (b := rs.drop (k + 1)) (r := rs[k]) (by rw [List.getElem_cons_drop, List.take_append_drop]) hI2.out htf
                        rw [HLE.out] at h1
                        exact Option.some.inj h1)
                      go_wp2_with fail
                      refine HTR.out.mono ?_
                      rintro e w5 ⟨rfl, m5⟩
                      have HM5 := Lib.hid (HAL.out.trans m5)
                      have hy := m5.heap HNR.out (by simp)
                      have hz := HM5.out.heap HP4.out (by simp)
                      rw [HXE.out] at hz
                      have y0 := cell_blk hy 0
                      have z0 := cell_blk hz 0
                      have z1 := cell_blk hz 1
                      simp only [List.getElem?_toArray, List.getElem?_cons_succ, List.getElem?_cons_zero] at y0 z0 z1
                      have HQ := Lib.hid (fun W => eq_fail (d, rs[k].rule) (d, rs[k].rule) W)
                      rw [decide_eq_true rfl] at HQ
                      dsimp only at HQ
                      have HDY := Lib.hid (lkDays_any S (.slice none 0 0) [] w5 (HM5.out.heap HL4.out (by simp)) (.nil none 0) (by simp))
                      clear m5 HTR hy hz
                      go_wp2_with ((with_reducible refine xEqAgg (t := 75) rfl (HQ.out _) guard_fail ?_ ?_ ?_ ?_); exact rfl; exact rfl; exact rfl)
                      refine HDY.out.mono ?_
                      rintro e w6 ⟨v6, out, rfl, o6, m6, i6, l6⟩
                      have hout : out = [] := List.eq_nil_of_length_eq_zero (by simpa using l6)
                      subst hout
                      obtain ⟨a6, c6, rfl⟩ := o6.row.form
                      have HM6 := Lib.hid (HM4.out.trans (HM5.out.trans m6))
                      clear o6 m6 i6 l6
                      go_wp2_with fail
                      refine (known28_any _).mono ?_
                      rintro e wk ⟨rfl, mk⟩
                      have HMK := Lib.hid (HM6.out.trans mk)
                      go_wp2_with fail
                      go_ret
                      exact ⟨rfl, HMK.out⟩
                  · have HIN := Lib.hid (show ∀ e, f ≤ e → e < d + 1 → ∀ r ∈ rs, trueG r.segs e = true from (fun e h1 h2 r hr => by
                      by_cases he : e = d
                      · subst he
                        have h3 := hI2.out
                        rw [List.take_of_length_le (by omega)] at h3
                        exact h3 r hr
                      · exact hI.out e h1 (by omega) r hr))
                    have hx := hM2.out.heap HB4.out (by simp)
                    have b0 := cell_blk hx 0
                    have b1 := cell_blk hx 1
                    simp only [List.getElem?_toArray, List.getElem?_cons_succ, List.getElem?_cons_zero] at b0 b1
                    clear hx
                    go_wp2_with fail
                    go_roundw
                    case rel => exact ⟨d + 1, by omega, by omega, by go_num, hM2, HIN⟩
                    case measure => simp [intOf]; omega
              · have hdt' : d = t := by omega
                exfalso
                have h1 := least_none (t := t) HOK.out (fun e h1 h2 => hI.out e h1 (by omega))
                rw [HLE.out] at h1
                cases h1
          · have HLE := Lib.hid hn
            have hout : out = [(f, t)] := hb.one (isOf_self (l := [(f, t)]) ⟨by omega, by omega, by omega, trivial⟩).both (fun d _ _ => by simp [inB])
            subst hout
            have HMS := Lib.hid (HM5.out.newerK m6 (by simpa using Nat.le_of_lt HSB.out))
            obtain ⟨W4, hW4, n4, s4, m4⟩ := alloc_named W6 (.cells #[.int .i64 0, .int .i64 0] 75)
            have HB4 := Lib.hid (m4.heap (m6.heap HB5.out (by simpa using Nat.ne_of_lt HSB.out)) (by simp))
            have HL4 := Lib.hid (m4.heap hB' (by simp))
            have HA4 := Lib.hid (ho.row.kept0 m4)
            have HM4 := Lib.hid (HMS.out.trans m4)
            have HR4 := Lib.hid (HR.out.kept0 HM4.out)
            have HALL := Lib.hid (least_none_all HOK.out hn)
            have b0 := cell_blk HB4.out 0
            have b1 := cell_blk HB4.out 1
            simp only [List.getElem?_toArray, List.getElem?_cons_succ, List.getElem?_cons_zero] at b0 b1
            simp only [encF]
            have HW4 := Lib.hid hW4
            rw [← hW4] at b0 b1
            clear hn m6 n4 m4 s4 hb ho hB' hlo hW4
            go_wp2_with fail
            rw [HW4.out]
            go_loopw [9] (fun s9 wr => ∃ d : Int, f ≤ d ∧ d ≤ t ∧ s9 = .int .i64 d ∧ Hid (Mod [] W4 wr) ∧ Hid (True)) (fun s9 _ => (t - intOf s9).toNat)
            case atStart => exact ⟨f, by omega, by omega, rfl, Lib.hid (Mod.refl _ _), Lib.hid trivial⟩
            case round =>
              obtain ⟨d, hd1, hd2, rfl, hM, hI⟩ := hrel
              rename World => wo
              have hx := hM.out.heap HB4.out (by simp)
              have b0 := cell_blk hx 0
              have b1 := cell_blk hx 1
              simp only [List.getElem?_toArray, List.getElem?_cons_succ, List.getElem?_cons_zero] at b0 b1
              clear hx
              by_cases hdt : d < t
              · go_wp2_with fail
                go_loopw [56] (fun s56 wr => ∃ k : Nat, k ≤ rs.length ∧ s56 = .int .i64 k ∧ Hid (Mod [] W4 wr) ∧ Hid (True)) (fun s56 _ => rs.length - (intOf s56).toNat)
                case atStart => exact ⟨0, by omega, rfl, hM, Lib.hid trivial⟩
                case round =>
                  obtain ⟨k, hk, rfl, hM2, hI2⟩ := hrel
                  by_cases hlt : k < rs.length
                  · obtain ⟨b, o, s, rfl, he, hc, e0, e1, hs⟩ := (HR4.out.kept0 hM2.out).get hlt
                    obtain ⟨sa, sc, rfl⟩ := hs.form
                    have hlr := HSL.out _ (List.getElem_mem hlt)
                    have HAL := Lib.hid (hM2.out.alloc (.cells #[.int .i64 rs[k].rule, .slice sa rs[k].segs.length sc] 80))
                    have HTR := Lib.hid (rTrue_any d rs[k].rule _ rs[k].segs (wr.alloc (.cells #[.int .i64 rs[k].rule, .slice sa rs[k].segs.length sc] 80)) (hs.kept0 ((Mod.refl [] wr).alloc _)) hlr)
                    have HNR := Lib.hid (heap_alloc_new wr (.cells #[.int .i64 rs[k].rule, .slice sa rs[k].segs.length sc] 80))
                    clear hs
                    by_cases ht : trueG rs[k].segs d = true
                    · rw [ht] at HTR
                      have HIN := Lib.hid (show True from trivial)
                      go_wp2_with fail
                      refine HTR.out.mono ?_
                      rintro e w5 ⟨rfl, m5⟩
                      have HM5 := Lib.hid (HAL.out.trans m5)
                      clear m5 HTR
                      go_wp2_with fail
                      go_roundw
                      case rel => exact ⟨k + 1, by omega, by go_num, HM5, HIN⟩
                      case measure => simp [intOf]; omega
                    · have htf : trueG rs[k].segs d = false := by simpa using ht
                      exact absurd (HALL.out d hd1 hdt rs[k] (List.getElem_mem hlt)) ht
                  · have HIN := Lib.hid (show True from trivial)
                    have hx := hM2.out.heap HB4.out (by simp)
                    have b0 := cell_blk hx 0
                    have b1 := cell_blk hx 1
                    simp only [List.getElem?_toArray, List.getElem?_cons_succ, List.getElem?_cons_zero] at b0 b1
                    clear hx
                    go_wp2_with fail
                    go_roundw
                    case rel => exact ⟨d + 1, by omega, by omega, by go_num, hM2, HIN⟩
                    case measure => simp [intOf]; omega
              · have hdt' : d = t := by omega
                have hx := hM.out.heap HB4.out (by simp)
                have b2 := cell_blk hx 0
                have b3 := cell_blk hx 1
                simp only [List.getElem?_toArray, List.getElem?_cons_succ, List.getElem?_cons_zero] at b2 b3
                clear hx
                go_wp2_with fail
                refine wp_sched (by kernel_rfl) (sched_either 3 5 (by decide) (sched_plan1 [([0, 1, 2, 4], 3, [4]), ([], 5, []), ([], 6, []), ([7, 8], 9, [])] [10, 11] (by kernel_rfl) ?o1) (sched_plan1 [([0, 1, 2, 4], 5, []), ([], 3, [4]), ([], 6, []), ([7, 8], 9, [])] [10, 11] (by kernel_rfl) ?o2))
                case o1 =>
                  simp only [wpSegs, opsOf, List.map_cons, List.map_nil, opN, List.getD_cons_zero, List.getD_cons_succ]
                  have HM0 := Lib.hid ((Mod.refl [] wo).drew)
                  go_wp2_with fail
                  refine ⟨by first | trivial | rfl, ?_⟩
                  go_wp2_with fail
                  refine (lkDays_any S sv' [(f, t)] _ ((hM.out.trans HM0.out).heap HL4.out (by simp)) (HA4.out.kept0 (hM.out.trans HM0.out)) (by simp)).mono ?_
                  rintro e Wd ⟨vd, out, rfl, od, md, ho, lo⟩
                  obtain ⟨da, dc, rfl⟩ := od.row.form
                  have HMd := Lib.hid ((hM.out.trans HM0.out).trans md)
                  have HD := Lib.hid od.row
                  have HO := Lib.hid (show out = [(f, t)] from (ho.one (isOf_self ⟨by omega, by omega, by omega, trivial⟩) (fun _ _ _ => Iff.rfl)))
                  clear od md ho lo
                  have hTx := HMd.out.heap HB4.out (by simp)
                  have c0 := cell_blk hTx 0
                  have c1 := cell_blk hTx 1
                  simp only [List.getElem?_toArray, List.getElem?_cons_succ, List.getElem?_cons_zero] at c0 c1
                  clear hTx
                  go_wp2_with fail
                  refine ⟨?agd1, ?_⟩
                  case agd1 =>
                    intro i hi hw
                    simp only [List.mem_cons, List.not_mem_nil, or_false] at hi
                    subst hi
                    all_goals (simp only [opN, List.getD_cons_zero, List.getD_cons_succ, slotOf]; go_simp)
                  go_wp2_with fail
                  refine ⟨by first | trivial | rfl, ?_⟩
                  go_wp2_with fail
                  obtain ⟨Wb, hWb, mb, hLit⟩ : ∃ Wb, Wd.alloc (.cells #[.int .i64 f, .int .i64 t] 64) = Wb ∧ Mod [] Wd Wb ∧ SpansAt Wb (.slice (some ⟨Wd.heap.size, 0, none⟩) 1 1) [(f, t)] := ⟨_, rfl, (Mod.refl [] Wd).alloc _, spans_lit Wd [(f, t)] _ 1 rfl rfl⟩
                  rw [hWb]
                  have HMd := Lib.hid (HMd.out.trans mb)
                  have HD := Lib.hid (HD.out.kept0 mb)
                  clear hWb mb
                  refine ⟨again_nil, ?_⟩
                  go_wp2_with fail
                  refine ⟨by first | trivial | rfl, ?_⟩
                  go_wp2_with fail
                  have HSM2 := Lib.hid (rSame_any _ _ out [(f, t)] _ HD.out hLit (by rw [HO.out]; simp) (by simp))
                  rw [decide_eq_true HO.out] at HSM2
                  refine HSM2.out.mono ?_
                  rintro e We ⟨rfl, me⟩
                  have HMe := Lib.hid (HMd.out.trans me)
                  clear me HSM2
                  go_wp2_with fail
                  refine ⟨again_nil, ?_⟩
                  go_wp2_with fail
                  refine ⟨by first | trivial | rfl, ?_⟩
                  go_wp2_with fail
                  refine (known28_any _).mono ?_
                  rintro e wk ⟨rfl, mk⟩
                  have HMK := Lib.hid (HM4.out.trans (HMe.out.trans mk))
                  clear mk
                  go_wp2_with fail
                  refine ⟨again_nil, ?_⟩
                  go_wp2_with fail
                  refine ⟨by first | trivial | rfl, ?_⟩
                  go_wp2_with fail
                  go_ret
                  exact ⟨rfl, HMK.out⟩
                case o2 =>
                  simp only [wpSegs, opsOf, List.map_cons, List.map_nil, opN, List.getD_cons_zero, List.getD_cons_succ]
                  have HM0 := Lib.hid ((Mod.refl [] wo).drew)
                  go_wp2_with fail
                  refine ⟨by first | trivial | rfl, ?_⟩
                  go_wp2_with fail
                  obtain ⟨Wb, hWb, mb, hLit⟩ : ∃ Wb, (wo.alloc (.cells #[.int .i64 f, .int .i64 t] 64)).drew = Wb ∧ Mod [] wo Wb ∧ SpansAt Wb (.slice (some ⟨wo.heap.size, 0, none⟩) 1 1) [(f, t)] := ⟨_, rfl, ((Mod.refl [] wo).alloc _).drew, (spans_lit wo [(f, t)] _ 1 rfl rfl).kept0 ((Mod.refl [] _).drew)⟩
                  rw [hWb]
                  have HM0 := Lib.hid mb
                  clear hWb mb
                  refine ⟨again_nil, ?_⟩
                  go_wp2_with fail
                  refine ⟨by first | trivial | rfl, ?_⟩
                  go_wp2_with fail
                  refine (lkDays_any S sv' [(f, t)] _ ((hM.out.trans HM0.out).heap HL4.out (by simp)) (HA4.out.kept0 (hM.out.trans HM0.out)) (by simp)).mono ?_
                  rintro e Wd ⟨vd, out, rfl, od, md, ho, lo⟩
                  obtain ⟨da, dc, rfl⟩ := od.row.form
                  have HMd := Lib.hid ((hM.out.trans HM0.out).trans md)
                  have HD := Lib.hid od.row
                  have HO := Lib.hid (show out = [(f, t)] from (ho.one (isOf_self ⟨by omega, by omega, by omega, trivial⟩) (fun _ _ _ => Iff.rfl)))
                  have hLit := hLit.kept0 md
                  clear od md ho lo
                  have hTx := HMd.out.heap HB4.out (by simp)
                  have c0 := cell_blk hTx 0
                  have c1 := cell_blk hTx 1
                  simp only [List.getElem?_toArray, List.getElem?_cons_succ, List.getElem?_cons_zero] at c0 c1
                  clear hTx
                  go_wp2_with fail
                  refine ⟨?agd2, ?_⟩
                  case agd2 =>
                    intro i hi hw
                    simp only [List.mem_cons, List.not_mem_nil, or_false] at hi
                    subst hi
                    all_goals (simp only [opN, List.getD_cons_zero, List.getD_cons_succ, slotOf]; go_simp)
                  go_wp2_with fail
                  refine ⟨by first | trivial | rfl, ?_⟩
                  go_wp2_with fail
                  have HSM2 := Lib.hid (rSame_any _ _ out [(f, t)] _ HD.out hLit (by rw [HO.out]; simp) (by simp))
                  rw [decide_eq_true HO.out] at HSM2
                  refine HSM2.out.mono ?_
                  rintro e We ⟨rfl, me⟩
                  have HMe := Lib.hid (HMd.out.trans me)
                  clear me HSM2
                  go_wp2_with fail
                  refine ⟨again_nil, ?_⟩
                  go_wp2_with fail
                  refine ⟨by first | trivial | rfl, ?_⟩
                  go_wp2_with fail
                  refine (known28_any _).mono ?_
                  rintro e wk ⟨rfl, mk⟩
                  have HMK := Lib.hid (HM4.out.trans (HMe.out.trans mk))
                  clear mk
                  go_wp2_with fail
                  refine ⟨again_nil, ?_⟩
                  go_wp2_with fail
                  refine ⟨by first | trivial | rfl, ?_⟩
                  go_wp2_with fail
                  go_ret
                  exact ⟨rfl, HMK.out⟩
end Go.Proofs.Ytefaihockgebeaa
