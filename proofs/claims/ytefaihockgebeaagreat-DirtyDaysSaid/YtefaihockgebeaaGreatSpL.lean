/- Spans: Of. -/
import Derived.Test.YtefaihockgebeaaGreatSpK
namespace Go.Proofs.YtefaihockgebeaaGreat
open Go.RowKit Go.ChangeMaps Go.Deep
set_option linter.unusedSimpArgs false
set_option linter.unusedVariables false
set_option maxRecDepth 20000

theorem ofStep_len (out : List Sp) (x : Sp) : (ofStep out x).length ≤ out.length + 1 := by
  unfold ofStep
  split
  · omega
  · split
    · split
      · simp only [List.length_append, List.length_dropLast, List.length_singleton]; omega
      · simp
    · simp
theorem ofS_len (l : List Sp) : (ofS l).length ≤ l.length := by
  have key : ∀ (l out : List Sp), (l.foldl ofStep out).length ≤ out.length + l.length := by
    intro l
    induction l with
    | nil => intro out; simp
    | cons x l ih =>
      intro out
      have h1 := ih (ofStep out x)
      have h2 := ofStep_len out x
      simp only [List.foldl_cons, List.length_cons]
      omega
  have := key l []
  simpa [ofS] using this
set_option maxHeartbeats 4000000 in
theorem spOf_any (v : Value) (l : List Sp) (w : World) (h : SpansAt w v l) (hl : l.length ≤ 1000000) :
    Calls Tryz.prog 21 #[v] w fun e w' => ∃ v' out, e = .returned v' ∧ OwnS w' w.heap.size v' out ∧ Mod [] w w' ∧ IsOf l out ∧ out.length ≤ l.length := by
  have HC := Lib.hid (cloneSpan_any v l w h (by omega))
  clear h
  go_enter Tryz.func21, Tryz.ntmps21
  go_wp2_with fail
  refine HC.out.mono ?_
  rintro e w1 ⟨v1, rfl, o1, m1⟩
  have HO1 := Lib.hid o1
  have HM1 := Lib.hid m1
  have HS := Lib.hid (sortSpan_any v1 l w1 w.heap.size o1 (by omega))
  clear o1 m1 HC
  go_wp2_with fail
  refine HS.out.mono ?_
  rintro e w2 ⟨rfl, l', hp, hu, o2, m2⟩
  have HP := Lib.hid hp
  have HU := Lib.hid hu
  have HM2 := Lib.hid ((show Grew w1 v1 w2 v1 from ⟨m2, .inl rfl⟩).intoNil HO1.out (Nat.le_refl _) HM1.out)
  have HR := Lib.hid o2.row
  have hll : l'.length = l.length := hp.length_eq.symm
  have hl' : l'.length ≤ 1000000 := by omega
  have HLL := Lib.hid hll
  obtain ⟨a2, c2, rfl⟩ := o2.row.form
  clear hp hu o2 m2 HS hll HO1 HM1
  go_wp2_with fail
  go_loopw [2, 12] (fun s2 s12 wr => ∃ i : Nat, i ≤ l'.length ∧ s12 = .int .i64 i ∧ Hid (OwnS wr w2.heap.size s2 (ofS (l'.take i))) ∧ Hid (Mod [] w2 wr)) (fun _ s12 _ => l'.length - (intOf s12).toNat)
  case atStart => exact ⟨0, by omega, rfl, Lib.hid (OwnR.nil_ _ _), Lib.hid (Mod.refl _ _)⟩
  case round =>
    obtain ⟨i, hi, rfl, hown, hM⟩ := hrel
    by_cases hlt : i < l'.length
    · obtain ⟨b, o, rfl, hc, c0, c1⟩ := (HR.out.kept0 hM.out).get2 hlt
      have HT := Lib.hid (show ofS (l'.take (i + 1)) = ofStep (ofS (l'.take i)) l'[i] by rw [List.take_succ_eq_append_getElem hlt, ofS_snoc])
      have HLN := Lib.hid (show (ofS (l'.take i)).length < 1000001 by
        have h1 := ofS_len (l'.take i)
        rw [List.length_take] at h1
        omega)
      generalize l'[i] = x at c0 c1 HT
      obtain ⟨x1, x2⟩ := x
      dsimp only at c0 c1 HT
      have hown' := hown.out
      have hln' := HLN.out
      clear HLN hown
      generalize ofS (l'.take i) = out at hown' hln' HT
      have HMA := Lib.hid (show Mod [] wr (wr.alloc (.cells #[.int .i64 (max x1 1), .int .i64 (min x2 3652060)] 45)) from (Mod.refl [] wr).alloc _)
      have HWS := Lib.hid (show (wr.alloc (.cells #[.int .i64 (max x1 1), .int .i64 (min x2 3652060)] 45)).heap.size = wr.heap.size + 1 by simp)
      by_cases he : min x2 3652060 ≤ max x1 1
      · have HN := Lib.hid (show ofS (l'.take (i + 1)) = out by rw [HT.out]; unfold ofStep; rw [if_pos he])
        obtain ⟨a5, c5, rfl⟩ := hown'.row.form
        have HO := Lib.hid (hown'.kept0 HMA.out)
        clear hown' HT
        go_wp2_with fail
        go_roundw
        case rel => exact ⟨i + 1, by omega, by go_num, Lib.hid (by rw [HN.out]; exact HO.out), Lib.hid (hM.out.trans HMA.out)⟩
        case measure => simp [intOf]; omega
      · have grow : ∃ v' w', (Builtin.append_ #[30, 30] 30 #[u2, .slice (some ⟨wr.heap.size + 1, 0, none⟩) 1 1]).run Tryz.prog ((wr.alloc (.cells #[.int .i64 (max x1 1), .int .i64 (min x2 3652060)] 45)).alloc (.cells #[.int .i64 (max x1 1), .int .i64 (min x2 3652060)] 45)).drew = .ok v' w' ∧ OwnS w' w2.heap.size v' (out ++ [(max x1 1, min x2 3652060)]) ∧ Mod [] w2 w' := by
          have hW := HMA.out.drew
          obtain ⟨v', w', g1, g2, g3⟩ := own_append1 elemSpan encS_len encS_one (hown'.kept0 hW) (Nat.le_trans hM.out.size hW.size) (ty := 30) (max x1 1, min x2 3652060) (by omega) (by omega)
          rw [show (wr.alloc (.cells #[.int .i64 (max x1 1), .int .i64 (min x2 3652060)] 45)).drew.heap.size = wr.heap.size + 1 by simp] at g1
          exact ⟨v', w', g1, g2, g3.intoNil (hown'.kept0 hW) (Nat.le_refl _) (hM.out.trans hW)⟩
        have HGR := Lib.hid grow
        clear grow
        rcases List.eq_nil_or_concat out with rfl | ⟨i0, y, rfl⟩
        · obtain ⟨a5, c5, rfl⟩ := hown'.row.form
          obtain ⟨v', w', g1, g2, g3⟩ := HGR.out
          have G1 := Lib.hid g1
          have G2 := Lib.hid (show OwnS w' w2.heap.size v' (ofS (l'.take (i + 1))) by rw [HT.out]; unfold ofStep; rw [if_neg he]; simpa using g2)
          have G3 := Lib.hid g3
          clear g1 g2 g3 HGR hown' hln' HT
          go_wp2_with fail
          refine wp_plan [] [0, 1, 2, 3, 5, 6, 4, 7, 8, 9, 10, 11, 12, 13] (by kernel_rfl) (by kernel_rfl) ?_
          simp only [wpSegs, opsOf, List.map_cons, List.map_nil, opN, List.getD_cons_zero, List.getD_cons_succ]
          go_wp2_with fail
          refine ⟨by first | trivial | rfl, ?_⟩
          go_wp2_with ((with_reducible refine xAppendAt G1.out rfl rfl ?_ ?_ ?_ ?_); exact rfl; exact rfl; exact rfl)
          go_roundw
          case rel => exact ⟨i + 1, by omega, by go_num, G2, G3⟩
          case measure => simp [intOf]; omega
        · rw [List.concat_eq_append] at hown' hln' HT HGR
          have hW := HMA.out.drew
          obtain ⟨g, cap, rfl, hcap, L⟩ := hown'.last
          obtain ⟨g', cap', e', _, L2⟩ := (hown'.kept0 hW.drew).last
          simp only [Value.slice.injEq, Option.some.injEq, Addr.mk.injEq, and_true, true_and] at e'
          obtain ⟨rfl, rfl⟩ := e'
          have hg0 := L.c0
          have hg1 := L.c1
          have hg2 := L.f1
          have hgw : g < wr.heap.size := by
            rcases hown'.form with ⟨e, _⟩ | ⟨g2, cap2, e, _, h, _⟩
            · cases e
            · simp only [Value.slice.injEq, Option.some.injEq, Addr.mk.injEq, and_true, true_and] at e
              rw [e.1]; exact h
          have hi0 : i0.length ≤ 1000001 := by simp at hln'; omega
          by_cases hy : max x1 1 ≤ y.2
          · have G2 := Lib.hid (show OwnS ((wr.alloc (.cells #[.int .i64 (max x1 1), .int .i64 (min x2 3652060)] 45)).drew.drew.setCell ⟨g, i0.length * 2 + 1, none⟩ (.int .i64 (max y.2 (min x2 3652060)))) w2.heap.size (.slice (some ⟨g, 0, none⟩) (i0.length + 1) cap) (ofS (l'.take (i + 1))) by
              rw [HT.out]
              unfold ofStep
              rw [if_neg he]
              have := L2.set (max y.2 (min x2 3652060))
              simpa [hy] using this)
            have G3 := Lib.hid (show Mod [] w2 ((wr.alloc (.cells #[.int .i64 (max x1 1), .int .i64 (min x2 3652060)] 45)).drew.drew.setCell ⟨g, i0.length * 2 + 1, none⟩ (.int .i64 (max y.2 (min x2 3652060)))) from L2.mod w2 _ (Nat.le_refl _) (hM.out.trans hW.drew))
            obtain ⟨y1, y2⟩ := y
            dsimp only at hg0 hg1 hg2 hy G2 G3
            have HCM := Lib.hid (show (wr.alloc (.cells #[.int .i64 (max x1 1), .int .i64 (min x2 3652060)] 45)).drew.drew.setCell ⟨g, i0.length * 2 + 1, none⟩ (.int .i64 (max y2 (min x2 3652060))) = ((wr.setCell ⟨g, i0.length * 2 + 1, none⟩ (.int .i64 (max y2 (min x2 3652060)))).alloc (.cells #[.int .i64 (max x1 1), .int .i64 (min x2 3652060)] 45)).drew.drew by
              show ((wr.alloc (.cells #[.int .i64 (max x1 1), .int .i64 (min x2 3652060)] 45)).setCell ⟨g, i0.length * 2 + 1, none⟩ (.int .i64 (max y2 (min x2 3652060)))).drew.drew = _
              rw [World.setCell_alloc_past _ _ _ _ hgw])
            clear HGR hown' hln' L L2 hW HT
            go_wp2_with fail
            refine wp_plan [] [0, 1, 2, 3, 5, 6, 4, 7, 8, 9, 10, 11, 12, 13] (by kernel_rfl) (by kernel_rfl) ?_
            simp only [wpSegs, opsOf, List.map_cons, List.map_nil, opN, List.getD_cons_zero, List.getD_cons_succ]
            go_wp2_with fail
            refine ⟨by first | trivial | rfl, ?_⟩
            go_wp2_with fail
            refine wp_plan [([0, 1, 3, 4, 9, 2, 5, 10, 6, 7, 8], 11, [2]), ([12, 13], 14, [])] [] (by kernel_rfl) (by kernel_rfl) ?_
            simp only [wpSegs, opsOf, List.map_cons, List.map_nil, opN, List.getD_cons_zero, List.getD_cons_succ]
            go_wp2_with fail
            refine ⟨by first | trivial | rfl, ?_⟩
            go_wp2_with fail
            refine ⟨?ag1, ?_⟩
            case ag1 =>
              intro i hi hw
              simp only [List.mem_cons, List.not_mem_nil, or_false] at hi
              subst hi
              all_goals (simp only [opN, List.getD_cons_zero, List.getD_cons_succ, slotOf]; go_simp; try (simp [IntKind.wrap, IntKind.bits, IntKind.signed]; omega))
            go_wp2_with fail
            refine ⟨by first | trivial | rfl, ?_⟩
            go_wp2_with fail
            refine ⟨again_nil, ?_⟩
            go_wp2_with fail
            refine ⟨by first | trivial | rfl, ?_⟩
            go_wp2_with fail
            go_roundw
            case rel =>
              refine ⟨i + 1, by omega, by go_num, Lib.hid ?_, Lib.hid ?_⟩
              · exact HCM.out ▸ G2.out
              · exact HCM.out ▸ G3.out
            case measure => simp [intOf]; omega
          · obtain ⟨v', w', g1, g2, g3⟩ := HGR.out
            have G1 := Lib.hid g1
            have G2 := Lib.hid (show OwnS w' w2.heap.size v' (ofS (l'.take (i + 1))) by rw [HT.out]; unfold ofStep; rw [if_neg he]; simpa [hy] using g2)
            have G3 := Lib.hid g3
            obtain ⟨y1, y2⟩ := y
            dsimp only at hg0 hg1 hg2 hy
            clear g1 g2 g3 HGR hown' hln' L L2 hW HT
            go_wp2_with fail
            refine wp_plan [] [0, 1, 2, 3, 5, 6, 4, 7, 8, 9, 10, 11, 12, 13] (by kernel_rfl) (by kernel_rfl) ?_
            simp only [wpSegs, opsOf, List.map_cons, List.map_nil, opN, List.getD_cons_zero, List.getD_cons_succ]
            go_wp2_with fail
            refine ⟨by first | trivial | rfl, ?_⟩
            go_wp2_with ((with_reducible refine xAppendAt G1.out rfl rfl ?_ ?_ ?_ ?_); exact rfl; exact rfl; exact rfl)
            go_roundw
            case rel => exact ⟨i + 1, by omega, by go_num, G2, G3⟩
            case measure => simp [intOf]; omega
    · have HR2 := Lib.hid (show l'.take i = l' from List.take_of_length_le (by omega))
      go_wp2_with fail
      go_ret
      exact ⟨_, ofS l', rfl, by rw [← HR2.out]; exact hown.out.mono HM2.out.size, HM2.out.trans hM.out, isOf_sorted HP.out HU.out, by have := ofS_len l'; have := HLL.out; omega⟩
end Go.Proofs.YtefaihockgebeaaGreat
