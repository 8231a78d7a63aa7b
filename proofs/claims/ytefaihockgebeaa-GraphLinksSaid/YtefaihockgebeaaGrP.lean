/- Graph: Above. -/
import Derived.Test.YtefaihockgebeaaGrO
import Derived.Test.YtefaihockgebeaaGrH
namespace Go.Proofs.Ytefaihockgebeaa
open Go.RowKit Go.ChangeMaps Go.Deep
set_option linter.unusedSimpArgs false
set_option linter.unusedVariables false
set_option maxRecDepth 20000

theorem run_makeBools (n : Nat) (hn : n ≤ 1000000) (w : World) : (Instr.makeSlice 97 (.int .i64 n) (.int .i64 n)).run Try.prog w = .ok (.slice (some ⟨w.heap.size, 0, none⟩) n n) (w.alloc (.cells (Array.replicate n (.bool false)) 4)) := by
  have h5 : (Try.prog.info? 4).map (fun i => (i.zero, i.size, i.bytes)) = some (some (.bool false), 1, 1) := by kernel_rfl
  obtain ⟨i0, hi, hz0, hz1, hz2⟩ := info_parts h5
  have h := run_make (P := Try.prog) (w := w) 97 4 i0 (.bool false) Try.underlying97 hi hz0 .i64 .i64 n n (by omega) (Int.le_refl _) (by rw [hz2]; omega) (by omega)
  rw [hz1, Nat.mul_one] at h
  have e : (Value.bool false).cells = #[.bool false] := rfl
  rw [e, made_one, Int.toNat_natCast] at h
  exact h
theorem BoolsAt.cell {w : World} {B g cap : Nat} {A : List Bool} (h : BoolsAt w B g A cap) {j : Nat} (hj : j < A.length) : w.cell? ⟨g, j, none⟩ = some (.bool (A.getD j false)) ∧ w.frozen? ⟨g, j, none⟩ = false := by
  obtain ⟨cs, hg, hc⟩ := h.2
  exact ⟨(cell_blk hg j).trans (hc j hj), frozen_blk hg j⟩
theorem BoolsAt.box {w : World} {B g cap : Nat} {A : List Bool} (h : BoolsAt w B g A cap) : w.cell? ⟨B, 0, none⟩ = some (.slice (some ⟨g, 0, none⟩) A.length cap) := by
  have := cell_blk h.1 0
  simpa using this
theorem BoolsAt.set {w : World} {B g cap : Nat} {A : List Bool} (h : BoolsAt w B g A cap) (hne : B ≠ g) {j : Nat} (hj : j < A.length) (b : Bool) : BoolsAt (w.setCell ⟨g, j, none⟩ (.bool b)) B g (A.set j b) cap := by
  obtain ⟨cs, hg, hc⟩ := h.2
  refine ⟨?_, _, heap_setCell_blk hg j (.bool b), fun k hk => ?_⟩
  · rw [heap_setCell_ne _ _ _ hne, List.length_set]
    exact h.1
  · rw [List.length_set] at hk
    have hjs : j < cs.size := by
      have := hc j hj
      exact (Array.getElem?_eq_some_iff.1 this).1
    rw [Array.getElem?_setIfInBounds]
    by_cases e : j = k
    · subst e; simp [hjs, hj]
    · rw [if_neg e, hc k hk]
      simp [List.getElem?_set, e]
set_option maxHeartbeats 4000000 in
theorem grAbove_any (i : Nat) (base B : Nat) (R : Lks) (out : List Int) (w : World) (h : GraphAt w base B R out) (hi : i < R.length) (hN : R.length ≤ 1000) (hO : Ordered R R.length out) (hf : ∀ z : Int, 0 ≤ z → z < R.length → z ∈ out) (hll : ∀ k, k < R.length → (linksOf R k).length ≤ 1000000) (hLI : LinksIn R R.length) :
    Calls Try.prog 20 #[.pointer (some ⟨B, 0, none⟩), .int .i64 i] w fun e w' => ∃ v p, e = .returned v ∧ OwnN w' w.heap.size v (selU p R.length) ∧ Mod [] w w' ∧ ∀ k, k < R.length → (p k = true ↔ ((k : Int) ≠ i ∧ Stands R k i)) := by
  have HOL := Lib.hid (show out.length ≤ 1000 from by have := below_length hO.nodup hO.below; omega)
  obtain ⟨onv, ov, vs, hB, hon, hov⟩ := h.ex
  have HLL := Lib.hid hll
  have HLI := Lib.hid hLI
  have HO := Lib.hid hO
  have HF := Lib.hid hf
  have HG := Lib.hid h
  have hvl := hon.len
  have HVL := Lib.hid hvl
  have hiv : i < vs.length := by omega
  have hvn : vs.length ≤ 1000 := by omega
  obtain ⟨oa, oc, rfl⟩ := hon.row.row.form
  obtain ⟨ta, tc, rfl⟩ := hov.row.form
  have HON := Lib.hid (hon.on hB).parts
  have HOV := Lib.hid hov.row
  have HB := Lib.hid hB
  have c0 := cell_blk hB 0
  have m1 := (Mod.refl [] w).alloc (.cells ((Array.replicate vs.length (.bool false)).setIfInBounds i (.bool true)) 4)
  have n1 := heap_alloc_new w (.cells ((Array.replicate vs.length (.bool false)).setIfInBounds i (.bool true)) 4)
  have n2 := heap_alloc_new (w.alloc (.cells ((Array.replicate vs.length (.bool false)).setIfInBounds i (.bool true)) 4)) (.cells #[.slice (some ⟨w.heap.size, 0, none⟩) vs.length vs.length] 97)
  have m2 := m1.alloc (.cells #[.slice (some ⟨w.heap.size, 0, none⟩) vs.length vs.length] 97)
  have HBA := Lib.hid (show BoolsAt ((w.alloc (.cells ((Array.replicate vs.length (.bool false)).setIfInBounds i (.bool true)) 4)).alloc (.cells #[.slice (some ⟨w.heap.size, 0, none⟩) vs.length vs.length] 97)) (w.heap.size + 1) w.heap.size ((List.replicate vs.length false).set i true) vs.length from by
    refine ⟨?_, _, ((Mod.refl [] _).alloc _).heap n1 (by simp), fun j hj => ?_⟩
    · rw [show (w.alloc (.cells ((Array.replicate vs.length (.bool false)).setIfInBounds i (.bool true)) 4)).heap.size = w.heap.size + 1 by simp] at n2
      rw [n2]; simp
    · simp at hj
      rw [Array.getElem?_setIfInBounds]
      by_cases e : i = j
      · subst e; simp [hj]
      · simp [e, hj, List.getElem?_set])
  have HMD := Lib.hid m2
  have HAB := Lib.hid (AboveB.start R (n := vs.length) (i := i) hiv)
  have d0 := cell_blk (m2.heap hB (by simp)) 1
  simp only [List.getElem?_toArray, List.getElem?_cons_succ, List.getElem?_cons_zero] at c0 d0
  have hmk : ∀ u : World, (Instr.makeSlice 97 (.int .i64 vs.length) (.int .i64 vs.length)).run Try.prog u = .ok (.slice (some ⟨u.heap.size, 0, none⟩) vs.length vs.length) (u.alloc (.cells (Array.replicate vs.length (.bool false)) 4)) := fun u => run_makeBools vs.length (by omega) u
  clear h hB hon hov hvl hi hN hO hf hll hLI m1 m2 n1 n2
  have hb0 : decide ((i : Int) < 0) = false := by simp
  have hb1 : decide (vs.length ≤ i) = false := by simp; omega
  go_enter Try.func20, Try.ntmps20
  go_wp2_with fail
  clear c0 d0 hmk hb0 hb1
  go_loopw [39] (fun s39 wr => ∃ (j : Nat) (A : List Bool), j ≤ out.length ∧ s39 = .int .i64 j ∧ Hid (A.length = vs.length) ∧ Hid (AboveB R vs.length i (out.take j) A) ∧ Hid (BoolsAt wr (w.heap.size + 1) w.heap.size A vs.length) ∧ Hid (Mod [] w wr)) (fun s39 _ => out.length - (intOf s39).toNat)
  case atStart => exact ⟨0, _, by omega, rfl, Lib.hid (by simp), by simpa using HAB, HBA, HMD⟩
  case round =>
    clear HBA HMD HAB
    obtain ⟨j, A, hj, rfl, hAL, hAB, hBA, hM⟩ := hrel
    rename World => wo
    have hol := HOL.out
    by_cases hlt : j < out.length
    · obtain ⟨b, o, rfl, hc, q0⟩ := (HOV.out.kept0 hM.out).get1 hlt
      have hkb := HO.out.below out[j] (List.getElem_mem hlt)
      have HTK := Lib.hid (show out.take (j + 1) = out.take j ++ [out[j]] from List.take_succ_eq_append_getElem hlt)
      have HSP := Lib.hid (show out = out.take j ++ out[j] :: out.drop (j + 1) from by rw [List.getElem_cons_drop, List.take_append_drop])
      generalize out[j] = z at q0 hkb HTK HSP
      obtain ⟨k, rfl⟩ : ∃ k : Nat, z = k := ⟨z.toNat, by omega⟩
      have hkn : k < vs.length := by have := HVL.out; omega
      have hkr : k < R.length := by have := HVL.out; omega
      have HSTP := Lib.hid (AboveB.step (n := vs.length) (k := k) hAB.out (by rw [HVL.out]; exact HO.out) HSP.out)
      rw [← HTK.out] at HSTP
      have hlm := HLL.out k hkr
      have hwd := hM.out.drew
      have e0 := hBA.out.box
      obtain ⟨e1, e2⟩ := hBA.out.cell (j := k) (by rw [hAL.out]; exact hkn)
      rw [hAL.out] at e0
      have HBD := Lib.hid (hBA.out.kept (Mod.refl [] wo).drew (by simp) (by simp))
      have HLX := Lib.hid (show ∀ x ∈ linksOf R k, 0 ≤ x.1 ∧ x.1 < (A.length : Int) from fun x hx => by
        have := HLI.out k hkr x hx
        rw [hAL.out, HVL.out]; exact this)
      obtain ⟨b2, o2, pa, pc, rfl, hc2, q2, hs⟩ := (show PartsAt wo (.slice oa vs.length oc) vs R from ⟨HON.out.row.kept0 hM.out, HON.out.len, fun j a b => (HON.out.part j a b).kept0 hM.out⟩).get rfl hkn
      have g0 := cell_blk (hM.out.heap HB.out (by simp)) 0
      simp only [List.getElem?_toArray, List.getElem?_cons_succ, List.getElem?_cons_zero] at g0
      have HMD := Lib.hid hwd
      have HCA := Lib.hid (contAb_any _ (linksOf R k) (w.heap.size + 1) w.heap.size vs.length A wo.drew (hs.kept0 ((Mod.refl [] wo).drew)) HBD.out hlm HLX.out)
      have hmm : ∀ b, Mod [] w ((wo.drew).setCell ⟨w.heap.size, k, none⟩ (.bool b)) := fun b => hwd.setCellNew (by simp) _
      have HMM := Lib.hid hmm
      clear hs hwd hmm hkb
      by_cases hA : A.getD k false = true
      · rw [hA] at e1 HSTP
        have HBS := Lib.hid (HBD.out.set (by omega) (j := k) (by rw [hAL.out]; exact hkn) true)
        clear hA HCA
        go_wp2_with fail
        refine wp_plan [([0, 1, 2, 3, 4, 5, 6, 7, 11, 8, 9, 10, 12, 13], 14, [0, 8, 9, 10, 12, 13]), ([], 15, [0]), ([16, 17], 18, [])] [] (by kernel_rfl) (by kernel_rfl) ?_
        simp only [wpSegs, opsOf, List.map_cons, List.map_nil, opN, List.getD_cons_zero, List.getD_cons_succ]
        go_wp2_with fail
        refine ⟨by first | trivial | rfl, ?_⟩
        go_wp2_with fail
        refine ⟨?ag1, ?_⟩
        case ag1 =>
          intro i hi hw
          simp only [List.mem_cons, List.not_mem_nil, or_false] at hi
          rcases hi with rfl | rfl | rfl | rfl | rfl | rfl
          all_goals (simp only [opN, List.getD_cons_zero, List.getD_cons_succ, slotOf] at hw ⊢; revert hw; go_simp)
        go_wp2_with fail
        refine ⟨by first | trivial | rfl, ?_⟩
        go_wp2_with fail
        refine ⟨?ag2, ?_⟩
        case ag2 =>
          intro i hi hw
          simp only [List.mem_cons, List.not_mem_nil, or_false] at hi
          subst hi
          all_goals (simp only [opN, List.getD_cons_zero, List.getD_cons_succ, slotOf] at hw ⊢; revert hw; go_simp)
        go_wp2_with fail
        refine ⟨by first | trivial | rfl, ?_⟩
        go_wp2_with fail
        refine ⟨again_nil, ?_⟩
        go_wp2_with fail
        refine ⟨by first | trivial | rfl, ?_⟩
        go_wp2_with fail
        go_roundw
        case rel => exact ⟨j + 1, _, by omega, by go_num, Lib.hid (by simpa using hAL.out), HSTP, HBS, HMM.out true |> Lib.hid⟩
        case measure => simp [intOf]; omega
      · have hA' : A.getD k false = false := by simpa using hA
        rw [hA'] at e1 HSTP
        rw [Bool.false_or] at HSTP
        clear hA hA'
        go_wp2_with fail
        refine wp_plan [([0, 1, 2, 3, 4, 5, 6, 7, 11, 8, 9, 10, 12, 13], 14, [0, 8, 9, 10, 12, 13]), ([], 15, [0]), ([16, 17], 18, [])] [] (by kernel_rfl) (by kernel_rfl) ?_
        simp only [wpSegs, opsOf, List.map_cons, List.map_nil, opN, List.getD_cons_zero, List.getD_cons_succ]
        go_wp2_with fail
        refine ⟨by first | trivial | rfl, ?_⟩
        go_wp2_with fail
        refine ⟨?ag1, ?_⟩
        case ag1 =>
          intro i hi hw
          simp only [List.mem_cons, List.not_mem_nil, or_false] at hi
          rcases hi with rfl | rfl | rfl | rfl | rfl | rfl
          all_goals (simp only [opN, List.getD_cons_zero, List.getD_cons_succ, slotOf]; go_simp)
        go_wp2_with fail
        refine ⟨by first | trivial | rfl, ?_⟩
        go_wp2_with fail
        refine HCA.out.mono ?_
        rintro e w3 ⟨rfl, m3⟩
        have HM3 := Lib.hid (HMD.out.trans m3)
        have HB3 := Lib.hid (HBD.out.kept m3 (by simp) (by simp))
        have f0 := HB3.out.box
        obtain ⟨f1, f2⟩ := HB3.out.cell (j := k) (by rw [hAL.out]; exact hkn)
        rw [hAL.out] at f0
        have HBS := Lib.hid (HB3.out.set (by omega) (j := k) (by rw [hAL.out]; exact hkn) ((linksOf R k).any (pAb A)))
        have HST2 := Lib.hid (show AboveB R vs.length i (out.take (j + 1)) (A.set k ((linksOf R k).any (pAb A))) from HSTP.out)
        have HMS := Lib.hid (show Mod [] w (w3.setCell ⟨w.heap.size, k, none⟩ (.bool ((linksOf R k).any (pAb A)))) from HM3.out.setCellNew (by simp) _)
        generalize (linksOf R k).any (pAb A) = q at HBS HST2 HMS ⊢
        clear m3 HCA
        go_wp2_with fail
        refine ⟨?ag3, ?_⟩
        case ag3 =>
          intro i hi hw
          simp only [List.mem_cons, List.not_mem_nil, or_false] at hi
          subst hi
          all_goals (simp only [opN, List.getD_cons_zero, List.getD_cons_succ, slotOf]; go_simp)
        go_wp2_with fail
        refine ⟨by first | trivial | rfl, ?_⟩
        go_wp2_with fail
        refine ⟨again_nil, ?_⟩
        go_wp2_with fail
        refine ⟨by first | trivial | rfl, ?_⟩
        go_wp2_with fail
        go_roundw
        case rel => exact ⟨j + 1, _, by omega, by go_num, Lib.hid (by simpa using hAL.out), HST2, HBS, HMS⟩
        case measure => simp [intOf]; omega
    · have HTK := Lib.hid (show out.take j = out from List.take_of_length_le (by omega))
      rw [HTK.out] at hAB
      have HP := Lib.hid (show ∀ k, k < R.length → ((A.getD k false && !decide (k = i)) = true ↔ ((k : Int) ≠ i ∧ Stands R k i)) from fun k hk => by
        have h1 := hAB.out.stop (fun z h0 hz => HF.out z h0 (by rw [← HVL.out]; exact hz)) (k := k) (by rw [HVL.out]; exact hk)
        rw [Bool.and_eq_true, h1]
        simp only [Bool.not_eq_true', decide_eq_false_iff_not]
        constructor
        · rintro ⟨a, b⟩; exact ⟨fun e => b (by omega), a⟩
        · rintro ⟨a, b⟩; exact ⟨b, fun e => a (by omega)⟩)
      have e0 := hBA.out.box
      rw [hAL.out] at e0
      go_wp2_with fail
      go_loopw [4, 64] (fun s4 s64 wr => ∃ k : Nat, k ≤ vs.length ∧ s64 = .int .i64 k ∧ Hid (OwnN wr w.heap.size s4 (selU (fun k => A.getD k false && !decide (k = i)) k)) ∧ Hid (BoolsAt wr (w.heap.size + 1) w.heap.size A vs.length) ∧ Hid (Mod [] w wr)) (fun _ s64 _ => vs.length - (intOf s64).toNat)
      case atStart => exact ⟨0, by omega, rfl, Lib.hid (OwnR.nil_ _ _), hBA, hM⟩
      case round =>
        clear hBA hM e0
        obtain ⟨k, hk, rfl, hown, hBA, hM⟩ := hrel
        rename World => wz
        by_cases hlt2 : k < vs.length
        · obtain ⟨f1, _⟩ := hBA.out.cell (j := k) (by rw [hAL.out]; exact hlt2)
          have HSU := Lib.hid (show selU (fun k => A.getD k false && !decide (k = i)) (k + 1) = selU (fun k => A.getD k false && !decide (k = i)) k ++ (if (A.getD k false && !decide (k = i)) = true then [(k : Int)] else []) from rfl)
          have hsl := selU_len (fun k => A.getD k false && !decide (k = i)) k
          by_cases hA : A.getD k false = true
          · rw [hA] at f1
            by_cases hki : k = i
            · have HN := Lib.hid (show OwnN wz w.heap.size u4 (selU (fun k => A.getD k false && !decide (k = i)) (k + 1)) by
                rw [HSU.out, if_neg (by simp [hki]), List.append_nil]; exact hown.out)
              have hb : ((k : Int) != (i : Int)) = false := by simp [hki]
              clear hA hki
              go_wp2_with fail
              go_roundw
              case rel => exact ⟨k + 1, by omega, by go_num, HN, hBA, hM⟩
              case measure => simp [intOf]; omega
            · have hb : ((k : Int) != (i : Int)) = true := by rw [bne_iff_ne]; omega
              obtain ⟨v4, w4, g1, g2, g3⟩ := own_append1 elemInt encI_len encI_one hown.out (by have := hM.out.size; omega) (ty := 30) (k : Int) (by omega) (by omega)
              have HN := Lib.hid (show OwnN w4 w.heap.size v4 (selU (fun k => A.getD k false && !decide (k = i)) (k + 1)) by
                rw [HSU.out, if_pos (by rw [hA]; simp [hki])]; exact g2)
              have HBX := Lib.hid (show w.heap.size ∉ blk u4 from fun hx => by
                obtain ⟨cs, hg, _⟩ := hBA.out.2
                exact hown.out.typed hg (by decide) (mem_blk.1 hx))
              have HBY := Lib.hid (show w.heap.size + 1 ∉ blk u4 from fun hx => hown.out.typed hBA.out.1 (by decide) (mem_blk.1 hx))
              have HB4 := Lib.hid (hBA.out.kept g3.mod HBY.out HBX.out)
              have HM4 := Lib.hid (g3.intoNil hown.out (Nat.le_refl _) hM.out)
              have G1 := Lib.hid g1
              clear g1 g2 g3 hA hki
              go_wp2_with ((with_reducible refine xAppendAt G1.out rfl rfl ?_ ?_ ?_ ?_); exact rfl; exact rfl; exact rfl)
              go_roundw
              case rel => exact ⟨k + 1, by omega, by go_num, HN, HB4, HM4⟩
              case measure => simp [intOf]; omega
          · have hA' : A.getD k false = false := by simpa using hA
            have HN := Lib.hid (show OwnN wz w.heap.size u4 (selU (fun k => A.getD k false && !decide (k = i)) (k + 1)) by
              rw [HSU.out, hA', Bool.false_and, if_neg (by simp), List.append_nil]; exact hown.out)
            rw [hA'] at f1
            clear hA hA'
            go_wp2_with fail
            go_roundw
            case rel => exact ⟨k + 1, by omega, by go_num, HN, hBA, hM⟩
            case measure => simp [intOf]; omega
        · obtain rfl : k = vs.length := by omega
          go_wp2_with fail
          go_ret
          exact ⟨_, _, rfl, by rw [← HVL.out]; exact hown.out, hM.out, HP.out⟩
end Go.Proofs.Ytefaihockgebeaa
