/- Graph: links cloned; cmp.Or; slices.CompactFunc over links. -/
import Derived.Test.YtefaihockgebeaaGreatSpJ
import Derived.Test.YtefaihockgebeaaGreatRow4
import Derived.Test.YtefaihockgebeaaGreatGrD
import Derived.Test.YtefaihockgebeaaGreatGrI
namespace Go.Proofs.YtefaihockgebeaaGreat
open Go.RowKit Go.ChangeMaps Go.Deep
set_option linter.unusedSimpArgs false
set_option linter.unusedVariables false
set_option maxRecDepth 20000

abbrev OwnL (w : World) (base : Nat) (v : Value) (l : List Sp) : Prop := OwnR encS 2 41 w base v l
theorem elemLink : ElemOk Tryz.prog 39 41 2 16 := .mk' Tryz.underlying39 (by omega) (by kernel_rfl)
set_option maxHeartbeats 1000000 in
theorem cloneLink_any (v : Value) (l : List Sp) (w : World) (h : SpansAt w v l) (hl : l.length ≤ 1000000) :
    Calls Tryz.prog 27 #[v] w fun e w' => ∃ v', e = .returned v' ∧ OwnL w' w.heap.size v' l ∧ Mod [] w w' := by
  have H := Lib.hid h
  obtain ⟨a, c, rfl⟩ := h.form
  clear h
  cases a with
  | none =>
    have hl0 : l = [] := H.out.of_none rfl
    subst hl0
    have hq := fun (w : World) => Lib.run_eql_slice_nil (P := Tryz.prog) w 39 41 none 0 c 0 0 Tryz.underlying39
    go_enter Tryz.func27, Tryz.ntmps27
    go_wp2
    go_ret
    exact ⟨_, rfl, OwnR.nil_ _ _, Mod.refl _ _⟩
  | some a =>
    have hm := (Mod.refl [] w).alloc (.cells #[] 41)
    obtain ⟨v', w', g1, g2, g3⟩ := own_append elemLink encS_len (OwnR.fresh (enc := encS) (k := 2) (E := 41) w w.heap.size (Nat.le_refl _)) (by simp) (ty := 39) ((H.out.kept0 hm).src encS_len encS_one Tryz.underlying39) (by simp; omega) (by omega)
    have G1 := Lib.hid g1
    have G2 := Lib.hid g2
    have G3 := Lib.hid (g3.intoNil (OwnR.fresh (enc := encS) (k := 2) (E := 41) w w.heap.size (Nat.le_refl _)) (Nat.le_refl _) hm)
    clear g1 g2 g3 hm
    have hq := fun (w : World) => Lib.run_eql_slice_nil (P := Tryz.prog) w 39 41 (some a) l.length c 0 0 Tryz.underlying39
    go_enter Tryz.func27, Tryz.ntmps27
    go_wp2_with (((with_reducible refine xAppendAt G1.out rfl rfl ?_ ?_ ?_ ?_); exact rfl; exact rfl; exact rfl))
    go_ret
    exact ⟨_, rfl, by simpa using G2.out, G3.out⟩
/-! ### the comparison -/
/-- the first one that is not 0 -/
def orI (x y : Int) : Int := if x = 0 then y else x
set_option maxHeartbeats 1000000 in
theorem cmpOr_any (g : Nat) (x y : Int) (w : World) (h : w.heap[g]? = some (.cells #[.int .i64 x, .int .i64 y] 3 (0, 0))) :
    Calls Tryz.prog 30 #[.slice (some ⟨g, 0, none⟩) 2 2] w fun e w' => e = .returned (.int .i64 (orI x y)) ∧ w' = w := by
  have c0 := cell_blk h 0
  have c1 := cell_blk h 1
  simp only [List.getElem?_toArray, List.getElem?_cons_succ, List.getElem?_cons_zero] at c0 c1
  clear h
  go_enter Tryz.func30, Tryz.ntmps30
  go_wp2_with fail
  go_loop [8] (fun s8 => ∃ i : Nat, i ≤ 2 ∧ s8 = .int .i64 i ∧ Hid (0 < i → x = 0) ∧ Hid (1 < i → y = 0)) (fun s8 => 2 - (intOf s8).toNat)
  case atStart => exact ⟨0, by omega, rfl, Lib.hid (fun h => by omega), Lib.hid (fun h => by omega)⟩
  case round =>
    obtain ⟨i, hi, rfl, hx, hy⟩ := hrel
    rcases (show i = 0 ∨ i = 1 ∨ i = 2 by omega) with rfl | rfl | rfl
    · by_cases h0 : x = 0
      · have hb : (x != 0) = false := by simp [h0]
        have HX := Lib.hid h0
        clear h0
        go_wp2_with fail
        go_round
        case rel => exact ⟨1, by omega, by go_num, Lib.hid (fun _ => HX.out), Lib.hid (fun h => by omega)⟩
        case measure => simp [intOf]
      · have hb : (x != 0) = true := by simpa using h0
        go_wp2_with fail
        go_ret
        exact ⟨by rw [orI, if_neg h0]; rfl, rfl⟩
    · have HX := Lib.hid (hx.out (by omega))
      by_cases h0 : y = 0
      · have hb : (y != 0) = false := by simp [h0]
        have HY := Lib.hid h0
        clear h0
        go_wp2_with fail
        go_round
        case rel => exact ⟨2, by omega, by go_num, Lib.hid (fun _ => HX.out), Lib.hid (fun _ => HY.out)⟩
        case measure => simp [intOf]
      · have hb : (y != 0) = true := by simpa using h0
        go_wp2_with fail
        go_ret
        exact ⟨by rw [orI, if_pos HX.out]; rfl, rfl⟩
    · have HX := Lib.hid (hx.out (by omega))
      have HY := Lib.hid (hy.out (by omega))
      go_wp2_with fail
      go_ret
      exact ⟨by rw [orI, if_pos HX.out, HY.out]; rfl, rfl⟩
/-! ### each once -/
theorem grOnce2_any (x1 x2 y1 y2 : Int) (w : World) : Calls Tryz.prog 33 #[.agg #[.int .i64 x1, .int .i64 x2], .agg #[.int .i64 y1, .int .i64 y2]] w fun e w' => e = .returned (.bool (decide (x1 = y1))) ∧ Mod [] w w' := by
  have HM := Lib.hid (((Mod.refl [] w).alloc (.cells #[.int .i64 x1, .int .i64 x2] 41)).alloc (.cells #[.int .i64 y1, .int .i64 y2] 41))
  have HR := Lib.hid (show decide (x1 = y1) = (x1 == y1) by by_cases h : x1 = y1 <;> simp [h])
  go_enter Tryz.func33, Tryz.ntmps33
  go_wp2
  go_ret
  exact ⟨by rw [HR.out]; rfl, HM.out⟩
theorem zeroLink : ∀ w, (zeroValue 41).run Tryz.prog w = .ok (.agg #[.int .i64 0, .int .i64 0]) w := fun _ => by kernel_rfl
theorem OwnR.two {w : World} {base g cap : Nat} {E : TypeId} {l : List Sp} (h : OwnR encS 2 E w base (.slice (some ⟨g, 0, none⟩) l.length cap) l) {i : Nat} (hi : i < l.length) :
    w.cell? ⟨g, i * 2, none⟩ = some (.int .i64 (l.getD i (0, 0)).1) ∧ w.cell? ⟨g, i * 2 + 1, none⟩ = some (.int .i64 (l.getD i (0, 0)).2) ∧ w.frozen? ⟨g, i * 2, none⟩ = false ∧ w.frozen? ⟨g, i * 2 + 1, none⟩ = false := by
  have h0 := OwnR.cell encS_len h (i := i) (j := 0) hi (by omega) (u := .int .i64 l[i].1) rfl
  have h1 := OwnR.cell encS_len h (i := i) (j := 1) hi (by omega) (u := .int .i64 l[i].2) rfl
  have e : l.getD i (0, 0) = l[i] := by simp [hi]
  rw [e]
  exact ⟨h0.1, h1.1, h0.2, h1.2⟩
/-- a pair is written whole -/
theorem OwnR.put2 {w : World} {base g cap : Nat} {E : TypeId} {l : List Sp} (h : OwnR encS 2 E w base (.slice (some ⟨g, 0, none⟩) l.length cap) l) {i : Nat} (hi : i < l.length) (x : Sp) :
    OwnR encS 2 E ((w.setCell ⟨g, i * 2, none⟩ (.int .i64 x.1)).setCell ⟨g, i * 2 + 1, none⟩ (.int .i64 x.2)) base (.slice (some ⟨g, 0, none⟩) l.length cap) (l.set i x) := by
  have h0 := OwnR.set encS_len h (i := i) (j := 0) hi (by omega) (u := .int .i64 x.1) (y := (x.1, l[i].2)) rfl
  have hl : (l.set i (x.1, l[i].2)).length = l.length := List.length_set
  rw [← hl] at h0
  have h1 := OwnR.set encS_len h0 (i := i) (j := 1) (by rw [hl]; exact hi) (by omega) (u := .int .i64 x.2) (y := x) (by simp [encS])
  rw [hl, List.set_set] at h1
  exact h1
set_option maxHeartbeats 4000000 in
theorem compactLink_any (v : Value) (l : List Sp) (w : World) (base : Nat) (h : OwnL w base v l) (hl : l.length ≤ 1000000) :
    Calls Tryz.prog 32 #[v, .func (.func 33) #[] #[]] w fun e w' => ∃ v', e = .returned v' ∧ OwnL w' base v' (cutUp l l.length) ∧ Mod (blk v) w w' ∧ v'.ownBlock = v.ownBlock := by
  by_cases hs : l.length < 2
  · have HC := Lib.hid (show cutUp l l.length = l by
      rw [cutUp_full (Nat.le_refl _) (fun p hp => by obtain rfl : p = 0 := by omega
                                                     rfl), List.take_length])
    have H := Lib.hid h
    obtain ⟨a, c, rfl⟩ := h.row.form
    clear h
    go_enter Tryz.func32, Tryz.ntmps32
    go_wp2_with fail
    go_ret
    exact ⟨_, rfl, by rw [HC.out]; exact H.out, Mod.refl _ _, rfl⟩
  · rcases h.form with ⟨_, rfl⟩ | ⟨g, cap, rfl, hb, hg, hc⟩
    · simp at hs
    have H := Lib.hid h
    have HBG := Lib.hid (And.intro hb hg)
    clear h hb hg
    go_enter Tryz.func32, Tryz.ntmps32
    go_wp2_with fail
    go_loopw [5] (fun s5 wr => ∃ k : Nat, 1 ≤ k ∧ k ≤ l.length ∧ s5 = .int .i64 k ∧ Hid (Mod [] w wr) ∧ Hid (∀ p, p < k → keepsL l p = true)) (fun s5 _ => l.length - (intOf s5).toNat)
    case atStart => exact ⟨1, Nat.le_refl _, by omega, rfl, Lib.hid (Mod.refl _ _), Lib.hid (fun p hp => by obtain rfl : p = 0 := by omega
                                                                                                            rfl)⟩
    case round =>
      obtain ⟨k, hk1, hk, rfl, hM, hK⟩ := hrel
      rename World => wo
      by_cases hlt : k < l.length
      · obtain ⟨k, rfl⟩ : ∃ j, k = j + 1 := ⟨k - 1, by omega⟩
        have HO := Lib.hid (H.out.kept0 hM.out)
        have HKP := Lib.hid (keepsL_iff (l := l) (p := k + 1) (by omega))
        obtain ⟨a0, a1, _, _⟩ := HO.out.two (i := k + 1) hlt
        obtain ⟨b0, b1, _, _⟩ := HO.out.two (i := k) (by omega)
        rw [Nat.add_sub_cancel] at HKP
        by_cases hq : (l.getD (k + 1) (0, 0)).1 = (l.getD k (0, 0)).1
        · rw [decide_eq_true hq] at HKP
          have HQ := Lib.hid (decide_eq_true hq)
          generalize l.getD (k + 1) (0, 0) = x at a0 a1 HQ
          generalize l.getD k (0, 0) = y at b0 b1 HQ
          clear hq
          go_wp2_with fail
          refine wp_plan [([0, 1, 2, 5, 6, 7, 3, 4, 8, 9], 10, [])] [] (by kernel_rfl) (by kernel_rfl) ?_
          simp only [wpSegs, opsOf, List.map_cons, List.map_nil, opN, List.getD_cons_zero, List.getD_cons_succ]
          go_wp2_with fail
          refine ⟨by first | trivial | rfl, ?_⟩
          go_wp2_with fail
          refine (grOnce2_any _ _ _ _ _).mono ?_
          rintro e w1 ⟨rfl, m1⟩
          rw [HQ.out]
          have HM1 := Lib.hid (hM.out.drew.trans m1)
          clear m1 a0 a1 b0 b1
          go_wp2_with fail
          refine ⟨again_nil, ?_⟩
          go_wp2_with fail
          refine ⟨by first | trivial | rfl, ?_⟩
          go_wp2_with fail
          have HOK := Lib.hid (H.out.kept0 HM1.out)
          have HST := Lib.hid (CutInv.start hlt (fun p hp => hK.out p hp) HKP.out)
          clear HO HKP HQ
          go_loopw [5, 7] (fun s5 s7 wr => ∃ (kk j : Nat) (m : List Sp), 1 ≤ j ∧ k + 1 + j ≤ l.length ∧ s5 = .int .i64 kk ∧ s7 = .int .i64 j ∧ Hid (CutInv l m (k + 1 + j) kk) ∧ Hid (OwnL wr base (.slice (some ⟨g, 0, none⟩) m.length cap) m) ∧ Hid (Mod [g] w wr)) (fun _ s7 _ => l.length - (intOf s7).toNat)
          case atStart => exact ⟨k + 1, 1, l, Nat.le_refl _, by omega, rfl, rfl, HST, HOK, Lib.hid HM1.out.nil⟩
          case round =>
            obtain ⟨kk, j, m, hj1, hj, rfl, rfl, hI, hO, hMg⟩ := hrel
            rename World => wz
            by_cases hlt2 : k + 1 + j < l.length
            · obtain ⟨j, rfl⟩ : ∃ i, j = i + 1 := ⟨j - 1, by omega⟩
              have hml := hI.out.len
              have hkk := hI.out.lt
              have HKP := Lib.hid (keepsL_iff (l := l) (p := k + 1 + (j + 1)) (by omega))
              rw [show k + 1 + (j + 1) - 1 = k + 1 + j by omega] at HKP
              obtain ⟨a0, a1, _, _⟩ := hO.out.two (i := k + 1 + (j + 1)) (by omega)
              obtain ⟨b0, b1, _, _⟩ := hO.out.two (i := k + 1 + j) (by omega)
              have HP2 := Lib.hid (fun x : Sp => hO.out.put2 (i := kk) (by omega) x)
              obtain ⟨_, _, _, _⟩ := hO.out.two (i := kk) (by omega)
              rw [hI.out.tail _ (by omega), show (k + 1 + (j + 1)) * 2 = (k + 1) * 2 + (j + 1) * 2 by omega] at a0 a1
              rw [hI.out.tail _ (by omega), show (k + 1 + j) * 2 = (k + 1) * 2 + j * 2 by omega] at b0 b1
              have HML := Lib.hid hml
              clear hml
              by_cases hq : (l.getD (k + 1 + (j + 1)) (0, 0)).1 = (l.getD (k + 1 + j) (0, 0)).1
              · rw [decide_eq_true hq] at HKP
                have HQ := Lib.hid (decide_eq_true hq)
                generalize l.getD (k + 1 + (j + 1)) (0, 0) = x at a0 a1 HQ
                generalize l.getD (k + 1 + j) (0, 0) = y at b0 b1 HQ
                clear hq
                go_wp2_with fail
                refine wp_plan [([0, 1, 2, 5, 6, 7, 3, 4, 8, 9], 10, [])] [11] (by kernel_rfl) (by kernel_rfl) ?_
                simp only [wpSegs, opsOf, List.map_cons, List.map_nil, opN, List.getD_cons_zero, List.getD_cons_succ]
                go_wp2_with fail
                refine ⟨by first | trivial | rfl, ?_⟩
                go_wp2_with fail
                refine (grOnce2_any _ _ _ _ _).mono ?_
                rintro e w2 ⟨rfl, m2⟩
                rw [HQ.out]
                have HM2 := Lib.hid (hMg.out.drew.trans m2.nil)
                have HO2 := Lib.hid (hO.out.kept0 ((Mod.refl [] _).drew.trans m2))
                clear m2 a0 a1 b0 b1
                go_wp2_with fail
                refine ⟨again_nil, ?_⟩
                go_wp2_with fail
                refine ⟨by first | trivial | rfl, ?_⟩
                go_wp2_with fail
                go_roundw
                case rel => exact ⟨kk, j + 1 + 1, m, by omega, by omega, rfl, by go_num, Lib.hid (hI.out.skip HKP.out), HO2, HM2⟩
                case measure => simp [intOf]; omega
              · rw [decide_eq_false hq] at HKP
                have HQ := Lib.hid (decide_eq_false hq)
                have HIK := Lib.hid (hI.out.keep hlt2 HKP.out)
                generalize l.getD (k + 1 + (j + 1)) (0, 0) = x at a0 a1 HQ HIK
                generalize l.getD (k + 1 + j) (0, 0) = y at b0 b1 HQ
                clear hq
                go_wp2_with fail
                refine wp_plan [([0, 1, 2, 5, 6, 7, 3, 4, 8, 9], 10, [])] [11] (by kernel_rfl) (by kernel_rfl) ?_
                simp only [wpSegs, opsOf, List.map_cons, List.map_nil, opN, List.getD_cons_zero, List.getD_cons_succ]
                go_wp2_with fail
                refine ⟨by first | trivial | rfl, ?_⟩
                go_wp2_with fail
                refine (grOnce2_any _ _ _ _ _).mono ?_
                rintro e w2 ⟨rfl, m2⟩
                rw [HQ.out]
                have HM2 := Lib.hid (hMg.out.drew.trans m2.nil)
                have hm2 := (Mod.refl [] wz).drew.trans m2
                have HO2 := Lib.hid (hO.out.kept0 hm2)
                have a0 := cell_kept a0 hm2
                have a1 := cell_kept a1 hm2
                obtain ⟨e0, e1, e2, e3⟩ := HO2.out.two (i := kk) (by have := HML.out; omega)
                clear m2 hm2 b0 b1
                go_wp2_with fail
                refine ⟨again_nil, ?_⟩
                go_wp2_with fail
                refine ⟨by first | trivial | rfl, ?_⟩
                go_wp2_with fail
                go_roundw
                case rel => exact ⟨kk + 1, j + 1 + 1, m.set kk x, by omega, by omega, by go_num, by go_num, HIK, Lib.hid (by rw [List.length_set]; exact HO2.out.put2 (by have := HML.out; omega) x), Lib.hid ((HM2.out.setCell (p := ⟨g, kk * 2, none⟩) (by simp) _).setCell (p := ⟨g, kk * 2 + 1, none⟩) (by simp) _)⟩
                case measure => simp [intOf]; omega
            · have hje : k + 1 + j = l.length := by omega
              have hkk := hI.out.lt
              have HHD := Lib.hid (show m.take kk = cutUp l l.length by rw [← hje]; exact hI.out.head)
              obtain ⟨W, hcl, hOW, hMW⟩ := own_clear Tryz.underlying39 encS_len _ zeroLink rfl (by simp [Value.cells, Value.oneCell']) (by omega) hO.out kk (by have := hI.out.len; omega)
              rw [hI.out.len] at hcl
              have HOW := Lib.hid hOW
              have HMW := Lib.hid (hMg.out.trans hMW)
              clear hOW hMW
              go_wp2_with fail
              go_ret
              exact ⟨_, rfl, by rw [← HHD.out]; exact HOW.out, HMW.out, rfl⟩
        · rw [decide_eq_false hq] at HKP
          have HQ := Lib.hid (decide_eq_false hq)
          generalize l.getD (k + 1) (0, 0) = x at a0 a1 HQ
          generalize l.getD k (0, 0) = y at b0 b1 HQ
          clear hq
          go_wp2_with fail
          refine wp_plan [([0, 1, 2, 5, 6, 7, 3, 4, 8, 9], 10, [])] [] (by kernel_rfl) (by kernel_rfl) ?_
          simp only [wpSegs, opsOf, List.map_cons, List.map_nil, opN, List.getD_cons_zero, List.getD_cons_succ]
          go_wp2_with fail
          refine ⟨by first | trivial | rfl, ?_⟩
          go_wp2_with fail
          refine (grOnce2_any _ _ _ _ _).mono ?_
          rintro e w1 ⟨rfl, m1⟩
          rw [HQ.out]
          have HM1 := Lib.hid (hM.out.drew.trans m1)
          clear m1 a0 a1 b0 b1
          go_wp2_with fail
          refine ⟨again_nil, ?_⟩
          go_wp2_with fail
          refine ⟨by first | trivial | rfl, ?_⟩
          go_wp2_with fail
          go_roundw
          case rel => exact ⟨k + 1 + 1, by omega, by omega, by go_num, HM1, Lib.hid (fun p hp => by
            by_cases hpk : p = k + 1
            · rw [hpk]; exact HKP.out
            · exact hK.out p (by omega))⟩
          case measure => simp [intOf]; omega
      · have HC := Lib.hid (show cutUp l l.length = l by
          rw [cutUp_full (Nat.le_refl _) (fun p hp => hK.out p (by omega)), List.take_length])
        go_wp2_with fail
        go_ret
        exact ⟨_, rfl, by rw [HC.out]; exact H.out.kept0 hM.out, hM.out.nil, rfl⟩
end Go.Proofs.YtefaihockgebeaaGreat
