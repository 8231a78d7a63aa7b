/- The journal is read: the frame behind the last one. -/
import Derived.Test.YtnjfgbbdfdoccaaJnP
namespace Go.Proofs.Ytnjfgbbdfdoccaa
open Go.RowKit Go.ChangeMaps
set_option linter.unusedSimpArgs false
set_option linter.unusedVariables false
set_option maxRecDepth 20000

def Jk.next (J : Jk) (D : Dk) : List (List Int) × Int :=
  if leftP J D < 2 then ([], 0)
  else if leftP J D < (numP ((D.sec J.at_).drop 10) + 81) / 64 + 1 then ([], 0)
  else
    let b := secsP D J.at_ ((numP ((D.sec J.at_).drop 10) + 81) / 64).toNat
    let own := (b.drop 14).take (numP ((D.sec J.at_).drop 10)).toNat
    if b = frameP ((D.sec J.at_).getD 1 0) J.epoch (numP ((D.sec J.at_).drop 6)) own then
      if (D.sec J.at_).getD 1 0 = 0 ∧ 1 ≤ numP ((D.sec J.at_).drop 10) ∧ numP ((D.sec J.at_).drop 10) ≤ 65536 ∧ numP ((D.sec J.at_).drop 6) = (J.l.length : Int) + 1 then ([own], (numP ((D.sec J.at_).drop 10) + 81) / 64)
      else if (D.sec J.at_).getD 1 0 = 1 ∧ J.at_ = beginP D.n J.epoch then
        match partsP own (numP ((D.sec J.at_).drop 6)) with
        | some l => (l, (numP ((D.sec J.at_).drop 10) + 81) / 64)
        | none => ([], 0)
      else ([], 0)
    else ([], 0)
def NextRet (w : World) (base : Nat) (J : Jk) (D : Dk) (e : Ending) (w' : World) : Prop :=
  ∃ lv hs, e = .returned (.tuple #[lv, .int .i64 (J.next D).2, .int .i64 0]) ∧ Mod [] w w' ∧ RecsAt w' base w.heap.size lv hs (J.next D).1
theorem NextRet.none_ {w : World} {base : Nat} {J : Jk} {D : Dk} {w' : World} (h : J.next D = ([], 0)) (hm : Mod [] w w') : NextRet w base J D (.returned (.tuple #[.slice none 0 0, .int .i64 0, .int .i64 0])) w' :=
  ⟨_, [], by rw [h], hm, by rw [h]; exact ⟨OwnR.nil_ _ _, rfl, by simp⟩⟩
theorem OwnR.rec8 {w : World} {base b n c : Nat} {l : List Int} (h : OwnR enc8 1 5 w base (.slice (some ⟨b, 0, none⟩) n c) l) (hb : IsB l) : Rec8 w base ⟨some ⟨b, 0, none⟩, n, c⟩ l := by
  refine ⟨h.row, by obtain ⟨a, c, e⟩ := h.lens; cases e; rfl, hb, fun bb o nn cc e => ?_⟩
  simp only [SlH.val, Value.slice.injEq, Option.some.injEq, Addr.mk.injEq] at e
  obtain ⟨⟨rfl, _, _⟩, _, _⟩ := e
  obtain ⟨cs, h2⟩ := ownsRow_cells h (show (Value.slice (some ⟨b, 0, none⟩) n c).ownBlock = some b from rfl)
  exact ⟨(World.ownsRow.lt h b rfl).1, cs, _, h2⟩
theorem secsP_one (D : Dk) (at_ : Int) : secsP D at_ 1 = D.sec at_ := by
  rw [secsP_succ]
  simp [secsP]
theorem own_new1 {α : Type} {enc : α → List Value} {E : TypeId} (w : World) (x : α) (y : Value) (base : Nat) (hb : base ≤ w.heap.size) (he : enc x = [y]) : OwnR enc 1 E (w.alloc (.cells #[y] E)) base (.slice (some ⟨w.heap.size, 0, none⟩) 1 1) [x] := by
  refine ⟨by simp [flat, he], .inr ⟨w.heap.size, 1, _, rfl, hb, heap_alloc_new w _, Nat.le_refl _, by unfold maxLen; omega, by simp, ?_⟩⟩
  simp [flat, he]
set_option maxHeartbeats 8000000 in
theorem jNext_at {w : World} {base j d m : Nat} {J : Jk} {D : Dk} (h : JAt w base j d m J D) (hk : JOk J D) (hd : D.down = false) (hB : ∀ k, IsB (D.sec k)) (hbs : base ≤ w.heap.size) :
    Calls Try.prog 57 #[.pointer (some ⟨j, 0, none⟩)] w (NextRet w base J D) := by
  have CL := Lib.hid (jLeft_at h hk)
  obtain ⟨hl0, hl1⟩ := leftP_range hk
  have HJ := Lib.hid h
  have HK := Lib.hid hk
  have HB := Lib.hid hB
  have HD := Lib.hid hd
  obtain ⟨n0, n1, ep0, ep1, a0, a1, w0, w1', l0⟩ := hk
  have hbr := beginP_range (ep := J.epoch) n0 n1
  have hsl := fun k => sec_length h.disk k
  have HSL := Lib.hid hsl
  have hle : leftP J D + J.at_ ≤ D.n := by
    unfold leftP beginP
    have hh : 0 ≤ halfP D.n ∧ halfP D.n * 2 ≤ D.n - 2 := by unfold halfP; omega
    have : J.epoch % 2 = 0 ∨ J.epoch % 2 = 1 := by omega
    rcases this with h | h <;> rw [h] <;> omega
  clear h hd hB hsl
  by_cases h2 : leftP J D < 2
  · have HR := Lib.hid (show J.next D = ([], 0) from by unfold Jk.next; rw [if_pos h2])
    generalize leftP J D = lf at CL h2
    have d2 : decide (lf < 2) = true := decide_eq_true h2
    go_enter Try.func57, Try.ntmps57
    go_wp2_with fail
    refine CL.out.mono ?_
    rintro e w1 ⟨rfl, m1⟩
    have HE := Lib.hid (NextRet.none_ (base := base) HR.out m1)
    clear m1
    go_wp2_with fail
    go_ret3
    exact HE.out
  have HNX0 := Lib.hid (show J.next D = _ from by unfold Jk.next; rw [if_neg h2])
  have HL3 := Lib.hid (fun (W : World) (mW : Mod [] w W) => jLeft_at (HJ.out.kept0 mW) HK.out)
  have hS64 := HSL.out J.at_
  have HSB := Lib.hid (HB.out J.at_)
  generalize leftP J D = lf at CL h2 hl0 hl1 hle HNX0 HL3
  have d2 : decide (lf < 2) = false := decide_eq_false h2
  obtain ⟨sz, hsz⟩ := Int.eq_ofNat_of_zero_le (numP_range (HSB.out.drop 10)).1
  have hszr := (numP_range (HSB.out.drop 10)).2
  obtain ⟨nn0, nn1⟩ := numP_range (HSB.out.drop 6)
  obtain ⟨Mn, hMn⟩ : ∃ Mn : Nat, ((sz : Int) + 81) / 64 = Mn := ⟨(sz + 81) / 64, by omega⟩
  rw [hsz, hMn] at HNX0
  rw [hsz] at hszr
  have hMs : sz + 18 ≤ Mn * 64 ∧ 1 ≤ Mn ∧ Mn ≤ 100000000 := by omega
  have HNX := Lib.hid (show J.next D = _ from HNX0.out)
  simp only [Int.toNat_natCast] at HNX
  clear HNX0
  go_enter Try.func57, Try.ntmps57
  go_wp2_with fail
  refine CL.out.mono ?_
  rintro e w1 ⟨rfl, m1⟩
  have HM1 := Lib.hid m1
  have hj1 := HJ.out.kept0 m1
  obtain ⟨q0, q1, q2, q4⟩ := hj1.cells
  have hd1 := hj1.disk.kept ((Mod.refl [] w1).drew) (by simp) (by simp)
  have CS1 := Lib.hid (jSectors_at hd1 HD.out J.at_ 1 (by omega) (by omega) n1)
  rw [secsP_one] at CS1
  clear m1 hj1 hd1 CL
  go_wp2_with fail
  refine wp_plan [([0, 4, 1, 5, 2, 6, 3, 7], 8, [])] [9, 10, 11, 12, 13] (by kernel_rfl) (by kernel_rfl) ?_
  simp only [wpSegs, opsOf, List.map_cons, List.map_nil, opN, List.getD_cons_zero, List.getD_cons_succ]
  go_wp2_with fail
  refine ⟨by first | trivial | rfl, ?_⟩
  go_wp2_with fail
  refine CS1.out.mono ?_
  rintro e w2 ⟨b1v, rfl, hb1, m2⟩
  have hm2 : Mod [] w w2 := HM1.out.trans ((Mod.refl [] w1).drew.trans m2)
  obtain ⟨g1, c1, rfl, _, hc1⟩ := hb1.at_ (show (D.sec J.at_)[0]? = some ((D.sec J.at_)[0]'(by omega)) from List.getElem?_eq_getElem _)
  rw [hS64] at hb1 hc1 ⊢
  have hS1 : (D.sec J.at_)[1]? = some ((D.sec J.at_).getD 1 0) := by
    rw [List.getD_eq_getElem?_getD, List.getElem?_eq_getElem (by omega)]; rfl
  have kc := (OwnR.cell enc8_len (l := D.sec J.at_) (by rw [hS64]; exact hb1) (i := 1) (by omega) (j := 0) (by omega) (u := .int .u8 ((D.sec J.at_).getD 1 0)) (by
    have : (D.sec J.at_)[1]'(by omega) = (D.sec J.at_).getD 1 0 := by rw [List.getD_eq_getElem?_getD, List.getElem?_eq_getElem (by omega)]; rfl
    rw [this]; rfl)).1
  simp only [Nat.one_mul, Nat.add_zero] at kc
  have hkr : 0 ≤ (D.sec J.at_).getD 1 0 ∧ (D.sec J.at_).getD 1 0 < 256 := HSB.out _ (List.mem_of_getElem? hS1)
  have hr6 : RowAt enc8 w2 (.slice (some ⟨g1, 6, none⟩) 58 (c1 - 6)) ((D.sec J.at_).drop 6) := by
    have := RowAt.rest (l := D.sec J.at_) (o := 0) (by rw [hS64]; exact hb1.row) 6 (by omega)
    rw [hS64] at this
    simpa using this
  have hr10 : RowAt enc8 w2 (.slice (some ⟨g1, 10, none⟩) 54 (c1 - 10)) ((D.sec J.at_).drop 10) := by
    have := RowAt.rest (l := D.sec J.at_) (o := 0) (by rw [hS64]; exact hb1.row) 10 (by omega)
    rw [hS64] at this
    simpa using this
  have md2 := (Mod.refl [] w2).drew
  have CN6 := Lib.hid (jNumber_at (hr6.kept0 md2) (by rw [List.length_drop]; omega) (HSB.out.drop 6))
  have HR10 := Lib.hid hr10
  have HM2 := Lib.hid hm2
  have HKC := Lib.hid kc
  generalize (D.sec J.at_).getD 1 0 = kd at HNX kc hkr HKC
  generalize hnn : numP ((D.sec J.at_).drop 6) = nn at CN6 nn0 nn1 HNX
  have hc16 : ¬ c1 = 6 := by omega
  have hc110 : ¬ c1 = 10 := by omega
  have hc11 : 10 ≤ c1 ∧ 6 ≤ c1 := by omega
  clear hb1 m2 hm2 hr6 hr10 md2 CS1 q0 q1 q2 q4 hnn hS1
  go_wp2_with fail
  refine ⟨again_nil, ?_⟩
  go_wp2_with fail
  refine ⟨by first | trivial | rfl, ?_⟩
  go_wp2_with fail
  refine wp_plan [([0, 3, 6, 1, 4, 7, 2], 5, [1, 7, 2]), ([], 8, [1, 2])] [9, 10, 11] (by kernel_rfl) (by kernel_rfl) ?_
  simp only [wpSegs, opsOf, List.map_cons, List.map_nil, opN, List.getD_cons_zero, List.getD_cons_succ]
  go_wp2_with fail
  refine ⟨by first | trivial | rfl, ?_⟩
  go_wp2_with fail
  refine CN6.out.mono ?_
  rintro e w3 ⟨rfl, m3⟩
  have hm23 : Mod [] w2 w3 := (Mod.refl [] w2).drew.trans m3
  have k3 := hm23.cellD HKC.out
  have CN10 := Lib.hid (jNumber_at (HR10.out.kept0 hm23) (by rw [List.length_drop]; omega) (HSB.out.drop 10))
  rw [hsz] at CN10
  have HM23 := Lib.hid hm23
  clear m3 hm23 CN6 kc
  go_wp2_with fail
  refine ⟨?ag6, ?_⟩
  case ag6 =>
    intro i hi hw
    simp only [List.mem_cons, List.not_mem_nil, or_false] at hi
    rcases hi with rfl | rfl | rfl
    all_goals (simp only [opN, List.getD_cons_zero, List.getD_cons_succ, slotOf]; go_simp)
  go_wp2_with fail
  refine ⟨by first | trivial | rfl, ?_⟩
  go_wp2_with fail
  refine CN10.out.mono ?_
  rintro e w4 ⟨rfl, m4⟩
  have hm24 := HM23.out.trans m4
  have k4 := hm24.cellD HKC.out
  have hm4 : Mod [] w w4 := HM2.out.trans hm24
  have CM := Lib.hid (jMany_at (sz : Int) (by omega) (by omega) w4)
  rw [hMn] at CM
  have CL4 := Lib.hid (HL3.out w4 hm4)
  have HM4 := Lib.hid hm4
  clear m4 hm24 hm4 CN10 k3 HL3
  go_wp2_with fail
  refine ⟨?ag7, ?_⟩
  case ag7 =>
    intro i hi hw
    simp only [List.mem_cons, List.not_mem_nil, or_false] at hi
    rcases hi with rfl | rfl
    all_goals (simp only [opN, List.getD_cons_zero, List.getD_cons_succ, slotOf]; go_simp)
  go_wp2_with fail
  refine ⟨by first | trivial | rfl, ?_⟩
  clear k4
  go_wp2_with fail
  refine CM.out.mono ?_
  rintro e w' ⟨rfl, rfl⟩
  clear CM
  go_wp2_with fail
  refine CL4.out.mono ?_
  rintro e w5 ⟨rfl, m5⟩
  have HM5 := Lib.hid (HM4.out.trans m5)
  clear m5 CL4
  by_cases h3 : lf < (Mn : Int) + 1
  · have HR := Lib.hid (show J.next D = ([], 0) from by rw [HNX.out, if_pos h3])
    have HE := Lib.hid (NextRet.none_ (base := base) HR.out HM5.out)
    have d3 : decide (lf < (Mn : Int) + 1) = true := decide_eq_true h3
    go_wp2_with fail
    go_ret3
    exact HE.out
  have d3 : decide (lf < (Mn : Int) + 1) = false := decide_eq_false h3
  have HNX := Lib.hid (show J.next D = _ from by rw [HNX.out, if_neg h3])
  have hj5 := HJ.out.kept0 HM5.out
  obtain ⟨q0, q1, q2, q4⟩ := hj5.cells
  have hd5 := hj5.disk.kept ((Mod.refl [] w5).drew) (by simp) (by simp)
  have CS2 := Lib.hid (jSectors_at hd5 HD.out J.at_ Mn (by omega) (by omega) n1)
  have hBl : (secsP D J.at_ Mn).length = Mn * 64 := secsP_len HSL.out J.at_ Mn
  have hBb := secsP_isB HB.out J.at_ Mn
  generalize secsP D J.at_ Mn = B at CS2 HNX hBl hBb
  have HBB := Lib.hid hBb
  have HBL := Lib.hid hBl
  have hMt : Mn ≤ 65536 := by omega
  clear hj5 hd5 h3 hBb hBl
  go_wp2_with fail
  refine wp_plan [([0, 4, 8, 1, 5, 2, 6, 3, 7], 9, [])] [10, 11, 12, 13, 14] (by kernel_rfl) (by kernel_rfl) ?_
  simp only [wpSegs, opsOf, List.map_cons, List.map_nil, opN, List.getD_cons_zero, List.getD_cons_succ]
  go_wp2_with fail
  refine ⟨by first | trivial | rfl, ?_⟩
  go_wp2_with fail
  refine CS2.out.mono ?_
  rintro e w6 ⟨b2v, rfl, hb2, m6⟩
  have hm6 : Mod [] w w6 := HM5.out.trans ((Mod.refl [] w5).drew.trans m6)
  have hBl := HBL.out
  obtain ⟨g2, c2, rfl, _, hc2⟩ := hb2.at_ (show B[0]? = some (B[0]'(by omega)) from List.getElem?_eq_getElem _)
  rw [hBl] at hb2 hc2 ⊢
  have hb2' := hb2.mono HM5.out.drew.size
  have hrb : Rec8 w6 w.heap.size ⟨some ⟨g2, 0, none⟩, Mn * 64, c2⟩ B := hb2'.rec8 HBB.out
  have hrest := RowAt.rest (l := B) (o := 0) (by rw [hBl]; exact hb2.row) 14 (by omega)
  rw [Nat.zero_add, ← List.length_drop] at hrest
  have htake := RowAt.take enc8_len hrest sz (by rw [List.length_drop]; omega)
  have hro : Rec8 w6 w.heap.size ⟨some ⟨g2, 14, none⟩, sz, c2 - 14⟩ ((B.drop 14).take sz) := hrb.part htake (by rw [List.length_take, List.length_drop]; omega) ((HBB.out.drop 14).take sz)
  have hol : ((B.drop 14).take sz).length = sz := by rw [List.length_take, List.length_drop]; omega
  have HOL := Lib.hid hol
  have HRO := Lib.hid hro
  have HRB := Lib.hid hrb
  have HM6 := Lib.hid hm6
  generalize (B.drop 14).take sz = own at HRO HNX HOL
  have hj6 := HJ.out.kept0 hm6
  obtain ⟨q0', q1', q2', q4'⟩ := hj6.cells
  have CB := Lib.hid (jBegin_at (hj6.disk.kept ((Mod.refl [] w6).drew) (by simp) (by simp)) ⟨by omega, n1⟩ J.epoch ep0 (by omega))
  have CF := Lib.hid (jFrame_at (HRO.out.kept0 ((Mod.refl [] w6).drew)).row (by rw [HOL.out]; omega) HRO.out.isb kd J.epoch nn hkr ⟨ep0, by omega⟩ ⟨nn0, by omega⟩)
  obtain ⟨vj, hsj, f1, f2, f3, f4⟩ := hj6.ex
  have q3' : w6.cell? ⟨j, 3, none⟩ = some vj := by rw [cell_blk f1]; rfl
  obtain ⟨vja, vjc, rfl⟩ := f2.lens
  have HF3 := Lib.hid f3
  have h14 : ¬ c2 = 14 := by omega
  have h14b : 14 + sz ≤ c2 := by omega
  have h14c : (14 : Int) + sz ≤ c2 := by omega
  simp only [SlH.val] at CF
  clear hb2 hb2' m6 hm6 hrb hrest htake hro hol hj6 f1 f2 f3 f4 CS2 q0 q1 q2 q4 hBl
  obtain ⟨bg, hbg⟩ : ∃ bg, beginP D.n J.epoch = bg := ⟨_, rfl⟩
  rw [hbg] at CB HNX hbr
  have HFST : Hid (∃ ff : Bool, (J.at_ == bg) = ff ∧ (ff = true ↔ J.at_ = bg)) := Lib.hid ⟨J.at_ == bg, rfl, by simp⟩
  obtain ⟨ff, hff, hffi⟩ := HFST.out
  have HFI := Lib.hid hffi
  clear hbg hffi HFST
  go_wp2_with fail
  refine ⟨again_nil, ?_⟩
  go_wp2_with fail
  refine ⟨by first | trivial | rfl, ?_⟩
  go_wp2_with fail
  refine wp_plan [([0, 4, 8, 1, 5, 9, 2, 6, 10, 3, 7, 11], 12, [1, 2, 3])] [13, 14] (by kernel_rfl) (by kernel_rfl) ?_
  simp only [wpSegs, opsOf, List.map_cons, List.map_nil, opN, List.getD_cons_zero, List.getD_cons_succ]
  go_wp2_with fail
  refine ⟨by first | trivial | rfl, ?_⟩
  go_wp2_with fail
  refine CB.out.mono ?_
  rintro e w' ⟨rfl, rfl⟩
  clear CB
  go_wp2_with fail
  refine ⟨?ag14, ?_⟩
  case ag14 =>
    intro i hi hw
    simp only [List.mem_cons, List.not_mem_nil, or_false] at hi
    rcases hi with rfl | rfl | rfl
    all_goals (simp only [opN, List.getD_cons_zero, List.getD_cons_succ, slotOf]; go_simp)
  go_wp2_with fail
  refine ⟨by first | trivial | rfl, ?_⟩
  go_wp2_with fail
  refine CF.out.mono ?_
  rintro e w7 ⟨fv, rfl, hfr, m7⟩
  have hm67 : Mod [] w6 w7 := (Mod.refl [] w6).drew.trans m7
  have CE := Lib.hid (byEqual_at (HRB.out.kept0 hm67).row hfr.row HBB.out (frameP_isB hkr HRO.out.isb))
  simp only [SlH.val] at CE
  have HM7 := Lib.hid (HM6.out.trans hm67)
  have HRO7 := Lib.hid (HRO.out.kept0 hm67)
  have q3 := hm67.cellD q3'
  generalize frameP kd J.epoch nn own = FR at CE HNX
  obtain ⟨fva, fvc, rfl⟩ := hfr.lens
  have hnl : (hsj.length : Int) = (J.l.length : Int) := by rw [HF3.out]
  have HNL := Lib.hid hnl
  have hsjl : hsj.length ≤ 1048576 := by rw [HF3.out]; exact l0
  clear hfr m7 hm67 CF q0' q1' q2' q3' q4' hnl
  go_wp2_with fail
  refine CE.out.mono ?_
  rintro e w' ⟨rfl, rfl⟩
  clear CE
  by_cases hok : B = FR
  · have hokd : decide (B = FR) = true := decide_eq_true hok
    have HNX1 := Lib.hid (show J.next D = _ from by rw [HNX.out, if_pos hok])
    rw [hokd]
    clear hok hokd
    by_cases k0 : kd = 0
    · subst k0
      have hno : ¬ ((0 : Int) = 1 ∧ J.at_ = bg) := fun h => absurd h.1 (by decide)
      by_cases z1 : 1 ≤ (sz : Int)
      · have y1 : decide (1 ≤ (sz : Int)) = true := decide_eq_true z1
        by_cases z2 : (sz : Int) ≤ 65536
        · have y2 : decide ((sz : Int) ≤ 65536) = true := decide_eq_true z2
          by_cases z3 : nn = (J.l.length : Int) + 1
          · have y3 : (nn == (hsj.length : Int) + 1) = true := by rw [HNL.out]; simpa using z3
            have y3' : decide (nn = (hsj.length : Int) + 1) = true := by rw [HNL.out]; exact decide_eq_true z3
            have HR := Lib.hid (show J.next D = ([own], (Mn : Int)) from by rw [HNX1.out, if_pos ⟨rfl, z1, z2, z3⟩])
            have HE := Lib.hid (show NextRet w base J D (.returned (.tuple #[.slice (some ⟨w7.heap.size, 0, none⟩) 1 1, .int .i64 Mn, .int .i64 0])) (w7.alloc (.cells #[.slice (some ⟨g2, 14, none⟩) sz (c2 - 14)] 33)) from
              ⟨_, [⟨some ⟨g2, 14, none⟩, sz, c2 - 14⟩], by rw [HR.out], HM7.out.alloc _, by
                rw [HR.out]
                refine ⟨own_new1 (enc := encH) w7 ⟨some ⟨g2, 14, none⟩, sz, c2 - 14⟩ _ _ HM7.out.size rfl, rfl, fun i x l h1 h2 => ?_⟩
                have hi : i = 0 := by have := (List.getElem?_eq_some_iff.1 h1).1; simpa using this
                subst hi
                cases h1; cases h2
                have hr := HRO7.out.kept0 ((Mod.refl [] w7).alloc (.cells #[.slice (some ⟨g2, 14, none⟩) sz (c2 - 14)] 33))
                exact ⟨hr.row, hr.len, hr.isb, fun bb o n c e => by
                  obtain ⟨h0, h3⟩ := hr.typ bb o n c e
                  exact ⟨by omega, h3⟩⟩⟩)
            clear z3
            go_wp2_with fail
            go_ret3
            exact HE.out
          · have y3 : (nn == (hsj.length : Int) + 1) = false := by rw [HNL.out]; simpa using z3
            have y3' : decide (nn = (hsj.length : Int) + 1) = false := by rw [HNL.out]; exact decide_eq_false z3
            have HR := Lib.hid (show J.next D = ([], 0) from by rw [HNX1.out, if_neg (fun h => z3 h.2.2.2), if_neg hno])
            have HE := Lib.hid (NextRet.none_ (base := base) HR.out HM7.out)
            go_wp2_with fail
            go_ret3
            exact HE.out
        · have y2 : decide ((sz : Int) ≤ 65536) = false := decide_eq_false z2
          have HR := Lib.hid (show J.next D = ([], 0) from by rw [HNX1.out, if_neg (fun h => z2 h.2.2.1), if_neg hno])
          have HE := Lib.hid (NextRet.none_ (base := base) HR.out HM7.out)
          go_wp2_with fail
          go_ret3
          exact HE.out
      · have y1 : decide (1 ≤ (sz : Int)) = false := decide_eq_false z1
        have HR := Lib.hid (show J.next D = ([], 0) from by rw [HNX1.out, if_neg (fun h => z1 h.2.1), if_neg hno])
        have HE := Lib.hid (NextRet.none_ (base := base) HR.out HM7.out)
        go_wp2_with fail
        go_ret3
        exact HE.out
    · have e0 : (kd == 0) = false := by simpa using k0
      have e0' : decide (kd = 0) = false := decide_eq_false k0
      have HNX2 := Lib.hid (show J.next D = _ from by rw [HNX1.out, if_neg (fun h => k0 h.1)])
      clear k0
      by_cases k1 : kd = 1
      · subst k1
        cases ff with
        | false =>
          have HR := Lib.hid (show J.next D = ([], 0) from by rw [HNX2.out, if_neg (fun h => by have := HFI.out.2 h.2; cases this)])
          have HE := Lib.hid (NextRet.none_ (base := base) HR.out HM7.out)
          go_wp2_with fail
          go_ret3
          exact HE.out
        | true =>
          have HNX3 := Lib.hid (show J.next D = _ from by rw [HNX2.out, if_pos ⟨rfl, HFI.out.1 rfl⟩])
          have CP := Lib.hid (jParts_at HRO7.out (by rw [HOL.out]; omega) nn)
          simp only [SlH.val] at CP
          go_wp2_with fail
          refine CP.out.mono ?_
          rintro e w8 ⟨lv, ok, rfl, hm8, hp⟩
          rcases hp with ⟨l, hs, hp, rfl, hrec⟩ | ⟨hp, rfl⟩
          · have HR := Lib.hid (show J.next D = (l, (Mn : Int)) from by rw [HNX3.out, hp])
            obtain ⟨lva, lvc, rfl⟩ := hrec.own.lens
            have HE := Lib.hid (show NextRet w base J D (.returned (.tuple #[.slice lva hs.length lvc, .int .i64 Mn, .int .i64 0])) w8 from
              ⟨_, hs, by rw [HR.out], HM7.out.trans hm8, by
                rw [HR.out]
                refine ⟨hrec.own.mono HM7.out.size, hrec.len, fun i x l' h1 h2 => ?_⟩
                have hr := hrec.rel i x l' h1 h2
                exact ⟨hr.row, hr.len, hr.isb, fun bb o n c e => by
                  obtain ⟨h0, h3⟩ := hr.typ bb o n c e
                  exact ⟨by omega, h3⟩⟩⟩)
            clear hrec hm8 hp CP
            go_wp2_with fail
            go_ret3
            exact HE.out
          · have HR := Lib.hid (show J.next D = ([], 0) from by rw [HNX3.out, hp])
            have HE := Lib.hid (NextRet.none_ (base := base) HR.out (HM7.out.trans hm8))
            clear hm8 hp CP
            go_wp2_with fail
            go_ret3
            exact HE.out
      · have e1 : (kd == 1) = false := by simpa using k1
        have e1' : decide (kd = 1) = false := decide_eq_false k1
        have HR := Lib.hid (show J.next D = ([], 0) from by rw [HNX2.out, if_neg (fun h => k1 h.1)])
        have HE := Lib.hid (NextRet.none_ (base := base) HR.out HM7.out)
        clear k1
        go_wp2_with fail
        go_ret3
        exact HE.out
  · have hokd : decide (B = FR) = false := decide_eq_false hok
    rw [hokd]
    have HR := Lib.hid (show J.next D = ([], 0) from by rw [HNX.out, if_neg hok])
    have HE := Lib.hid (NextRet.none_ (base := base) HR.out HM7.out)
    clear hok hokd
    go_wp2_with fail
    go_ret3
    exact HE.out
end Go.Proofs.Ytnjfgbbdfdoccaa
