/- The library's stable sort at rectangles, whole. -/
import Derived.Test.YtngglpekdjhbdaaBzI
import Derived.Deep.CutRange
namespace Go.Proofs.Ytngglpekdjhbdaa
open Go.RowKit Go.ChangeMaps Go.Deep
set_option linter.unusedSimpArgs false
set_option linter.unusedVariables false
set_option maxRecDepth 20000

theorem sym_u {α : Type} (P U V R : List α) {c : Nat} (hc : c < U.length) : (P ++ ((U ++ V) ++ R))[P.length + c]? = some U[c] := by
  rw [List.getElem?_append_right (by omega), show P.length + c - P.length = c by omega, List.append_assoc, List.getElem?_append_left hc, List.getElem?_eq_getElem hc]
theorem sym_v {α : Type} (P U V R : List α) {c : Nat} (hc : c < V.length) : (P ++ ((U ++ V) ++ R))[P.length + U.length + c]? = some V[c] := by
  rw [List.getElem?_append_right (by omega), show P.length + U.length + c - P.length = U.length + c by omega, List.append_assoc, List.getElem?_append_right (by omega), show U.length + c - U.length = c by omega, List.getElem?_append_left hc, List.getElem?_eq_getElem hc]
structure SymC (n : Nat) : Prop where
  go : ∀ {w : World} {base g N cap a m b : Nat} {P U V R : List Rc}, U.length + V.length ≤ n → RcRow w base g N cap (P ++ ((U ++ V) ++ R)) → P.length = a → a + U.length = m → m + V.length = b → a < m → m < b → N ≤ 1000000 → Srt ltR U → Srt ltR V →
    Calls Try.prog 102 #[.slice (some ⟨g, 0, none⟩) N cap, .int .i64 a, .int .i64 m, .int .i64 b, .func (.func 53) #[] #[]] w fun e w' => e = .returned (.tuple #[]) ∧ SymPost w base g N cap P (U ++ V) R w'
set_option maxHeartbeats 16000000 in
theorem sym_step {n : Nat} (ih : SymC n) {w : World} {base g N cap a m b : Nat} {P U V R : List Rc} (hn : U.length + V.length ≤ n + 1) (h : RcRow w base g N cap (P ++ ((U ++ V) ++ R))) (ha : P.length = a) (hm : a + U.length = m) (hb : m + V.length = b) (hU1 : 1 < U.length) (hV1 : 1 < V.length) (hN : N ≤ 1000000) (hU : Srt ltR U) (hV : Srt ltR V) :
    Calls Try.prog 102 #[.slice (some ⟨g, 0, none⟩) N cap, .int .i64 a, .int .i64 m, .int .i64 b, .func (.func 53) #[] #[]] w fun e w' => e = .returned (.tuple #[]) ∧ SymPost w base g N cap P (U ++ V) R w' := by
  have HM := Lib.hid (Mod.refl [g] w)
  have e1 : ((m : Int) - (a : Int) == 1) = false := by simp; omega
  have e2 : ((b : Int) - (m : Int) == 1) = false := by simp; omega
  have hlen : b ≤ N := by have := h.len; simp only [List.length_append, List.length_cons] at this; omega
  have HR := Lib.hid h
  have HIH := Lib.hid ih
  obtain ⟨mid, hmid⟩ : ∃ mid, mid = (a + b) / 2 := ⟨_, rfl⟩
  obtain ⟨nn, hnn⟩ : ∃ nn, nn = mid + m := ⟨_, rfl⟩
  obtain ⟨p, hp⟩ : ∃ p, nn = p + 1 := ⟨nn - 1, by omega⟩
  have hb' := sym_bounds (a := a) (m := m) (b := b) (by omega) (by omega)
  obtain ⟨s0, hs0⟩ : ∃ s0, s0 = symLo a m b := ⟨_, rfl⟩
  obtain ⟨r0, hr0⟩ : ∃ r0, r0 = symHi a m b := ⟨_, rfl⟩
  rw [← hs0, ← hr0, ← hmid] at hb'
  obtain ⟨b1, b2, b3, b4, b5⟩ := hb'
  have HU := Lib.hid hU
  have HV := Lib.hid hV
  have HF := Lib.hid (show SymAt ltR U V a mid s0 r0 s0 r0 from ⟨Nat.le_refl _, by omega, Nat.le_refl _, .inl rfl, .inl rfl⟩)
  have HMID := Lib.hid hmid
  have HNN := Lib.hid hnn
  have HP := Lib.hid hp
  have HS0 := Lib.hid hs0
  have HR0 := Lib.hid hr0
  have HA := Lib.hid ha
  have HMM := Lib.hid hm
  have HB := Lib.hid hb
  have hmb : mid ≤ b := by omega
  have hpN : p + 1 ≤ 2 * N := by omega
  clear h ih hU hV hs0 hr0 ha hm hb
  go_enter Try.func102, Try.ntmps102
  go_upto_region 25 with fail
  simp only [show ((a : Int) + (b : Int)) / 2 = (mid : Int) from by omega]
  clear hmid
  go_upto_region 26 with fail
  simp only [show (mid : Int) + (m : Int) = (nn : Int) from by omega]
  clear hp hnn
  go_upto_if 140 with fail
  go_cut [20, 21] from 141 to 146 (fun s20 s21 wx => s20 = .int .i64 (s0 : Int) ∧ s21 = .int .i64 (r0 : Int) ∧ wx = w)
  case first =>
    by_cases hc : mid < m
    · have hdec : decide ((mid : Int) < (m : Int)) = true := decide_eq_true (by omega)
      have z1 := HS0.out
      have z2 := HR0.out
      have z3 := HMID.out
      have z4 := HNN.out
      unfold symLo at z1
      unfold symHi at z2
      rw [← z3, if_pos hc] at z1 z2
      have es : (nn : Int) - (b : Int) = (s0 : Int) := by omega
      clear HS0 HR0 HF HNN HMID HP
      subst z2
      clear z1 z3 z4
      go_wp2_with fail
      go_meet
      case rel => exact ⟨rfl, rfl, rfl⟩
    · have hdec : decide ((mid : Int) < (m : Int)) = false := decide_eq_false (by omega)
      have z1 := HS0.out
      have z2 := HR0.out
      have z3 := HMID.out
      unfold symLo at z1
      unfold symHi at z2
      rw [← z3, if_neg hc] at z1 z2
      clear HS0 HR0 HF HNN HMID HP
      subst z1 z2
      clear z3
      go_wp2_with fail
      go_meet
      case rel => exact ⟨rfl, rfl, rfl⟩
  case rest =>
    obtain ⟨rfl, rfl, hwc⟩ := hcut
    rw [hwc]
    clear hwc wc
    have ep : (nn : Int) - 1 = (p : Int) := by have := HP.out; omega
    go_wp2_with fail
    go_loopw [20, 21] (fun s20 s21 W => ∃ s r : Nat, s20 = .int .i64 (s : Int) ∧ s21 = .int .i64 (r : Int) ∧ s0 ≤ s ∧ s ≤ r ∧ r ≤ r0 ∧ Hid (SymAt ltR U V a mid s0 r0 s r) ∧ Hid (RcRow W base g N cap (P ++ ((U ++ V) ++ R))) ∧ Hid (Mod [g] w W)) (fun s20 s21 _ => (intOf s21).toNat - (intOf s20).toNat)
    case atStart => exact ⟨s0, r0, rfl, rfl, by omega, by omega, by omega, HF, HR, HM⟩
    case round =>
      obtain ⟨s, r, rfl, rfl, hs1, hsr, hr1, hF, hR, hM⟩ := hrel
      clear HF HR HM
      by_cases hlt : s < r
      · obtain ⟨h, hh⟩ : ∃ h, h = (s + r) / 2 := ⟨_, rfl⟩
        have hh1 : s ≤ h ∧ h < r := by omega
        go_upto_region 35 with fail
        simp only [show ((s : Int) + (r : Int)) / 2 = (h : Int) from by omega]
        have z4 := HNN.out
        have z5 := HP.out
        obtain ⟨pc, hpc⟩ : ∃ pc, p = h + pc := ⟨p - h, by omega⟩
        have hcU : h - a < U.length := by have := HMM.out; omega
        have hcV : mid - 1 - h < V.length := by have := HMM.out; have := HB.out; omega
        have k1 := sym_v P U V R hcV
        have k2 := sym_u P U V R hcU
        rw [show P.length + U.length + (mid - 1 - h) = pc from by have := HA.out; have := HMM.out; omega] at k1
        rw [show P.length + (h - a) = h from by have := HA.out; omega] at k2
        obtain ⟨y, hy⟩ : ∃ y, V[mid - 1 - h]'hcV = y := ⟨_, rfl⟩
        obtain ⟨x, hx⟩ : ∃ x, U[h - a]'hcU = x := ⟨_, rfl⟩
        rw [hy] at k1
        rw [hx] at k2
        have hxg : U[(s + r) / 2 - a]? = some x := by rw [← hh, List.getElem?_eq_getElem hcU, hx]
        have hyg : V[mid - 1 - (s + r) / 2]? = some y := by rw [← hh, List.getElem?_eq_getElem hcV, hy]
        have rowD := hR.out.kept0 ((Mod.refl [] wr).drew)
        have L1 := Lib.hid (rowD.load k1)
        have L2 := Lib.hid (rowD.load k2)
        have C := Lib.hid (fun W => rects1_any y x W)
        simp only [rcV] at C
        obtain ⟨q1, q2⟩ := hF.out.mid hlt hxg hyg
        rw [← hh] at q1 q2
        have hhN : h < N := by omega
        have hpcN : pc < N := by have := HMM.out; have := HB.out; omega
        have ec : (p : Int) - (h : Int) = (pc : Int) := by omega
        clear k1 k2 hxg hyg hF hpc hh hx hy hcU hcV z4 z5
        refine wp_plan [([0, 1, 2, 3, 7, 8, 4, 9, 10, 5, 6], 11, [])] [12, 13] (by kernel_rfl) (by kernel_rfl) ?_
        simp only [wpSegs, opsOf, List.map_cons, List.map_nil, opN, List.getD_cons_zero, List.getD_cons_succ]
        go_wp2_with (first | ((with_reducible refine xLoadAt rfl L1.out ?_ ?_ ?_); exact rfl; exact rfl) | ((with_reducible refine xLoadAt rfl L2.out ?_ ?_ ?_); exact rfl; exact rfl))
        refine ⟨by first | trivial | rfl, ?_⟩
        go_wp2_with fail
        refine (C.out _).mono ?_
        rintro e w1 ⟨rfl, m1⟩
        have HR2 := Lib.hid (rowD.kept0 m1)
        have HM2 := Lib.hid ((hM.out.trans ((Mod.refl [] wr).drew).nil).trans m1.nil)
        clear L1 L2 C rowD m1 hR hM
        by_cases hc0 : ordR y x < 0
        · have dc : decide (ordR y x < 0) = true := decide_eq_true hc0
          have HF2 := Lib.hid (q2 (by unfold ltR; exact dc))
          clear q1 q2
          go_wp2_with fail
          refine ⟨again_nil, ?_⟩
          go_wp2_with fail
          refine ⟨by first | trivial | rfl, ?_⟩
          go_wp2_with fail
          go_roundw
          case rel => exact ⟨s, h, rfl, rfl, by omega, by omega, by omega, HF2, HR2, HM2⟩
          case measure => simp [intOf]; omega
        · have dc : decide (ordR y x < 0) = false := decide_eq_false hc0
          have HF2 := Lib.hid (q1 (by unfold ltR; exact dc))
          clear q1 q2
          go_wp2_with fail
          refine ⟨again_nil, ?_⟩
          go_wp2_with fail
          refine ⟨by first | trivial | rfl, ?_⟩
          go_wp2_with fail
          go_roundw
          case rel => exact ⟨h + 1, r, by go_num, rfl, by omega, by omega, by omega, HF2, HR2, HM2⟩
          case measure => simp [intOf]; omega
      · obtain rfl : s = r := by omega
        have z4 := HNN.out
        have z5 := HP.out
        have z6 := HMID.out
        have z7 := HMM.out
        have z8 := HB.out
        have z9 := HA.out
        have hcut0 := sym_cut ordLtR z7.symm z8.symm (by omega) (by omega) z6 HU.out HV.out (by rw [← HS0.out, ← HR0.out]; exact hF.out)
        have HCUT := Lib.hid hcut0
        obtain ⟨e, he⟩ : ∃ e, nn = s + e := ⟨nn - s, by omega⟩
        have ee : (nn : Int) - (s : Int) = (e : Int) := by omega
        have hse : e = mid + m - s := by omega
        have HSE := Lib.hid hse
        have hes : m ≤ e ∧ e ≤ b := by omega
        have hsm : a ≤ s ∧ s ≤ mid ∧ s ≤ m := by omega
        have CR := Lib.hid (fun (hq : s < m ∧ m < e) => rot_at (fv := .func (.func 53) #[] #[]) (a := s) (m := m) (b := e) hR.out (by
          have := sym_rot P U V R (n := s - a) (k := mid - s) (by omega) (by omega) (m := m) (by omega)
          rw [show U.length - (s - a) = m - s from by omega, show mid - s = e - m from by omega] at this
          rw [show e - m = mid - s from by omega] at this ⊢
          exact this) hq.1 hq.2 hN)
        have CS := Lib.hid (fun (hq : ¬ (s < m ∧ m < e)) => sym_same P U V R (n := s - a) (k := mid - s) (by omega))
        clear z4 z5 z6 z7 z8 z9 hcut0 he hse hF
        go_upto_region 39 with fail
        go_cut [185] from 178 to 185 (fun s185 wx => ∃ B : Bool, s185 = .bool B ∧ Hid (B = decide (s < m ∧ m < e)) ∧ wx = wr)
        case first =>
          clear CR CS
          by_cases hq1 : s < m
          · have dq1 : decide ((s : Int) < (m : Int)) = true := decide_eq_true (by omega)
            by_cases hq2 : m < e
            · have dq2 : decide ((m : Int) < (e : Int)) = true := decide_eq_true (by omega)
              go_wp2_with fail
              go_meet
              case rel => exact ⟨true, rfl, Lib.hid (decide_eq_true (show s < m ∧ m < e from ⟨hq1, hq2⟩)).symm, rfl⟩
            · have dq2 : decide ((m : Int) < (e : Int)) = false := decide_eq_false (by omega)
              go_wp2_with fail
              go_meet
              case rel => exact ⟨false, rfl, Lib.hid (decide_eq_false (show ¬ (s < m ∧ m < e) from fun h => hq2 h.2)).symm, rfl⟩
          · have dq1 : decide ((s : Int) < (m : Int)) = false := decide_eq_false (by omega)
            go_wp2_with fail
            go_meet
            case rel => exact ⟨false, rfl, Lib.hid (decide_eq_false (show ¬ (s < m ∧ m < e) from fun h => hq1 h.1)).symm, rfl⟩
        case rest =>
          obtain ⟨B1, rfl, HB1, hwc⟩ := hcut
          rw [hwc]
          clear hwc wc
          go_upto_if 185 with fail
          go_cut [] from 186 to 191 (fun wx => Hid (RcRow wx base g N cap (symMid P U V R (s - a) (mid - s)) ∧ Mod [g] w wx))
          case first =>
            cases B1 with
            | true =>
              have hq := of_decide_eq_true HB1.out.symm
              have CR' := Lib.hid (CR.out hq)
              clear CR CS hq
              go_wp2_with fail
              refine CR'.out.mono ?_
              rintro e1 w2 ⟨rfl, hl2, m2⟩
              have HX : Hid (RcRow w2 base g N cap (symMid P U V R (s - a) (mid - s)) ∧ Mod [g] w w2) := Lib.hid ⟨hl2, hM.out.trans m2⟩
              clear hl2 m2 CR' hR
              go_wp2_with fail
              go_meet
              case rel => exact HX
            | false =>
              have hq := of_decide_eq_false HB1.out.symm
              have HX : Hid (RcRow wr base g N cap (symMid P U V R (s - a) (mid - s)) ∧ Mod [g] w wr) := Lib.hid ⟨by rw [CS.out hq]; exact hR.out, hM.out⟩
              clear CR CS hq hR
              go_wp2_with fail
              go_meet
              case rel => exact HX
          case rest =>
            clear CR CS hR hM HB1
            rename World => wa
            obtain ⟨hl, hm1⟩ := hcut.out
            clear hcut
            unfold symMid at hl
            go_upto_region 41 with fail
            go_cut [199] from 192 to 199 (fun s199 wx => ∃ B : Bool, s199 = .bool B ∧ Hid (B = decide (a < s ∧ s < mid)) ∧ wx = wa)
            case first =>
              by_cases hq1 : a < s
              · have dq1 : decide ((a : Int) < (s : Int)) = true := decide_eq_true (by omega)
                by_cases hq2 : s < mid
                · have dq2 : decide ((s : Int) < (mid : Int)) = true := decide_eq_true (by omega)
                  go_wp2_with fail
                  go_meet
                  case rel => exact ⟨true, rfl, Lib.hid (decide_eq_true (show a < s ∧ s < mid from ⟨hq1, hq2⟩)).symm, rfl⟩
                · have dq2 : decide ((s : Int) < (mid : Int)) = false := decide_eq_false (by omega)
                  go_wp2_with fail
                  go_meet
                  case rel => exact ⟨false, rfl, Lib.hid (decide_eq_false (show ¬ (a < s ∧ s < mid) from fun h => hq2 h.2)).symm, rfl⟩
              · have dq1 : decide ((a : Int) < (s : Int)) = false := decide_eq_false (by omega)
                go_wp2_with fail
                go_meet
                case rel => exact ⟨false, rfl, Lib.hid (decide_eq_false (show ¬ (a < s ∧ s < mid) from fun h => hq1 h.1)).symm, rfl⟩
            case rest =>
              obtain ⟨B1, rfl, HB1, hwc⟩ := hcut
              rw [hwc]
              clear hwc wc
              have CS1 := Lib.hid (fun (hq : a < s ∧ s < mid) => HIH.out.go (P := P) (U := U.take (s - a)) (V := V.take (mid - s)) (R := (U.drop (s - a) ++ V.drop (mid - s)) ++ R) (a := a) (m := s) (b := mid) (by simp only [List.length_take]; have := HMM.out; have := HB.out; have := HMID.out; omega) hl HA.out (by rw [List.length_take]; have := HMM.out; omega) (by rw [List.length_take]; have := HB.out; omega) hq.1 hq.2 hN (by rw [← List.take_append_drop (s - a) U] at HU; exact HU.out.left) (by rw [← List.take_append_drop (mid - s) V] at HV; exact HV.out.left))
              have HL := Lib.hid hl
              have HM1 := Lib.hid hm1
              clear hl hm1
              go_upto_if 199 with fail
              go_cut [] from 200 to 205 (fun wx => Hid (∃ W1, Merged ltR (U.take (s - a) ++ V.take (mid - s)) W1 ∧ RcRow wx base g N cap (P ++ (W1 ++ ((U.drop (s - a) ++ V.drop (mid - s)) ++ R))) ∧ Mod [g] w wx))
              case first =>
                cases B1 with
                | true =>
                  have hq := of_decide_eq_true HB1.out.symm
                  have CR' := Lib.hid (CS1.out hq)
                  clear CS1 hq
                  go_wp2_with fail
                  refine CR'.out.mono ?_
                  rintro e1 w2 ⟨rfl, W1, hW1, hl2, m2⟩
                  have HX : Hid (∃ W1, Merged ltR (U.take (s - a) ++ V.take (mid - s)) W1 ∧ RcRow w2 base g N cap (P ++ (W1 ++ ((U.drop (s - a) ++ V.drop (mid - s)) ++ R))) ∧ Mod [g] w w2) := Lib.hid ⟨W1, hW1, hl2, HM1.out.trans m2⟩
                  clear hl2 m2 hW1 CR'
                  go_wp2_with fail
                  go_meet
                  case rel => exact HX
                | false =>
                  have hq := of_decide_eq_false HB1.out.symm
                  have hW1 : Merged ltR (U.take (s - a) ++ V.take (mid - s)) (U.take (s - a) ++ V.take (mid - s)) := by
                    by_cases hz : s = a
                    · have e0 : U.take (s - a) = [] := by rw [show s - a = 0 by omega]; rfl
                      rw [e0]
                      exact merged_nil_l (by rw [← List.take_append_drop (mid - s) V] at HV; exact HV.out.left)
                    · have e0 : V.take (mid - s) = [] := by rw [show mid - s = 0 by omega]; rfl
                      rw [e0, List.append_nil]
                      exact merged_nil_l (by rw [← List.take_append_drop (s - a) U] at HU; exact HU.out.left)
                  have HX : Hid (∃ W1, Merged ltR (U.take (s - a) ++ V.take (mid - s)) W1 ∧ RcRow wa base g N cap (P ++ (W1 ++ ((U.drop (s - a) ++ V.drop (mid - s)) ++ R))) ∧ Mod [g] w wa) := Lib.hid ⟨_, hW1, HL.out, HM1.out⟩
                  clear CS1 hq hW1
                  go_wp2_with fail
                  go_meet
                  case rel => exact HX
              case rest =>
                clear CS1 HL HM1 HB1
                rename World => wb
                obtain ⟨W1, hW1, hrow1, hm1⟩ := hcut.out
                clear hcut
                go_upto_region 43 with fail
                go_cut [213] from 206 to 213 (fun s213 wx => ∃ B : Bool, s213 = .bool B ∧ Hid (B = decide (mid < e ∧ e < b)) ∧ wx = wb)
                case first =>
                  by_cases hq1 : mid < e
                  · have dq1 : decide ((mid : Int) < (e : Int)) = true := decide_eq_true (by omega)
                    by_cases hq2 : e < b
                    · have dq2 : decide ((e : Int) < (b : Int)) = true := decide_eq_true (by omega)
                      go_wp2_with fail
                      go_meet
                      case rel => exact ⟨true, rfl, Lib.hid (decide_eq_true (show mid < e ∧ e < b from ⟨hq1, hq2⟩)).symm, rfl⟩
                    · have dq2 : decide ((e : Int) < (b : Int)) = false := decide_eq_false (by omega)
                      go_wp2_with fail
                      go_meet
                      case rel => exact ⟨false, rfl, Lib.hid (decide_eq_false (show ¬ (mid < e ∧ e < b) from fun h => hq2 h.2)).symm, rfl⟩
                  · have dq1 : decide ((mid : Int) < (e : Int)) = false := decide_eq_false (by omega)
                    go_wp2_with fail
                    go_meet
                    case rel => exact ⟨false, rfl, Lib.hid (decide_eq_false (show ¬ (mid < e ∧ e < b) from fun h => hq1 h.1)).symm, rfl⟩
                case rest =>
                  obtain ⟨B1, rfl, HB1, hwc⟩ := hcut
                  rw [hwc]
                  clear hwc wc
                  have CS2 := Lib.hid (fun (hq : mid < e ∧ e < b) => HIH.out.go (P := P ++ W1) (U := U.drop (s - a)) (V := V.drop (mid - s)) (R := R) (a := mid) (m := e) (b := b) (by simp only [List.length_drop]; have := HMM.out; have := HB.out; have := HMID.out; omega) (by rw [List.append_assoc]; exact hrow1) (by rw [List.length_append, hW1.len, List.length_append, List.length_take, List.length_take]; have := HA.out; have := HMM.out; have := HB.out; omega) (by rw [List.length_drop]; have := HSE.out; have := HMM.out; omega) (by rw [List.length_drop]; have := HSE.out; have := HB.out; omega) hq.1 hq.2 hN (by rw [← List.take_append_drop (s - a) U] at HU; exact HU.out.right) (by rw [← List.take_append_drop (mid - s) V] at HV; exact HV.out.right))
                  have HW1 := Lib.hid hW1
                  have HR1 := Lib.hid hrow1
                  have HM1 := Lib.hid hm1
                  clear hW1 hrow1 hm1
                  cases B1 with
                  | true =>
                    have hq := of_decide_eq_true HB1.out.symm
                    have CR' := Lib.hid (CS2.out hq)
                    clear CS2 hq
                    go_wp2_with fail
                    refine CR'.out.mono ?_
                    rintro e1 w2 ⟨rfl, W2, hW2, hl2, m2⟩
                    have HX : Hid (SymPost w base g N cap P (U ++ V) R w2) := Lib.hid ⟨W1 ++ W2, sym_merged HW1.out hW2 HCUT.out, by rw [List.append_assoc] at hl2 ⊢; exact hl2, HM1.out.trans m2⟩
                    clear hl2 m2 hW2 CR'
                    go_wp2_with fail
                    go_end0
                    exact ⟨rfl, HX.out⟩
                  | false =>
                    have hq := of_decide_eq_false HB1.out.symm
                    have hW2 : Merged ltR (U.drop (s - a) ++ V.drop (mid - s)) (U.drop (s - a) ++ V.drop (mid - s)) := by
                      have x1 := HMM.out
                      have x2 := HB.out
                      have x3 := HSE.out
                      by_cases hz : e = mid
                      · have e0 : U.drop (s - a) = [] := List.drop_of_length_le (by omega)
                        rw [e0]
                        exact merged_nil_l (by rw [← List.take_append_drop (mid - s) V] at HV; exact HV.out.right)
                      · have e0 : V.drop (mid - s) = [] := List.drop_of_length_le (by omega)
                        rw [e0, List.append_nil]
                        exact merged_nil_l (by rw [← List.take_append_drop (s - a) U] at HU; exact HU.out.right)
                    have HX : Hid (SymPost w base g N cap P (U ++ V) R wb) := Lib.hid ⟨_, sym_merged HW1.out hW2 HCUT.out, by rw [List.append_assoc]; exact HR1.out, HM1.out⟩
                    clear CS2 hq hW2
                    go_wp2_with fail
                    go_end0
                    exact ⟨rfl, HX.out⟩
theorem symC : ∀ n, SymC n
  | 0 => ⟨fun {w base g N cap a m b P U V R} hn _ _ hm hb h1 h2 => by omega⟩
  | n + 1 => ⟨fun {w base g N cap a m b P U V R} hn h ha hm hb h1 h2 hN hU hV => by
    by_cases c1 : U.length = 1
    · obtain ⟨x, rfl⟩ := List.length_eq_one_iff.1 c1
      exact sym_left (V := V) (x := x) h ha (by simpa using hm) hb (by omega) hN hV
    · by_cases c2 : V.length = 1
      · obtain ⟨x, rfl⟩ := List.length_eq_one_iff.1 c2
        exact sym_right (U := U) (x := x) h ha hm (by simpa using hb) (by omega) hN hU
      · exact sym_step (symC n) hn h ha hm hb (by omega) (by omega) hN hU hV⟩
/-- symMerge: two sorted rows side by side become one -/
theorem sym_at {w : World} {base g N cap a m b : Nat} {P U V R : List Rc} (h : RcRow w base g N cap (P ++ ((U ++ V) ++ R))) (ha : P.length = a) (hm : a + U.length = m) (hb : m + V.length = b) (h1 : a < m) (h2 : m < b) (hN : N ≤ 1000000) (hU : Srt ltR U) (hV : Srt ltR V) :
    Calls Try.prog 102 #[.slice (some ⟨g, 0, none⟩) N cap, .int .i64 a, .int .i64 m, .int .i64 b, .func (.func 53) #[] #[]] w fun e w' => e = .returned (.tuple #[]) ∧ SymPost w base g N cap P (U ++ V) R w' :=
  (symC (U.length + V.length)).go (Nat.le_refl _) h ha hm hb h1 h2 hN hU hV
end Go.Proofs.Ytngglpekdjhbdaa
namespace Go.Proofs.Ytngglpekdjhbdaa
open Go.RowKit Go.ChangeMaps Go.Deep
set_option linter.unusedSimpArgs false
set_option linter.unusedVariables false
set_option maxRecDepth 20000

theorem blk_one {α : Type} (lt : α → α → Bool) (l : List α) : Blk lt 1 l := fun i j x y hij he _ _ => by rw [Nat.div_one, Nat.div_one] at he; omega
theorem stb_cut {α : Type} (l : List α) (a c : Nat) : l = l.take a ++ ((l.drop a).take c ++ (l.drop a).drop c) := by rw [List.take_append_drop, List.take_append_drop]
def StbIn (L0 : List Rc) (base g N cap : Nat) (C B a : Nat) (W : World) : Prop := ∃ l, StbAt ltR L0 C B a l ∧ RcRow W base g N cap l
def BlkIn (L0 : List Rc) (base g N cap : Nat) (B : Nat) (W : World) : Prop := ∃ l, L0.Perm l ∧ Blk ltR B l ∧ RcRow W base g N cap l
/-- sorted -/
def SortedPost (L0 : List Rc) (w : World) (base g N cap : Nat) (w' : World) : Prop := ∃ l, Merged ltR L0 l ∧ RcRow w' base g N cap l ∧ Mod [g] w w'
set_option maxHeartbeats 16000000 in
theorem stable_at {w : World} {base g N cap : Nat} {L0 : List Rc} (h : RcRow w base g N cap L0) (hN : N ≤ 1000000) :
    Calls Try.prog 78 #[.slice (some ⟨g, 0, none⟩) N cap, .int .i64 N, .func (.func 53) #[] #[]] w fun e w' => e = .returned (.tuple #[]) ∧ SortedPost L0 w base g N cap w' := by
  have HM := Lib.hid (Mod.refl [g] w)
  have H0 : Hid (StbIn L0 base g N cap 20 1 0 w) := Lib.hid ⟨L0, stb_first (.refl _) (blk_one _ _), h⟩
  clear h
  go_enter Try.func78, Try.ntmps78
  go_wp2_with fail
  go_loopw [7, 8] (fun s7 s8 W => ∃ a b : Nat, s7 = .int .i64 (a : Int) ∧ s8 = .int .i64 (b : Int) ∧ Hid (b = a + 20) ∧ a ≤ N ∧ b ≤ N + 20 ∧ Hid (StbIn L0 base g N cap 20 1 a W) ∧ Hid (Mod [g] w W)) (fun s7 s8 _ => N + 20 - (intOf s8).toNat)
  case atStart => exact ⟨0, 20, rfl, rfl, Lib.hid rfl, by omega, by omega, H0, HM⟩
  case round =>
    obtain ⟨a, b, rfl, rfl, HAB, haN, hbN, hS, hM⟩ := hrel
    clear H0 HM
    obtain ⟨l, hl, hrow⟩ := hS.out
    have hlen := hrow.len
    by_cases hb : b ≤ N
    · have hle : l.length = N := hlen
      have C := Lib.hid (insert_sort (P := l.take a) (A := (l.drop a).take 20) (R := (l.drop a).drop 20) (a := a) (b := b) (by rw [← stb_cut]; exact hrow) (by rw [List.length_take]; omega) (by rw [List.length_take, List.length_drop]; have := HAB.out; omega) hN)
      have HS := Lib.hid (fun W (hW : Merged ltR ((l.drop a).take 20) W) => (StbAt.step (P := l.take a) (A := (l.drop a).take 20) (R := (l.drop a).drop 20) (W := W) (C := 20) (B := 1) (a := a) (by omega) (by omega) ⟨20, rfl⟩ (by rw [← stb_cut]; exact hl) (by rw [List.length_take]; omega) (.inl (by rw [List.length_take, List.length_drop]; have := HAB.out; omega)) (by rw [List.length_take]; omega) hW).1 (by rw [List.length_take, List.length_drop]; have := HAB.out; omega))
      clear hl hrow hS hlen hle
      go_wp2_with fail
      refine C.out.mono ?_
      rintro e w2 ⟨rfl, W, hW, hr, m2⟩
      have hS2 : StbIn L0 base g N cap 20 1 (a + 20) w2 := ⟨_, HS.out W hW, hr⟩
      rw [← HAB.out] at hS2
      have HS2 := Lib.hid hS2
      have HM2 := Lib.hid (hM.out.trans m2)
      clear C HS hW hr m2 hS2 hM
      go_wp2_with fail
      go_roundw
      case rel => exact ⟨b, b + 20, rfl, by go_num, Lib.hid rfl, by omega, by omega, HS2, HM2⟩
      case measure => simp [intOf]; omega
    · have C := Lib.hid (insert_sort (P := l.take a) (A := l.drop a) (R := []) (a := a) (b := N) (by rw [List.append_nil, List.take_append_drop]; exact hrow) (by rw [List.length_take]; omega) (by rw [List.length_drop]; omega) hN)
      have HS := Lib.hid (fun W (hW : Merged ltR (l.drop a) W) => (StbAt.step (P := l.take a) (A := l.drop a) (R := []) (W := W) (C := 20) (B := 1) (a := a) (by omega) (by omega) ⟨20, rfl⟩ (by rw [List.append_nil, List.take_append_drop]; exact hl) (by rw [List.length_take]; omega) (.inr rfl) (by rw [List.length_drop]; have := HAB.out; omega) hW).2 rfl)
      clear hl hrow hS hlen
      go_wp2_with fail
      refine C.out.mono ?_
      rintro e w2 ⟨rfl, W, hW, hr, m2⟩
      have hB2 : BlkIn L0 base g N cap 20 w2 := by
        obtain ⟨q1, q2⟩ := HS.out W hW
        rw [List.append_nil] at hr
        exact ⟨_, q1, q2, hr⟩
      have HB2 := Lib.hid hB2
      have HM2 := Lib.hid (hM.out.trans m2)
      clear C HS hW hr m2 hB2 hM HAB
      go_wp2_with fail
      go_loopw [6] (fun s6 W => ∃ B : Nat, s6 = .int .i64 (B : Int) ∧ 20 ≤ B ∧ B ≤ 2 * N + 20 ∧ Hid (BlkIn L0 base g N cap B W) ∧ Hid (Mod [g] w W)) (fun s6 _ => N - (intOf s6).toNat)
      case atStart => exact ⟨20, rfl, by omega, by omega, HB2, HM2⟩
      case round =>
        obtain ⟨B, rfl, hB20, hBN, hBl, hM⟩ := hrel
        clear HB2 HM2
        by_cases hBlt : B < N
        · obtain ⟨B2, hB2⟩ : ∃ B2, B2 = 2 * B := ⟨_, rfl⟩
          have e2 : 2 * (B : Int) = (B2 : Int) := by omega
          have e3 : (B : Int) * 2 = (B2 : Int) := by omega
          have HB2 := Lib.hid hB2
          have hBB : B < B2 ∧ B2 ≤ 2 * N := by omega
          have H1 : Hid (StbIn L0 base g N cap B2 B 0 wr) := Lib.hid (by
            obtain ⟨l, q1, q2, q3⟩ := hBl.out
            exact ⟨l, stb_first q1 q2, q3⟩)
          clear hBl hB2
          rename World => wo
          go_wp2_with fail
          go_loopw [7, 8] (fun s7 s8 W => ∃ a b : Nat, s7 = .int .i64 (a : Int) ∧ s8 = .int .i64 (b : Int) ∧ Hid (b = a + B2) ∧ a ≤ N ∧ b ≤ N + B2 ∧ Hid (StbIn L0 base g N cap B2 B a W) ∧ Hid (Mod [g] w W)) (fun s7 s8 _ => N + B2 - (intOf s8).toNat)
          case atStart => exact ⟨0, B2, rfl, rfl, Lib.hid (by omega), by omega, by omega, H1, hM⟩
          case round =>
            obtain ⟨c, d, rfl, rfl, HCD, hcN, hdN, hS, hM2⟩ := hrel
            clear H1 hM
            obtain ⟨l, hl, hrow⟩ := hS.out
            have hlen := hrow.len
            obtain ⟨mm, hmm⟩ : ∃ mm, mm = c + B := ⟨_, rfl⟩
            have em : (c : Int) + (B : Int) = (mm : Int) := by omega
            by_cases hd : d ≤ N
            · have hcd := HCD.out
              have hb2 := HB2.out
              rw [hb2] at hl
              obtain ⟨P, U, V, R, rfl, z1, z2, z3, z4, z5, z6, z7⟩ := hl.two (by omega) (by omega)
              rw [hlen] at z3
              have C := Lib.hid (sym_at hrow z1 (by omega) (show mm + V.length = d by omega) (by omega) (by omega) hN z5 z6)
              have HS := Lib.hid (fun W (hW : Merged ltR (U ++ V) W) => (StbAt.step (P := P) (A := U ++ V) (R := R) (W := W) (by omega) (by omega) ⟨2, rfl⟩ hl z1 (.inl (by rw [List.length_append]; omega)) (by rw [List.length_append]; omega) hW).1 (by rw [List.length_append]; omega))
              clear hl hrow hS hlen z1 z2 z3 z4 z5 z6 z7 hcd hb2 hmm
              go_wp2_with fail
              refine C.out.mono ?_
              rintro e w2 ⟨rfl, W, hW, hr, m2⟩
              have hS2 : StbIn L0 base g N cap B2 B d w2 := by
                refine ⟨_, ?_, hr⟩
                have := HS.out W hW
                rw [← HB2.out, ← HCD.out] at this
                exact this
              have HS2 := Lib.hid hS2
              have HM3 := Lib.hid (hM2.out.trans m2)
              clear C HS hW hr m2 hS2 hM2
              go_wp2_with fail
              go_roundw
              case rel => exact ⟨d, d + B2, rfl, by go_num, Lib.hid rfl, by omega, by omega, HS2, HM3⟩
              case measure => simp [intOf]; omega
            · by_cases hmN : mm < N
              · have hcd := HCD.out
                have hb2 := HB2.out
                have hl0 := hl
                rw [hb2] at hl
                obtain ⟨P, U, V, R, rfl, z1, z2, z3, z4, z5, z6, z7⟩ := hl.two (by omega) (by omega)
                obtain rfl := z7 (by omega)
                rw [hlen] at z3
                have C := Lib.hid (sym_at hrow z1 (by omega) (show mm + V.length = N by omega) (by omega) (by omega) hN z5 z6)
                have HS := Lib.hid (fun W (hW : Merged ltR (U ++ V) W) => (StbAt.step (P := P) (A := U ++ V) (R := []) (W := W) (by omega) (by omega) ⟨2, rfl⟩ hl z1 (.inr rfl) (by rw [List.length_append]; omega) hW).2 rfl)
                have dm : decide ((mm : Int) < (N : Int)) = true := decide_eq_true (by omega)
                clear hl hl0 hrow hS hlen z1 z2 z3 z4 z5 z6 z7 hcd hb2 hmm
                go_wp2_with fail
                refine C.out.mono ?_
                rintro e w2 ⟨rfl, W, hW, hr, m2⟩
                have hS2 : BlkIn L0 base g N cap B2 w2 := by
                  obtain ⟨q1, q2⟩ := HS.out W hW
                  rw [List.append_nil] at hr
                  rw [← HB2.out] at q2
                  exact ⟨_, q1, q2, hr⟩
                have HS2 := Lib.hid hS2
                have HM3 := Lib.hid (hM2.out.trans m2)
                clear C HS hW hr m2 hS2 hM2
                go_wp2_with fail
                exact ⟨⟨B2, rfl, by omega, by omega, HS2, HM3⟩, by simp [intOf]; omega⟩
              · have hcd := HCD.out
                have hb2 := HB2.out
                have HS2 : Hid (BlkIn L0 base g N cap B2 wr) := Lib.hid (by
                  obtain ⟨q1, q2⟩ := hl.rest_one (by omega) (by omega) (by omega)
                  exact ⟨_, q1, q2, hrow⟩)
                have dm : decide ((mm : Int) < (N : Int)) = false := decide_eq_false (by omega)
                clear hl hrow hS hlen hcd hb2 hmm
                go_wp2_with fail
                exact ⟨⟨B2, rfl, by omega, by omega, HS2, hM2⟩, by simp [intOf]; omega⟩
        · have HE : Hid (SortedPost L0 w base g N cap wr) := Lib.hid (by
            obtain ⟨l, q1, q2, q3⟩ := hBl.out
            exact ⟨l, ⟨q1, (blk_srt (by rw [q3.len]; omega)).1 q2⟩, q3, hM.out⟩)
          clear hBl hM
          go_wp2_with fail
          go_end0
          exact ⟨rfl, HE.out⟩
theorem insert_nil (w : World) : Calls Try.prog 101 #[.slice none 0 0, .int .i64 0, .int .i64 0, .func (.func 53) #[] #[]] w fun e w' => e = .returned (.tuple #[]) ∧ w' = w := by
  go_enter Try.func101, Try.ntmps101
  go_wp2_with fail
  go_loop [8] (fun s8 => s8 = .int .i64 1) (fun _ => 0)
  case atStart => rfl
  case round =>
    obtain rfl := hrel
    go_wp2_with fail
    go_end0
    exact ⟨rfl, rfl⟩
theorem stable_nil (w : World) : Calls Try.prog 78 #[.slice none 0 0, .int .i64 0, .func (.func 53) #[] #[]] w fun e w' => e = .returned (.tuple #[]) ∧ w' = w := by
  go_enter Try.func78, Try.ntmps78
  go_wp2_with fail
  go_loop [7, 8] (fun s7 s8 => s7 = .int .i64 0 ∧ s8 = .int .i64 20) (fun _ _ => 0)
  case atStart => exact ⟨rfl, rfl⟩
  case round =>
    obtain ⟨rfl, rfl⟩ := hrel
    go_wp2_with fail
    refine (insert_nil w).mono ?_
    rintro e w1 ⟨rfl, rfl⟩
    go_wp2_with fail
    go_loop [6] (fun s6 => s6 = .int .i64 20) (fun _ => 0)
    case atStart => rfl
    case round =>
      obtain rfl := hrel
      go_wp2_with fail
      go_end0
      exact ⟨rfl, rfl⟩
/-- slices.SortStableFunc at rectangles: sorted by the first day -/
theorem sortStable_any {w : World} {base : Nat} {v : Value} {L0 : List Rc} (h : OwnR encRc 5 61 w base v L0) (hN : L0.length ≤ 1000000) :
    Calls Try.prog 52 #[v, .func (.func 53) #[] #[]] w fun e w' => e = .returned (.tuple #[]) ∧ ∃ l, Merged ltR L0 l ∧ OwnR encRc 5 61 w' base v l ∧ Mod (blk v) w w' := by
  rcases h.form with ⟨rfl, rfl⟩ | ⟨g, cap, rfl, hb, hg, hc⟩
  · have C := Lib.hid (stable_nil w)
    have HO := Lib.hid h
    clear h
    go_enter Try.func52, Try.ntmps52
    go_wp2_with fail
    refine C.out.mono ?_
    rintro e w1 ⟨rfl, rfl⟩
    go_wp2_with fail
    go_end0
    exact ⟨rfl, [], ⟨.refl _, srt_nil _⟩, HO.out, Mod.refl _ _⟩
  · obtain ⟨N, hN0⟩ : ∃ N, L0.length = N := ⟨_, rfl⟩
    rw [hN0] at h hc hN ⊢
    have C := Lib.hid (stable_at (N := N) (cap := cap) ⟨hN0, h⟩ hN)
    clear h hN0
    go_enter Try.func52, Try.ntmps52
    go_wp2_with fail
    refine C.out.mono ?_
    rintro e w1 ⟨rfl, l, hm, hr, m⟩
    have HM := Lib.hid hm
    have HR := Lib.hid hr
    have HMM := Lib.hid m
    clear hm hr m C
    go_wp2_with fail
    go_end0
    exact ⟨rfl, l, HM.out, HR.out.own, HMM.out.mono (by simp [blk, Value.ownBlock])⟩
end Go.Proofs.Ytngglpekdjhbdaa
