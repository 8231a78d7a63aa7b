/- The document's Same: records beside texts. -/
import Derived.Test.YtnjfgbbdfdoccaaJnS
namespace Go.Proofs.Ytnjfgbbdfdoccaa
open Go.RowKit Go.ChangeMaps
set_option linter.unusedSimpArgs false
set_option linter.unusedVariables false
set_option maxRecDepth 20000

def encStr (s : ByteArray) : List Value := [.string s]
theorem encStr_len (s : ByteArray) : (encStr s).length = 1 := rfl
theorem encStr_one (s : ByteArray) : ∀ v ∈ encStr s, v.oneCell' = true := by
  intro v hv
  simp only [encStr, List.mem_singleton] at hv
  subst hv; rfl
theorem str_yesB {s t : ByteArray} (h : s = t) : (!(@BEq.beq (List UInt8) (@List.instBEq UInt8 instBEqOfDecidableEq) s.toList t.toList)) = false := by rw [h, beq_self_eq_true]; rfl
theorem str_noB {s t : ByteArray} (h : s ≠ t) : (!(@BEq.beq (List UInt8) (@List.instBEq UInt8 instBEqOfDecidableEq) s.toList t.toList)) = true := by
  rw [Bool.not_eq_true']
  exact beq_eq_false_iff_ne.2 fun e => h (by
    rw [ByteArray.toList_eq, ByteArray.toList_eq] at e
    exact ByteArray.ext (Array.ext' e))
theorem take_all_eq {α : Type} {l k : List α} (hl : l.length = k.length) (i : Nat) (hi : i = l.length) (h : l.take i = k.take i) : l = k := by
  subst hi
  rw [List.take_length, hl, List.take_length] at h
  exact h
set_option maxHeartbeats 2000000 in
theorem mjSame_at {w : World} {base : Nat} {v1 v2 : Value} {hs : List SlH} {ls : List (List Int)} {bs : List ByteArray} (h1 : OwnBs w base v1 hs ls) (h2 : RowAt encStr w v2 bs) (hl : ls.length ≤ 1048576) :
    Calls Try.prog 14 #[v1, v2] w fun e w' => e = .returned (.bool (decide (ls.map strOfNums = bs))) ∧ Mod [] w w' := by
  obtain ⟨va, vc, rfl⟩ := h1.own.lens
  obtain ⟨sa, sc, rfl⟩ := h2.form
  have HL := Lib.hid h1.len
  have H1 := Lib.hid h1
  have H2 := Lib.hid h2
  have hhl : hs.length ≤ 1048576 := by rw [h1.len]; exact hl
  clear h1 h2 hl
  by_cases hn : hs.length = bs.length
  · have HN := Lib.hid hn
    go_enter Try.func14, Try.ntmps14
    rw [← hn]
    clear hn
    go_wp2_with fail
    go_loopw [5] (fun s5 W => ∃ i : Nat, i ≤ hs.length ∧ s5 = .int .i64 i ∧ Hid ((ls.map strOfNums).take i = bs.take i ∧ Mod [] w W)) (fun s5 _ => hs.length - (intOf s5).toNat)
    case atStart => exact ⟨0, by omega, rfl, Lib.hid ⟨rfl, Mod.refl _ _⟩⟩
    case round =>
      obtain ⟨i, hi, rfl, hS⟩ := hrel
      by_cases hlt : i < hs.length
      · have hil : i < ls.length := by rw [← HL.out]; exact hlt
        have hib : i < bs.length := by rw [← HN.out]; exact hlt
        have HM := Lib.hid hS.out.2
        have hd1 := (H1.out.kept0 HM.out).kept0 (Mod.refl [] wr).drew
        obtain ⟨x, hx⟩ : ∃ x, hs[i]? = some x := ⟨hs[i], List.getElem?_eq_getElem hlt⟩
        obtain ⟨r1, r2⟩ := hd1.rel i x ls[i] hx (List.getElem?_eq_getElem hil)
        obtain ⟨q, o, heq, hc, hg⟩ := RowAt.get encH_len hd1.own.row hlt
        cases heq
        have p0 := hg 0 x.val (by omega) (by rw [(List.getElem?_eq_some_iff.1 hx).2]; rfl)
        simp only [Nat.mul_one, Nat.add_zero] at p0
        have hr2 := (H2.out.kept0 HM.out).kept0 (Mod.refl [] wr).drew
        obtain ⟨q2, o2, heq2, hc2, hg2⟩ := RowAt.get encStr_len hr2 hib
        cases heq2
        have p1 := hg2 0 (.string bs[i]) (by omega) rfl
        simp only [Nat.mul_one, Nat.add_zero] at p1
        have HTK := Lib.hid (show bs.take (i + 1) = bs.take i ++ [bs[i]] from List.take_succ_eq_append_getElem hib)
        have HTL := Lib.hid (show (ls.map strOfNums).take (i + 1) = (ls.map strOfNums).take i ++ [strOfNums ls[i]] from by
          rw [List.take_succ_eq_append_getElem (by rw [List.length_map]; exact hil), List.getElem_map])
        have hcv := conv_bytes r1.row.bytes
        generalize bs[i] = t at p1 HTK
        generalize strOfNums ls[i] = s at hcv HTL
        have HCV := Lib.hid hcv
        obtain ⟨xa, xn, xc⟩ := x
        simp only [SlH.val] at p0 HCV
        have HM2 := Lib.hid (HM.out.trans (Mod.refl [] wr).drew)
        have d1 : decide ((i : Int) < (hs.length : Int)) = true := decide_eq_true (by omega)
        have d2 : decide ((i : Int) < 0) = false := decide_eq_false (by omega)
        have d3 : decide ((hs.length : Int) ≤ (i : Int)) = false := decide_eq_false (by omega)
        obtain ⟨D0, hD0⟩ : ∃ D, wr.drew = D := ⟨_, rfl⟩
        rw [hD0] at p0 p1 HCV HM2
        have HST := Lib.hid hS.out.1
        clear hd1 r1 r2 hx hc hg hc2 hg2 hr2 hcv hS
        by_cases hst : s = t
        · have d4 := str_yesB hst
          subst hst
          have HNX := Lib.hid (show (ls.map strOfNums).take (i + 1) = bs.take (i + 1) from by rw [HTK.out, HTL.out, HST.out])
          go_wp2_with fail
          refine wp_plan [] [0, 1, 5, 6, 2, 7, 3, 8, 4, 9] (by kernel_rfl) (by kernel_rfl) ?_
          simp only [wpSegs, opsOf, List.map_cons, List.map_nil, opN, List.getD_cons_zero, List.getD_cons_succ]
          rw [hD0]
          go_wp2_with ((with_reducible refine xConvertAt rfl HCV.out ?_ ?_ ?_); exact rfl; exact rfl)
          refine ⟨by first | trivial | rfl, ?_⟩
          go_wp2_with fail
          go_roundw
          case rel => exact ⟨i + 1, by omega, by go_num, Lib.hid ⟨HNX.out, HM2.out⟩⟩
          case measure => simp [intOf]; omega
        · have d4 := str_noB hst
          have HNX := Lib.hid (show decide (ls.map strOfNums = bs) = false from decide_eq_false fun e => hst (by
            have h1 := HTL.out
            rw [e, HTK.out] at h1
            simp only [List.append_cancel_left_eq, List.cons.injEq, and_true] at h1
            exact h1.symm))
          go_wp2_with fail
          refine wp_plan [] [0, 1, 5, 6, 2, 7, 3, 8, 4, 9] (by kernel_rfl) (by kernel_rfl) ?_
          simp only [wpSegs, opsOf, List.map_cons, List.map_nil, opN, List.getD_cons_zero, List.getD_cons_succ]
          rw [hD0]
          go_wp2_with ((with_reducible refine xConvertAt rfl HCV.out ?_ ?_ ?_); exact rfl; exact rfl)
          refine ⟨by first | trivial | rfl, ?_⟩
          go_wp2_with fail
          go_ret
          exact ⟨by rw [HNX.out]; rfl, HM2.out⟩
      · obtain rfl : i = hs.length := by omega
        have d1 : decide ((hs.length : Int) < (hs.length : Int)) = false := decide_eq_false (by omega)
        have HNX := Lib.hid (show decide (ls.map strOfNums = bs) = true from decide_eq_true (take_all_eq (by rw [List.length_map, ← HL.out, HN.out]) hs.length (by rw [List.length_map, ← HL.out]) hS.out.1))
        have HM := Lib.hid hS.out.2
        clear hS
        go_wp2_with fail
        go_ret
        exact ⟨by rw [HNX.out]; rfl, HM.out⟩
  · have d1 : ((hs.length : Int) != (bs.length : Int)) = true := by simp; omega
    have HNX := Lib.hid (show decide (ls.map strOfNums = bs) = false from decide_eq_false fun e => hn (by rw [HL.out, ← e, List.length_map]))
    clear hn
    go_enter Try.func14, Try.ntmps14
    go_wp2_with fail
    go_ret
    exact ⟨by rw [HNX.out]; rfl, Mod.refl _ _⟩
end Go.Proofs.Ytnjfgbbdfdoccaa
