/- The journal: a disk is made ready. -/
import Derived.Test.YtnjfgbbdfdoccaaJnL
namespace Go.Proofs.Ytnjfgbbdfdoccaa
open Go.RowKit Go.ChangeMaps
set_option linter.unusedSimpArgs false
set_option linter.unusedVariables false
set_option maxRecDepth 20000

def fmtJ : Jk := ⟨1, 2, [], false⟩
def fmtPlan : List (Int × List Int) := [(0, zeros64), (1, zeros64), (2, zeros64), (1, superP 1)]
theorem beginP_one (n : Int) : beginP n 1 = 2 := by unfold beginP; simp
theorem Jk.writes_prefix {J : Jk} {D : Dk} {p q : List (Int × List Int)} (h : (J.writes D (p ++ q)).1 = 0) : (J.writes D p).1 = 0 := by
  refine Classical.byContradiction fun hn => ?_
  rw [Jk.writes_stop hn] at h
  exact hn h
set_option maxHeartbeats 4000000 in
theorem jFormat_at {w : World} {base b m : Nat} {D : Dk} (h : DiskAt w b m D) (hn : 8 ≤ D.n ∧ D.n ≤ 65536) (hg : base ≤ b ∧ base ≤ m ∧ base ≤ w.heap.size) (hw : 0 ≤ D.written ∧ D.written ≤ 1152921504606846976) (hok : (fmtJ.writes D fmtPlan).1 = 0) :
    Calls Try.prog 8 #[.pointer (some ⟨b, 0, none⟩)] w fun e w' => ∃ j, e = .returned (.tuple #[.pointer (some ⟨j, 0, none⟩), .int .i64 0]) ∧ JAt w' base j b m (fmtJ.writes D fmtPlan).2.1 (fmtJ.writes D fmtPlan).2.2 ∧ Mod [b, m] w w' := by
  have CS := Lib.hid (sectors_any h)
  have CB := Lib.hid (jBegin_at h ⟨by omega, hn.2⟩ 1 (by omega) (by omega))
  rw [beginP_one] at CB
  obtain ⟨n0, n1⟩ := hn
  have hlb : b < w.heap.size ∧ m < w.heap.size := ⟨lt_of_heap h.blk, h.map.lt⟩
  obtain ⟨w1, hAl, kA, zA, mA⟩ := alloc_named2 w (.cells #[.pointer (some ⟨b, 0, none⟩), .int .i64 1, .int .i64 2, .slice none 0 0, .bool false] 67)
  obtain ⟨j, hj⟩ : ∃ j, w.heap.size = j := ⟨_, rfl⟩
  rw [hj] at kA
  have HST := Lib.hid (show JAt w1 base j b m (fmtJ.writes D (fmtPlan.take 0)).2.1 (fmtJ.writes D (fmtPlan.take 0)).2.2 ∧ Mod [j, b, m] w1 w1 from ⟨⟨⟨.slice none 0 0, [], kA, OwnR.nil_ _ _, rfl, by simp⟩, h.kept mA (by simp) (by simp), by omega⟩, Mod.refl _ _⟩)
  have HAl := Lib.hid hAl
  have Hj := Lib.hid hj
  have hjw : w.heap.size ≤ j := by omega
  have HM1 := Lib.hid mA
  have HZ1 := Lib.hid zA
  have HOK := Lib.hid hok
  have HLB := Lib.hid hlb
  have HW := Lib.hid hw
  have hd8 : decide (D.n < 8) = false := decide_eq_false (by omega)
  have hidx : ∀ i : Nat, i < 3 → ∀ u : World, (Instr.index 68 (.agg #[.int .i64 0, .int .i64 1, .int .i64 2]) (.int .i64 i)).run Try.prog u = .ok (.int .i64 i) u := fun i hi u => by
    obtain rfl | rfl | rfl : i = 0 ∨ i = 1 ∨ i = 2 := by omega
    · kernel_rfl
    · kernel_rfl
    · kernel_rfl
  have HIX := Lib.hid hidx
  clear h hAl kA zA mA hj hok hlb hg hw hidx
  go_enter Try.func8, Try.ntmps8
  go_wp2_with fail
  refine CS.out.mono ?_
  rintro e w' ⟨rfl, rfl⟩
  go_wp2_with fail
  refine CB.out.mono ?_
  rintro e w' ⟨rfl, rfl⟩
  obtain ⟨q0, q1, q2, q4⟩ := HST.out.1.cells
  simp only [List.take_zero, Jk.writes, fmtJ] at q2
  rw [← HAl.out] at q2
  clear q0 q1 q4
  go_wp2_with fail
  rw [HAl.out, Hj.out]
  clear q2 CS CB HAl Hj
  go_loopw [6, 7, 22] (fun s6 s7 s22 W => ∃ i : Nat, i ≤ 3 ∧ s22 = .int .i64 i ∧ Hid (JAt W base j b m (fmtJ.writes D (fmtPlan.take i)).2.1 (fmtJ.writes D (fmtPlan.take i)).2.2 ∧ Mod [j, b, m] w1 W)) (fun _ _ s22 _ => 3 - (intOf s22).toNat)
  case atStart => exact ⟨0, by omega, rfl, HST⟩
  case round =>
    clear HST
    obtain ⟨i, hi, rfl, hS⟩ := hrel
    obtain ⟨hJ, hM⟩ := hS.out
    have hz0 : (fmtJ.writes D (fmtPlan.take i)).1 = 0 := Jk.writes_prefix (q := fmtPlan.drop i) (by rw [List.take_append_drop]; exact HOK.out)
    have hws := Jk.writes_same (fmtPlan.take i) fmtJ D
    have hwr : 0 ≤ (fmtJ.writes D (fmtPlan.take i)).2.2.written ∧ (fmtJ.writes D (fmtPlan.take i)).2.2.written ≤ 2305843009213693952 := by
      have := HW.out
      have hl : (fmtPlan.take i).length ≤ 4 := by rw [List.length_take]; exact Nat.min_le_right _ _
      omega
    have HJ := Lib.hid hJ
    have HM := Lib.hid hM
    by_cases hlt : i < 3
    · have HN := Lib.hid (show fmtJ.writes D (fmtPlan.take (i + 1)) = (fmtJ.writes D (fmtPlan.take i)).2.1.write (fmtJ.writes D (fmtPlan.take i)).2.2 i zeros64 from by
        have : fmtPlan.take (i + 1) = fmtPlan.take i ++ [((i : Int), zeros64)] := by
          obtain rfl | rfl | rfl : i = 0 ∨ i = 1 ∨ i = 2 := by omega
          · rfl
          · rfl
          · rfl
        rw [this, Jk.writes_snoc, if_pos hz0])
      have HZ1 := Lib.hid (Jk.writes_prefix (J := fmtJ) (D := D) (p := fmtPlan.take (i + 1)) (q := fmtPlan.drop (i + 1)) (by rw [List.take_append_drop]; exact HOK.out))
      have hix := HIX.out i hlt
      have CN := Lib.hid (jNoughts_at wr)
      have h1 : decide ((i : Int) < 3) = true := decide_eq_true (by omega)
      have HWR := Lib.hid hwr
      clear hz0 hws hwr hS hJ hM
      go_wp2_with fail
      refine CN.out.mono ?_
      rintro e w2 ⟨g, rfl, hgo, m2⟩
      have hj2 := HJ.out.kept0 m2
      have hlt2 := HJ.out.lt
      have CW := Lib.hid (jWrite_at hj2 (i : Int) (x := .slice (some ⟨g, 0, none⟩) 64 64) (l := zeros64) hgo.row (fun bb o n c e => by
        cases e
        have := (World.ownsRow.lt hgo g rfl).1
        omega) (by show 64 ≤ _; omega) ⟨HWR.out.1, by have := HWR.out.2; omega⟩)
      rw [← HN.out, HZ1.out] at CW
      have HM2 := Lib.hid (HM.out.trans (m2.nil (l := [j, b, m])))
      clear hgo m2 hj2 hlt2 CN hix
      go_wp2_with fail
      refine CW.out.mono ?_
      rintro e w3 ⟨rfl, hj3, m3⟩
      have HS := Lib.hid (⟨hj3, HM2.out.trans m3⟩ : _ ∧ _)
      clear hj3 m3 CW
      go_wp2_with fail
      go_roundw
      case rel => exact ⟨i + 1, by omega, by go_num, HS⟩
      case measure => simp [intOf]; omega
    · obtain rfl : i = 3 := by omega
      have h1 : decide (((3 : Nat) : Int) < 3) = false := by decide
      have CSu := Lib.hid (jSuper_at 1 (by omega) (by omega) wr)
      have HN := Lib.hid (show fmtJ.writes D fmtPlan = (fmtJ.writes D (fmtPlan.take 3)).2.1.write (fmtJ.writes D (fmtPlan.take 3)).2.2 1 (superP 1) from by
        have : fmtPlan = fmtPlan.take 3 ++ [(1, superP 1)] := rfl
        conv => lhs; rw [this]
        rw [Jk.writes_snoc, if_pos hz0])
      have HWR := Lib.hid hwr
      clear hz0 hws hwr hS hJ hM
      go_wp2_with fail
      refine CSu.out.mono ?_
      rintro e w2 ⟨sv, rfl, hsv, m2⟩
      have hj2 := HJ.out.kept0 m2
      have hlt2 := HJ.out.lt
      have CW := Lib.hid (jWrite_at hj2 1 hsv.row (fun bb o n c e => by
        have h1 : sv.ownBlock = some bb := by rw [e]; rfl
        have h2 := (World.ownsRow.lt hsv bb h1).1
        omega) (by rw [superP_len]; omega) ⟨HWR.out.1, by have := HWR.out.2; omega⟩)
      rw [← HN.out, HOK.out] at CW
      have HM2 := Lib.hid (HM.out.trans (m2.nil (l := [j, b, m])))
      clear hsv m2 hj2 hlt2 CSu
      go_wp2_with fail
      refine CW.out.mono ?_
      rintro e w3 ⟨rfl, hj3, m3⟩
      have HS := Lib.hid (⟨hj3, Mod.into' (HM1.out.nil (l := [b, m])) (HM2.out.trans m3) (fun k hk => by
        simp at hk
        rcases hk with rfl | rfl | rfl
        · exact .inl (by omega)
        · exact .inr (by simp)
        · exact .inr (by simp))⟩ : _ ∧ _)
      clear hj3 m3 CW
      go_wp2_with fail
      go_ret2
      exact ⟨j, rfl, HS.out⟩
end Go.Proofs.Ytnjfgbbdfdoccaa
