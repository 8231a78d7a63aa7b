/- The journal: what is left, is there room, the epoch. -/
import Derived.Test.YtnjfgbbdfdoccaaJnH
namespace Go.Proofs.Ytnjfgbbdfdoccaa
open Go.RowKit Go.ChangeMaps
set_option linter.unusedSimpArgs false
set_option linter.unusedVariables false
set_option maxRecDepth 20000

/-- numbers that a journal may have -/
structure JOk (J : Jk) (D : Dk) : Prop where
  n0 : 8 ≤ D.n
  n1 : D.n ≤ 65536
  e0 : 0 ≤ J.epoch
  e1 : J.epoch ≤ 4294967295
  a0 : 2 ≤ J.at_
  a1 : J.at_ ≤ 65536
  w0 : 0 ≤ D.written
  w1 : D.written ≤ 1152921504606846976
  l0 : J.l.length ≤ 1048576
def leftP (J : Jk) (D : Dk) : Int := beginP D.n J.epoch + halfP D.n - J.at_
def roomB (J : Jk) (D : Dk) (n : Int) : Bool := decide (1 ≤ n ∧ n ≤ 65536 ∧ (n + 81) / 64 + 1 ≤ leftP J D)
theorem JAt.cells {w : World} {base j d m : Nat} {J : Jk} {D : Dk} (h : JAt w base j d m J D) : w.cell? ⟨j, 0, none⟩ = some (.pointer (some ⟨d, 0, none⟩)) ∧ w.cell? ⟨j, 1, none⟩ = some (.int .i64 J.epoch) ∧ w.cell? ⟨j, 2, none⟩ = some (.int .i64 J.at_) ∧ w.cell? ⟨j, 4, none⟩ = some (.bool J.dead) := by
  obtain ⟨⟨v, hs, e1, _⟩, _⟩ := h
  refine ⟨?_, ?_, ?_, ?_⟩ <;> rw [cell_blk e1] <;> rfl
theorem jNone_at {w : World} {base j d m : Nat} {J : Jk} {D : Dk} (h : JAt w base j d m J D) :
    Calls Try.prog 32 #[.pointer (some ⟨j, 0, none⟩)] w fun e w' => e = .returned (.bool false) ∧ w = w' := by
  obtain ⟨c0, _, _, _⟩ := h.cells
  clear h
  go_enter Try.func32, Try.ntmps32
  go_wp2_with fail
  go_ret
  exact ⟨rfl, rfl⟩
theorem jEpoch_at {w : World} {base j d m : Nat} {J : Jk} {D : Dk} (h : JAt w base j d m J D) :
    Calls Try.prog 12 #[.pointer (some ⟨j, 0, none⟩)] w fun e w' => e = .returned (.int .i64 J.epoch) ∧ w = w' := by
  have CN := Lib.hid (jNone_at h)
  obtain ⟨_, c1, _, _⟩ := h.cells
  clear h
  go_enter Try.func12, Try.ntmps12
  go_wp2_with fail
  refine CN.out.mono ?_
  rintro e w' ⟨rfl, rfl⟩
  go_wp2_with fail
  go_ret
  exact ⟨rfl, rfl⟩
set_option maxHeartbeats 1000000 in
theorem jLeft_at {w : World} {base j d m : Nat} {J : Jk} {D : Dk} (h : JAt w base j d m J D) (hk : JOk J D) :
    Calls Try.prog 9 #[.pointer (some ⟨j, 0, none⟩)] w fun e w' => e = .returned (.int .i64 (leftP J D)) ∧ Mod [] w w' := by
  have CN := Lib.hid (jNone_at h)
  obtain ⟨c0, c1, c2, _⟩ := h.cells
  obtain ⟨n0, n1, e0, e1, a0, a1, _, _, _⟩ := hk
  have hd := h.kept0 ((Mod.refl [] w).drew)
  have CB := Lib.hid (jBegin_at hd.disk ⟨by omega, n1⟩ J.epoch e0 (by omega))
  have CH := Lib.hid (jHalf_at hd.disk ⟨by omega, n1⟩)
  have hh : 0 ≤ halfP D.n ∧ halfP D.n ≤ 32767 := by unfold halfP; omega
  have hb : 2 ≤ beginP D.n J.epoch ∧ beginP D.n J.epoch ≤ 32769 := by
    unfold beginP
    have : J.epoch % 2 = 0 ∨ J.epoch % 2 = 1 := by omega
    rcases this with h | h <;> rw [h] <;> omega
  have HE := Lib.hid (show leftP J D = beginP D.n J.epoch + halfP D.n - J.at_ from rfl)
  generalize beginP D.n J.epoch = bg at CB hb HE
  generalize halfP D.n = hf at CH hh HE
  generalize J.epoch = ep at c1 CB
  generalize J.at_ = at_ at c2 a0 a1 HE
  obtain ⟨hh0, hh1⟩ := hh
  obtain ⟨hb0, hb1⟩ := hb
  clear h hd e0 e1 n0 n1
  go_enter Try.func9, Try.ntmps9
  go_wp2_with fail
  refine CN.out.mono ?_
  rintro e w' ⟨rfl, rfl⟩
  go_wp2_with fail
  refine wp_plan [([0, 4, 9, 15, 1, 5, 10, 16, 2, 6, 11, 17, 3, 7, 12, 18], 8, [10, 16, 11, 17, 12, 18]), ([], 13, [16, 17, 18])] [14, 19, 20] (by kernel_rfl) (by kernel_rfl) ?_
  simp only [wpSegs, opsOf, List.map_cons, List.map_nil, opN, List.getD_cons_zero, List.getD_cons_succ]
  go_wp2_with fail
  refine ⟨by first | trivial | rfl, ?_⟩
  go_wp2_with fail
  refine CB.out.mono ?_
  rintro e w1 ⟨rfl, rfl⟩
  go_wp2_with fail
  refine ⟨?ag1, ?_⟩
  case ag1 =>
    intro i hi hw
    simp only [List.mem_cons, List.not_mem_nil, or_false] at hi
    rcases hi with rfl | rfl | rfl | rfl | rfl | rfl
    all_goals (simp only [opN, List.getD_cons_zero, List.getD_cons_succ, slotOf]; go_simp)
  go_wp2_with fail
  refine ⟨by first | trivial | rfl, ?_⟩
  go_wp2_with fail
  refine CH.out.mono ?_
  rintro e w1 ⟨rfl, rfl⟩
  go_wp2_with fail
  refine ⟨?ag2, ?_⟩
  case ag2 =>
    intro i hi hw
    simp only [List.mem_cons, List.not_mem_nil, or_false] at hi
    rcases hi with rfl | rfl | rfl
    all_goals (simp only [opN, List.getD_cons_zero, List.getD_cons_succ, slotOf]; go_simp)
  go_wp2_with fail
  refine ⟨by first | trivial | rfl, ?_⟩
  go_wp2_with fail
  go_ret
  exact ⟨by rw [HE.out]; rfl, (Mod.refl _ _).drew⟩
theorem leftP_range {J : Jk} {D : Dk} (hk : JOk J D) : -65536 ≤ leftP J D ∧ leftP J D ≤ 65536 := by
  obtain ⟨n0, n1, e0, e1, a0, a1, _, _, _⟩ := hk
  have hh : 0 ≤ halfP D.n ∧ halfP D.n ≤ 32767 := by unfold halfP; omega
  have hb : 2 ≤ beginP D.n J.epoch ∧ beginP D.n J.epoch ≤ 32769 := by
    unfold beginP
    have : J.epoch % 2 = 0 ∨ J.epoch % 2 = 1 := by omega
    rcases this with h | h <;> rw [h] <;> omega
  unfold leftP
  omega
set_option maxHeartbeats 1000000 in
theorem jRoom_at {w : World} {base j d m : Nat} {J : Jk} {D : Dk} (h : JAt w base j d m J D) (hk : JOk J D) (n : Int) :
    Calls Try.prog 10 #[.pointer (some ⟨j, 0, none⟩), .int .i64 n] w fun e w' => e = .returned (.bool (roomB J D n)) ∧ Mod [] w w' := by
  have CN := Lib.hid (jNone_at h)
  have CL := Lib.hid (jLeft_at h hk)
  obtain ⟨hl0, hl1⟩ := leftP_range hk
  clear h hk
  by_cases h1 : 1 ≤ n
  · have d1 : decide (1 ≤ n) = true := decide_eq_true h1
    by_cases h2 : n ≤ 65536
    · have d2 : decide (n ≤ 65536) = true := decide_eq_true h2
      have CM := Lib.hid (jMany_at n (by omega) (by omega) w)
      by_cases h3 : (n + 81) / 64 + 1 ≤ leftP J D
      · have HR := Lib.hid (show roomB J D n = true from decide_eq_true ⟨h1, h2, h3⟩)
        generalize leftP J D = lf at CL hl0 hl1 h3
        have d3 : decide ((n + 81) / 64 + 1 ≤ lf) = true := decide_eq_true h3
        go_enter Try.func10, Try.ntmps10
        go_wp2_with (first | (refine CN.out.mono ?_; rintro e w' ⟨rfl, rfl⟩) | (refine CM.out.mono ?_; rintro e w' ⟨rfl, rfl⟩))
        refine CL.out.mono ?_
        rintro e w1 ⟨rfl, m1⟩
        have HM := Lib.hid m1
        clear m1
        go_wp2_with fail
        go_ret
        exact ⟨by rw [HR.out]; rfl, HM.out⟩
      · have HR := Lib.hid (show roomB J D n = false from decide_eq_false fun h => h3 h.2.2)
        generalize leftP J D = lf at CL hl0 hl1 h3
        have d3 : decide ((n + 81) / 64 + 1 ≤ lf) = false := decide_eq_false h3
        go_enter Try.func10, Try.ntmps10
        go_wp2_with (first | (refine CN.out.mono ?_; rintro e w' ⟨rfl, rfl⟩) | (refine CM.out.mono ?_; rintro e w' ⟨rfl, rfl⟩))
        refine CL.out.mono ?_
        rintro e w1 ⟨rfl, m1⟩
        have HM := Lib.hid m1
        clear m1
        go_wp2_with fail
        go_ret
        exact ⟨by rw [HR.out]; rfl, HM.out⟩
    · have d2 : decide (n ≤ 65536) = false := decide_eq_false h2
      have HR := Lib.hid (show roomB J D n = false from decide_eq_false fun h => h2 h.2.1)
      go_enter Try.func10, Try.ntmps10
      go_wp2_with (first | (refine CN.out.mono ?_; rintro e w' ⟨rfl, rfl⟩))
      go_ret
      exact ⟨by rw [HR.out]; rfl, Mod.refl _ _⟩
  · have d1 : decide (1 ≤ n) = false := decide_eq_false h1
    have HR := Lib.hid (show roomB J D n = false from decide_eq_false fun h => h1 h.1)
    go_enter Try.func10, Try.ntmps10
    go_wp2_with (first | (refine CN.out.mono ?_; rintro e w' ⟨rfl, rfl⟩))
    go_ret
    exact ⟨by rw [HR.out]; rfl, Mod.refl _ _⟩
end Go.Proofs.Ytnjfgbbdfdoccaa
