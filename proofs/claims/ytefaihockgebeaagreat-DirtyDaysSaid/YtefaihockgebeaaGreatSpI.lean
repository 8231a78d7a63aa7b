/- The document's spans: Of, Same, May, Wide, Days. -/
import Derived.Test.YtefaihockgebeaaGreatSpH
import Derived.Laws.StructEq
namespace Go.Proofs.YtefaihockgebeaaGreat
open Go.RowKit Go.ChangeMaps Go.Deep
set_option linter.unusedSimpArgs false
set_option linter.unusedVariables false
set_option maxRecDepth 20000

theorem eq_span (x y : Sp) (w : World) : (binOp .eql 45 (.agg #[.int .i64 x.1, .int .i64 x.2]) (.agg #[.int .i64 y.1, .int .i64 y.2])).run Tryz.prog w = .ok (.bool (decide (x = y))) w := by
  obtain ⟨a, b⟩ := x
  obtain ⟨c, d⟩ := y
  go_simp
  repeat' split
  all_goals simp [*]
theorem neq_span (x y : Sp) (w : World) : (binOp .neq 45 (.agg #[.int .i64 x.1, .int .i64 x.2]) (.agg #[.int .i64 y.1, .int .i64 y.2])).run Tryz.prog w = .ok (.bool (!decide (x = y))) w := by
  obtain ⟨a, b⟩ := x
  obtain ⟨c, d⟩ := y
  go_simp
  repeat' split
  all_goals simp [*]
theorem guard_span : Tryz.prog.eqGuardType Tryz.prog.depth 45 = false := by kernel_rfl
theorem rOf_any (v : Value) (l : List Sp) (w : World) (h : SpansAt w v l) (hl : l.length ≤ 20000) :
    Calls Tryz.prog 13 #[v] w fun e w' => ∃ v', e = .returned v' ∧ OwnS w' w.heap.size v' (twoS l [] 0) ∧ Mod [] w w' := by
  have HC := Lib.hid (rTwo_any v (.slice none 0 0) l [] 0 w h (.nil _ _) hl (by simp))
  clear h
  go_enter Tryz.func13, Tryz.ntmps13
  go_wp2_with fail
  refine HC.out.mono ?_
  rintro e w1 ⟨v1, rfl, o1, m1⟩
  have HO := Lib.hid o1
  have HM := Lib.hid m1
  clear o1 m1
  go_wp2_with fail
  go_ret
  exact ⟨_, rfl, HO.out, HM.out⟩
set_option maxHeartbeats 2000000 in
theorem rSame_any (u v : Value) (a b : List Sp) (w : World) (hu : SpansAt w u a) (hv : SpansAt w v b) (ha : a.length ≤ 100000000) (hb : b.length ≤ 100000000) :
    Calls Tryz.prog 9 #[u, v] w fun e w' => e = .returned (.bool (decide (a = b))) ∧ Mod [] w w' := by
  have HU := Lib.hid hu
  have HV := Lib.hid hv
  obtain ⟨ua, uc, rfl⟩ := hu.form
  obtain ⟨va, vc, rfl⟩ := hv.form
  clear hu hv
  by_cases hlen : a.length = b.length
  · have HL := Lib.hid hlen
    clear hlen
    rw [HL.out] at HU
    rw [HL.out]
    go_enter Tryz.func9, Tryz.ntmps9
    go_wp2_with fail
    go_loopw [5] (fun s5 wr => ∃ i : Nat, i ≤ b.length ∧ s5 = .int .i64 i ∧ Hid (Mod [] w wr) ∧ Hid (a.take i = b.take i)) (fun s5 _ => b.length - (intOf s5).toNat)
    case atStart => exact ⟨0, by omega, rfl, Lib.hid (Mod.refl _ _), Lib.hid rfl⟩
    case round =>
      obtain ⟨i, hi, rfl, hM, hall⟩ := hrel
      by_cases hlt : i < b.length
      · have hU := HU.out.kept0 hM.out
        rw [← HL.out] at hU
        obtain ⟨b1, o1, rfl, hc1, p0, p1⟩ := hU.get2 (i := i) (by rw [HL.out]; exact hlt)
        obtain ⟨b2, o2, rfl, hc2, q0, q1⟩ := (HV.out.kept0 hM.out).get2 hlt
        rw [HL.out] at hc1
        have HT1 := Lib.hid (show a.take (i + 1) = a.take i ++ [a[i]'(by rw [HL.out]; exact hlt)] from List.take_succ_eq_append_getElem _)
        have HT2 := Lib.hid (show b.take (i + 1) = b.take i ++ [b[i]] from List.take_succ_eq_append_getElem hlt)
        have HNE : Hid (a[i]'(by rw [HL.out]; exact hlt) ≠ b[i] → a ≠ b) := Lib.hid (fun h e => h (by subst e; rfl))
        generalize a[i]'(by rw [HL.out]; exact hlt) = x at p0 p1 HT1 HNE
        generalize b[i] = y at q0 q1 HT2 HNE
        have HQ := Lib.hid (neq_span x y)
        have HM0 := Lib.hid (hM.out.trans ((Mod.refl [] wr).drew))
        clear hU
        by_cases hde : x = y
        · rw [decide_eq_true hde] at HQ
          have HDE := Lib.hid hde
          obtain ⟨x1, x2⟩ := x
          obtain ⟨y1, y2⟩ := y
          dsimp only at p0 p1 q0 q1 HQ
          clear hde HNE
          go_wp2_with fail
          refine wp_plan [] [0, 1, 4, 5, 2, 6, 3, 7, 8] (by kernel_rfl) (by kernel_rfl) ?_
          simp only [wpSegs, opsOf, List.map_cons, List.map_nil, opN, List.getD_cons_zero, List.getD_cons_succ]
          go_wp2_with ((with_reducible refine xEqAgg (t := 45) rfl (HQ.out _) guard_span ?_ ?_ ?_ ?_); exact rfl; exact rfl; exact rfl)
          refine ⟨by first | trivial | rfl, ?_⟩
          go_wp2_with fail
          go_roundw
          case rel => exact ⟨i + 1, by omega, by go_num, HM0, Lib.hid (by rw [HT1.out, HT2.out, hall.out, HDE.out])⟩
          case measure => simp [intOf]; omega
        · rw [decide_eq_false hde] at HQ
          have HDE := Lib.hid (HNE.out hde)
          obtain ⟨x1, x2⟩ := x
          obtain ⟨y1, y2⟩ := y
          dsimp only at p0 p1 q0 q1 HQ
          clear hde HNE
          go_wp2_with fail
          refine wp_plan [] [0, 1, 4, 5, 2, 6, 3, 7, 8] (by kernel_rfl) (by kernel_rfl) ?_
          simp only [wpSegs, opsOf, List.map_cons, List.map_nil, opN, List.getD_cons_zero, List.getD_cons_succ]
          go_wp2_with ((with_reducible refine xEqAgg (t := 45) rfl (HQ.out _) guard_span ?_ ?_ ?_ ?_); exact rfl; exact rfl; exact rfl)
          refine ⟨by first | trivial | rfl, ?_⟩
          go_wp2_with fail
          go_ret
          exact ⟨by rw [decide_eq_false HDE.out]; rfl, HM0.out⟩
      · have HE : Hid (a = b) := Lib.hid (by
          have h1 := hall.out
          rw [List.take_of_length_le (by rw [HL.out]; omega), List.take_of_length_le (by omega)] at h1
          exact h1)
        go_wp2_with fail
        go_ret
        exact ⟨by rw [decide_eq_true HE.out]; rfl, hM.out⟩
  · have HNE := Lib.hid (show a ≠ b from fun e => hlen (by rw [e]))
    have hn : ((a.length : Int) == (b.length : Int)) = false := by simp; omega
    have hn2 : ((a.length : Int) != (b.length : Int)) = true := by simp; omega
    go_enter Tryz.func9, Tryz.ntmps9
    go_wp2
    go_ret
    exact ⟨by rw [decide_eq_false HNE.out]; rfl, Mod.refl _ _⟩
end Go.Proofs.YtefaihockgebeaaGreat
