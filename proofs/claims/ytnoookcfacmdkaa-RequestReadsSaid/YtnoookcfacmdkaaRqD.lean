/- Layer 25, the document's: May. -/
import Derived.Test.YtnoookcfacmdkaaRqC
import Derived.Test.YtnoookcfacmdkaaReqC
import Derived.Test.YtnoookcfacmdkaaReqV
namespace Go.Proofs.Ytnoookcfacmdkaa
open Go.RowKit Go.ChangeMaps Go.Deep
set_option linter.unusedSimpArgs false
set_option linter.unusedVariables false
set_option maxRecDepth 20000

theorem rfits_any (a b : Int) (w : World) : Calls Try.prog 51 #[.agg #[.int .i64 a, .int .i64 b]] w fun e w' => e = .returned (.bool (spanOk a b)) ∧ Mod [] w w' := by
  go_enter Try.func51, Try.ntmps51
  go_wp2
  all_goals
    go_ret
    refine ⟨bool_eq ?_, (Mod.refl _ _).alloc _⟩
    simp [spanOk, *]
  all_goals omega
def zeroS (a b : Int) : Bool := decide (a = 0 ∧ b = 0)
theorem eq_span (a b : Int) (w : World) : (binOp .eql 52 (.agg #[.int .i64 a, .int .i64 b]) (.agg #[.int .i64 0, .int .i64 0])).run Try.prog w = .ok (.bool (zeroS a b)) w := by
  unfold zeroS
  go_simp
  repeat' split
  all_goals simp [*]
theorem guard_span : Try.prog.eqGuardType Try.prog.depth 52 = false := by kernel_rfl
def zeroV (k c s e : Int) : Bool := decide (k = 0 ∧ c = 0 ∧ s = 0 ∧ e = 0)
theorem eq_value (k c s e : Int) (w : World) : (binOp .eql 76 (vKey k c s e) (vKey 0 0 0 0)).run Try.prog w = .ok (.bool (zeroV k c s e)) w := by
  unfold vKey zeroV
  go_simp
  repeat' split
  all_goals simp [*]
theorem guard_value : Try.prog.eqGuardType Try.prog.depth 76 = false := by kernel_rfl
def isNone (s : ByteArray) : Bool := decide (s.toList = [])
theorem isNone_t {s : ByteArray} (h : s.toList = []) : isNone s = true := decide_eq_true h
theorem isNone_f {s : ByteArray} (h : ¬ s.toList = []) : isNone s = false := decide_eq_false h
/-- may an operation be, as the document asks it -/
def mayDoc (d : DoR) : Bool :=
  if d.k = 1 then decide (d.f = 0) && decide ((d.nm.size : Int) ≤ 12) && zeroS d.a d.b && zeroV d.vk d.c d.s d.e && isNone d.tx
  else if d.k = 2 then decide (0 ≤ d.f) && decide (d.f ≤ 255) && isNone d.nm && decide (d.fk = 0) && spanOk d.a d.b && mayV d.vk d.c d.s d.e && (decide (d.vk = 1) || decide (d.vk = 2) || decide (d.vk = 3)) && isNone d.tx
  else if d.k = 3 then decide (0 ≤ d.f) && decide (d.f ≤ 255) && isNone d.nm && decide (d.fk = 0) && spanOk d.a d.b && zeroV d.vk d.c d.s d.e && isNone d.tx
  else if d.k = 4 ∨ d.k = 6 then decide (0 ≤ d.f) && decide (d.f ≤ 255) && isNone d.nm && decide (d.fk = 0) && zeroS d.a d.b && zeroV d.vk d.c d.s d.e && decide ((d.tx.size : Int) ≤ 400)
  else if d.k = 5 ∨ d.k = 7 then decide (0 ≤ d.f) && decide (d.f ≤ 255) && isNone d.nm && decide (d.fk = 0) && zeroS d.a d.b && zeroV d.vk d.c d.s d.e && isNone d.tx
  else false
set_option maxHeartbeats 16000000 in
theorem rdo_1 (f : Int) (nm : ByteArray) (fk a b vk c s e : Int) (tx : ByteArray) (hc1 : -9223372036854775808 ≤ c) (hc2 : c ≤ 9223372036854775807) (w : World) :
    Calls Try.prog 52 #[.agg (DoR.cells ⟨1, f, nm, fk, a, b, vk, c, s, e, tx⟩).toArray] w fun x w' => x = .returned (.bool (mayDoc ⟨1, f, nm, fk, a, b, vk, c, s, e, tx⟩)) ∧ Mod [] w w' := by
  unfold DoR.cells
  have HQ1 := Lib.hid (fun W => eq_span a b W)
  have HQ2 := Lib.hid (fun W => eq_value vk c s e W)
  unfold vKey at HQ2
  have HF := Lib.hid (fun w => rfits_any a b w)
  have HV := Lib.hid (fun w => vmay10_any vk c s e hc1 hc2 w)
  unfold vKey at HV
  obtain ⟨z1, hz1⟩ : ∃ z, Hid (zeroS a b = z) := ⟨_, Lib.hid rfl⟩
  obtain ⟨z2, hz2⟩ : ∃ z, Hid (zeroV vk c s e = z) := ⟨_, Lib.hid rfl⟩
  obtain ⟨z3, hz3⟩ : ∃ z, Hid (spanOk a b = z) := ⟨_, Lib.hid rfl⟩
  obtain ⟨z4, hz4⟩ : ∃ z, Hid (mayV vk c s e = z) := ⟨_, Lib.hid rfl⟩
  rw [hz1.out] at HQ1
  rw [hz2.out] at HQ2
  rw [hz3.out] at HF
  rw [hz4.out] at HV
  clear hc1 hc2
  by_cases hf : f = 0
  · skip
    subst hf
    by_cases hn : (nm.size : Int) ≤ 12
    · skip
      cases z1 with
      | true =>
        cases z2 with
        | true =>
          by_cases htx : tx.toList = []
          · skip
            have htxI := Lib.hid (isNone_t htx)
            have HE := Lib.hid (show mayDoc ⟨1, 0, nm, fk, a, b, vk, c, s, e, tx⟩ = true by simp [mayDoc, hn, hz1.out, hz2.out, htxI.out])
            go_enter Try.func52, Try.ntmps52
            go_wp2_with (first | ((with_reducible refine xEqAgg (t := 52) rfl (HQ1.out _) guard_span ?_ ?_ ?_ ?_); exact rfl; exact rfl; exact rfl) | ((with_reducible refine xEqAgg (t := 76) rfl (HQ2.out _) guard_value ?_ ?_ ?_ ?_); exact rfl; exact rfl; exact rfl))
            all_goals
              go_ret
              exact ⟨by rw [HE.out]; rfl, (((Mod.refl [] _).alloc _).alloc _).alloc _⟩
          · skip
            have htxI := Lib.hid (isNone_f htx)
            have htxb : tx.toList.isEmpty = false := by simpa using htx
            have HE := Lib.hid (show mayDoc ⟨1, 0, nm, fk, a, b, vk, c, s, e, tx⟩ = false by simp [mayDoc, hn, hz1.out, hz2.out, htxI.out])
            go_enter Try.func52, Try.ntmps52
            go_wp2_with (first | ((with_reducible refine xEqAgg (t := 52) rfl (HQ1.out _) guard_span ?_ ?_ ?_ ?_); exact rfl; exact rfl; exact rfl) | ((with_reducible refine xEqAgg (t := 76) rfl (HQ2.out _) guard_value ?_ ?_ ?_ ?_); exact rfl; exact rfl; exact rfl))
            all_goals
              go_ret
              exact ⟨by rw [HE.out]; rfl, (((Mod.refl [] _).alloc _).alloc _).alloc _⟩
        | false =>
          have HE := Lib.hid (show mayDoc ⟨1, 0, nm, fk, a, b, vk, c, s, e, tx⟩ = false by simp [mayDoc, hn, hz1.out, hz2.out])
          go_enter Try.func52, Try.ntmps52
          go_wp2_with (first | ((with_reducible refine xEqAgg (t := 52) rfl (HQ1.out _) guard_span ?_ ?_ ?_ ?_); exact rfl; exact rfl; exact rfl) | ((with_reducible refine xEqAgg (t := 76) rfl (HQ2.out _) guard_value ?_ ?_ ?_ ?_); exact rfl; exact rfl; exact rfl))
          all_goals
            go_ret
            exact ⟨by rw [HE.out]; rfl, (((Mod.refl [] _).alloc _).alloc _).alloc _⟩
      | false =>
        have HE := Lib.hid (show mayDoc ⟨1, 0, nm, fk, a, b, vk, c, s, e, tx⟩ = false by simp [mayDoc, hn, hz1.out])
        go_enter Try.func52, Try.ntmps52
        go_wp2_with (first | ((with_reducible refine xEqAgg (t := 52) rfl (HQ1.out _) guard_span ?_ ?_ ?_ ?_); exact rfl; exact rfl; exact rfl) | ((with_reducible refine xEqAgg (t := 76) rfl (HQ2.out _) guard_value ?_ ?_ ?_ ?_); exact rfl; exact rfl; exact rfl))
        all_goals
          go_ret
          exact ⟨by rw [HE.out]; rfl, (((Mod.refl [] _).alloc _).alloc _).alloc _⟩
    · skip
      have HE := Lib.hid (show mayDoc ⟨1, 0, nm, fk, a, b, vk, c, s, e, tx⟩ = false by simp [mayDoc, hn])
      go_enter Try.func52, Try.ntmps52
      go_wp2_with (first | ((with_reducible refine xEqAgg (t := 52) rfl (HQ1.out _) guard_span ?_ ?_ ?_ ?_); exact rfl; exact rfl; exact rfl) | ((with_reducible refine xEqAgg (t := 76) rfl (HQ2.out _) guard_value ?_ ?_ ?_ ?_); exact rfl; exact rfl; exact rfl))
      all_goals
        go_ret
        exact ⟨by rw [HE.out]; rfl, (((Mod.refl [] _).alloc _).alloc _).alloc _⟩
  · skip
    have hfb : (f == 0) = false := by simpa using hf
    have HE := Lib.hid (show mayDoc ⟨1, f, nm, fk, a, b, vk, c, s, e, tx⟩ = false by simp [mayDoc, hf])
    go_enter Try.func52, Try.ntmps52
    go_wp2_with (first | ((with_reducible refine xEqAgg (t := 52) rfl (HQ1.out _) guard_span ?_ ?_ ?_ ?_); exact rfl; exact rfl; exact rfl) | ((with_reducible refine xEqAgg (t := 76) rfl (HQ2.out _) guard_value ?_ ?_ ?_ ?_); exact rfl; exact rfl; exact rfl))
    all_goals
      go_ret
      exact ⟨by rw [HE.out]; rfl, (((Mod.refl [] _).alloc _).alloc _).alloc _⟩
set_option maxHeartbeats 16000000 in
theorem rdo_2 (f : Int) (nm : ByteArray) (fk a b vk c s e : Int) (tx : ByteArray) (hc1 : -9223372036854775808 ≤ c) (hc2 : c ≤ 9223372036854775807) (w : World) :
    Calls Try.prog 52 #[.agg (DoR.cells ⟨2, f, nm, fk, a, b, vk, c, s, e, tx⟩).toArray] w fun x w' => x = .returned (.bool (mayDoc ⟨2, f, nm, fk, a, b, vk, c, s, e, tx⟩)) ∧ Mod [] w w' := by
  unfold DoR.cells
  have HQ1 := Lib.hid (fun W => eq_span a b W)
  have HQ2 := Lib.hid (fun W => eq_value vk c s e W)
  unfold vKey at HQ2
  have HF := Lib.hid (fun w => rfits_any a b w)
  have HV := Lib.hid (fun w => vmay10_any vk c s e hc1 hc2 w)
  unfold vKey at HV
  obtain ⟨z1, hz1⟩ : ∃ z, Hid (zeroS a b = z) := ⟨_, Lib.hid rfl⟩
  obtain ⟨z2, hz2⟩ : ∃ z, Hid (zeroV vk c s e = z) := ⟨_, Lib.hid rfl⟩
  obtain ⟨z3, hz3⟩ : ∃ z, Hid (spanOk a b = z) := ⟨_, Lib.hid rfl⟩
  obtain ⟨z4, hz4⟩ : ∃ z, Hid (mayV vk c s e = z) := ⟨_, Lib.hid rfl⟩
  rw [hz1.out] at HQ1
  rw [hz2.out] at HQ2
  rw [hz3.out] at HF
  rw [hz4.out] at HV
  clear hc1 hc2
  by_cases h0 : 0 ≤ f
  · skip
    by_cases h255 : f ≤ 255
    · skip
      by_cases hnm : nm.toList = []
      · skip
        have hnmI := Lib.hid (isNone_t hnm)
        by_cases hfk : fk = 0
        · skip
          subst hfk
          cases z3 with
          | true =>
            cases z4 with
            | true =>
              by_cases hv1 : vk = 1
              · subst hv1
                by_cases htx : tx.toList = []
                · skip
                  have htxI := Lib.hid (isNone_t htx)
                  have HE := Lib.hid (show mayDoc ⟨2, f, nm, 0, a, b, 1, c, s, e, tx⟩ = true by simp [mayDoc, h0, h255, hnmI.out, hz3.out, hz4.out, htxI.out])
                  have hb0 := ((((Mod.refl [] (w.alloc (.cells (DoR.cells ⟨2, f, nm, 0, a, b, 1, c, s, e, tx⟩).toArray 78))).alloc (.cells #[.int .u8 0, .int .i64 0, .int .i64 0, .int .i64 0] 76)).alloc (.cells #[.int .i64 0, .int .i64 0] 52)).heap (heap_alloc_new w _) (by simp))
                  have hb1 := (((Mod.refl [] ((w.alloc (.cells (DoR.cells ⟨2, f, nm, 0, a, b, 1, c, s, e, tx⟩).toArray 78)).alloc (.cells #[.int .u8 0, .int .i64 0, .int .i64 0, .int .i64 0] 76))).alloc (.cells #[.int .i64 0, .int .i64 0] 52)).heap (heap_alloc_new (w.alloc (.cells (DoR.cells ⟨2, f, nm, 0, a, b, 1, c, s, e, tx⟩).toArray 78)) _) (by simp))
                  have hMW := (((Mod.refl [] w).alloc (.cells (DoR.cells ⟨2, f, nm, 0, a, b, 1, c, s, e, tx⟩).toArray 78)).alloc (.cells #[.int .u8 0, .int .i64 0, .int .i64 0, .int .i64 0] 76)).alloc (.cells #[.int .i64 0, .int .i64 0] 52)
                  rw [show (w.alloc (.cells (DoR.cells ⟨2, f, nm, 0, a, b, 1, c, s, e, tx⟩).toArray 78)).heap.size = w.heap.size + 1 by simp] at hb1
                  unfold DoR.cells at hb0 hb1 hMW
                  have HB0 := Lib.hid hb0
                  have HB1 := Lib.hid hb1
                  have HMW := Lib.hid hMW
                  clear hb0 hb1 hMW
                  go_enter Try.func52, Try.ntmps52
                  go_wp2_with (first | ((with_reducible refine xEqAgg (t := 52) rfl (HQ1.out _) guard_span ?_ ?_ ?_ ?_); exact rfl; exact rfl; exact rfl) | ((with_reducible refine xEqAgg (t := 76) rfl (HQ2.out _) guard_value ?_ ?_ ?_ ?_); exact rfl; exact rfl; exact rfl))
                  refine (HF.out _).mono ?_
                  rintro x w1 ⟨rfl, m1⟩
                  have hB0 := m1.heap HB0.out (by simp)
                  have hB1 := m1.heap HB1.out (by simp)
                  have q0 := cell_blk hB0 0
                  have q1 := cell_blk hB0 1
                  have q2 := cell_blk hB0 2
                  have q3 := cell_blk hB0 3
                  have q4 := cell_blk hB0 4
                  have q5 := cell_blk hB0 5
                  have q6 := cell_blk hB0 6
                  have q7 := cell_blk hB0 7
                  have q8 := cell_blk hB0 8
                  have q9 := cell_blk hB0 9
                  have q10 := cell_blk hB0 10
                  have r0 := cell_blk hB1 0
                  have r1 := cell_blk hB1 1
                  have r2 := cell_blk hB1 2
                  have r3 := cell_blk hB1 3
                  simp only [List.getElem?_toArray, List.getElem?_cons_succ, List.getElem?_cons_zero] at q0 q1 q2 q3 q4 q5 q6 q7 q8 q9 q10 r0 r1 r2 r3
                  have HMW := Lib.hid (HMW.out.trans m1)
                  clear m1
                  have HB0 := Lib.hid hB0
                  have HB1 := Lib.hid hB1
                  clear hB0 hB1
                  have hB0 := HB0.out
                  have hB1 := HB1.out
                  go_wp2_with (first | ((with_reducible refine xEqAgg (t := 52) rfl (HQ1.out _) guard_span ?_ ?_ ?_ ?_); exact rfl; exact rfl; exact rfl) | ((with_reducible refine xEqAgg (t := 76) rfl (HQ2.out _) guard_value ?_ ?_ ?_ ?_); exact rfl; exact rfl; exact rfl))
                  refine (HV.out _).mono ?_
                  rintro x w2 ⟨rfl, m2⟩
                  have hB0 := m2.heap hB0 (by simp)
                  have hB1 := m2.heap hB1 (by simp)
                  have q0 := cell_blk hB0 0
                  have q1 := cell_blk hB0 1
                  have q2 := cell_blk hB0 2
                  have q3 := cell_blk hB0 3
                  have q4 := cell_blk hB0 4
                  have q5 := cell_blk hB0 5
                  have q6 := cell_blk hB0 6
                  have q7 := cell_blk hB0 7
                  have q8 := cell_blk hB0 8
                  have q9 := cell_blk hB0 9
                  have q10 := cell_blk hB0 10
                  have r0 := cell_blk hB1 0
                  have r1 := cell_blk hB1 1
                  have r2 := cell_blk hB1 2
                  have r3 := cell_blk hB1 3
                  simp only [List.getElem?_toArray, List.getElem?_cons_succ, List.getElem?_cons_zero] at q0 q1 q2 q3 q4 q5 q6 q7 q8 q9 q10 r0 r1 r2 r3
                  have HMW := Lib.hid (HMW.out.trans m2)
                  clear m2
                  have HB0 := Lib.hid hB0
                  have HB1 := Lib.hid hB1
                  clear hB0 hB1
                  skip
                  skip
                  go_wp2_with (first | ((with_reducible refine xEqAgg (t := 52) rfl (HQ1.out _) guard_span ?_ ?_ ?_ ?_); exact rfl; exact rfl; exact rfl) | ((with_reducible refine xEqAgg (t := 76) rfl (HQ2.out _) guard_value ?_ ?_ ?_ ?_); exact rfl; exact rfl; exact rfl))
                  all_goals
                    go_ret
                    exact ⟨by rw [HE.out]; rfl, HMW.out⟩
                · skip
                  have htxI := Lib.hid (isNone_f htx)
                  have htxb : tx.toList.isEmpty = false := by simpa using htx
                  have HE := Lib.hid (show mayDoc ⟨2, f, nm, 0, a, b, 1, c, s, e, tx⟩ = false by simp [mayDoc, h0, h255, hnmI.out, hz3.out, hz4.out, htxI.out])
                  have hb0 := ((((Mod.refl [] (w.alloc (.cells (DoR.cells ⟨2, f, nm, 0, a, b, 1, c, s, e, tx⟩).toArray 78))).alloc (.cells #[.int .u8 0, .int .i64 0, .int .i64 0, .int .i64 0] 76)).alloc (.cells #[.int .i64 0, .int .i64 0] 52)).heap (heap_alloc_new w _) (by simp))
                  have hb1 := (((Mod.refl [] ((w.alloc (.cells (DoR.cells ⟨2, f, nm, 0, a, b, 1, c, s, e, tx⟩).toArray 78)).alloc (.cells #[.int .u8 0, .int .i64 0, .int .i64 0, .int .i64 0] 76))).alloc (.cells #[.int .i64 0, .int .i64 0] 52)).heap (heap_alloc_new (w.alloc (.cells (DoR.cells ⟨2, f, nm, 0, a, b, 1, c, s, e, tx⟩).toArray 78)) _) (by simp))
                  have hMW := (((Mod.refl [] w).alloc (.cells (DoR.cells ⟨2, f, nm, 0, a, b, 1, c, s, e, tx⟩).toArray 78)).alloc (.cells #[.int .u8 0, .int .i64 0, .int .i64 0, .int .i64 0] 76)).alloc (.cells #[.int .i64 0, .int .i64 0] 52)
                  rw [show (w.alloc (.cells (DoR.cells ⟨2, f, nm, 0, a, b, 1, c, s, e, tx⟩).toArray 78)).heap.size = w.heap.size + 1 by simp] at hb1
                  unfold DoR.cells at hb0 hb1 hMW
                  have HB0 := Lib.hid hb0
                  have HB1 := Lib.hid hb1
                  have HMW := Lib.hid hMW
                  clear hb0 hb1 hMW
                  go_enter Try.func52, Try.ntmps52
                  go_wp2_with (first | ((with_reducible refine xEqAgg (t := 52) rfl (HQ1.out _) guard_span ?_ ?_ ?_ ?_); exact rfl; exact rfl; exact rfl) | ((with_reducible refine xEqAgg (t := 76) rfl (HQ2.out _) guard_value ?_ ?_ ?_ ?_); exact rfl; exact rfl; exact rfl))
                  refine (HF.out _).mono ?_
                  rintro x w1 ⟨rfl, m1⟩
                  have hB0 := m1.heap HB0.out (by simp)
                  have hB1 := m1.heap HB1.out (by simp)
                  have q0 := cell_blk hB0 0
                  have q1 := cell_blk hB0 1
                  have q2 := cell_blk hB0 2
                  have q3 := cell_blk hB0 3
                  have q4 := cell_blk hB0 4
                  have q5 := cell_blk hB0 5
                  have q6 := cell_blk hB0 6
                  have q7 := cell_blk hB0 7
                  have q8 := cell_blk hB0 8
                  have q9 := cell_blk hB0 9
                  have q10 := cell_blk hB0 10
                  have r0 := cell_blk hB1 0
                  have r1 := cell_blk hB1 1
                  have r2 := cell_blk hB1 2
                  have r3 := cell_blk hB1 3
                  simp only [List.getElem?_toArray, List.getElem?_cons_succ, List.getElem?_cons_zero] at q0 q1 q2 q3 q4 q5 q6 q7 q8 q9 q10 r0 r1 r2 r3
                  have HMW := Lib.hid (HMW.out.trans m1)
                  clear m1
                  have HB0 := Lib.hid hB0
                  have HB1 := Lib.hid hB1
                  clear hB0 hB1
                  have hB0 := HB0.out
                  have hB1 := HB1.out
                  go_wp2_with (first | ((with_reducible refine xEqAgg (t := 52) rfl (HQ1.out _) guard_span ?_ ?_ ?_ ?_); exact rfl; exact rfl; exact rfl) | ((with_reducible refine xEqAgg (t := 76) rfl (HQ2.out _) guard_value ?_ ?_ ?_ ?_); exact rfl; exact rfl; exact rfl))
                  refine (HV.out _).mono ?_
                  rintro x w2 ⟨rfl, m2⟩
                  have hB0 := m2.heap hB0 (by simp)
                  have hB1 := m2.heap hB1 (by simp)
                  have q0 := cell_blk hB0 0
                  have q1 := cell_blk hB0 1
                  have q2 := cell_blk hB0 2
                  have q3 := cell_blk hB0 3
                  have q4 := cell_blk hB0 4
                  have q5 := cell_blk hB0 5
                  have q6 := cell_blk hB0 6
                  have q7 := cell_blk hB0 7
                  have q8 := cell_blk hB0 8
                  have q9 := cell_blk hB0 9
                  have q10 := cell_blk hB0 10
                  have r0 := cell_blk hB1 0
                  have r1 := cell_blk hB1 1
                  have r2 := cell_blk hB1 2
                  have r3 := cell_blk hB1 3
                  simp only [List.getElem?_toArray, List.getElem?_cons_succ, List.getElem?_cons_zero] at q0 q1 q2 q3 q4 q5 q6 q7 q8 q9 q10 r0 r1 r2 r3
                  have HMW := Lib.hid (HMW.out.trans m2)
                  clear m2
                  have HB0 := Lib.hid hB0
                  have HB1 := Lib.hid hB1
                  clear hB0 hB1
                  skip
                  skip
                  go_wp2_with (first | ((with_reducible refine xEqAgg (t := 52) rfl (HQ1.out _) guard_span ?_ ?_ ?_ ?_); exact rfl; exact rfl; exact rfl) | ((with_reducible refine xEqAgg (t := 76) rfl (HQ2.out _) guard_value ?_ ?_ ?_ ?_); exact rfl; exact rfl; exact rfl))
                  all_goals
                    go_ret
                    exact ⟨by rw [HE.out]; rfl, HMW.out⟩
              · have hv1b : (vk == 1) = false := by simpa using hv1
                by_cases hv2 : vk = 2
                · subst hv2
                  by_cases htx : tx.toList = []
                  · skip
                    have htxI := Lib.hid (isNone_t htx)
                    have HE := Lib.hid (show mayDoc ⟨2, f, nm, 0, a, b, 2, c, s, e, tx⟩ = true by simp [mayDoc, h0, h255, hnmI.out, hz3.out, hz4.out, htxI.out])
                    have hb0 := ((((Mod.refl [] (w.alloc (.cells (DoR.cells ⟨2, f, nm, 0, a, b, 2, c, s, e, tx⟩).toArray 78))).alloc (.cells #[.int .u8 0, .int .i64 0, .int .i64 0, .int .i64 0] 76)).alloc (.cells #[.int .i64 0, .int .i64 0] 52)).heap (heap_alloc_new w _) (by simp))
                    have hb1 := (((Mod.refl [] ((w.alloc (.cells (DoR.cells ⟨2, f, nm, 0, a, b, 2, c, s, e, tx⟩).toArray 78)).alloc (.cells #[.int .u8 0, .int .i64 0, .int .i64 0, .int .i64 0] 76))).alloc (.cells #[.int .i64 0, .int .i64 0] 52)).heap (heap_alloc_new (w.alloc (.cells (DoR.cells ⟨2, f, nm, 0, a, b, 2, c, s, e, tx⟩).toArray 78)) _) (by simp))
                    have hMW := (((Mod.refl [] w).alloc (.cells (DoR.cells ⟨2, f, nm, 0, a, b, 2, c, s, e, tx⟩).toArray 78)).alloc (.cells #[.int .u8 0, .int .i64 0, .int .i64 0, .int .i64 0] 76)).alloc (.cells #[.int .i64 0, .int .i64 0] 52)
                    rw [show (w.alloc (.cells (DoR.cells ⟨2, f, nm, 0, a, b, 2, c, s, e, tx⟩).toArray 78)).heap.size = w.heap.size + 1 by simp] at hb1
                    unfold DoR.cells at hb0 hb1 hMW
                    have HB0 := Lib.hid hb0
                    have HB1 := Lib.hid hb1
                    have HMW := Lib.hid hMW
                    clear hb0 hb1 hMW
                    go_enter Try.func52, Try.ntmps52
                    go_wp2_with (first | ((with_reducible refine xEqAgg (t := 52) rfl (HQ1.out _) guard_span ?_ ?_ ?_ ?_); exact rfl; exact rfl; exact rfl) | ((with_reducible refine xEqAgg (t := 76) rfl (HQ2.out _) guard_value ?_ ?_ ?_ ?_); exact rfl; exact rfl; exact rfl))
                    refine (HF.out _).mono ?_
                    rintro x w1 ⟨rfl, m1⟩
                    have hB0 := m1.heap HB0.out (by simp)
                    have hB1 := m1.heap HB1.out (by simp)
                    have q0 := cell_blk hB0 0
                    have q1 := cell_blk hB0 1
                    have q2 := cell_blk hB0 2
                    have q3 := cell_blk hB0 3
                    have q4 := cell_blk hB0 4
                    have q5 := cell_blk hB0 5
                    have q6 := cell_blk hB0 6
                    have q7 := cell_blk hB0 7
                    have q8 := cell_blk hB0 8
                    have q9 := cell_blk hB0 9
                    have q10 := cell_blk hB0 10
                    have r0 := cell_blk hB1 0
                    have r1 := cell_blk hB1 1
                    have r2 := cell_blk hB1 2
                    have r3 := cell_blk hB1 3
                    simp only [List.getElem?_toArray, List.getElem?_cons_succ, List.getElem?_cons_zero] at q0 q1 q2 q3 q4 q5 q6 q7 q8 q9 q10 r0 r1 r2 r3
                    have HMW := Lib.hid (HMW.out.trans m1)
                    clear m1
                    have HB0 := Lib.hid hB0
                    have HB1 := Lib.hid hB1
                    clear hB0 hB1
                    have hB0 := HB0.out
                    have hB1 := HB1.out
                    go_wp2_with (first | ((with_reducible refine xEqAgg (t := 52) rfl (HQ1.out _) guard_span ?_ ?_ ?_ ?_); exact rfl; exact rfl; exact rfl) | ((with_reducible refine xEqAgg (t := 76) rfl (HQ2.out _) guard_value ?_ ?_ ?_ ?_); exact rfl; exact rfl; exact rfl))
                    refine (HV.out _).mono ?_
                    rintro x w2 ⟨rfl, m2⟩
                    have hB0 := m2.heap hB0 (by simp)
                    have hB1 := m2.heap hB1 (by simp)
                    have q0 := cell_blk hB0 0
                    have q1 := cell_blk hB0 1
                    have q2 := cell_blk hB0 2
                    have q3 := cell_blk hB0 3
                    have q4 := cell_blk hB0 4
                    have q5 := cell_blk hB0 5
                    have q6 := cell_blk hB0 6
                    have q7 := cell_blk hB0 7
                    have q8 := cell_blk hB0 8
                    have q9 := cell_blk hB0 9
                    have q10 := cell_blk hB0 10
                    have r0 := cell_blk hB1 0
                    have r1 := cell_blk hB1 1
                    have r2 := cell_blk hB1 2
                    have r3 := cell_blk hB1 3
                    simp only [List.getElem?_toArray, List.getElem?_cons_succ, List.getElem?_cons_zero] at q0 q1 q2 q3 q4 q5 q6 q7 q8 q9 q10 r0 r1 r2 r3
                    have HMW := Lib.hid (HMW.out.trans m2)
                    clear m2
                    have HB0 := Lib.hid hB0
                    have HB1 := Lib.hid hB1
                    clear hB0 hB1
                    skip
                    skip
                    go_wp2_with (first | ((with_reducible refine xEqAgg (t := 52) rfl (HQ1.out _) guard_span ?_ ?_ ?_ ?_); exact rfl; exact rfl; exact rfl) | ((with_reducible refine xEqAgg (t := 76) rfl (HQ2.out _) guard_value ?_ ?_ ?_ ?_); exact rfl; exact rfl; exact rfl))
                    all_goals
                      go_ret
                      exact ⟨by rw [HE.out]; rfl, HMW.out⟩
                  · skip
                    have htxI := Lib.hid (isNone_f htx)
                    have htxb : tx.toList.isEmpty = false := by simpa using htx
                    have HE := Lib.hid (show mayDoc ⟨2, f, nm, 0, a, b, 2, c, s, e, tx⟩ = false by simp [mayDoc, h0, h255, hnmI.out, hz3.out, hz4.out, htxI.out])
                    have hb0 := ((((Mod.refl [] (w.alloc (.cells (DoR.cells ⟨2, f, nm, 0, a, b, 2, c, s, e, tx⟩).toArray 78))).alloc (.cells #[.int .u8 0, .int .i64 0, .int .i64 0, .int .i64 0] 76)).alloc (.cells #[.int .i64 0, .int .i64 0] 52)).heap (heap_alloc_new w _) (by simp))
                    have hb1 := (((Mod.refl [] ((w.alloc (.cells (DoR.cells ⟨2, f, nm, 0, a, b, 2, c, s, e, tx⟩).toArray 78)).alloc (.cells #[.int .u8 0, .int .i64 0, .int .i64 0, .int .i64 0] 76))).alloc (.cells #[.int .i64 0, .int .i64 0] 52)).heap (heap_alloc_new (w.alloc (.cells (DoR.cells ⟨2, f, nm, 0, a, b, 2, c, s, e, tx⟩).toArray 78)) _) (by simp))
                    have hMW := (((Mod.refl [] w).alloc (.cells (DoR.cells ⟨2, f, nm, 0, a, b, 2, c, s, e, tx⟩).toArray 78)).alloc (.cells #[.int .u8 0, .int .i64 0, .int .i64 0, .int .i64 0] 76)).alloc (.cells #[.int .i64 0, .int .i64 0] 52)
                    rw [show (w.alloc (.cells (DoR.cells ⟨2, f, nm, 0, a, b, 2, c, s, e, tx⟩).toArray 78)).heap.size = w.heap.size + 1 by simp] at hb1
                    unfold DoR.cells at hb0 hb1 hMW
                    have HB0 := Lib.hid hb0
                    have HB1 := Lib.hid hb1
                    have HMW := Lib.hid hMW
                    clear hb0 hb1 hMW
                    go_enter Try.func52, Try.ntmps52
                    go_wp2_with (first | ((with_reducible refine xEqAgg (t := 52) rfl (HQ1.out _) guard_span ?_ ?_ ?_ ?_); exact rfl; exact rfl; exact rfl) | ((with_reducible refine xEqAgg (t := 76) rfl (HQ2.out _) guard_value ?_ ?_ ?_ ?_); exact rfl; exact rfl; exact rfl))
                    refine (HF.out _).mono ?_
                    rintro x w1 ⟨rfl, m1⟩
                    have hB0 := m1.heap HB0.out (by simp)
                    have hB1 := m1.heap HB1.out (by simp)
                    have q0 := cell_blk hB0 0
                    have q1 := cell_blk hB0 1
                    have q2 := cell_blk hB0 2
                    have q3 := cell_blk hB0 3
                    have q4 := cell_blk hB0 4
                    have q5 := cell_blk hB0 5
                    have q6 := cell_blk hB0 6
                    have q7 := cell_blk hB0 7
                    have q8 := cell_blk hB0 8
                    have q9 := cell_blk hB0 9
                    have q10 := cell_blk hB0 10
                    have r0 := cell_blk hB1 0
                    have r1 := cell_blk hB1 1
                    have r2 := cell_blk hB1 2
                    have r3 := cell_blk hB1 3
                    simp only [List.getElem?_toArray, List.getElem?_cons_succ, List.getElem?_cons_zero] at q0 q1 q2 q3 q4 q5 q6 q7 q8 q9 q10 r0 r1 r2 r3
                    have HMW := Lib.hid (HMW.out.trans m1)
                    clear m1
                    have HB0 := Lib.hid hB0
                    have HB1 := Lib.hid hB1
                    clear hB0 hB1
                    have hB0 := HB0.out
                    have hB1 := HB1.out
                    go_wp2_with (first | ((with_reducible refine xEqAgg (t := 52) rfl (HQ1.out _) guard_span ?_ ?_ ?_ ?_); exact rfl; exact rfl; exact rfl) | ((with_reducible refine xEqAgg (t := 76) rfl (HQ2.out _) guard_value ?_ ?_ ?_ ?_); exact rfl; exact rfl; exact rfl))
                    refine (HV.out _).mono ?_
                    rintro x w2 ⟨rfl, m2⟩
                    have hB0 := m2.heap hB0 (by simp)
                    have hB1 := m2.heap hB1 (by simp)
                    have q0 := cell_blk hB0 0
                    have q1 := cell_blk hB0 1
                    have q2 := cell_blk hB0 2
                    have q3 := cell_blk hB0 3
                    have q4 := cell_blk hB0 4
                    have q5 := cell_blk hB0 5
                    have q6 := cell_blk hB0 6
                    have q7 := cell_blk hB0 7
                    have q8 := cell_blk hB0 8
                    have q9 := cell_blk hB0 9
                    have q10 := cell_blk hB0 10
                    have r0 := cell_blk hB1 0
                    have r1 := cell_blk hB1 1
                    have r2 := cell_blk hB1 2
                    have r3 := cell_blk hB1 3
                    simp only [List.getElem?_toArray, List.getElem?_cons_succ, List.getElem?_cons_zero] at q0 q1 q2 q3 q4 q5 q6 q7 q8 q9 q10 r0 r1 r2 r3
                    have HMW := Lib.hid (HMW.out.trans m2)
                    clear m2
                    have HB0 := Lib.hid hB0
                    have HB1 := Lib.hid hB1
                    clear hB0 hB1
                    skip
                    skip
                    go_wp2_with (first | ((with_reducible refine xEqAgg (t := 52) rfl (HQ1.out _) guard_span ?_ ?_ ?_ ?_); exact rfl; exact rfl; exact rfl) | ((with_reducible refine xEqAgg (t := 76) rfl (HQ2.out _) guard_value ?_ ?_ ?_ ?_); exact rfl; exact rfl; exact rfl))
                    all_goals
                      go_ret
                      exact ⟨by rw [HE.out]; rfl, HMW.out⟩
                · have hv2b : (vk == 2) = false := by simpa using hv2
                  by_cases hv3 : vk = 3
                  · subst hv3
                    by_cases htx : tx.toList = []
                    · skip
                      have htxI := Lib.hid (isNone_t htx)
                      have HE := Lib.hid (show mayDoc ⟨2, f, nm, 0, a, b, 3, c, s, e, tx⟩ = true by simp [mayDoc, h0, h255, hnmI.out, hz3.out, hz4.out, htxI.out])
                      have hb0 := ((((Mod.refl [] (w.alloc (.cells (DoR.cells ⟨2, f, nm, 0, a, b, 3, c, s, e, tx⟩).toArray 78))).alloc (.cells #[.int .u8 0, .int .i64 0, .int .i64 0, .int .i64 0] 76)).alloc (.cells #[.int .i64 0, .int .i64 0] 52)).heap (heap_alloc_new w _) (by simp))
                      have hb1 := (((Mod.refl [] ((w.alloc (.cells (DoR.cells ⟨2, f, nm, 0, a, b, 3, c, s, e, tx⟩).toArray 78)).alloc (.cells #[.int .u8 0, .int .i64 0, .int .i64 0, .int .i64 0] 76))).alloc (.cells #[.int .i64 0, .int .i64 0] 52)).heap (heap_alloc_new (w.alloc (.cells (DoR.cells ⟨2, f, nm, 0, a, b, 3, c, s, e, tx⟩).toArray 78)) _) (by simp))
                      have hMW := (((Mod.refl [] w).alloc (.cells (DoR.cells ⟨2, f, nm, 0, a, b, 3, c, s, e, tx⟩).toArray 78)).alloc (.cells #[.int .u8 0, .int .i64 0, .int .i64 0, .int .i64 0] 76)).alloc (.cells #[.int .i64 0, .int .i64 0] 52)
                      rw [show (w.alloc (.cells (DoR.cells ⟨2, f, nm, 0, a, b, 3, c, s, e, tx⟩).toArray 78)).heap.size = w.heap.size + 1 by simp] at hb1
                      unfold DoR.cells at hb0 hb1 hMW
                      have HB0 := Lib.hid hb0
                      have HB1 := Lib.hid hb1
                      have HMW := Lib.hid hMW
                      clear hb0 hb1 hMW
                      go_enter Try.func52, Try.ntmps52
                      go_wp2_with (first | ((with_reducible refine xEqAgg (t := 52) rfl (HQ1.out _) guard_span ?_ ?_ ?_ ?_); exact rfl; exact rfl; exact rfl) | ((with_reducible refine xEqAgg (t := 76) rfl (HQ2.out _) guard_value ?_ ?_ ?_ ?_); exact rfl; exact rfl; exact rfl))
                      refine (HF.out _).mono ?_
                      rintro x w1 ⟨rfl, m1⟩
                      have hB0 := m1.heap HB0.out (by simp)
                      have hB1 := m1.heap HB1.out (by simp)
                      have q0 := cell_blk hB0 0
                      have q1 := cell_blk hB0 1
                      have q2 := cell_blk hB0 2
                      have q3 := cell_blk hB0 3
                      have q4 := cell_blk hB0 4
                      have q5 := cell_blk hB0 5
                      have q6 := cell_blk hB0 6
                      have q7 := cell_blk hB0 7
                      have q8 := cell_blk hB0 8
                      have q9 := cell_blk hB0 9
                      have q10 := cell_blk hB0 10
                      have r0 := cell_blk hB1 0
                      have r1 := cell_blk hB1 1
                      have r2 := cell_blk hB1 2
                      have r3 := cell_blk hB1 3
                      simp only [List.getElem?_toArray, List.getElem?_cons_succ, List.getElem?_cons_zero] at q0 q1 q2 q3 q4 q5 q6 q7 q8 q9 q10 r0 r1 r2 r3
                      have HMW := Lib.hid (HMW.out.trans m1)
                      clear m1
                      have HB0 := Lib.hid hB0
                      have HB1 := Lib.hid hB1
                      clear hB0 hB1
                      have hB0 := HB0.out
                      have hB1 := HB1.out
                      go_wp2_with (first | ((with_reducible refine xEqAgg (t := 52) rfl (HQ1.out _) guard_span ?_ ?_ ?_ ?_); exact rfl; exact rfl; exact rfl) | ((with_reducible refine xEqAgg (t := 76) rfl (HQ2.out _) guard_value ?_ ?_ ?_ ?_); exact rfl; exact rfl; exact rfl))
                      refine (HV.out _).mono ?_
                      rintro x w2 ⟨rfl, m2⟩
                      have hB0 := m2.heap hB0 (by simp)
                      have hB1 := m2.heap hB1 (by simp)
                      have q0 := cell_blk hB0 0
                      have q1 := cell_blk hB0 1
                      have q2 := cell_blk hB0 2
                      have q3 := cell_blk hB0 3
                      have q4 := cell_blk hB0 4
                      have q5 := cell_blk hB0 5
                      have q6 := cell_blk hB0 6
                      have q7 := cell_blk hB0 7
                      have q8 := cell_blk hB0 8
                      have q9 := cell_blk hB0 9
                      have q10 := cell_blk hB0 10
                      have r0 := cell_blk hB1 0
                      have r1 := cell_blk hB1 1
                      have r2 := cell_blk hB1 2
                      have r3 := cell_blk hB1 3
                      simp only [List.getElem?_toArray, List.getElem?_cons_succ, List.getElem?_cons_zero] at q0 q1 q2 q3 q4 q5 q6 q7 q8 q9 q10 r0 r1 r2 r3
                      have HMW := Lib.hid (HMW.out.trans m2)
                      clear m2
                      have HB0 := Lib.hid hB0
                      have HB1 := Lib.hid hB1
                      clear hB0 hB1
                      skip
                      skip
                      go_wp2_with (first | ((with_reducible refine xEqAgg (t := 52) rfl (HQ1.out _) guard_span ?_ ?_ ?_ ?_); exact rfl; exact rfl; exact rfl) | ((with_reducible refine xEqAgg (t := 76) rfl (HQ2.out _) guard_value ?_ ?_ ?_ ?_); exact rfl; exact rfl; exact rfl))
                      all_goals
                        go_ret
                        exact ⟨by rw [HE.out]; rfl, HMW.out⟩
                    · skip
                      have htxI := Lib.hid (isNone_f htx)
                      have htxb : tx.toList.isEmpty = false := by simpa using htx
                      have HE := Lib.hid (show mayDoc ⟨2, f, nm, 0, a, b, 3, c, s, e, tx⟩ = false by simp [mayDoc, h0, h255, hnmI.out, hz3.out, hz4.out, htxI.out])
                      have hb0 := ((((Mod.refl [] (w.alloc (.cells (DoR.cells ⟨2, f, nm, 0, a, b, 3, c, s, e, tx⟩).toArray 78))).alloc (.cells #[.int .u8 0, .int .i64 0, .int .i64 0, .int .i64 0] 76)).alloc (.cells #[.int .i64 0, .int .i64 0] 52)).heap (heap_alloc_new w _) (by simp))
                      have hb1 := (((Mod.refl [] ((w.alloc (.cells (DoR.cells ⟨2, f, nm, 0, a, b, 3, c, s, e, tx⟩).toArray 78)).alloc (.cells #[.int .u8 0, .int .i64 0, .int .i64 0, .int .i64 0] 76))).alloc (.cells #[.int .i64 0, .int .i64 0] 52)).heap (heap_alloc_new (w.alloc (.cells (DoR.cells ⟨2, f, nm, 0, a, b, 3, c, s, e, tx⟩).toArray 78)) _) (by simp))
                      have hMW := (((Mod.refl [] w).alloc (.cells (DoR.cells ⟨2, f, nm, 0, a, b, 3, c, s, e, tx⟩).toArray 78)).alloc (.cells #[.int .u8 0, .int .i64 0, .int .i64 0, .int .i64 0] 76)).alloc (.cells #[.int .i64 0, .int .i64 0] 52)
                      rw [show (w.alloc (.cells (DoR.cells ⟨2, f, nm, 0, a, b, 3, c, s, e, tx⟩).toArray 78)).heap.size = w.heap.size + 1 by simp] at hb1
                      unfold DoR.cells at hb0 hb1 hMW
                      have HB0 := Lib.hid hb0
                      have HB1 := Lib.hid hb1
                      have HMW := Lib.hid hMW
                      clear hb0 hb1 hMW
                      go_enter Try.func52, Try.ntmps52
                      go_wp2_with (first | ((with_reducible refine xEqAgg (t := 52) rfl (HQ1.out _) guard_span ?_ ?_ ?_ ?_); exact rfl; exact rfl; exact rfl) | ((with_reducible refine xEqAgg (t := 76) rfl (HQ2.out _) guard_value ?_ ?_ ?_ ?_); exact rfl; exact rfl; exact rfl))
                      refine (HF.out _).mono ?_
                      rintro x w1 ⟨rfl, m1⟩
                      have hB0 := m1.heap HB0.out (by simp)
                      have hB1 := m1.heap HB1.out (by simp)
                      have q0 := cell_blk hB0 0
                      have q1 := cell_blk hB0 1
                      have q2 := cell_blk hB0 2
                      have q3 := cell_blk hB0 3
                      have q4 := cell_blk hB0 4
                      have q5 := cell_blk hB0 5
                      have q6 := cell_blk hB0 6
                      have q7 := cell_blk hB0 7
                      have q8 := cell_blk hB0 8
                      have q9 := cell_blk hB0 9
                      have q10 := cell_blk hB0 10
                      have r0 := cell_blk hB1 0
                      have r1 := cell_blk hB1 1
                      have r2 := cell_blk hB1 2
                      have r3 := cell_blk hB1 3
                      simp only [List.getElem?_toArray, List.getElem?_cons_succ, List.getElem?_cons_zero] at q0 q1 q2 q3 q4 q5 q6 q7 q8 q9 q10 r0 r1 r2 r3
                      have HMW := Lib.hid (HMW.out.trans m1)
                      clear m1
                      have HB0 := Lib.hid hB0
                      have HB1 := Lib.hid hB1
                      clear hB0 hB1
                      have hB0 := HB0.out
                      have hB1 := HB1.out
                      go_wp2_with (first | ((with_reducible refine xEqAgg (t := 52) rfl (HQ1.out _) guard_span ?_ ?_ ?_ ?_); exact rfl; exact rfl; exact rfl) | ((with_reducible refine xEqAgg (t := 76) rfl (HQ2.out _) guard_value ?_ ?_ ?_ ?_); exact rfl; exact rfl; exact rfl))
                      refine (HV.out _).mono ?_
                      rintro x w2 ⟨rfl, m2⟩
                      have hB0 := m2.heap hB0 (by simp)
                      have hB1 := m2.heap hB1 (by simp)
                      have q0 := cell_blk hB0 0
                      have q1 := cell_blk hB0 1
                      have q2 := cell_blk hB0 2
                      have q3 := cell_blk hB0 3
                      have q4 := cell_blk hB0 4
                      have q5 := cell_blk hB0 5
                      have q6 := cell_blk hB0 6
                      have q7 := cell_blk hB0 7
                      have q8 := cell_blk hB0 8
                      have q9 := cell_blk hB0 9
                      have q10 := cell_blk hB0 10
                      have r0 := cell_blk hB1 0
                      have r1 := cell_blk hB1 1
                      have r2 := cell_blk hB1 2
                      have r3 := cell_blk hB1 3
                      simp only [List.getElem?_toArray, List.getElem?_cons_succ, List.getElem?_cons_zero] at q0 q1 q2 q3 q4 q5 q6 q7 q8 q9 q10 r0 r1 r2 r3
                      have HMW := Lib.hid (HMW.out.trans m2)
                      clear m2
                      have HB0 := Lib.hid hB0
                      have HB1 := Lib.hid hB1
                      clear hB0 hB1
                      skip
                      skip
                      go_wp2_with (first | ((with_reducible refine xEqAgg (t := 52) rfl (HQ1.out _) guard_span ?_ ?_ ?_ ?_); exact rfl; exact rfl; exact rfl) | ((with_reducible refine xEqAgg (t := 76) rfl (HQ2.out _) guard_value ?_ ?_ ?_ ?_); exact rfl; exact rfl; exact rfl))
                      all_goals
                        go_ret
                        exact ⟨by rw [HE.out]; rfl, HMW.out⟩
                  · have hv3b : (vk == 3) = false := by simpa using hv3
                    have HE := Lib.hid (show mayDoc ⟨2, f, nm, 0, a, b, vk, c, s, e, tx⟩ = false by simp [mayDoc, h0, h255, hnmI.out, hz3.out, hz4.out, hv1, hv2, hv3])
                    have hb0 := ((((Mod.refl [] (w.alloc (.cells (DoR.cells ⟨2, f, nm, 0, a, b, vk, c, s, e, tx⟩).toArray 78))).alloc (.cells #[.int .u8 0, .int .i64 0, .int .i64 0, .int .i64 0] 76)).alloc (.cells #[.int .i64 0, .int .i64 0] 52)).heap (heap_alloc_new w _) (by simp))
                    have hb1 := (((Mod.refl [] ((w.alloc (.cells (DoR.cells ⟨2, f, nm, 0, a, b, vk, c, s, e, tx⟩).toArray 78)).alloc (.cells #[.int .u8 0, .int .i64 0, .int .i64 0, .int .i64 0] 76))).alloc (.cells #[.int .i64 0, .int .i64 0] 52)).heap (heap_alloc_new (w.alloc (.cells (DoR.cells ⟨2, f, nm, 0, a, b, vk, c, s, e, tx⟩).toArray 78)) _) (by simp))
                    have hMW := (((Mod.refl [] w).alloc (.cells (DoR.cells ⟨2, f, nm, 0, a, b, vk, c, s, e, tx⟩).toArray 78)).alloc (.cells #[.int .u8 0, .int .i64 0, .int .i64 0, .int .i64 0] 76)).alloc (.cells #[.int .i64 0, .int .i64 0] 52)
                    rw [show (w.alloc (.cells (DoR.cells ⟨2, f, nm, 0, a, b, vk, c, s, e, tx⟩).toArray 78)).heap.size = w.heap.size + 1 by simp] at hb1
                    unfold DoR.cells at hb0 hb1 hMW
                    have HB0 := Lib.hid hb0
                    have HB1 := Lib.hid hb1
                    have HMW := Lib.hid hMW
                    clear hb0 hb1 hMW
                    go_enter Try.func52, Try.ntmps52
                    go_wp2_with (first | ((with_reducible refine xEqAgg (t := 52) rfl (HQ1.out _) guard_span ?_ ?_ ?_ ?_); exact rfl; exact rfl; exact rfl) | ((with_reducible refine xEqAgg (t := 76) rfl (HQ2.out _) guard_value ?_ ?_ ?_ ?_); exact rfl; exact rfl; exact rfl))
                    refine (HF.out _).mono ?_
                    rintro x w1 ⟨rfl, m1⟩
                    have hB0 := m1.heap HB0.out (by simp)
                    have hB1 := m1.heap HB1.out (by simp)
                    have q0 := cell_blk hB0 0
                    have q1 := cell_blk hB0 1
                    have q2 := cell_blk hB0 2
                    have q3 := cell_blk hB0 3
                    have q4 := cell_blk hB0 4
                    have q5 := cell_blk hB0 5
                    have q6 := cell_blk hB0 6
                    have q7 := cell_blk hB0 7
                    have q8 := cell_blk hB0 8
                    have q9 := cell_blk hB0 9
                    have q10 := cell_blk hB0 10
                    have r0 := cell_blk hB1 0
                    have r1 := cell_blk hB1 1
                    have r2 := cell_blk hB1 2
                    have r3 := cell_blk hB1 3
                    simp only [List.getElem?_toArray, List.getElem?_cons_succ, List.getElem?_cons_zero] at q0 q1 q2 q3 q4 q5 q6 q7 q8 q9 q10 r0 r1 r2 r3
                    have HMW := Lib.hid (HMW.out.trans m1)
                    clear m1
                    have HB0 := Lib.hid hB0
                    have HB1 := Lib.hid hB1
                    clear hB0 hB1
                    have hB0 := HB0.out
                    have hB1 := HB1.out
                    go_wp2_with (first | ((with_reducible refine xEqAgg (t := 52) rfl (HQ1.out _) guard_span ?_ ?_ ?_ ?_); exact rfl; exact rfl; exact rfl) | ((with_reducible refine xEqAgg (t := 76) rfl (HQ2.out _) guard_value ?_ ?_ ?_ ?_); exact rfl; exact rfl; exact rfl))
                    refine (HV.out _).mono ?_
                    rintro x w2 ⟨rfl, m2⟩
                    have hB0 := m2.heap hB0 (by simp)
                    have hB1 := m2.heap hB1 (by simp)
                    have q0 := cell_blk hB0 0
                    have q1 := cell_blk hB0 1
                    have q2 := cell_blk hB0 2
                    have q3 := cell_blk hB0 3
                    have q4 := cell_blk hB0 4
                    have q5 := cell_blk hB0 5
                    have q6 := cell_blk hB0 6
                    have q7 := cell_blk hB0 7
                    have q8 := cell_blk hB0 8
                    have q9 := cell_blk hB0 9
                    have q10 := cell_blk hB0 10
                    have r0 := cell_blk hB1 0
                    have r1 := cell_blk hB1 1
                    have r2 := cell_blk hB1 2
                    have r3 := cell_blk hB1 3
                    simp only [List.getElem?_toArray, List.getElem?_cons_succ, List.getElem?_cons_zero] at q0 q1 q2 q3 q4 q5 q6 q7 q8 q9 q10 r0 r1 r2 r3
                    have HMW := Lib.hid (HMW.out.trans m2)
                    clear m2
                    have HB0 := Lib.hid hB0
                    have HB1 := Lib.hid hB1
                    clear hB0 hB1
                    skip
                    skip
                    go_wp2_with (first | ((with_reducible refine xEqAgg (t := 52) rfl (HQ1.out _) guard_span ?_ ?_ ?_ ?_); exact rfl; exact rfl; exact rfl) | ((with_reducible refine xEqAgg (t := 76) rfl (HQ2.out _) guard_value ?_ ?_ ?_ ?_); exact rfl; exact rfl; exact rfl))
                    all_goals
                      go_ret
                      exact ⟨by rw [HE.out]; rfl, HMW.out⟩
            | false =>
              have HE := Lib.hid (show mayDoc ⟨2, f, nm, 0, a, b, vk, c, s, e, tx⟩ = false by simp [mayDoc, h0, h255, hnmI.out, hz3.out, hz4.out])
              have hb0 := ((((Mod.refl [] (w.alloc (.cells (DoR.cells ⟨2, f, nm, 0, a, b, vk, c, s, e, tx⟩).toArray 78))).alloc (.cells #[.int .u8 0, .int .i64 0, .int .i64 0, .int .i64 0] 76)).alloc (.cells #[.int .i64 0, .int .i64 0] 52)).heap (heap_alloc_new w _) (by simp))
              have hb1 := (((Mod.refl [] ((w.alloc (.cells (DoR.cells ⟨2, f, nm, 0, a, b, vk, c, s, e, tx⟩).toArray 78)).alloc (.cells #[.int .u8 0, .int .i64 0, .int .i64 0, .int .i64 0] 76))).alloc (.cells #[.int .i64 0, .int .i64 0] 52)).heap (heap_alloc_new (w.alloc (.cells (DoR.cells ⟨2, f, nm, 0, a, b, vk, c, s, e, tx⟩).toArray 78)) _) (by simp))
              have hMW := (((Mod.refl [] w).alloc (.cells (DoR.cells ⟨2, f, nm, 0, a, b, vk, c, s, e, tx⟩).toArray 78)).alloc (.cells #[.int .u8 0, .int .i64 0, .int .i64 0, .int .i64 0] 76)).alloc (.cells #[.int .i64 0, .int .i64 0] 52)
              rw [show (w.alloc (.cells (DoR.cells ⟨2, f, nm, 0, a, b, vk, c, s, e, tx⟩).toArray 78)).heap.size = w.heap.size + 1 by simp] at hb1
              unfold DoR.cells at hb0 hb1 hMW
              have HB0 := Lib.hid hb0
              have HB1 := Lib.hid hb1
              have HMW := Lib.hid hMW
              clear hb0 hb1 hMW
              go_enter Try.func52, Try.ntmps52
              go_wp2_with (first | ((with_reducible refine xEqAgg (t := 52) rfl (HQ1.out _) guard_span ?_ ?_ ?_ ?_); exact rfl; exact rfl; exact rfl) | ((with_reducible refine xEqAgg (t := 76) rfl (HQ2.out _) guard_value ?_ ?_ ?_ ?_); exact rfl; exact rfl; exact rfl))
              refine (HF.out _).mono ?_
              rintro x w1 ⟨rfl, m1⟩
              have hB0 := m1.heap HB0.out (by simp)
              have hB1 := m1.heap HB1.out (by simp)
              have q0 := cell_blk hB0 0
              have q1 := cell_blk hB0 1
              have q2 := cell_blk hB0 2
              have q3 := cell_blk hB0 3
              have q4 := cell_blk hB0 4
              have q5 := cell_blk hB0 5
              have q6 := cell_blk hB0 6
              have q7 := cell_blk hB0 7
              have q8 := cell_blk hB0 8
              have q9 := cell_blk hB0 9
              have q10 := cell_blk hB0 10
              have r0 := cell_blk hB1 0
              have r1 := cell_blk hB1 1
              have r2 := cell_blk hB1 2
              have r3 := cell_blk hB1 3
              simp only [List.getElem?_toArray, List.getElem?_cons_succ, List.getElem?_cons_zero] at q0 q1 q2 q3 q4 q5 q6 q7 q8 q9 q10 r0 r1 r2 r3
              have HMW := Lib.hid (HMW.out.trans m1)
              clear m1
              have HB0 := Lib.hid hB0
              have HB1 := Lib.hid hB1
              clear hB0 hB1
              have hB0 := HB0.out
              have hB1 := HB1.out
              go_wp2_with (first | ((with_reducible refine xEqAgg (t := 52) rfl (HQ1.out _) guard_span ?_ ?_ ?_ ?_); exact rfl; exact rfl; exact rfl) | ((with_reducible refine xEqAgg (t := 76) rfl (HQ2.out _) guard_value ?_ ?_ ?_ ?_); exact rfl; exact rfl; exact rfl))
              refine (HV.out _).mono ?_
              rintro x w2 ⟨rfl, m2⟩
              have hB0 := m2.heap hB0 (by simp)
              have hB1 := m2.heap hB1 (by simp)
              have q0 := cell_blk hB0 0
              have q1 := cell_blk hB0 1
              have q2 := cell_blk hB0 2
              have q3 := cell_blk hB0 3
              have q4 := cell_blk hB0 4
              have q5 := cell_blk hB0 5
              have q6 := cell_blk hB0 6
              have q7 := cell_blk hB0 7
              have q8 := cell_blk hB0 8
              have q9 := cell_blk hB0 9
              have q10 := cell_blk hB0 10
              have r0 := cell_blk hB1 0
              have r1 := cell_blk hB1 1
              have r2 := cell_blk hB1 2
              have r3 := cell_blk hB1 3
              simp only [List.getElem?_toArray, List.getElem?_cons_succ, List.getElem?_cons_zero] at q0 q1 q2 q3 q4 q5 q6 q7 q8 q9 q10 r0 r1 r2 r3
              have HMW := Lib.hid (HMW.out.trans m2)
              clear m2
              have HB0 := Lib.hid hB0
              have HB1 := Lib.hid hB1
              clear hB0 hB1
              skip
              skip
              go_wp2_with (first | ((with_reducible refine xEqAgg (t := 52) rfl (HQ1.out _) guard_span ?_ ?_ ?_ ?_); exact rfl; exact rfl; exact rfl) | ((with_reducible refine xEqAgg (t := 76) rfl (HQ2.out _) guard_value ?_ ?_ ?_ ?_); exact rfl; exact rfl; exact rfl))
              all_goals
                go_ret
                exact ⟨by rw [HE.out]; rfl, HMW.out⟩
          | false =>
            have HE := Lib.hid (show mayDoc ⟨2, f, nm, 0, a, b, vk, c, s, e, tx⟩ = false by simp [mayDoc, h0, h255, hnmI.out, hz3.out])
            have hb0 := ((((Mod.refl [] (w.alloc (.cells (DoR.cells ⟨2, f, nm, 0, a, b, vk, c, s, e, tx⟩).toArray 78))).alloc (.cells #[.int .u8 0, .int .i64 0, .int .i64 0, .int .i64 0] 76)).alloc (.cells #[.int .i64 0, .int .i64 0] 52)).heap (heap_alloc_new w _) (by simp))
            have hb1 := (((Mod.refl [] ((w.alloc (.cells (DoR.cells ⟨2, f, nm, 0, a, b, vk, c, s, e, tx⟩).toArray 78)).alloc (.cells #[.int .u8 0, .int .i64 0, .int .i64 0, .int .i64 0] 76))).alloc (.cells #[.int .i64 0, .int .i64 0] 52)).heap (heap_alloc_new (w.alloc (.cells (DoR.cells ⟨2, f, nm, 0, a, b, vk, c, s, e, tx⟩).toArray 78)) _) (by simp))
            have hMW := (((Mod.refl [] w).alloc (.cells (DoR.cells ⟨2, f, nm, 0, a, b, vk, c, s, e, tx⟩).toArray 78)).alloc (.cells #[.int .u8 0, .int .i64 0, .int .i64 0, .int .i64 0] 76)).alloc (.cells #[.int .i64 0, .int .i64 0] 52)
            rw [show (w.alloc (.cells (DoR.cells ⟨2, f, nm, 0, a, b, vk, c, s, e, tx⟩).toArray 78)).heap.size = w.heap.size + 1 by simp] at hb1
            unfold DoR.cells at hb0 hb1 hMW
            have HB0 := Lib.hid hb0
            have HB1 := Lib.hid hb1
            have HMW := Lib.hid hMW
            clear hb0 hb1 hMW
            go_enter Try.func52, Try.ntmps52
            go_wp2_with (first | ((with_reducible refine xEqAgg (t := 52) rfl (HQ1.out _) guard_span ?_ ?_ ?_ ?_); exact rfl; exact rfl; exact rfl) | ((with_reducible refine xEqAgg (t := 76) rfl (HQ2.out _) guard_value ?_ ?_ ?_ ?_); exact rfl; exact rfl; exact rfl))
            refine (HF.out _).mono ?_
            rintro x w1 ⟨rfl, m1⟩
            have hB0 := m1.heap HB0.out (by simp)
            have hB1 := m1.heap HB1.out (by simp)
            have q0 := cell_blk hB0 0
            have q1 := cell_blk hB0 1
            have q2 := cell_blk hB0 2
            have q3 := cell_blk hB0 3
            have q4 := cell_blk hB0 4
            have q5 := cell_blk hB0 5
            have q6 := cell_blk hB0 6
            have q7 := cell_blk hB0 7
            have q8 := cell_blk hB0 8
            have q9 := cell_blk hB0 9
            have q10 := cell_blk hB0 10
            have r0 := cell_blk hB1 0
            have r1 := cell_blk hB1 1
            have r2 := cell_blk hB1 2
            have r3 := cell_blk hB1 3
            simp only [List.getElem?_toArray, List.getElem?_cons_succ, List.getElem?_cons_zero] at q0 q1 q2 q3 q4 q5 q6 q7 q8 q9 q10 r0 r1 r2 r3
            have HMW := Lib.hid (HMW.out.trans m1)
            clear m1
            have HB0 := Lib.hid hB0
            have HB1 := Lib.hid hB1
            clear hB0 hB1
            skip
            skip
            go_wp2_with (first | ((with_reducible refine xEqAgg (t := 52) rfl (HQ1.out _) guard_span ?_ ?_ ?_ ?_); exact rfl; exact rfl; exact rfl) | ((with_reducible refine xEqAgg (t := 76) rfl (HQ2.out _) guard_value ?_ ?_ ?_ ?_); exact rfl; exact rfl; exact rfl))
            all_goals
              go_ret
              exact ⟨by rw [HE.out]; rfl, HMW.out⟩
        · skip
          have hfkb : (fk == 0) = false := by simpa using hfk
          have HE := Lib.hid (show mayDoc ⟨2, f, nm, fk, a, b, vk, c, s, e, tx⟩ = false by simp [mayDoc, h0, h255, hnmI.out, hfk])
          go_enter Try.func52, Try.ntmps52
          go_wp2_with (first | ((with_reducible refine xEqAgg (t := 52) rfl (HQ1.out _) guard_span ?_ ?_ ?_ ?_); exact rfl; exact rfl; exact rfl) | ((with_reducible refine xEqAgg (t := 76) rfl (HQ2.out _) guard_value ?_ ?_ ?_ ?_); exact rfl; exact rfl; exact rfl))
          all_goals
            go_ret
            exact ⟨by rw [HE.out]; rfl, (((Mod.refl [] _).alloc _).alloc _).alloc _⟩
      · skip
        have hnmI := Lib.hid (isNone_f hnm)
        have hnmb : nm.toList.isEmpty = false := by simpa using hnm
        have HE := Lib.hid (show mayDoc ⟨2, f, nm, fk, a, b, vk, c, s, e, tx⟩ = false by simp [mayDoc, h0, h255, hnmI.out])
        go_enter Try.func52, Try.ntmps52
        go_wp2_with (first | ((with_reducible refine xEqAgg (t := 52) rfl (HQ1.out _) guard_span ?_ ?_ ?_ ?_); exact rfl; exact rfl; exact rfl) | ((with_reducible refine xEqAgg (t := 76) rfl (HQ2.out _) guard_value ?_ ?_ ?_ ?_); exact rfl; exact rfl; exact rfl))
        all_goals
          go_ret
          exact ⟨by rw [HE.out]; rfl, (((Mod.refl [] _).alloc _).alloc _).alloc _⟩
    · skip
      have HE := Lib.hid (show mayDoc ⟨2, f, nm, fk, a, b, vk, c, s, e, tx⟩ = false by simp [mayDoc, h0, h255])
      go_enter Try.func52, Try.ntmps52
      go_wp2_with (first | ((with_reducible refine xEqAgg (t := 52) rfl (HQ1.out _) guard_span ?_ ?_ ?_ ?_); exact rfl; exact rfl; exact rfl) | ((with_reducible refine xEqAgg (t := 76) rfl (HQ2.out _) guard_value ?_ ?_ ?_ ?_); exact rfl; exact rfl; exact rfl))
      all_goals
        go_ret
        exact ⟨by rw [HE.out]; rfl, (((Mod.refl [] _).alloc _).alloc _).alloc _⟩
  · skip
    have HE := Lib.hid (show mayDoc ⟨2, f, nm, fk, a, b, vk, c, s, e, tx⟩ = false by simp [mayDoc, h0])
    go_enter Try.func52, Try.ntmps52
    go_wp2_with (first | ((with_reducible refine xEqAgg (t := 52) rfl (HQ1.out _) guard_span ?_ ?_ ?_ ?_); exact rfl; exact rfl; exact rfl) | ((with_reducible refine xEqAgg (t := 76) rfl (HQ2.out _) guard_value ?_ ?_ ?_ ?_); exact rfl; exact rfl; exact rfl))
    all_goals
      go_ret
      exact ⟨by rw [HE.out]; rfl, (((Mod.refl [] _).alloc _).alloc _).alloc _⟩
set_option maxHeartbeats 16000000 in
theorem rdo_3 (f : Int) (nm : ByteArray) (fk a b vk c s e : Int) (tx : ByteArray) (hc1 : -9223372036854775808 ≤ c) (hc2 : c ≤ 9223372036854775807) (w : World) :
    Calls Try.prog 52 #[.agg (DoR.cells ⟨3, f, nm, fk, a, b, vk, c, s, e, tx⟩).toArray] w fun x w' => x = .returned (.bool (mayDoc ⟨3, f, nm, fk, a, b, vk, c, s, e, tx⟩)) ∧ Mod [] w w' := by
  unfold DoR.cells
  have HQ1 := Lib.hid (fun W => eq_span a b W)
  have HQ2 := Lib.hid (fun W => eq_value vk c s e W)
  unfold vKey at HQ2
  have HF := Lib.hid (fun w => rfits_any a b w)
  have HV := Lib.hid (fun w => vmay10_any vk c s e hc1 hc2 w)
  unfold vKey at HV
  obtain ⟨z1, hz1⟩ : ∃ z, Hid (zeroS a b = z) := ⟨_, Lib.hid rfl⟩
  obtain ⟨z2, hz2⟩ : ∃ z, Hid (zeroV vk c s e = z) := ⟨_, Lib.hid rfl⟩
  obtain ⟨z3, hz3⟩ : ∃ z, Hid (spanOk a b = z) := ⟨_, Lib.hid rfl⟩
  obtain ⟨z4, hz4⟩ : ∃ z, Hid (mayV vk c s e = z) := ⟨_, Lib.hid rfl⟩
  rw [hz1.out] at HQ1
  rw [hz2.out] at HQ2
  rw [hz3.out] at HF
  rw [hz4.out] at HV
  clear hc1 hc2
  by_cases h0 : 0 ≤ f
  · skip
    by_cases h255 : f ≤ 255
    · skip
      by_cases hnm : nm.toList = []
      · skip
        have hnmI := Lib.hid (isNone_t hnm)
        by_cases hfk : fk = 0
        · skip
          subst hfk
          cases z3 with
          | true =>
            cases z2 with
            | true =>
              by_cases htx : tx.toList = []
              · skip
                have htxI := Lib.hid (isNone_t htx)
                have HE := Lib.hid (show mayDoc ⟨3, f, nm, 0, a, b, vk, c, s, e, tx⟩ = true by simp [mayDoc, h0, h255, hnmI.out, hz3.out, hz2.out, htxI.out])
                have hb0 := ((((Mod.refl [] (w.alloc (.cells (DoR.cells ⟨3, f, nm, 0, a, b, vk, c, s, e, tx⟩).toArray 78))).alloc (.cells #[.int .u8 0, .int .i64 0, .int .i64 0, .int .i64 0] 76)).alloc (.cells #[.int .i64 0, .int .i64 0] 52)).heap (heap_alloc_new w _) (by simp))
                have hb1 := (((Mod.refl [] ((w.alloc (.cells (DoR.cells ⟨3, f, nm, 0, a, b, vk, c, s, e, tx⟩).toArray 78)).alloc (.cells #[.int .u8 0, .int .i64 0, .int .i64 0, .int .i64 0] 76))).alloc (.cells #[.int .i64 0, .int .i64 0] 52)).heap (heap_alloc_new (w.alloc (.cells (DoR.cells ⟨3, f, nm, 0, a, b, vk, c, s, e, tx⟩).toArray 78)) _) (by simp))
                have hMW := (((Mod.refl [] w).alloc (.cells (DoR.cells ⟨3, f, nm, 0, a, b, vk, c, s, e, tx⟩).toArray 78)).alloc (.cells #[.int .u8 0, .int .i64 0, .int .i64 0, .int .i64 0] 76)).alloc (.cells #[.int .i64 0, .int .i64 0] 52)
                rw [show (w.alloc (.cells (DoR.cells ⟨3, f, nm, 0, a, b, vk, c, s, e, tx⟩).toArray 78)).heap.size = w.heap.size + 1 by simp] at hb1
                unfold DoR.cells at hb0 hb1 hMW
                have HB0 := Lib.hid hb0
                have HB1 := Lib.hid hb1
                have HMW := Lib.hid hMW
                clear hb0 hb1 hMW
                go_enter Try.func52, Try.ntmps52
                go_wp2_with (first | ((with_reducible refine xEqAgg (t := 52) rfl (HQ1.out _) guard_span ?_ ?_ ?_ ?_); exact rfl; exact rfl; exact rfl) | ((with_reducible refine xEqAgg (t := 76) rfl (HQ2.out _) guard_value ?_ ?_ ?_ ?_); exact rfl; exact rfl; exact rfl))
                refine (HF.out _).mono ?_
                rintro x w1 ⟨rfl, m1⟩
                have hB0 := m1.heap HB0.out (by simp)
                have hB1 := m1.heap HB1.out (by simp)
                have q0 := cell_blk hB0 0
                have q1 := cell_blk hB0 1
                have q2 := cell_blk hB0 2
                have q3 := cell_blk hB0 3
                have q4 := cell_blk hB0 4
                have q5 := cell_blk hB0 5
                have q6 := cell_blk hB0 6
                have q7 := cell_blk hB0 7
                have q8 := cell_blk hB0 8
                have q9 := cell_blk hB0 9
                have q10 := cell_blk hB0 10
                have r0 := cell_blk hB1 0
                have r1 := cell_blk hB1 1
                have r2 := cell_blk hB1 2
                have r3 := cell_blk hB1 3
                simp only [List.getElem?_toArray, List.getElem?_cons_succ, List.getElem?_cons_zero] at q0 q1 q2 q3 q4 q5 q6 q7 q8 q9 q10 r0 r1 r2 r3
                have HMW := Lib.hid (HMW.out.trans m1)
                clear m1
                have HB0 := Lib.hid hB0
                have HB1 := Lib.hid hB1
                clear hB0 hB1
                skip
                skip
                go_wp2_with (first | ((with_reducible refine xEqAgg (t := 52) rfl (HQ1.out _) guard_span ?_ ?_ ?_ ?_); exact rfl; exact rfl; exact rfl) | ((with_reducible refine xEqAgg (t := 76) rfl (HQ2.out _) guard_value ?_ ?_ ?_ ?_); exact rfl; exact rfl; exact rfl))
                all_goals
                  go_ret
                  exact ⟨by rw [HE.out]; rfl, HMW.out⟩
              · skip
                have htxI := Lib.hid (isNone_f htx)
                have htxb : tx.toList.isEmpty = false := by simpa using htx
                have HE := Lib.hid (show mayDoc ⟨3, f, nm, 0, a, b, vk, c, s, e, tx⟩ = false by simp [mayDoc, h0, h255, hnmI.out, hz3.out, hz2.out, htxI.out])
                have hb0 := ((((Mod.refl [] (w.alloc (.cells (DoR.cells ⟨3, f, nm, 0, a, b, vk, c, s, e, tx⟩).toArray 78))).alloc (.cells #[.int .u8 0, .int .i64 0, .int .i64 0, .int .i64 0] 76)).alloc (.cells #[.int .i64 0, .int .i64 0] 52)).heap (heap_alloc_new w _) (by simp))
                have hb1 := (((Mod.refl [] ((w.alloc (.cells (DoR.cells ⟨3, f, nm, 0, a, b, vk, c, s, e, tx⟩).toArray 78)).alloc (.cells #[.int .u8 0, .int .i64 0, .int .i64 0, .int .i64 0] 76))).alloc (.cells #[.int .i64 0, .int .i64 0] 52)).heap (heap_alloc_new (w.alloc (.cells (DoR.cells ⟨3, f, nm, 0, a, b, vk, c, s, e, tx⟩).toArray 78)) _) (by simp))
                have hMW := (((Mod.refl [] w).alloc (.cells (DoR.cells ⟨3, f, nm, 0, a, b, vk, c, s, e, tx⟩).toArray 78)).alloc (.cells #[.int .u8 0, .int .i64 0, .int .i64 0, .int .i64 0] 76)).alloc (.cells #[.int .i64 0, .int .i64 0] 52)
                rw [show (w.alloc (.cells (DoR.cells ⟨3, f, nm, 0, a, b, vk, c, s, e, tx⟩).toArray 78)).heap.size = w.heap.size + 1 by simp] at hb1
                unfold DoR.cells at hb0 hb1 hMW
                have HB0 := Lib.hid hb0
                have HB1 := Lib.hid hb1
                have HMW := Lib.hid hMW
                clear hb0 hb1 hMW
                go_enter Try.func52, Try.ntmps52
                go_wp2_with (first | ((with_reducible refine xEqAgg (t := 52) rfl (HQ1.out _) guard_span ?_ ?_ ?_ ?_); exact rfl; exact rfl; exact rfl) | ((with_reducible refine xEqAgg (t := 76) rfl (HQ2.out _) guard_value ?_ ?_ ?_ ?_); exact rfl; exact rfl; exact rfl))
                refine (HF.out _).mono ?_
                rintro x w1 ⟨rfl, m1⟩
                have hB0 := m1.heap HB0.out (by simp)
                have hB1 := m1.heap HB1.out (by simp)
                have q0 := cell_blk hB0 0
                have q1 := cell_blk hB0 1
                have q2 := cell_blk hB0 2
                have q3 := cell_blk hB0 3
                have q4 := cell_blk hB0 4
                have q5 := cell_blk hB0 5
                have q6 := cell_blk hB0 6
                have q7 := cell_blk hB0 7
                have q8 := cell_blk hB0 8
                have q9 := cell_blk hB0 9
                have q10 := cell_blk hB0 10
                have r0 := cell_blk hB1 0
                have r1 := cell_blk hB1 1
                have r2 := cell_blk hB1 2
                have r3 := cell_blk hB1 3
                simp only [List.getElem?_toArray, List.getElem?_cons_succ, List.getElem?_cons_zero] at q0 q1 q2 q3 q4 q5 q6 q7 q8 q9 q10 r0 r1 r2 r3
                have HMW := Lib.hid (HMW.out.trans m1)
                clear m1
                have HB0 := Lib.hid hB0
                have HB1 := Lib.hid hB1
                clear hB0 hB1
                skip
                skip
                go_wp2_with (first | ((with_reducible refine xEqAgg (t := 52) rfl (HQ1.out _) guard_span ?_ ?_ ?_ ?_); exact rfl; exact rfl; exact rfl) | ((with_reducible refine xEqAgg (t := 76) rfl (HQ2.out _) guard_value ?_ ?_ ?_ ?_); exact rfl; exact rfl; exact rfl))
                all_goals
                  go_ret
                  exact ⟨by rw [HE.out]; rfl, HMW.out⟩
            | false =>
              have HE := Lib.hid (show mayDoc ⟨3, f, nm, 0, a, b, vk, c, s, e, tx⟩ = false by simp [mayDoc, h0, h255, hnmI.out, hz3.out, hz2.out])
              have hb0 := ((((Mod.refl [] (w.alloc (.cells (DoR.cells ⟨3, f, nm, 0, a, b, vk, c, s, e, tx⟩).toArray 78))).alloc (.cells #[.int .u8 0, .int .i64 0, .int .i64 0, .int .i64 0] 76)).alloc (.cells #[.int .i64 0, .int .i64 0] 52)).heap (heap_alloc_new w _) (by simp))
              have hb1 := (((Mod.refl [] ((w.alloc (.cells (DoR.cells ⟨3, f, nm, 0, a, b, vk, c, s, e, tx⟩).toArray 78)).alloc (.cells #[.int .u8 0, .int .i64 0, .int .i64 0, .int .i64 0] 76))).alloc (.cells #[.int .i64 0, .int .i64 0] 52)).heap (heap_alloc_new (w.alloc (.cells (DoR.cells ⟨3, f, nm, 0, a, b, vk, c, s, e, tx⟩).toArray 78)) _) (by simp))
              have hMW := (((Mod.refl [] w).alloc (.cells (DoR.cells ⟨3, f, nm, 0, a, b, vk, c, s, e, tx⟩).toArray 78)).alloc (.cells #[.int .u8 0, .int .i64 0, .int .i64 0, .int .i64 0] 76)).alloc (.cells #[.int .i64 0, .int .i64 0] 52)
              rw [show (w.alloc (.cells (DoR.cells ⟨3, f, nm, 0, a, b, vk, c, s, e, tx⟩).toArray 78)).heap.size = w.heap.size + 1 by simp] at hb1
              unfold DoR.cells at hb0 hb1 hMW
              have HB0 := Lib.hid hb0
              have HB1 := Lib.hid hb1
              have HMW := Lib.hid hMW
              clear hb0 hb1 hMW
              go_enter Try.func52, Try.ntmps52
              go_wp2_with (first | ((with_reducible refine xEqAgg (t := 52) rfl (HQ1.out _) guard_span ?_ ?_ ?_ ?_); exact rfl; exact rfl; exact rfl) | ((with_reducible refine xEqAgg (t := 76) rfl (HQ2.out _) guard_value ?_ ?_ ?_ ?_); exact rfl; exact rfl; exact rfl))
              refine (HF.out _).mono ?_
              rintro x w1 ⟨rfl, m1⟩
              have hB0 := m1.heap HB0.out (by simp)
              have hB1 := m1.heap HB1.out (by simp)
              have q0 := cell_blk hB0 0
              have q1 := cell_blk hB0 1
              have q2 := cell_blk hB0 2
              have q3 := cell_blk hB0 3
              have q4 := cell_blk hB0 4
              have q5 := cell_blk hB0 5
              have q6 := cell_blk hB0 6
              have q7 := cell_blk hB0 7
              have q8 := cell_blk hB0 8
              have q9 := cell_blk hB0 9
              have q10 := cell_blk hB0 10
              have r0 := cell_blk hB1 0
              have r1 := cell_blk hB1 1
              have r2 := cell_blk hB1 2
              have r3 := cell_blk hB1 3
              simp only [List.getElem?_toArray, List.getElem?_cons_succ, List.getElem?_cons_zero] at q0 q1 q2 q3 q4 q5 q6 q7 q8 q9 q10 r0 r1 r2 r3
              have HMW := Lib.hid (HMW.out.trans m1)
              clear m1
              have HB0 := Lib.hid hB0
              have HB1 := Lib.hid hB1
              clear hB0 hB1
              skip
              skip
              go_wp2_with (first | ((with_reducible refine xEqAgg (t := 52) rfl (HQ1.out _) guard_span ?_ ?_ ?_ ?_); exact rfl; exact rfl; exact rfl) | ((with_reducible refine xEqAgg (t := 76) rfl (HQ2.out _) guard_value ?_ ?_ ?_ ?_); exact rfl; exact rfl; exact rfl))
              all_goals
                go_ret
                exact ⟨by rw [HE.out]; rfl, HMW.out⟩
          | false =>
            have HE := Lib.hid (show mayDoc ⟨3, f, nm, 0, a, b, vk, c, s, e, tx⟩ = false by simp [mayDoc, h0, h255, hnmI.out, hz3.out])
            have hb0 := ((((Mod.refl [] (w.alloc (.cells (DoR.cells ⟨3, f, nm, 0, a, b, vk, c, s, e, tx⟩).toArray 78))).alloc (.cells #[.int .u8 0, .int .i64 0, .int .i64 0, .int .i64 0] 76)).alloc (.cells #[.int .i64 0, .int .i64 0] 52)).heap (heap_alloc_new w _) (by simp))
            have hb1 := (((Mod.refl [] ((w.alloc (.cells (DoR.cells ⟨3, f, nm, 0, a, b, vk, c, s, e, tx⟩).toArray 78)).alloc (.cells #[.int .u8 0, .int .i64 0, .int .i64 0, .int .i64 0] 76))).alloc (.cells #[.int .i64 0, .int .i64 0] 52)).heap (heap_alloc_new (w.alloc (.cells (DoR.cells ⟨3, f, nm, 0, a, b, vk, c, s, e, tx⟩).toArray 78)) _) (by simp))
            have hMW := (((Mod.refl [] w).alloc (.cells (DoR.cells ⟨3, f, nm, 0, a, b, vk, c, s, e, tx⟩).toArray 78)).alloc (.cells #[.int .u8 0, .int .i64 0, .int .i64 0, .int .i64 0] 76)).alloc (.cells #[.int .i64 0, .int .i64 0] 52)
            rw [show (w.alloc (.cells (DoR.cells ⟨3, f, nm, 0, a, b, vk, c, s, e, tx⟩).toArray 78)).heap.size = w.heap.size + 1 by simp] at hb1
            unfold DoR.cells at hb0 hb1 hMW
            have HB0 := Lib.hid hb0
            have HB1 := Lib.hid hb1
            have HMW := Lib.hid hMW
            clear hb0 hb1 hMW
            go_enter Try.func52, Try.ntmps52
            go_wp2_with (first | ((with_reducible refine xEqAgg (t := 52) rfl (HQ1.out _) guard_span ?_ ?_ ?_ ?_); exact rfl; exact rfl; exact rfl) | ((with_reducible refine xEqAgg (t := 76) rfl (HQ2.out _) guard_value ?_ ?_ ?_ ?_); exact rfl; exact rfl; exact rfl))
            refine (HF.out _).mono ?_
            rintro x w1 ⟨rfl, m1⟩
            have hB0 := m1.heap HB0.out (by simp)
            have hB1 := m1.heap HB1.out (by simp)
            have q0 := cell_blk hB0 0
            have q1 := cell_blk hB0 1
            have q2 := cell_blk hB0 2
            have q3 := cell_blk hB0 3
            have q4 := cell_blk hB0 4
            have q5 := cell_blk hB0 5
            have q6 := cell_blk hB0 6
            have q7 := cell_blk hB0 7
            have q8 := cell_blk hB0 8
            have q9 := cell_blk hB0 9
            have q10 := cell_blk hB0 10
            have r0 := cell_blk hB1 0
            have r1 := cell_blk hB1 1
            have r2 := cell_blk hB1 2
            have r3 := cell_blk hB1 3
            simp only [List.getElem?_toArray, List.getElem?_cons_succ, List.getElem?_cons_zero] at q0 q1 q2 q3 q4 q5 q6 q7 q8 q9 q10 r0 r1 r2 r3
            have HMW := Lib.hid (HMW.out.trans m1)
            clear m1
            have HB0 := Lib.hid hB0
            have HB1 := Lib.hid hB1
            clear hB0 hB1
            skip
            skip
            go_wp2_with (first | ((with_reducible refine xEqAgg (t := 52) rfl (HQ1.out _) guard_span ?_ ?_ ?_ ?_); exact rfl; exact rfl; exact rfl) | ((with_reducible refine xEqAgg (t := 76) rfl (HQ2.out _) guard_value ?_ ?_ ?_ ?_); exact rfl; exact rfl; exact rfl))
            all_goals
              go_ret
              exact ⟨by rw [HE.out]; rfl, HMW.out⟩
        · skip
          have hfkb : (fk == 0) = false := by simpa using hfk
          have HE := Lib.hid (show mayDoc ⟨3, f, nm, fk, a, b, vk, c, s, e, tx⟩ = false by simp [mayDoc, h0, h255, hnmI.out, hfk])
          go_enter Try.func52, Try.ntmps52
          go_wp2_with (first | ((with_reducible refine xEqAgg (t := 52) rfl (HQ1.out _) guard_span ?_ ?_ ?_ ?_); exact rfl; exact rfl; exact rfl) | ((with_reducible refine xEqAgg (t := 76) rfl (HQ2.out _) guard_value ?_ ?_ ?_ ?_); exact rfl; exact rfl; exact rfl))
          all_goals
            go_ret
            exact ⟨by rw [HE.out]; rfl, (((Mod.refl [] _).alloc _).alloc _).alloc _⟩
      · skip
        have hnmI := Lib.hid (isNone_f hnm)
        have hnmb : nm.toList.isEmpty = false := by simpa using hnm
        have HE := Lib.hid (show mayDoc ⟨3, f, nm, fk, a, b, vk, c, s, e, tx⟩ = false by simp [mayDoc, h0, h255, hnmI.out])
        go_enter Try.func52, Try.ntmps52
        go_wp2_with (first | ((with_reducible refine xEqAgg (t := 52) rfl (HQ1.out _) guard_span ?_ ?_ ?_ ?_); exact rfl; exact rfl; exact rfl) | ((with_reducible refine xEqAgg (t := 76) rfl (HQ2.out _) guard_value ?_ ?_ ?_ ?_); exact rfl; exact rfl; exact rfl))
        all_goals
          go_ret
          exact ⟨by rw [HE.out]; rfl, (((Mod.refl [] _).alloc _).alloc _).alloc _⟩
    · skip
      have HE := Lib.hid (show mayDoc ⟨3, f, nm, fk, a, b, vk, c, s, e, tx⟩ = false by simp [mayDoc, h0, h255])
      go_enter Try.func52, Try.ntmps52
      go_wp2_with (first | ((with_reducible refine xEqAgg (t := 52) rfl (HQ1.out _) guard_span ?_ ?_ ?_ ?_); exact rfl; exact rfl; exact rfl) | ((with_reducible refine xEqAgg (t := 76) rfl (HQ2.out _) guard_value ?_ ?_ ?_ ?_); exact rfl; exact rfl; exact rfl))
      all_goals
        go_ret
        exact ⟨by rw [HE.out]; rfl, (((Mod.refl [] _).alloc _).alloc _).alloc _⟩
  · skip
    have HE := Lib.hid (show mayDoc ⟨3, f, nm, fk, a, b, vk, c, s, e, tx⟩ = false by simp [mayDoc, h0])
    go_enter Try.func52, Try.ntmps52
    go_wp2_with (first | ((with_reducible refine xEqAgg (t := 52) rfl (HQ1.out _) guard_span ?_ ?_ ?_ ?_); exact rfl; exact rfl; exact rfl) | ((with_reducible refine xEqAgg (t := 76) rfl (HQ2.out _) guard_value ?_ ?_ ?_ ?_); exact rfl; exact rfl; exact rfl))
    all_goals
      go_ret
      exact ⟨by rw [HE.out]; rfl, (((Mod.refl [] _).alloc _).alloc _).alloc _⟩
set_option maxHeartbeats 16000000 in
theorem rdo_4 (f : Int) (nm : ByteArray) (fk a b vk c s e : Int) (tx : ByteArray) (hc1 : -9223372036854775808 ≤ c) (hc2 : c ≤ 9223372036854775807) (w : World) :
    Calls Try.prog 52 #[.agg (DoR.cells ⟨4, f, nm, fk, a, b, vk, c, s, e, tx⟩).toArray] w fun x w' => x = .returned (.bool (mayDoc ⟨4, f, nm, fk, a, b, vk, c, s, e, tx⟩)) ∧ Mod [] w w' := by
  unfold DoR.cells
  have HQ1 := Lib.hid (fun W => eq_span a b W)
  have HQ2 := Lib.hid (fun W => eq_value vk c s e W)
  unfold vKey at HQ2
  have HF := Lib.hid (fun w => rfits_any a b w)
  have HV := Lib.hid (fun w => vmay10_any vk c s e hc1 hc2 w)
  unfold vKey at HV
  obtain ⟨z1, hz1⟩ : ∃ z, Hid (zeroS a b = z) := ⟨_, Lib.hid rfl⟩
  obtain ⟨z2, hz2⟩ : ∃ z, Hid (zeroV vk c s e = z) := ⟨_, Lib.hid rfl⟩
  obtain ⟨z3, hz3⟩ : ∃ z, Hid (spanOk a b = z) := ⟨_, Lib.hid rfl⟩
  obtain ⟨z4, hz4⟩ : ∃ z, Hid (mayV vk c s e = z) := ⟨_, Lib.hid rfl⟩
  rw [hz1.out] at HQ1
  rw [hz2.out] at HQ2
  rw [hz3.out] at HF
  rw [hz4.out] at HV
  clear hc1 hc2
  by_cases h0 : 0 ≤ f
  · skip
    by_cases h255 : f ≤ 255
    · skip
      by_cases hnm : nm.toList = []
      · skip
        have hnmI := Lib.hid (isNone_t hnm)
        by_cases hfk : fk = 0
        · skip
          subst hfk
          cases z1 with
          | true =>
            cases z2 with
            | true =>
              by_cases ht : (tx.size : Int) ≤ 400
              · skip
                have HE := Lib.hid (show mayDoc ⟨4, f, nm, 0, a, b, vk, c, s, e, tx⟩ = true by simp [mayDoc, h0, h255, hnmI.out, hz1.out, hz2.out, ht])
                go_enter Try.func52, Try.ntmps52
                go_wp2_with (first | ((with_reducible refine xEqAgg (t := 52) rfl (HQ1.out _) guard_span ?_ ?_ ?_ ?_); exact rfl; exact rfl; exact rfl) | ((with_reducible refine xEqAgg (t := 76) rfl (HQ2.out _) guard_value ?_ ?_ ?_ ?_); exact rfl; exact rfl; exact rfl))
                all_goals
                  go_ret
                  exact ⟨by rw [HE.out]; rfl, (((Mod.refl [] _).alloc _).alloc _).alloc _⟩
              · skip
                have HE := Lib.hid (show mayDoc ⟨4, f, nm, 0, a, b, vk, c, s, e, tx⟩ = false by simp [mayDoc, h0, h255, hnmI.out, hz1.out, hz2.out, ht])
                go_enter Try.func52, Try.ntmps52
                go_wp2_with (first | ((with_reducible refine xEqAgg (t := 52) rfl (HQ1.out _) guard_span ?_ ?_ ?_ ?_); exact rfl; exact rfl; exact rfl) | ((with_reducible refine xEqAgg (t := 76) rfl (HQ2.out _) guard_value ?_ ?_ ?_ ?_); exact rfl; exact rfl; exact rfl))
                all_goals
                  go_ret
                  exact ⟨by rw [HE.out]; rfl, (((Mod.refl [] _).alloc _).alloc _).alloc _⟩
            | false =>
              have HE := Lib.hid (show mayDoc ⟨4, f, nm, 0, a, b, vk, c, s, e, tx⟩ = false by simp [mayDoc, h0, h255, hnmI.out, hz1.out, hz2.out])
              go_enter Try.func52, Try.ntmps52
              go_wp2_with (first | ((with_reducible refine xEqAgg (t := 52) rfl (HQ1.out _) guard_span ?_ ?_ ?_ ?_); exact rfl; exact rfl; exact rfl) | ((with_reducible refine xEqAgg (t := 76) rfl (HQ2.out _) guard_value ?_ ?_ ?_ ?_); exact rfl; exact rfl; exact rfl))
              all_goals
                go_ret
                exact ⟨by rw [HE.out]; rfl, (((Mod.refl [] _).alloc _).alloc _).alloc _⟩
          | false =>
            have HE := Lib.hid (show mayDoc ⟨4, f, nm, 0, a, b, vk, c, s, e, tx⟩ = false by simp [mayDoc, h0, h255, hnmI.out, hz1.out])
            go_enter Try.func52, Try.ntmps52
            go_wp2_with (first | ((with_reducible refine xEqAgg (t := 52) rfl (HQ1.out _) guard_span ?_ ?_ ?_ ?_); exact rfl; exact rfl; exact rfl) | ((with_reducible refine xEqAgg (t := 76) rfl (HQ2.out _) guard_value ?_ ?_ ?_ ?_); exact rfl; exact rfl; exact rfl))
            all_goals
              go_ret
              exact ⟨by rw [HE.out]; rfl, (((Mod.refl [] _).alloc _).alloc _).alloc _⟩
        · skip
          have hfkb : (fk == 0) = false := by simpa using hfk
          have HE := Lib.hid (show mayDoc ⟨4, f, nm, fk, a, b, vk, c, s, e, tx⟩ = false by simp [mayDoc, h0, h255, hnmI.out, hfk])
          go_enter Try.func52, Try.ntmps52
          go_wp2_with (first | ((with_reducible refine xEqAgg (t := 52) rfl (HQ1.out _) guard_span ?_ ?_ ?_ ?_); exact rfl; exact rfl; exact rfl) | ((with_reducible refine xEqAgg (t := 76) rfl (HQ2.out _) guard_value ?_ ?_ ?_ ?_); exact rfl; exact rfl; exact rfl))
          all_goals
            go_ret
            exact ⟨by rw [HE.out]; rfl, (((Mod.refl [] _).alloc _).alloc _).alloc _⟩
      · skip
        have hnmI := Lib.hid (isNone_f hnm)
        have hnmb : nm.toList.isEmpty = false := by simpa using hnm
        have HE := Lib.hid (show mayDoc ⟨4, f, nm, fk, a, b, vk, c, s, e, tx⟩ = false by simp [mayDoc, h0, h255, hnmI.out])
        go_enter Try.func52, Try.ntmps52
        go_wp2_with (first | ((with_reducible refine xEqAgg (t := 52) rfl (HQ1.out _) guard_span ?_ ?_ ?_ ?_); exact rfl; exact rfl; exact rfl) | ((with_reducible refine xEqAgg (t := 76) rfl (HQ2.out _) guard_value ?_ ?_ ?_ ?_); exact rfl; exact rfl; exact rfl))
        all_goals
          go_ret
          exact ⟨by rw [HE.out]; rfl, (((Mod.refl [] _).alloc _).alloc _).alloc _⟩
    · skip
      have HE := Lib.hid (show mayDoc ⟨4, f, nm, fk, a, b, vk, c, s, e, tx⟩ = false by simp [mayDoc, h0, h255])
      go_enter Try.func52, Try.ntmps52
      go_wp2_with (first | ((with_reducible refine xEqAgg (t := 52) rfl (HQ1.out _) guard_span ?_ ?_ ?_ ?_); exact rfl; exact rfl; exact rfl) | ((with_reducible refine xEqAgg (t := 76) rfl (HQ2.out _) guard_value ?_ ?_ ?_ ?_); exact rfl; exact rfl; exact rfl))
      all_goals
        go_ret
        exact ⟨by rw [HE.out]; rfl, (((Mod.refl [] _).alloc _).alloc _).alloc _⟩
  · skip
    have HE := Lib.hid (show mayDoc ⟨4, f, nm, fk, a, b, vk, c, s, e, tx⟩ = false by simp [mayDoc, h0])
    go_enter Try.func52, Try.ntmps52
    go_wp2_with (first | ((with_reducible refine xEqAgg (t := 52) rfl (HQ1.out _) guard_span ?_ ?_ ?_ ?_); exact rfl; exact rfl; exact rfl) | ((with_reducible refine xEqAgg (t := 76) rfl (HQ2.out _) guard_value ?_ ?_ ?_ ?_); exact rfl; exact rfl; exact rfl))
    all_goals
      go_ret
      exact ⟨by rw [HE.out]; rfl, (((Mod.refl [] _).alloc _).alloc _).alloc _⟩
set_option maxHeartbeats 16000000 in
theorem rdo_5 (f : Int) (nm : ByteArray) (fk a b vk c s e : Int) (tx : ByteArray) (hc1 : -9223372036854775808 ≤ c) (hc2 : c ≤ 9223372036854775807) (w : World) :
    Calls Try.prog 52 #[.agg (DoR.cells ⟨5, f, nm, fk, a, b, vk, c, s, e, tx⟩).toArray] w fun x w' => x = .returned (.bool (mayDoc ⟨5, f, nm, fk, a, b, vk, c, s, e, tx⟩)) ∧ Mod [] w w' := by
  unfold DoR.cells
  have HQ1 := Lib.hid (fun W => eq_span a b W)
  have HQ2 := Lib.hid (fun W => eq_value vk c s e W)
  unfold vKey at HQ2
  have HF := Lib.hid (fun w => rfits_any a b w)
  have HV := Lib.hid (fun w => vmay10_any vk c s e hc1 hc2 w)
  unfold vKey at HV
  obtain ⟨z1, hz1⟩ : ∃ z, Hid (zeroS a b = z) := ⟨_, Lib.hid rfl⟩
  obtain ⟨z2, hz2⟩ : ∃ z, Hid (zeroV vk c s e = z) := ⟨_, Lib.hid rfl⟩
  obtain ⟨z3, hz3⟩ : ∃ z, Hid (spanOk a b = z) := ⟨_, Lib.hid rfl⟩
  obtain ⟨z4, hz4⟩ : ∃ z, Hid (mayV vk c s e = z) := ⟨_, Lib.hid rfl⟩
  rw [hz1.out] at HQ1
  rw [hz2.out] at HQ2
  rw [hz3.out] at HF
  rw [hz4.out] at HV
  clear hc1 hc2
  by_cases h0 : 0 ≤ f
  · skip
    by_cases h255 : f ≤ 255
    · skip
      by_cases hnm : nm.toList = []
      · skip
        have hnmI := Lib.hid (isNone_t hnm)
        by_cases hfk : fk = 0
        · skip
          subst hfk
          cases z1 with
          | true =>
            cases z2 with
            | true =>
              by_cases htx : tx.toList = []
              · skip
                have htxI := Lib.hid (isNone_t htx)
                have HE := Lib.hid (show mayDoc ⟨5, f, nm, 0, a, b, vk, c, s, e, tx⟩ = true by simp [mayDoc, h0, h255, hnmI.out, hz1.out, hz2.out, htxI.out])
                go_enter Try.func52, Try.ntmps52
                go_wp2_with (first | ((with_reducible refine xEqAgg (t := 52) rfl (HQ1.out _) guard_span ?_ ?_ ?_ ?_); exact rfl; exact rfl; exact rfl) | ((with_reducible refine xEqAgg (t := 76) rfl (HQ2.out _) guard_value ?_ ?_ ?_ ?_); exact rfl; exact rfl; exact rfl))
                all_goals
                  go_ret
                  exact ⟨by rw [HE.out]; rfl, (((Mod.refl [] _).alloc _).alloc _).alloc _⟩
              · skip
                have htxI := Lib.hid (isNone_f htx)
                have htxb : tx.toList.isEmpty = false := by simpa using htx
                have HE := Lib.hid (show mayDoc ⟨5, f, nm, 0, a, b, vk, c, s, e, tx⟩ = false by simp [mayDoc, h0, h255, hnmI.out, hz1.out, hz2.out, htxI.out])
                go_enter Try.func52, Try.ntmps52
                go_wp2_with (first | ((with_reducible refine xEqAgg (t := 52) rfl (HQ1.out _) guard_span ?_ ?_ ?_ ?_); exact rfl; exact rfl; exact rfl) | ((with_reducible refine xEqAgg (t := 76) rfl (HQ2.out _) guard_value ?_ ?_ ?_ ?_); exact rfl; exact rfl; exact rfl))
                all_goals
                  go_ret
                  exact ⟨by rw [HE.out]; rfl, (((Mod.refl [] _).alloc _).alloc _).alloc _⟩
            | false =>
              have HE := Lib.hid (show mayDoc ⟨5, f, nm, 0, a, b, vk, c, s, e, tx⟩ = false by simp [mayDoc, h0, h255, hnmI.out, hz1.out, hz2.out])
              go_enter Try.func52, Try.ntmps52
              go_wp2_with (first | ((with_reducible refine xEqAgg (t := 52) rfl (HQ1.out _) guard_span ?_ ?_ ?_ ?_); exact rfl; exact rfl; exact rfl) | ((with_reducible refine xEqAgg (t := 76) rfl (HQ2.out _) guard_value ?_ ?_ ?_ ?_); exact rfl; exact rfl; exact rfl))
              all_goals
                go_ret
                exact ⟨by rw [HE.out]; rfl, (((Mod.refl [] _).alloc _).alloc _).alloc _⟩
          | false =>
            have HE := Lib.hid (show mayDoc ⟨5, f, nm, 0, a, b, vk, c, s, e, tx⟩ = false by simp [mayDoc, h0, h255, hnmI.out, hz1.out])
            go_enter Try.func52, Try.ntmps52
            go_wp2_with (first | ((with_reducible refine xEqAgg (t := 52) rfl (HQ1.out _) guard_span ?_ ?_ ?_ ?_); exact rfl; exact rfl; exact rfl) | ((with_reducible refine xEqAgg (t := 76) rfl (HQ2.out _) guard_value ?_ ?_ ?_ ?_); exact rfl; exact rfl; exact rfl))
            all_goals
              go_ret
              exact ⟨by rw [HE.out]; rfl, (((Mod.refl [] _).alloc _).alloc _).alloc _⟩
        · skip
          have hfkb : (fk == 0) = false := by simpa using hfk
          have HE := Lib.hid (show mayDoc ⟨5, f, nm, fk, a, b, vk, c, s, e, tx⟩ = false by simp [mayDoc, h0, h255, hnmI.out, hfk])
          go_enter Try.func52, Try.ntmps52
          go_wp2_with (first | ((with_reducible refine xEqAgg (t := 52) rfl (HQ1.out _) guard_span ?_ ?_ ?_ ?_); exact rfl; exact rfl; exact rfl) | ((with_reducible refine xEqAgg (t := 76) rfl (HQ2.out _) guard_value ?_ ?_ ?_ ?_); exact rfl; exact rfl; exact rfl))
          all_goals
            go_ret
            exact ⟨by rw [HE.out]; rfl, (((Mod.refl [] _).alloc _).alloc _).alloc _⟩
      · skip
        have hnmI := Lib.hid (isNone_f hnm)
        have hnmb : nm.toList.isEmpty = false := by simpa using hnm
        have HE := Lib.hid (show mayDoc ⟨5, f, nm, fk, a, b, vk, c, s, e, tx⟩ = false by simp [mayDoc, h0, h255, hnmI.out])
        go_enter Try.func52, Try.ntmps52
        go_wp2_with (first | ((with_reducible refine xEqAgg (t := 52) rfl (HQ1.out _) guard_span ?_ ?_ ?_ ?_); exact rfl; exact rfl; exact rfl) | ((with_reducible refine xEqAgg (t := 76) rfl (HQ2.out _) guard_value ?_ ?_ ?_ ?_); exact rfl; exact rfl; exact rfl))
        all_goals
          go_ret
          exact ⟨by rw [HE.out]; rfl, (((Mod.refl [] _).alloc _).alloc _).alloc _⟩
    · skip
      have HE := Lib.hid (show mayDoc ⟨5, f, nm, fk, a, b, vk, c, s, e, tx⟩ = false by simp [mayDoc, h0, h255])
      go_enter Try.func52, Try.ntmps52
      go_wp2_with (first | ((with_reducible refine xEqAgg (t := 52) rfl (HQ1.out _) guard_span ?_ ?_ ?_ ?_); exact rfl; exact rfl; exact rfl) | ((with_reducible refine xEqAgg (t := 76) rfl (HQ2.out _) guard_value ?_ ?_ ?_ ?_); exact rfl; exact rfl; exact rfl))
      all_goals
        go_ret
        exact ⟨by rw [HE.out]; rfl, (((Mod.refl [] _).alloc _).alloc _).alloc _⟩
  · skip
    have HE := Lib.hid (show mayDoc ⟨5, f, nm, fk, a, b, vk, c, s, e, tx⟩ = false by simp [mayDoc, h0])
    go_enter Try.func52, Try.ntmps52
    go_wp2_with (first | ((with_reducible refine xEqAgg (t := 52) rfl (HQ1.out _) guard_span ?_ ?_ ?_ ?_); exact rfl; exact rfl; exact rfl) | ((with_reducible refine xEqAgg (t := 76) rfl (HQ2.out _) guard_value ?_ ?_ ?_ ?_); exact rfl; exact rfl; exact rfl))
    all_goals
      go_ret
      exact ⟨by rw [HE.out]; rfl, (((Mod.refl [] _).alloc _).alloc _).alloc _⟩
set_option maxHeartbeats 16000000 in
theorem rdo_6 (f : Int) (nm : ByteArray) (fk a b vk c s e : Int) (tx : ByteArray) (hc1 : -9223372036854775808 ≤ c) (hc2 : c ≤ 9223372036854775807) (w : World) :
    Calls Try.prog 52 #[.agg (DoR.cells ⟨6, f, nm, fk, a, b, vk, c, s, e, tx⟩).toArray] w fun x w' => x = .returned (.bool (mayDoc ⟨6, f, nm, fk, a, b, vk, c, s, e, tx⟩)) ∧ Mod [] w w' := by
  unfold DoR.cells
  have HQ1 := Lib.hid (fun W => eq_span a b W)
  have HQ2 := Lib.hid (fun W => eq_value vk c s e W)
  unfold vKey at HQ2
  have HF := Lib.hid (fun w => rfits_any a b w)
  have HV := Lib.hid (fun w => vmay10_any vk c s e hc1 hc2 w)
  unfold vKey at HV
  obtain ⟨z1, hz1⟩ : ∃ z, Hid (zeroS a b = z) := ⟨_, Lib.hid rfl⟩
  obtain ⟨z2, hz2⟩ : ∃ z, Hid (zeroV vk c s e = z) := ⟨_, Lib.hid rfl⟩
  obtain ⟨z3, hz3⟩ : ∃ z, Hid (spanOk a b = z) := ⟨_, Lib.hid rfl⟩
  obtain ⟨z4, hz4⟩ : ∃ z, Hid (mayV vk c s e = z) := ⟨_, Lib.hid rfl⟩
  rw [hz1.out] at HQ1
  rw [hz2.out] at HQ2
  rw [hz3.out] at HF
  rw [hz4.out] at HV
  clear hc1 hc2
  by_cases h0 : 0 ≤ f
  · skip
    by_cases h255 : f ≤ 255
    · skip
      by_cases hnm : nm.toList = []
      · skip
        have hnmI := Lib.hid (isNone_t hnm)
        by_cases hfk : fk = 0
        · skip
          subst hfk
          cases z1 with
          | true =>
            cases z2 with
            | true =>
              by_cases ht : (tx.size : Int) ≤ 400
              · skip
                have HE := Lib.hid (show mayDoc ⟨6, f, nm, 0, a, b, vk, c, s, e, tx⟩ = true by simp [mayDoc, h0, h255, hnmI.out, hz1.out, hz2.out, ht])
                go_enter Try.func52, Try.ntmps52
                go_wp2_with (first | ((with_reducible refine xEqAgg (t := 52) rfl (HQ1.out _) guard_span ?_ ?_ ?_ ?_); exact rfl; exact rfl; exact rfl) | ((with_reducible refine xEqAgg (t := 76) rfl (HQ2.out _) guard_value ?_ ?_ ?_ ?_); exact rfl; exact rfl; exact rfl))
                all_goals
                  go_ret
                  exact ⟨by rw [HE.out]; rfl, (((Mod.refl [] _).alloc _).alloc _).alloc _⟩
              · skip
                have HE := Lib.hid (show mayDoc ⟨6, f, nm, 0, a, b, vk, c, s, e, tx⟩ = false by simp [mayDoc, h0, h255, hnmI.out, hz1.out, hz2.out, ht])
                go_enter Try.func52, Try.ntmps52
                go_wp2_with (first | ((with_reducible refine xEqAgg (t := 52) rfl (HQ1.out _) guard_span ?_ ?_ ?_ ?_); exact rfl; exact rfl; exact rfl) | ((with_reducible refine xEqAgg (t := 76) rfl (HQ2.out _) guard_value ?_ ?_ ?_ ?_); exact rfl; exact rfl; exact rfl))
                all_goals
                  go_ret
                  exact ⟨by rw [HE.out]; rfl, (((Mod.refl [] _).alloc _).alloc _).alloc _⟩
            | false =>
              have HE := Lib.hid (show mayDoc ⟨6, f, nm, 0, a, b, vk, c, s, e, tx⟩ = false by simp [mayDoc, h0, h255, hnmI.out, hz1.out, hz2.out])
              go_enter Try.func52, Try.ntmps52
              go_wp2_with (first | ((with_reducible refine xEqAgg (t := 52) rfl (HQ1.out _) guard_span ?_ ?_ ?_ ?_); exact rfl; exact rfl; exact rfl) | ((with_reducible refine xEqAgg (t := 76) rfl (HQ2.out _) guard_value ?_ ?_ ?_ ?_); exact rfl; exact rfl; exact rfl))
              all_goals
                go_ret
                exact ⟨by rw [HE.out]; rfl, (((Mod.refl [] _).alloc _).alloc _).alloc _⟩
          | false =>
            have HE := Lib.hid (show mayDoc ⟨6, f, nm, 0, a, b, vk, c, s, e, tx⟩ = false by simp [mayDoc, h0, h255, hnmI.out, hz1.out])
            go_enter Try.func52, Try.ntmps52
            go_wp2_with (first | ((with_reducible refine xEqAgg (t := 52) rfl (HQ1.out _) guard_span ?_ ?_ ?_ ?_); exact rfl; exact rfl; exact rfl) | ((with_reducible refine xEqAgg (t := 76) rfl (HQ2.out _) guard_value ?_ ?_ ?_ ?_); exact rfl; exact rfl; exact rfl))
            all_goals
              go_ret
              exact ⟨by rw [HE.out]; rfl, (((Mod.refl [] _).alloc _).alloc _).alloc _⟩
        · skip
          have hfkb : (fk == 0) = false := by simpa using hfk
          have HE := Lib.hid (show mayDoc ⟨6, f, nm, fk, a, b, vk, c, s, e, tx⟩ = false by simp [mayDoc, h0, h255, hnmI.out, hfk])
          go_enter Try.func52, Try.ntmps52
          go_wp2_with (first | ((with_reducible refine xEqAgg (t := 52) rfl (HQ1.out _) guard_span ?_ ?_ ?_ ?_); exact rfl; exact rfl; exact rfl) | ((with_reducible refine xEqAgg (t := 76) rfl (HQ2.out _) guard_value ?_ ?_ ?_ ?_); exact rfl; exact rfl; exact rfl))
          all_goals
            go_ret
            exact ⟨by rw [HE.out]; rfl, (((Mod.refl [] _).alloc _).alloc _).alloc _⟩
      · skip
        have hnmI := Lib.hid (isNone_f hnm)
        have hnmb : nm.toList.isEmpty = false := by simpa using hnm
        have HE := Lib.hid (show mayDoc ⟨6, f, nm, fk, a, b, vk, c, s, e, tx⟩ = false by simp [mayDoc, h0, h255, hnmI.out])
        go_enter Try.func52, Try.ntmps52
        go_wp2_with (first | ((with_reducible refine xEqAgg (t := 52) rfl (HQ1.out _) guard_span ?_ ?_ ?_ ?_); exact rfl; exact rfl; exact rfl) | ((with_reducible refine xEqAgg (t := 76) rfl (HQ2.out _) guard_value ?_ ?_ ?_ ?_); exact rfl; exact rfl; exact rfl))
        all_goals
          go_ret
          exact ⟨by rw [HE.out]; rfl, (((Mod.refl [] _).alloc _).alloc _).alloc _⟩
    · skip
      have HE := Lib.hid (show mayDoc ⟨6, f, nm, fk, a, b, vk, c, s, e, tx⟩ = false by simp [mayDoc, h0, h255])
      go_enter Try.func52, Try.ntmps52
      go_wp2_with (first | ((with_reducible refine xEqAgg (t := 52) rfl (HQ1.out _) guard_span ?_ ?_ ?_ ?_); exact rfl; exact rfl; exact rfl) | ((with_reducible refine xEqAgg (t := 76) rfl (HQ2.out _) guard_value ?_ ?_ ?_ ?_); exact rfl; exact rfl; exact rfl))
      all_goals
        go_ret
        exact ⟨by rw [HE.out]; rfl, (((Mod.refl [] _).alloc _).alloc _).alloc _⟩
  · skip
    have HE := Lib.hid (show mayDoc ⟨6, f, nm, fk, a, b, vk, c, s, e, tx⟩ = false by simp [mayDoc, h0])
    go_enter Try.func52, Try.ntmps52
    go_wp2_with (first | ((with_reducible refine xEqAgg (t := 52) rfl (HQ1.out _) guard_span ?_ ?_ ?_ ?_); exact rfl; exact rfl; exact rfl) | ((with_reducible refine xEqAgg (t := 76) rfl (HQ2.out _) guard_value ?_ ?_ ?_ ?_); exact rfl; exact rfl; exact rfl))
    all_goals
      go_ret
      exact ⟨by rw [HE.out]; rfl, (((Mod.refl [] _).alloc _).alloc _).alloc _⟩
set_option maxHeartbeats 16000000 in
theorem rdo_7 (f : Int) (nm : ByteArray) (fk a b vk c s e : Int) (tx : ByteArray) (hc1 : -9223372036854775808 ≤ c) (hc2 : c ≤ 9223372036854775807) (w : World) :
    Calls Try.prog 52 #[.agg (DoR.cells ⟨7, f, nm, fk, a, b, vk, c, s, e, tx⟩).toArray] w fun x w' => x = .returned (.bool (mayDoc ⟨7, f, nm, fk, a, b, vk, c, s, e, tx⟩)) ∧ Mod [] w w' := by
  unfold DoR.cells
  have HQ1 := Lib.hid (fun W => eq_span a b W)
  have HQ2 := Lib.hid (fun W => eq_value vk c s e W)
  unfold vKey at HQ2
  have HF := Lib.hid (fun w => rfits_any a b w)
  have HV := Lib.hid (fun w => vmay10_any vk c s e hc1 hc2 w)
  unfold vKey at HV
  obtain ⟨z1, hz1⟩ : ∃ z, Hid (zeroS a b = z) := ⟨_, Lib.hid rfl⟩
  obtain ⟨z2, hz2⟩ : ∃ z, Hid (zeroV vk c s e = z) := ⟨_, Lib.hid rfl⟩
  obtain ⟨z3, hz3⟩ : ∃ z, Hid (spanOk a b = z) := ⟨_, Lib.hid rfl⟩
  obtain ⟨z4, hz4⟩ : ∃ z, Hid (mayV vk c s e = z) := ⟨_, Lib.hid rfl⟩
  rw [hz1.out] at HQ1
  rw [hz2.out] at HQ2
  rw [hz3.out] at HF
  rw [hz4.out] at HV
  clear hc1 hc2
  by_cases h0 : 0 ≤ f
  · skip
    by_cases h255 : f ≤ 255
    · skip
      by_cases hnm : nm.toList = []
      · skip
        have hnmI := Lib.hid (isNone_t hnm)
        by_cases hfk : fk = 0
        · skip
          subst hfk
          cases z1 with
          | true =>
            cases z2 with
            | true =>
              by_cases htx : tx.toList = []
              · skip
                have htxI := Lib.hid (isNone_t htx)
                have HE := Lib.hid (show mayDoc ⟨7, f, nm, 0, a, b, vk, c, s, e, tx⟩ = true by simp [mayDoc, h0, h255, hnmI.out, hz1.out, hz2.out, htxI.out])
                go_enter Try.func52, Try.ntmps52
                go_wp2_with (first | ((with_reducible refine xEqAgg (t := 52) rfl (HQ1.out _) guard_span ?_ ?_ ?_ ?_); exact rfl; exact rfl; exact rfl) | ((with_reducible refine xEqAgg (t := 76) rfl (HQ2.out _) guard_value ?_ ?_ ?_ ?_); exact rfl; exact rfl; exact rfl))
                all_goals
                  go_ret
                  exact ⟨by rw [HE.out]; rfl, (((Mod.refl [] _).alloc _).alloc _).alloc _⟩
              · skip
                have htxI := Lib.hid (isNone_f htx)
                have htxb : tx.toList.isEmpty = false := by simpa using htx
                have HE := Lib.hid (show mayDoc ⟨7, f, nm, 0, a, b, vk, c, s, e, tx⟩ = false by simp [mayDoc, h0, h255, hnmI.out, hz1.out, hz2.out, htxI.out])
                go_enter Try.func52, Try.ntmps52
                go_wp2_with (first | ((with_reducible refine xEqAgg (t := 52) rfl (HQ1.out _) guard_span ?_ ?_ ?_ ?_); exact rfl; exact rfl; exact rfl) | ((with_reducible refine xEqAgg (t := 76) rfl (HQ2.out _) guard_value ?_ ?_ ?_ ?_); exact rfl; exact rfl; exact rfl))
                all_goals
                  go_ret
                  exact ⟨by rw [HE.out]; rfl, (((Mod.refl [] _).alloc _).alloc _).alloc _⟩
            | false =>
              have HE := Lib.hid (show mayDoc ⟨7, f, nm, 0, a, b, vk, c, s, e, tx⟩ = false by simp [mayDoc, h0, h255, hnmI.out, hz1.out, hz2.out])
              go_enter Try.func52, Try.ntmps52
              go_wp2_with (first | ((with_reducible refine xEqAgg (t := 52) rfl (HQ1.out _) guard_span ?_ ?_ ?_ ?_); exact rfl; exact rfl; exact rfl) | ((with_reducible refine xEqAgg (t := 76) rfl (HQ2.out _) guard_value ?_ ?_ ?_ ?_); exact rfl; exact rfl; exact rfl))
              all_goals
                go_ret
                exact ⟨by rw [HE.out]; rfl, (((Mod.refl [] _).alloc _).alloc _).alloc _⟩
          | false =>
            have HE := Lib.hid (show mayDoc ⟨7, f, nm, 0, a, b, vk, c, s, e, tx⟩ = false by simp [mayDoc, h0, h255, hnmI.out, hz1.out])
            go_enter Try.func52, Try.ntmps52
            go_wp2_with (first | ((with_reducible refine xEqAgg (t := 52) rfl (HQ1.out _) guard_span ?_ ?_ ?_ ?_); exact rfl; exact rfl; exact rfl) | ((with_reducible refine xEqAgg (t := 76) rfl (HQ2.out _) guard_value ?_ ?_ ?_ ?_); exact rfl; exact rfl; exact rfl))
            all_goals
              go_ret
              exact ⟨by rw [HE.out]; rfl, (((Mod.refl [] _).alloc _).alloc _).alloc _⟩
        · skip
          have hfkb : (fk == 0) = false := by simpa using hfk
          have HE := Lib.hid (show mayDoc ⟨7, f, nm, fk, a, b, vk, c, s, e, tx⟩ = false by simp [mayDoc, h0, h255, hnmI.out, hfk])
          go_enter Try.func52, Try.ntmps52
          go_wp2_with (first | ((with_reducible refine xEqAgg (t := 52) rfl (HQ1.out _) guard_span ?_ ?_ ?_ ?_); exact rfl; exact rfl; exact rfl) | ((with_reducible refine xEqAgg (t := 76) rfl (HQ2.out _) guard_value ?_ ?_ ?_ ?_); exact rfl; exact rfl; exact rfl))
          all_goals
            go_ret
            exact ⟨by rw [HE.out]; rfl, (((Mod.refl [] _).alloc _).alloc _).alloc _⟩
      · skip
        have hnmI := Lib.hid (isNone_f hnm)
        have hnmb : nm.toList.isEmpty = false := by simpa using hnm
        have HE := Lib.hid (show mayDoc ⟨7, f, nm, fk, a, b, vk, c, s, e, tx⟩ = false by simp [mayDoc, h0, h255, hnmI.out])
        go_enter Try.func52, Try.ntmps52
        go_wp2_with (first | ((with_reducible refine xEqAgg (t := 52) rfl (HQ1.out _) guard_span ?_ ?_ ?_ ?_); exact rfl; exact rfl; exact rfl) | ((with_reducible refine xEqAgg (t := 76) rfl (HQ2.out _) guard_value ?_ ?_ ?_ ?_); exact rfl; exact rfl; exact rfl))
        all_goals
          go_ret
          exact ⟨by rw [HE.out]; rfl, (((Mod.refl [] _).alloc _).alloc _).alloc _⟩
    · skip
      have HE := Lib.hid (show mayDoc ⟨7, f, nm, fk, a, b, vk, c, s, e, tx⟩ = false by simp [mayDoc, h0, h255])
      go_enter Try.func52, Try.ntmps52
      go_wp2_with (first | ((with_reducible refine xEqAgg (t := 52) rfl (HQ1.out _) guard_span ?_ ?_ ?_ ?_); exact rfl; exact rfl; exact rfl) | ((with_reducible refine xEqAgg (t := 76) rfl (HQ2.out _) guard_value ?_ ?_ ?_ ?_); exact rfl; exact rfl; exact rfl))
      all_goals
        go_ret
        exact ⟨by rw [HE.out]; rfl, (((Mod.refl [] _).alloc _).alloc _).alloc _⟩
  · skip
    have HE := Lib.hid (show mayDoc ⟨7, f, nm, fk, a, b, vk, c, s, e, tx⟩ = false by simp [mayDoc, h0])
    go_enter Try.func52, Try.ntmps52
    go_wp2_with (first | ((with_reducible refine xEqAgg (t := 52) rfl (HQ1.out _) guard_span ?_ ?_ ?_ ?_); exact rfl; exact rfl; exact rfl) | ((with_reducible refine xEqAgg (t := 76) rfl (HQ2.out _) guard_value ?_ ?_ ?_ ?_); exact rfl; exact rfl; exact rfl))
    all_goals
      go_ret
      exact ⟨by rw [HE.out]; rfl, (((Mod.refl [] _).alloc _).alloc _).alloc _⟩
end Go.Proofs.Ytnoookcfacmdkaa
namespace Go.Proofs.Ytnoookcfacmdkaa
open Go.RowKit Go.ChangeMaps Go.Deep
set_option linter.unusedSimpArgs false
set_option linter.unusedVariables false
set_option maxRecDepth 20000

theorem isNone_iff {s : ByteArray} : isNone s = true ↔ s = noStr := by
  unfold isNone noStr
  rw [decide_eq_true_eq, ByteArray.toList_eq]
  constructor
  · intro h
    cases s with
    | mk d => simp at h; rw [h]
  · rintro rfl; rfl
theorem noStr_size : noStr.size = 0 := rfl
theorem do_eq {x y : DoR} : x = y ↔ x.k = y.k ∧ x.f = y.f ∧ x.nm = y.nm ∧ x.fk = y.fk ∧ x.a = y.a ∧ x.b = y.b ∧ x.vk = y.vk ∧ x.c = y.c ∧ x.s = y.s ∧ x.e = y.e ∧ x.tx = y.tx :=
  ⟨fun h => by subst h; simp, fun ⟨h1, h2, h3, h4, h5, h6, h7, h8, h9, h10, h11⟩ => DoR.ext' h1 h2 h3 h4 h5 h6 h7 h8 h9 h10 h11⟩
theorem spanOk_iff {a b : Int} : spanOk a b = true ↔ 0 ≤ a ∧ a < 16777216 ∧ 0 ≤ b ∧ b < 16777216 := by
  simp only [spanOk, Bool.and_eq_true, decide_eq_true_eq, and_assoc]
theorem may_iff (d : DoR) : d.may = true ↔ (d.k = 2 → mayV d.vk d.c d.s d.e = true ∧ 1 ≤ d.vk ∧ d.vk ≤ 3) ∧ (1 ≤ d.k ∧ d.k ≤ 7) ∧ d = d.short ∧ (0 ≤ d.f ∧ d.f ≤ 255) ∧ d.nm.size ≤ 12 ∧ d.tx.size ≤ 400 ∧ spanOk d.a d.b = true := by
  constructor
  · intro h
    obtain ⟨h1, h2, h3, h4, h5, h6, h7⟩ := may_kinds h
    exact ⟨h7, h1, h2, h3, h4, h5, h6⟩
  · rintro ⟨h7, h1, h2, h3, h4, h5, h6⟩
    simp only [DoR.may, Bool.and_eq_true, decide_eq_true_eq, Bool.not_eq_true', Bool.and_eq_false_iff, Bool.or_eq_false_iff, decide_eq_false_iff_not, Bool.not_eq_false']
    refine ⟨?_, ⟨⟨⟨⟨⟨⟨h1.1, h1.2⟩, h2⟩, h3.1⟩, h3.2⟩, h4⟩, h5⟩, h6⟩
    by_cases hk : d.k = 2
    · obtain ⟨g1, g2, g3⟩ := h7 hk
      exact .inr ⟨⟨g1, by omega⟩, by omega⟩
    · exact .inl hk
theorem mayDoc_may (d : DoR) : mayDoc d = d.may := by
  rw [Bool.eq_iff_iff, may_iff, do_eq, spanOk_iff]
  unfold mayDoc DoR.short
  by_cases h1 : d.k = 1
  · simp only [h1, if_true, DoR.zero, Bool.and_eq_true, decide_eq_true_eq, zeroS, zeroV, isNone_iff]
    constructor
    · rintro ⟨⟨⟨⟨a1, a2⟩, a3⟩, a4⟩, a5⟩
      have : d.tx.size = 0 := by rw [a5]; rfl
      refine ⟨fun h => by omega, by omega, ⟨trivial, a1, trivial, trivial, a3.1, a3.2, a4.1, a4.2.1, a4.2.2.1, a4.2.2.2, a5⟩, by omega, by omega, by omega, by omega⟩
    · rintro ⟨_, _, ⟨_, a1, _, _, a3, a4, a5, a6, a7, a8, a9⟩, _, a10, _⟩
      exact ⟨⟨⟨⟨a1, by omega⟩, a3, a4⟩, a5, a6, a7, a8⟩, a9⟩
  · by_cases h2 : d.k = 2
    · simp only [h2, if_true, if_false, DoR.zero, Bool.and_eq_true, Bool.or_eq_true, decide_eq_true_eq, isNone_iff, spanOk_iff, show ¬ (2 : Int) = 1 by decide, true_implies]
      constructor
      · rintro ⟨⟨⟨⟨⟨⟨⟨a1, a2⟩, a3⟩, a4⟩, a5⟩, a6⟩, a7⟩, a8⟩
        have e1 : d.tx.size = 0 := by rw [a8]; rfl
        have e2 : d.nm.size = 0 := by rw [a3]; rfl
        exact ⟨⟨a6, by omega, by omega⟩, by omega, ⟨trivial, trivial, a3, a4, trivial, trivial, trivial, trivial, trivial, trivial, a8⟩, ⟨a1, a2⟩, by omega, by omega, a5⟩
      · rintro ⟨⟨a6, b1, b2⟩, _, ⟨_, _, a3, a4, _, _, _, _, _, _, a8⟩, ⟨a1, a2⟩, _, _, a5⟩
        exact ⟨⟨⟨⟨⟨⟨⟨a1, a2⟩, a3⟩, a4⟩, a5⟩, a6⟩, by omega⟩, a8⟩
    · by_cases h3 : d.k = 3
      · simp only [h3, if_true, if_false, DoR.zero, Bool.and_eq_true, Bool.or_eq_true, decide_eq_true_eq, isNone_iff, spanOk_iff, zeroV, show ¬ (3 : Int) = 1 by decide, show ¬ (3 : Int) = 2 by decide, false_implies, true_and]
        constructor
        · rintro ⟨⟨⟨⟨⟨⟨a1, a2⟩, a3⟩, a4⟩, a5⟩, a6⟩, a8⟩
          have e1 : d.tx.size = 0 := by rw [a8]; rfl
          have e2 : d.nm.size = 0 := by rw [a3]; rfl
          exact ⟨by omega, ⟨a3, a4, a6.1, a6.2.1, a6.2.2.1, a6.2.2.2, a8⟩, ⟨a1, a2⟩, by omega, by omega, a5⟩
        · rintro ⟨_, ⟨a3, a4, b1, b2, b3, b4, a8⟩, ⟨a1, a2⟩, _, _, a5⟩
          exact ⟨⟨⟨⟨⟨⟨a1, a2⟩, a3⟩, a4⟩, a5⟩, b1, b2, b3, b4⟩, a8⟩
      · by_cases h4 : d.k = 4 ∨ d.k = 6
        · simp only [h1, h2, h3, h4, if_true, if_false, DoR.zero, Bool.and_eq_true, Bool.or_eq_true, decide_eq_true_eq, isNone_iff, zeroV, zeroS, false_implies, true_and]
          constructor
          · rintro ⟨⟨⟨⟨⟨⟨a1, a2⟩, a3⟩, a4⟩, a5⟩, a6⟩, a8⟩
            have e2 : d.nm.size = 0 := by rw [a3]; rfl
            exact ⟨by omega, ⟨a3, a4, a5.1, a5.2, a6.1, a6.2.1, a6.2.2.1, a6.2.2.2, trivial⟩, ⟨a1, a2⟩, by omega, by omega, by omega⟩
          · rintro ⟨_, ⟨a3, a4, a51, a52, b1, b2, b3, b4, _⟩, ⟨a1, a2⟩, _, a8, _⟩
            exact ⟨⟨⟨⟨⟨⟨a1, a2⟩, a3⟩, a4⟩, a51, a52⟩, b1, b2, b3, b4⟩, by omega⟩
        · by_cases h5 : d.k = 5 ∨ d.k = 7
          · simp only [h1, h2, h3, h4, h5, if_true, if_false, DoR.zero, Bool.and_eq_true, Bool.or_eq_true, decide_eq_true_eq, isNone_iff, zeroV, zeroS, false_implies, true_and]
            constructor
            · rintro ⟨⟨⟨⟨⟨⟨a1, a2⟩, a3⟩, a4⟩, a5⟩, a6⟩, a8⟩
              have e1 : d.tx.size = 0 := by rw [a8]; rfl
              have e2 : d.nm.size = 0 := by rw [a3]; rfl
              exact ⟨by omega, ⟨a3, a4, a5.1, a5.2, a6.1, a6.2.1, a6.2.2.1, a6.2.2.2, a8⟩, ⟨a1, a2⟩, by omega, by omega, by omega⟩
            · rintro ⟨_, ⟨a3, a4, a51, a52, b1, b2, b3, b4, a8⟩, ⟨a1, a2⟩, _, _, _⟩
              exact ⟨⟨⟨⟨⟨⟨a1, a2⟩, a3⟩, a4⟩, a51, a52⟩, b1, b2, b3, b4⟩, a8⟩
          · simp only [h1, h2, h3, h4, h5, if_false]
            constructor
            · intro h; cases h
            · rintro ⟨_, h, _⟩; omega
set_option maxHeartbeats 4000000 in
theorem rdo_other (d : DoR) (hk : ¬ (1 ≤ d.k ∧ d.k ≤ 7)) (w : World) : Calls Try.prog 52 #[.agg d.cells.toArray] w fun x w' => x = .returned (.bool (mayDoc d)) ∧ Mod [] w w' := by
  obtain ⟨k, f, nm, fk, a, b, vk, c, s, e, tx⟩ := d
  dsimp only at hk
  have HE := Lib.hid (show mayDoc ⟨k, f, nm, fk, a, b, vk, c, s, e, tx⟩ = false by
    simp only [mayDoc]
    rw [if_neg (by omega), if_neg (by omega), if_neg (by omega), if_neg (by omega), if_neg (by omega)])
  have b1 : (k == 1) = false := by simp; omega
  have b2 : (k == 2) = false := by simp; omega
  have b3 : (k == 3) = false := by simp; omega
  have b4 : (k == 4) = false := by simp; omega
  have b5 : (k == 5) = false := by simp; omega
  have b6 : (k == 6) = false := by simp; omega
  have b7 : (k == 7) = false := by simp; omega
  unfold DoR.cells
  clear hk
  go_enter Try.func52, Try.ntmps52
  go_wp2_with fail
  all_goals
    go_ret
    exact ⟨by rw [HE.out]; rfl, (((Mod.refl [] _).alloc _).alloc _).alloc _⟩
theorem refDo_any (d : DoR) (hc : -9223372036854775808 ≤ d.c ∧ d.c ≤ 9223372036854775807) (w : World) : Calls Try.prog 52 #[.agg d.cells.toArray] w fun x w' => x = .returned (.bool d.may) ∧ Mod [] w w' := by
  rw [← mayDoc_may]
  by_cases hk : 1 ≤ d.k ∧ d.k ≤ 7
  · obtain ⟨k, f, nm, fk, a, b, vk, c, s, e, tx⟩ := d
    dsimp only at hk hc
    rcases (show k = 1 ∨ k = 2 ∨ k = 3 ∨ k = 4 ∨ k = 5 ∨ k = 6 ∨ k = 7 by omega) with rfl | rfl | rfl | rfl | rfl | rfl | rfl
    · exact rdo_1 f nm fk a b vk c s e tx hc.1 hc.2 w
    · exact rdo_2 f nm fk a b vk c s e tx hc.1 hc.2 w
    · exact rdo_3 f nm fk a b vk c s e tx hc.1 hc.2 w
    · exact rdo_4 f nm fk a b vk c s e tx hc.1 hc.2 w
    · exact rdo_5 f nm fk a b vk c s e tx hc.1 hc.2 w
    · exact rdo_6 f nm fk a b vk c s e tx hc.1 hc.2 w
    · exact rdo_7 f nm fk a b vk c s e tx hc.1 hc.2 w
  · exact rdo_other d hk w
end Go.Proofs.Ytnoookcfacmdkaa
namespace Go.Proofs.Ytnoookcfacmdkaa
open Go.RowKit Go.ChangeMaps Go.Deep
set_option linter.unusedSimpArgs false
set_option linter.unusedVariables false
set_option maxRecDepth 20000

def nzS (a b : Int) : Bool := !zeroS a b
theorem neq_span0 (a b : Int) (w : World) : (binOp .neq 52 (.agg #[.int .i64 a, .int .i64 b]) (.agg #[.int .i64 0, .int .i64 0])).run Try.prog w = .ok (.bool (nzS a b)) w := by
  unfold nzS zeroS
  go_simp
  repeat' split
  all_goals simp [*]
def CFit (d : DoR) : Prop := -9223372036854775808 ≤ d.c ∧ d.c ≤ 9223372036854775807
set_option maxHeartbeats 8000000 in
theorem rmay25_any (r : RecR) (v : Value) (w : World) (h : DosAt w v r.ds) (hf : ∀ d ∈ r.ds, CFit d) (hl : r.ds.length ≤ 1000000000) :
    Calls Try.prog 31 #[recV r v] w fun e w' => e = .returned (.bool r.may) ∧ Mod [] w w' := by
  obtain ⟨k, ds, a, b⟩ := r
  unfold recV
  dsimp only at h hf hl ⊢
  have H := Lib.hid h
  have HFD := Lib.hid hf
  obtain ⟨ra, rc, rfl, _⟩ := h
  obtain ⟨A1, hA1, k1, z1, m1⟩ := alloc_named2 w (.cells #[.int .u8 k, .slice ra ds.length rc, .int .i64 a, .int .i64 b] 54)
  have hb1 := ((Mod.refl [] A1).alloc (.cells #[.int .i64 0, .int .i64 0] 52)).heap k1 (by simp)
  have HB := Lib.hid hb1
  have HM := Lib.hid (m1.alloc (.cells #[.int .i64 0, .int .i64 0] 52))
  have q0 := cell_blk k1 0
  have q1 := cell_blk k1 1
  have q2 := cell_blk k1 2
  have q3 := cell_blk k1 3
  have p0 := cell_blk hb1 0
  have p1 := cell_blk hb1 1
  have p2 := cell_blk hb1 2
  have p3 := cell_blk hb1 3
  simp only [List.getElem?_toArray, List.getElem?_cons_succ, List.getElem?_cons_zero] at q0 q1 q2 q3 p0 p1 p2 p3
  have HF := Lib.hid (fun w => rfits_any a b w)
  have HN := Lib.hid (fun W => neq_span0 a b W)
  obtain ⟨zs, hzs⟩ : ∃ z, Hid (zeroS a b = z) := ⟨_, Lib.hid rfl⟩
  obtain ⟨zn, hzn⟩ : ∃ z, Hid (nzS a b = z) := ⟨_, Lib.hid rfl⟩
  have HZN := Lib.hid (show zn = !zs by rw [← hzn.out, ← hzs.out]; rfl)
  obtain ⟨zf, hzf⟩ : ∃ z, Hid (spanOk a b = z) := ⟨_, Lib.hid rfl⟩
  rw [hzn.out] at HN
  rw [hzf.out] at HF
  clear hf hb1 k1 m1
  by_cases h2 : k = 2 ∨ k = 3
  · have hk1 : ¬ k = 1 := by omega
    by_cases h0 : ds.length = 0
    · have HE := Lib.hid (show RecR.may ⟨k, ds, a, b⟩ = zf by simp [RecR.may, hk1, h2, h0, hzf.out])
      have hb0 : ((ds.length : Int) == 0) = true := by simp [h0]
      rcases h2 with rfl | rfl
      all_goals
        clear hk1 h0
        go_enter Try.func31, Try.ntmps31
        go_wp2_with fail
        refine (HF.out _).mono ?_
        rintro e w1 ⟨rfl, m2⟩
        have HM2 := Lib.hid (HM.out.trans m2)
        clear m2
        go_wp2_with fail
        go_ret
        exact ⟨by rw [HE.out]; rfl, HM2.out⟩
    · have HE := Lib.hid (show RecR.may ⟨k, ds, a, b⟩ = false by simp [RecR.may, hk1, h2, h0])
      have hb0 : ((ds.length : Int) == 0) = false := by simp; intro e; exact h0 (by rw [e]; rfl)
      rcases h2 with rfl | rfl
      all_goals
        clear hk1 h0
        go_enter Try.func31, Try.ntmps31
        go_wp2_with fail
        go_ret
        exact ⟨by rw [HE.out]; rfl, HM.out⟩
  · have c2 : (k == 2) = false := by simp; omega
    have c3 : (k == 3) = false := by simp; omega
    by_cases h1 : k = 1
    · subst h1
      by_cases h64 : 64 < ds.length
      · have HE := Lib.hid (show RecR.may ⟨1, ds, a, b⟩ = false by simp [RecR.may]; omega)
        clear h2
        go_enter Try.func31, Try.ntmps31
        go_wp2_with fail
        go_ret
        exact ⟨by rw [HE.out]; rfl, HM.out⟩
      · have h64i : (ds.length : Int) ≤ 64 := by omega
        have h64b : decide ((64 : Int) < (ds.length : Int)) = false := decide_eq_false (by omega)
        cases zs with
        | false =>
          obtain rfl : zn = true := HZN.out
          have HE := Lib.hid (show RecR.may ⟨1, ds, a, b⟩ = false by
            have := hzs.out
            simp only [zeroS, decide_eq_false_iff_not] at this
            simp [RecR.may]
            intro _ ha hb
            exact absurd ⟨ha, hb⟩ this)
          clear h2
          go_enter Try.func31, Try.ntmps31
          go_wp2_with ((with_reducible refine xEqAgg (t := 52) rfl (HN.out _) guard_span ?_ ?_ ?_ ?_); exact rfl; exact rfl; exact rfl)
          go_ret
          exact ⟨by rw [HE.out]; rfl, HM.out⟩
        | true =>
          obtain rfl : zn = false := HZN.out
          have HE := Lib.hid (show RecR.may ⟨1, ds, a, b⟩ = ds.all DoR.may by
            have := hzs.out
            simp only [zeroS, decide_eq_true_eq] at this
            obtain ⟨rfl, rfl⟩ := this
            simp [RecR.may]
            intro _
            omega)
          clear h2
          go_enter Try.func31, Try.ntmps31
          go_wp2_with ((with_reducible refine xEqAgg (t := 52) rfl (HN.out _) guard_span ?_ ?_ ?_ ?_); exact rfl; exact rfl; exact rfl)
          go_loopw [4] (fun s4 wr => ∃ i : Nat, i ≤ ds.length ∧ s4 = .int .i64 i ∧ Hid (Mod [] (A1.alloc (.cells #[.int .i64 0, .int .i64 0] 52)) wr) ∧ Hid (ds.all DoR.may = (ds.drop i).all DoR.may)) (fun s4 _ => ds.length - (intOf s4).toNat)
          case atStart => exact ⟨0, by omega, rfl, Lib.hid (Mod.refl _ _), Lib.hid rfl⟩
          case round =>
            obtain ⟨i, hi, rfl, hm, hall⟩ := hrel
            have hcr := hm.out.heap HB.out (by simp)
            have p1' := cell_blk hcr 1
            simp only [List.getElem?_toArray, List.getElem?_cons_succ, List.getElem?_cons_zero] at p1'
            clear hcr
            by_cases hlt : i < ds.length
            · obtain ⟨bD, oD, rfl, hr⟩ := H.out.get hlt
              have hr := rangeAt_mod hr (HM.out.trans hm.out) (by simp)
              have HD := Lib.hid (List.getElem_cons_drop hlt)
              have HCF := Lib.hid (HFD.out ds[i] (List.getElem_mem hlt))
              generalize ds[i] = d at hr HD HCF
              have HL := Lib.hid (load_do hr)
              have HC := Lib.hid (refDo_any d HCF.out wr)
              have HA := Lib.hid (show ds.all DoR.may = (d.may && (ds.drop (i + 1)).all DoR.may) by rw [hall.out, ← HD.out]; rfl)
              obtain ⟨q, hq⟩ : ∃ q, Hid (d.may = q) := ⟨_, Lib.hid rfl⟩
              rw [hq.out] at HC
              clear hr
              cases q with
              | true =>
                have HN2 := Lib.hid (show ds.all DoR.may = (ds.drop (i + 1)).all DoR.may by rw [HA.out, hq.out]; rfl)
                go_wp2_with (refine xLoadAt (t := 78) rfl HL.out rfl rfl ?_)
                refine HC.out.mono ?_
                rintro e w1 ⟨rfl, m2⟩
                have HM2 := Lib.hid (hm.out.trans m2)
                clear m2
                go_wp2_with fail
                go_roundw
                case rel => exact ⟨i + 1, by omega, by go_num, HM2, HN2⟩
                case measure => simp [intOf]; omega
              | false =>
                have HN2 := Lib.hid (show ds.all DoR.may = false by rw [HA.out, hq.out]; rfl)
                go_wp2_with (refine xLoadAt (t := 78) rfl HL.out rfl rfl ?_)
                refine HC.out.mono ?_
                rintro e w1 ⟨rfl, m2⟩
                have HM2 := Lib.hid (HM.out.trans (hm.out.trans m2))
                clear m2
                go_wp2_with fail
                go_ret
                exact ⟨by rw [HE.out, HN2.out]; rfl, HM2.out⟩
            · have HN2 := Lib.hid (show ds.all DoR.may = true by rw [hall.out, List.drop_of_length_le (by omega)]; rfl)
              have HM2 := Lib.hid (HM.out.trans hm.out)
              go_wp2_with fail
              go_ret
              exact ⟨by rw [HE.out, HN2.out]; rfl, HM2.out⟩
    · have HE := Lib.hid (show RecR.may ⟨k, ds, a, b⟩ = false by simp [RecR.may, h1, h2])
      have c1 : (k != 1) = true := by simp; exact h1
      clear h1 h2
      go_enter Try.func31, Try.ntmps31
      go_wp2_with fail
      go_ret
      exact ⟨by rw [HE.out]; rfl, HM.out⟩
end Go.Proofs.Ytnoookcfacmdkaa
