/- Locks: Submit where it refuses; Days, Copy, New, Meets, Reopen. -/
import Derived.Test.YtefaihockgebeaaLkC
namespace Go.Proofs.Ytefaihockgebeaa
open Go.RowKit Go.ChangeMaps Go.Deep
set_option linter.unusedSimpArgs false
set_option linter.unusedVariables false
set_option maxRecDepth 20000

theorem lkSubmit_nil (f t : Int) (v : Value) (w : World) :
    Calls Try.prog 50 #[.pointer none, .agg #[.int .i64 f, .int .i64 t], v] w fun e w' => e = .returned (.tuple #[.agg #[.int .i64 0, .int .i64 0], .bool false, .int .i64 1]) ∧ Mod [] w w' := by
  have hm0 := (((Mod.refl [] w).alloc (.cells #[.int .i64 f, .int .i64 t] 64)).alloc (.cells #[.int .i64 0, .int .i64 0] 75))
  go_enter Try.func50, Try.ntmps50
  go_wp2_with fail
  exact bodyPost_ret (v := .tuple #[.agg #[.int .i64 0, .int .i64 0], .bool false, .int .i64 1]) (by simp [results, Try.results50, go_sem]) rfl ⟨rfl, hm0⟩
set_option maxHeartbeats 1000000 in
theorem lkSubmit_may (B : Nat) (f t : Int) (v : Value) (w : World) (h : mayD f t = false) :
    Calls Try.prog 50 #[.pointer (some ⟨B, 0, none⟩), .agg #[.int .i64 f, .int .i64 t], v] w fun e w' => e = .returned (.tuple #[.agg #[.int .i64 0, .int .i64 0], .bool false, .int .i64 15]) ∧ Mod [] w w' := by
  have hm0 := (((Mod.refl [] w).alloc (.cells #[.int .i64 f, .int .i64 t] 64)).alloc (.cells #[.int .i64 0, .int .i64 0] 75))
  have HX := Lib.hid (show ((w.alloc (.cells #[.int .i64 f, .int .i64 t] 64)).alloc (.cells #[.int .i64 0, .int .i64 0] 75)).heap[w.heap.size + 1]? = some (.cells #[.int .i64 0, .int .i64 0] 75 (0, 0)) by
    have := heap_alloc_new (w.alloc (.cells #[.int .i64 f, .int .i64 t] 64)) (.cells #[.int .i64 0, .int .i64 0] 75)
    rwa [World.size_alloc] at this)
  have HC := Lib.hid (lkMay_any f t ((w.alloc (.cells #[.int .i64 f, .int .i64 t] 64)).alloc (.cells #[.int .i64 0, .int .i64 0] 75)))
  have HM0 := Lib.hid hm0
  clear hm0
  go_enter Try.func50, Try.ntmps50
  go_wp2_with fail
  refine HC.out.mono ?_
  rintro e w1 ⟨rfl, m1⟩
  rw [h]
  have hx := m1.heap HX.out (by simp)
  have r0 := cell_blk hx 0
  have r1 := cell_blk hx 1
  have r2 := frozen_blk hx 0
  have r3 := frozen_blk hx 1
  simp only [List.getElem?_toArray, List.getElem?_cons_succ, List.getElem?_cons_zero] at r0 r1
  have hy := heap_setCell_blk (heap_setCell_blk hx 0 (.int .i64 0)) 1 (.int .i64 0)
  have q0 := cell_blk hy 0
  have q1 := cell_blk hy 1
  simp at q0 q1
  have HM1 := Lib.hid (((HM0.out.trans m1).setCellNew (p := ⟨w.heap.size + 1, 0, none⟩) (by simp) (.int .i64 0)).setCellNew (p := ⟨w.heap.size + 1, 1, none⟩) (by simp) (.int .i64 0))
  clear hx hy m1
  go_wp2_with fail
  exact bodyPost_ret (v := .tuple #[.agg #[.int .i64 0, .int .i64 0], .bool false, .int .i64 15]) (by simp [results, Try.results50, go_sem, q0, q1]) rfl ⟨rfl, HM1.out⟩
set_option maxHeartbeats 1000000 in
theorem lkSubmit_rises (B : Nat) (f t : Int) (v : Value) (us : List (Int × Value)) (rs : List Rn) (w : World) (hr : RunsAt w v us rs) (hlen : rs.length ≤ 140737488355328) (hsl : ∀ r ∈ rs, r.segs.length ≤ 140737488355328) (h : mayD f t = true) (h2 : runsOk none rs = false) :
    Calls Try.prog 50 #[.pointer (some ⟨B, 0, none⟩), .agg #[.int .i64 f, .int .i64 t], v] w fun e w' => e = .returned (.tuple #[.agg #[.int .i64 0, .int .i64 0], .bool false, .int .i64 2]) ∧ Mod [] w w' := by
  obtain ⟨a, c, rfl⟩ := hr.form
  have HR := Lib.hid hr
  have HSL := Lib.hid hsl
  have hm0 := (((Mod.refl [] w).alloc (.cells #[.int .i64 f, .int .i64 t] 64)).alloc (.cells #[.int .i64 0, .int .i64 0] 75))
  have HX := Lib.hid (show ((w.alloc (.cells #[.int .i64 f, .int .i64 t] 64)).alloc (.cells #[.int .i64 0, .int .i64 0] 75)).heap[w.heap.size + 1]? = some (.cells #[.int .i64 0, .int .i64 0] 75 (0, 0)) by
    have := heap_alloc_new (w.alloc (.cells #[.int .i64 f, .int .i64 t] 64)) (.cells #[.int .i64 0, .int .i64 0] 75)
    rwa [World.size_alloc] at this)
  have HC := Lib.hid (lkMay_any f t ((w.alloc (.cells #[.int .i64 f, .int .i64 t] 64)).alloc (.cells #[.int .i64 0, .int .i64 0] 75)))
  have HM0 := Lib.hid hm0
  clear hm0 hr hsl
  go_enter Try.func50, Try.ntmps50
  go_wp2_with fail
  refine HC.out.mono ?_
  rintro e w1 ⟨rfl, m1⟩
  rw [h]
  have HM1 := Lib.hid (HM0.out.trans m1)
  have HX1 := Lib.hid (m1.heap HX.out (by simp))
  have HC2 := Lib.hid (lkRises_any _ us rs w1 (HR.out.kept0 HM1.out) hlen HSL.out)
  clear m1 HC
  go_wp2_with fail
  refine HC2.out.mono ?_
  rintro e w2 ⟨rfl, m2⟩
  rw [h2]
  have hx := m2.heap HX1.out (by simp)
  have r0 := cell_blk hx 0
  have r1 := cell_blk hx 1
  have r2 := frozen_blk hx 0
  have r3 := frozen_blk hx 1
  simp only [List.getElem?_toArray, List.getElem?_cons_succ, List.getElem?_cons_zero] at r0 r1
  have hy := heap_setCell_blk (heap_setCell_blk hx 0 (.int .i64 0)) 1 (.int .i64 0)
  have q0 := cell_blk hy 0
  have q1 := cell_blk hy 1
  simp at q0 q1
  have HM2 := Lib.hid (((HM1.out.trans m2).setCellNew (p := ⟨w.heap.size + 1, 0, none⟩) (by simp) (.int .i64 0)).setCellNew (p := ⟨w.heap.size + 1, 1, none⟩) (by simp) (.int .i64 0))
  clear hx hy m2 HC2
  go_wp2_with fail
  exact bodyPost_ret (v := .tuple #[.agg #[.int .i64 0, .int .i64 0], .bool false, .int .i64 2]) (by simp [results, Try.results50, go_sem, q0, q1]) rfl ⟨rfl, HM2.out⟩
/-! ### Days, Copy, New -/
theorem lkNew_any (w : World) : Calls Try.prog 49 #[] w fun e w' => e = .returned (.pointer (some ⟨w.heap.size, 0, none⟩)) ∧ w' = w.alloc (.cells #[.slice none 0 0] 119) := by
  go_enter Try.func49, Try.ntmps49
  go_wp2
  go_ret
  exact ⟨rfl, rfl⟩
theorem lkDays_nil (w : World) : Calls Try.prog 52 #[.pointer none] w fun e w' => e = .returned (.slice none 0 0) ∧ w' = w := by
  go_enter Try.func52, Try.ntmps52
  go_wp2
  go_ret
  exact ⟨rfl, rfl⟩
theorem lkCopy_nil (w : World) : Calls Try.prog 55 #[.pointer none] w fun e w' => e = .returned (.pointer none) ∧ w' = w := by
  go_enter Try.func55, Try.ntmps55
  go_wp2
  go_ret
  exact ⟨rfl, rfl⟩
theorem lkMeets_nil (v : Value) (w : World) : Calls Try.prog 56 #[.pointer none, v] w fun e w' => e = .returned (.bool false) ∧ w' = w := by
  go_enter Try.func56, Try.ntmps56
  go_wp2
  go_ret
  exact ⟨rfl, rfl⟩
theorem lkReopen_nil (f t : Int) (w : World) : Calls Try.prog 54 #[.pointer none, .agg #[.int .i64 f, .int .i64 t]] w fun e w' => e = .returned (.int .i64 1) ∧ Mod [] w w' := by
  have HM := Lib.hid ((Mod.refl [] w).alloc (.cells #[.int .i64 f, .int .i64 t] 64))
  go_enter Try.func54, Try.ntmps54
  go_wp2
  go_ret
  exact ⟨rfl, HM.out⟩
theorem lkDays_any (B : Nat) (sv : Value) (A : List Sp) (w : World) (hB : w.heap[B]? = some (.cells #[sv] 119 (0, 0))) (hA : SpansAt w sv A) (hl : A.length ≤ 100000) :
    Calls Try.prog 52 #[.pointer (some ⟨B, 0, none⟩)] w fun e w' => ∃ v' out, e = .returned v' ∧ OwnS w' w.heap.size v' out ∧ Mod [] w w' ∧ IsOf A out ∧ out.length ≤ A.length := by
  have b0 := cell_blk hB 0
  simp only [List.getElem?_toArray, List.getElem?_cons_zero] at b0
  have HC := Lib.hid (spOf_any sv A w hA (by omega))
  obtain ⟨a, c, rfl⟩ := hA.form
  go_enter Try.func52, Try.ntmps52
  go_wp2_with fail
  refine HC.out.mono ?_
  rintro e w1 ⟨v1, out, rfl, o1, m1, h1, l1⟩
  go_wp2_with fail
  go_ret
  exact ⟨_, out, rfl, o1, m1, h1, l1⟩
theorem lkCopy_any (B : Nat) (sv : Value) (A : List Sp) (w : World) (hB : w.heap[B]? = some (.cells #[sv] 119 (0, 0))) (hA : SpansAt w sv A) (hl : A.length ≤ 100000) :
    Calls Try.prog 55 #[.pointer (some ⟨B, 0, none⟩)] w fun e w' => ∃ B' v' out, e = .returned (.pointer (some ⟨B', 0, none⟩)) ∧ w.heap.size ≤ B' ∧ w'.heap[B']? = some (.cells #[v'] 119 (0, 0)) ∧ OwnS w' w.heap.size v' out ∧ v'.ownBlock ≠ some B' ∧ Mod [] w w' ∧ IsOf A out ∧ out.length ≤ A.length := by
  have HC := Lib.hid (lkDays_any B sv A w hB hA hl)
  go_enter Try.func55, Try.ntmps55
  go_wp2_with fail
  refine HC.out.mono ?_
  rintro e w1 ⟨v1, out, rfl, o1, m1, h1, l1⟩
  obtain ⟨a1, c1, rfl⟩ := o1.row.form
  have HM := Lib.hid m1
  have HO := Lib.hid o1
  have HH := Lib.hid h1
  have HL := Lib.hid l1
  clear m1 o1 h1 l1
  go_wp2_with fail
  go_ret
  have hm := (Mod.refl [] w1).alloc (.cells #[.slice a1 out.length c1] 119)
  exact ⟨w1.heap.size, _, out, rfl, HM.out.size, heap_alloc_new w1 _, HO.out.kept0 hm, fun e => by have := (World.ownsRow.lt HO.out _ e).2; omega, HM.out.trans hm, HH.out, HL.out⟩
theorem lkMeets_any (B : Nat) (sv v : Value) (A D : List Sp) (w : World) (hB : w.heap[B]? = some (.cells #[sv] 119 (0, 0))) (hA : SpansAt w sv A) (hD : SpansAt w v D) (hl : A.length ≤ 100000) (hlD : D.length ≤ 100000) :
    Calls Try.prog 56 #[.pointer (some ⟨B, 0, none⟩), v] w fun e w' => ∃ out : List Sp, e = .returned (.bool (decide (0 < out.length))) ∧ Mod [] w w' ∧ IsBoth (· && ·) A D out := by
  have b0 := cell_blk hB 0
  simp only [List.getElem?_toArray, List.getElem?_cons_zero] at b0
  have HC := Lib.hid (spMeet_any sv v A D w hA hD hl hlD)
  obtain ⟨a, c, rfl⟩ := hA.form
  obtain ⟨a2, c2, rfl⟩ := hD.form
  clear hA hD
  go_enter Try.func56, Try.ntmps56
  go_wp2_with fail
  refine HC.out.mono ?_
  rintro e w1 ⟨v1, out, rfl, o1, m1, h1, l1⟩
  obtain ⟨a1, c1, rfl⟩ := o1.row.form
  have HM := Lib.hid m1
  have HH := Lib.hid h1
  have hl1 : out.length ≤ 400000 := by omega
  clear m1 o1 h1 l1
  go_wp2_with fail
  go_ret
  exact ⟨out, by simp, HM.out, HH.out⟩
end Go.Proofs.Ytefaihockgebeaa
