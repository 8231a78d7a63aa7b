/- Locks: LocksNone's walk. -/
import Derived.Test.YtefaihockgebeaaLkM
namespace Go.Proofs.Ytefaihockgebeaa
open Go.RowKit Go.ChangeMaps Go.Deep
set_option linter.unusedSimpArgs false
set_option linter.unusedVariables false
set_option maxRecDepth 20000
set_option maxHeartbeats 4000000 in
theorem none28_any (f t : Int) (w : World) : Calls Try.prog 11 #[.agg #[.int .i64 f, .int .i64 t]] w fun e w' => e = .returned (.bool true) ∧ Mod [] w w' := by
  have HM0 := Lib.hid ((Mod.refl [] w).alloc (.cells #[.int .i64 f, .int .i64 t] 64))
  have HX0 := Lib.hid (heap_alloc_new w (.cells #[.int .i64 f, .int .i64 t] 64))
  go_enter Try.func11, Try.ntmps11
  go_wp2_with fail
  refine (lkSubmit_nil f t (.slice none 0 0) _).mono ?_
  rintro e w1 ⟨rfl, m1⟩
  have HM1 := Lib.hid (HM0.out.trans m1)
  have HX1 := Lib.hid (m1.heap HX0.out (by simp))
  clear m1
  have HM2 := Lib.hid (HM1.out.alloc (.cells #[.int .i64 0, .int .i64 0] 75))
  have hx := ((Mod.refl [] w1).alloc (.cells #[.int .i64 0, .int .i64 0] 75)).heap HX1.out (by simp)
  have c0 := cell_blk hx 0
  have c1 := cell_blk hx 1
  simp only [List.getElem?_toArray, List.getElem?_cons_succ, List.getElem?_cons_zero] at c0 c1
  have HX2 := Lib.hid hx
  clear hx
  go_wp2_with fail
  refine (lkReopen_nil f t _).mono ?_
  rintro e w2 ⟨rfl, m2⟩
  have HM3 := Lib.hid (HM2.out.trans m2)
  have hx := m2.heap HX2.out (by simp)
  have c0 := cell_blk hx 0
  have c1 := cell_blk hx 1
  simp only [List.getElem?_toArray, List.getElem?_cons_succ, List.getElem?_cons_zero] at c0 c1
  clear m2 hx
  go_wp2_with fail
  refine (lkDays_nil _).mono ?_
  rintro e w3 ⟨rfl, rfl⟩
  go_wp2_with fail
  have HM4 := Lib.hid (HM3.out.alloc (.cells #[.int .i64 f, .int .i64 t] 64))
  refine (lkMeets_nil _ _).mono ?_
  rintro e w4 ⟨rfl, rfl⟩
  go_wp2_with fail
  refine (lkCopy_nil _).mono ?_
  rintro e w5 ⟨rfl, rfl⟩
  go_wp2_with fail
  refine (known28_any _).mono ?_
  rintro e w6 ⟨rfl, m6⟩
  have HM5 := Lib.hid (HM4.out.trans m6)
  go_wp2_with fail
  go_ret
  exact ⟨rfl, HM5.out⟩
end Go.Proofs.Ytefaihockgebeaa
