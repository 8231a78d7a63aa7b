/- Windows: wide.Cmp. -/
import Derived.Test.YtngglpekdjhbdaaGreatWzAe
import Derived.Test.YtngglpekdjhbdaaGreatWzD
import Derived.Test.YtngglpekdjhbdaaGreatWzAa
import Derived.Laws.ResultCell
namespace Go.Proofs.YtngglpekdjhbdaaGreat
open Go.RowKit Go.ChangeMaps Go.Deep
set_option linter.unusedSimpArgs false
set_option linter.unusedVariables false
set_option maxRecDepth 20000

set_option maxHeartbeats 8000000 in
theorem endsL_at {w : World} {v : Value} {E : List Int} (h : RowAt encI w v E) (hl : E.length ≤ 4000000) (hE : ∀ d ∈ E, 1 < d ∧ d < 3652060) {k b : Int} (hk : k = 1) (hw : winOk k b) :
    Calls Tryz.prog 9 #[.agg #[.int .u8 k, .int .i64 b], v] w fun e w' => ∃ v', e = .returned v' ∧ OwnR encI 1 3 w' w.heap.size v' (onceS (endsS true b E)) ∧ Mod [] w w' := by
  subst hk
  obtain ⟨la, lc, rfl⟩ := h.form
  have HV := Lib.hid h
  have HEE := Lib.hid hE
  have hb := hw.2.2
  obtain ⟨A1, hA1, n1, z1, m1⟩ := alloc_named2 w (.cells #[.int .u8 1, .int .i64 b] 24)
  obtain ⟨A2, hA2, n2, z2, m2⟩ := alloc_named2 A1 (.cells #[.slice none 0 0] 41)
  rw [z1] at n2
  have n1' := m2.heap n1 (by simp)
  have c0 := cell_blk n1' 0
  have c1 := cell_blk n1' 1
  simp only [List.getElem?_toArray, List.getElem?_cons_succ, List.getElem?_cons_zero] at c0 c1
  have HA := Lib.hid (show EndSt w A2 w.heap.size 1 b [] from ⟨n1', ⟨_, n2, OwnR.nil_ _ _⟩, m1.trans m2, Nat.le_refl _⟩)
  have CM := Lib.hid (wnMay_at A2 1 b)
  rw [decide_eq_true hw] at CM
  clear n1 n2 n1' m1 m2 h hE hw
  go_enter Tryz.func9, Tryz.ntmps9
  go_wp2_with fail
  refine CM.out.mono ?_
  rintro e w3 ⟨rfl, m3⟩
  have HA3 := Lib.hid (HA.out.kept0 m3)
  have y0 := cell_blk HA3.out.win 0
  have y1 := cell_blk HA3.out.win 1
  simp only [List.getElem?_toArray, List.getElem?_cons_succ, List.getElem?_cons_zero] at y0 y1
  clear CM m3 HA c0 c1
  have hwr : IntKind.i64.wrap (1 + b) = 1 + b := by rw [IntKind.wrap_i64]; omega
  go_wp2_with fail
  refine (ends1_at HA3.out (by simp) (1 + b)).mono ?_
  rintro e w4 ⟨rfl, h4⟩
  have H4 := Lib.hid h4
  clear h4 y0 y1
  go_wp2_with fail
  go_loopw [22] (fun s22 W => ∃ j : Nat, j ≤ E.length ∧ s22 = .int .i64 j ∧ Hid (EndSt w W w.heap.size 1 b (endsS true b (E.take j)))) (fun s22 _ => E.length - (intOf s22).toNat)
  case atStart => exact ⟨0, by omega, rfl, H4⟩
  case round =>
    clear H4 HA3
    obtain ⟨j, hj, rfl, hS⟩ := hrel
    have hel := endsS_len true b j (E.take j) (by rw [List.length_take]; omega)
    by_cases hlt : j < E.length
    · obtain ⟨q, o, rfl, hqc, hg⟩ := RowAt.get1 (HV.out.kept0 hS.out.mod) hlt
      have hsn := endsS_snoc true b (E.take j) E[j]
      rw [← List.take_succ_eq_append_getElem hlt] at hsn
      have hd := HEE.out E[j] (List.getElem_mem hlt)
      generalize E[j] = d at hg hsn hd
      have hj0 : decide ((j : Int) < 0) = false := decide_eq_false (by omega)
      have hj1 : decide ((E.length : Int) ≤ (j : Int)) = false := decide_eq_false (by omega)
      have hj2 : decide ((j : Int) < (E.length : Int)) = true := decide_eq_true (by omega)
      have y0 := cell_blk hS.out.win 0
      have y1 := cell_blk hS.out.win 1
      simp only [List.getElem?_toArray, List.getElem?_cons_succ, List.getElem?_cons_zero] at y0 y1
      have hmn : min d 3652060 = d := by omega
      have hwr : IntKind.i64.wrap (d + b) = d + b := by rw [IntKind.wrap_i64]; omega
      have HSN := Lib.hid hsn
      have HG := Lib.hid hg
      clear hsn hd hqc
      go_wp2_with ((with_reducible apply xMin rfl); exact rfl; exact rfl; exact rfl)
      refine (ends1_at hS.out (by omega) (d + b)).mono ?_
      rintro e w5 ⟨rfl, h5⟩
      have HN := Lib.hid (show EndSt w w5 w.heap.size 1 b (endsS true b (E.take (j + 1))) from by rw [HSN.out]; unfold stepE; rw [if_pos rfl, hmn]; exact h5)
      clear h5 y0 y1 hel
      go_wp2_with fail
      go_roundw
      case rel => exact ⟨j + 1, by omega, by go_num, HN⟩
      case measure => simp [intOf]; omega
    · have hje : j = E.length := by omega
      have hj2 : decide ((j : Int) < (E.length : Int)) = false := decide_eq_false (by omega)
      have hS2 := hS.out
      rw [List.take_of_length_le (by omega)] at hS2
      obtain ⟨q1, ⟨v1, q2, q3⟩, q4, q5⟩ := hS2
      obtain ⟨a1, n1, cc1, rfl⟩ : ∃ a n c, v1 = .slice a n c := by obtain ⟨a, c, e⟩ := q3.lens; exact ⟨a, _, c, e⟩
      have g0 := cell_blk q2 0
      simp only [List.getElem?_toArray, List.getElem?_cons_succ, List.getElem?_cons_zero] at g0
      have hel3 := endsS_len true b E.length E rfl
      have CS := Lib.hid (sortInt_any _ _ wr _ q3 (by omega))
      have hob : ∀ x, (Value.slice a1 n1 cc1).ownBlock = some x → w.heap.size + 1 + 1 ≤ x := fun x hx => (World.ownsRow.lt q3 x hx).1
      have HOB := Lib.hid hob
      have HQ := Lib.hid (And.intro q2 q4)
      clear q1 q2 q3 q4 q5 hS hob
      go_wp2_with fail
      refine CS.out.mono ?_
      rintro e w6 ⟨rfl, o6, m6⟩
      have q6 := m6.heap HQ.out.1 (by rw [mem_blk]; intro hm; have := HOB.out _ hm; omega)
      have g6 := cell_blk q6 0
      simp only [List.getElem?_toArray, List.getElem?_cons_succ, List.getElem?_cons_zero] at g6
      have HM6 := Lib.hid (mod_over HQ.out.2 m6 (fun x hx => by rw [mem_blk] at hx; have := HOB.out _ hx; omega))
      have CC := Lib.hid (compactInt_any _ _ w6 _ o6 (by simpa using (by omega : (endsS true b E).length ≤ 10000000)))
      have HQ6 := Lib.hid q6
      clear m6 o6 q6 CS g0
      go_wp2_with fail
      refine CC.out.mono ?_
      rintro e w7 ⟨v7, rfl, o7, m7, e7⟩
      obtain ⟨a7, n7, cc7, rfl⟩ : ∃ a n c, v7 = .slice a n c := by obtain ⟨a, c, e⟩ := o7.lens; exact ⟨a, _, c, e⟩
      have q7 := m7.heap HQ6.out (by rw [mem_blk]; intro hm; have := HOB.out _ hm; omega)
      have HM7 := mod_over HM6.out m7 (fun x hx => by rw [mem_blk] at hx; have := HOB.out _ hx; omega)
      have g7 := cell_blk q7 0
      have f7 := frozen_blk q7 0
      simp only [List.getElem?_toArray, List.getElem?_cons_succ, List.getElem?_cons_zero] at g7
      have hm8 : Mod [w.heap.size + 1] w7 (w7.setCell ⟨w.heap.size + 1, 0, none⟩ (.slice a7 n7 cc7)) := (Mod.refl _ _).setCell (by simp) _
      have q8 : (w7.setCell ⟨w.heap.size + 1, 0, none⟩ (.slice a7 n7 cc7)).heap[w.heap.size + 1]? = some (.cells #[.slice a7 n7 cc7] 41 (0, 0)) := by simpa using heap_setCell_blk q7 0 (.slice a7 n7 cc7)
      have g8 := cell_blk q8 0
      simp only [List.getElem?_toArray, List.getElem?_cons_succ, List.getElem?_cons_zero] at g8
      have HE := Lib.hid (show OwnR encI 1 3 (w7.setCell ⟨w.heap.size + 1, 0, none⟩ (.slice a7 n7 cc7)) w.heap.size (.slice a7 n7 cc7) (onceS (endsS true b E)) ∧ Mod [] w (w7.setCell ⟨w.heap.size + 1, 0, none⟩ (.slice a7 n7 cc7)) from ⟨(o7.kept hm8 (fun x hx hm => by rw [e7] at hx; simp at hm; have := HOB.out _ hx; omega)).mono (by omega), mod_over HM7 hm8 (by simp)⟩)
      clear q7 q8 m7 o7 e7 hm8 HM7 CC g6
      go_wp2_with fail
      refine bodyPost_ret (by simp [results, Tryz.results9, go_sem, g8]) rfl ⟨_, rfl, HE.out⟩
set_option maxHeartbeats 8000000 in
theorem endsN_at {w : World} {v : Value} {E : List Int} (h : RowAt encI w v E) (hl : E.length ≤ 4000000) (hE : ∀ d ∈ E, 1 < d ∧ d < 3652060) {k b : Int} (hk : k ≠ 1) (hw : winOk k b) :
    Calls Tryz.prog 9 #[.agg #[.int .u8 k, .int .i64 b], v] w fun e w' => ∃ v', e = .returned v' ∧ OwnR encI 1 3 w' w.heap.size v' (onceS (endsS false b E)) ∧ Mod [] w w' := by
  have hk' : (k == 1) = false := by simpa using hk
  clear hk
  obtain ⟨la, lc, rfl⟩ := h.form
  have HV := Lib.hid h
  have HEE := Lib.hid hE
  have hb := hw.2.2
  obtain ⟨A1, hA1, n1, z1, m1⟩ := alloc_named2 w (.cells #[.int .u8 k, .int .i64 b] 24)
  obtain ⟨A2, hA2, n2, z2, m2⟩ := alloc_named2 A1 (.cells #[.slice none 0 0] 41)
  rw [z1] at n2
  have n1' := m2.heap n1 (by simp)
  have c0 := cell_blk n1' 0
  have c1 := cell_blk n1' 1
  simp only [List.getElem?_toArray, List.getElem?_cons_succ, List.getElem?_cons_zero] at c0 c1
  have HA := Lib.hid (show EndSt w A2 w.heap.size k b [] from ⟨n1', ⟨_, n2, OwnR.nil_ _ _⟩, m1.trans m2, Nat.le_refl _⟩)
  have CM := Lib.hid (wnMay_at A2 k b)
  rw [decide_eq_true hw] at CM
  clear n1 n2 n1' m1 m2 h hE hw
  go_enter Tryz.func9, Tryz.ntmps9
  go_wp2_with fail
  refine CM.out.mono ?_
  rintro e w3 ⟨rfl, m3⟩
  have HA3 := Lib.hid (HA.out.kept0 m3)
  have y0 := cell_blk HA3.out.win 0
  have y1 := cell_blk HA3.out.win 1
  simp only [List.getElem?_toArray, List.getElem?_cons_succ, List.getElem?_cons_zero] at y0 y1
  clear CM m3 HA c0 c1
  have H4 := Lib.hid HA3.out
  clear y0 y1
  have y0 := cell_blk H4.out.win 0
  simp only [List.getElem?_toArray, List.getElem?_cons_succ, List.getElem?_cons_zero] at y0
  go_wp2_with fail
  clear y0
  go_loopw [22] (fun s22 W => ∃ j : Nat, j ≤ E.length ∧ s22 = .int .i64 j ∧ Hid (EndSt w W w.heap.size k b (endsS false b (E.take j)))) (fun s22 _ => E.length - (intOf s22).toNat)
  case atStart => exact ⟨0, by omega, rfl, H4⟩
  case round =>
    clear H4 HA3
    obtain ⟨j, hj, rfl, hS⟩ := hrel
    have hel := endsS_len false b j (E.take j) (by rw [List.length_take]; omega)
    by_cases hlt : j < E.length
    · obtain ⟨q, o, rfl, hqc, hg⟩ := RowAt.get1 (HV.out.kept0 hS.out.mod) hlt
      have hsn := endsS_snoc false b (E.take j) E[j]
      rw [← List.take_succ_eq_append_getElem hlt] at hsn
      have hd := HEE.out E[j] (List.getElem_mem hlt)
      generalize E[j] = d at hg hsn hd
      have hj0 : decide ((j : Int) < 0) = false := decide_eq_false (by omega)
      have hj1 : decide ((E.length : Int) ≤ (j : Int)) = false := decide_eq_false (by omega)
      have hj2 : decide ((j : Int) < (E.length : Int)) = true := decide_eq_true (by omega)
      have y0 := cell_blk hS.out.win 0
      have y1 := cell_blk hS.out.win 1
      simp only [List.getElem?_toArray, List.getElem?_cons_succ, List.getElem?_cons_zero] at y0 y1
      have hmn : min d 3652060 = d := by omega
      have hwr : IntKind.i64.wrap (d + b) = d + b := by rw [IntKind.wrap_i64]; omega
      have HSN := Lib.hid hsn
      have HG := Lib.hid hg
      clear hsn hd hqc
      go_wp2_with ((with_reducible apply xMin rfl); exact rfl; exact rfl; exact rfl)
      refine (ends1_at hS.out (by omega) d).mono ?_
      rintro e w4 ⟨rfl, h4⟩
      have H5 := Lib.hid h4
      clear h4 y0 y1
      have y0 := cell_blk H5.out.win 0
      have y1 := cell_blk H5.out.win 1
      simp only [List.getElem?_toArray, List.getElem?_cons_succ, List.getElem?_cons_zero] at y0 y1
      go_wp2_with ((with_reducible apply xMin rfl); exact rfl; exact rfl; exact rfl)
      have hel2 := addE_len (endsS false b (E.take j)) d
      refine (ends1_at H5.out (by omega) (d + b)).mono ?_
      rintro e w5 ⟨rfl, h5⟩
      have HN := Lib.hid (show EndSt w w5 w.heap.size k b (endsS false b (E.take (j + 1))) from by rw [HSN.out]; unfold stepE; rw [if_neg (by simp), hmn]; exact h5)
      clear h5 y0 y1 hel hel2
      go_wp2_with fail
      go_roundw
      case rel => exact ⟨j + 1, by omega, by go_num, HN⟩
      case measure => simp [intOf]; omega
    · have hje : j = E.length := by omega
      have hj2 : decide ((j : Int) < (E.length : Int)) = false := decide_eq_false (by omega)
      have hS2 := hS.out
      rw [List.take_of_length_le (by omega)] at hS2
      obtain ⟨q1, ⟨v1, q2, q3⟩, q4, q5⟩ := hS2
      obtain ⟨a1, n1, cc1, rfl⟩ : ∃ a n c, v1 = .slice a n c := by obtain ⟨a, c, e⟩ := q3.lens; exact ⟨a, _, c, e⟩
      have g0 := cell_blk q2 0
      simp only [List.getElem?_toArray, List.getElem?_cons_succ, List.getElem?_cons_zero] at g0
      have hel3 := endsS_len false b E.length E rfl
      have CS := Lib.hid (sortInt_any _ _ wr _ q3 (by omega))
      have hob : ∀ x, (Value.slice a1 n1 cc1).ownBlock = some x → w.heap.size + 1 + 1 ≤ x := fun x hx => (World.ownsRow.lt q3 x hx).1
      have HOB := Lib.hid hob
      have HQ := Lib.hid (And.intro q2 q4)
      clear q1 q2 q3 q4 q5 hS hob
      go_wp2_with fail
      refine CS.out.mono ?_
      rintro e w6 ⟨rfl, o6, m6⟩
      have q6 := m6.heap HQ.out.1 (by rw [mem_blk]; intro hm; have := HOB.out _ hm; omega)
      have g6 := cell_blk q6 0
      simp only [List.getElem?_toArray, List.getElem?_cons_succ, List.getElem?_cons_zero] at g6
      have HM6 := Lib.hid (mod_over HQ.out.2 m6 (fun x hx => by rw [mem_blk] at hx; have := HOB.out _ hx; omega))
      have CC := Lib.hid (compactInt_any _ _ w6 _ o6 (by simpa using (by omega : (endsS false b E).length ≤ 10000000)))
      have HQ6 := Lib.hid q6
      clear m6 o6 q6 CS g0
      go_wp2_with fail
      refine CC.out.mono ?_
      rintro e w7 ⟨v7, rfl, o7, m7, e7⟩
      obtain ⟨a7, n7, cc7, rfl⟩ : ∃ a n c, v7 = .slice a n c := by obtain ⟨a, c, e⟩ := o7.lens; exact ⟨a, _, c, e⟩
      have q7 := m7.heap HQ6.out (by rw [mem_blk]; intro hm; have := HOB.out _ hm; omega)
      have HM7 := mod_over HM6.out m7 (fun x hx => by rw [mem_blk] at hx; have := HOB.out _ hx; omega)
      have g7 := cell_blk q7 0
      have f7 := frozen_blk q7 0
      simp only [List.getElem?_toArray, List.getElem?_cons_succ, List.getElem?_cons_zero] at g7
      have hm8 : Mod [w.heap.size + 1] w7 (w7.setCell ⟨w.heap.size + 1, 0, none⟩ (.slice a7 n7 cc7)) := (Mod.refl _ _).setCell (by simp) _
      have q8 : (w7.setCell ⟨w.heap.size + 1, 0, none⟩ (.slice a7 n7 cc7)).heap[w.heap.size + 1]? = some (.cells #[.slice a7 n7 cc7] 41 (0, 0)) := by simpa using heap_setCell_blk q7 0 (.slice a7 n7 cc7)
      have g8 := cell_blk q8 0
      simp only [List.getElem?_toArray, List.getElem?_cons_succ, List.getElem?_cons_zero] at g8
      have HE := Lib.hid (show OwnR encI 1 3 (w7.setCell ⟨w.heap.size + 1, 0, none⟩ (.slice a7 n7 cc7)) w.heap.size (.slice a7 n7 cc7) (onceS (endsS false b E)) ∧ Mod [] w (w7.setCell ⟨w.heap.size + 1, 0, none⟩ (.slice a7 n7 cc7)) from ⟨(o7.kept hm8 (fun x hx hm => by rw [e7] at hx; simp at hm; have := HOB.out _ hx; omega)).mono (by omega), mod_over HM7 hm8 (by simp)⟩)
      clear q7 q8 m7 o7 e7 hm8 HM7 CC g6
      go_wp2_with fail
      refine bodyPost_ret (by simp [results, Tryz.results9, go_sem, g8]) rfl ⟨_, rfl, HE.out⟩
/-- Ends: the days, once each -/
theorem ends_at {w : World} {v : Value} {E : List Int} (h : RowAt encI w v E) (hl : E.length ≤ 4000000) (hE : ∀ d ∈ E, 1 < d ∧ d < 3652060) {k b : Int} (hw : winOk k b) :
    Calls Tryz.prog 9 #[.agg #[.int .u8 k, .int .i64 b], v] w fun e w' => ∃ v' M, e = .returned v' ∧ OwnR encI 1 3 w' w.heap.size v' M ∧ ((∀ d, d ∈ M ↔ winMay (decide (k = 1)) b E d) ∧ M.length ≤ 2 * E.length + 1) ∧ Mod [] w w' := by
  have key : ∀ lag, (∀ d, d ∈ onceS (endsS lag b E) ↔ winMay lag b E d) ∧ (onceS (endsS lag b E)).length ≤ 2 * E.length + 1 := fun lag =>
    ⟨fun d => mem_onceS.trans (mem_endsS _ E rfl), Nat.le_trans (onceS_len _) (endsS_len lag b _ E rfl)⟩
  by_cases hk : k = 1
  · refine (endsL_at h hl hE hk hw).mono ?_
    rintro e w' ⟨v', rfl, h1, h2⟩
    exact ⟨v', _, rfl, h1, by rw [decide_eq_true hk]; exact key true, h2⟩
  · refine (endsN_at h hl hE hk hw).mono ?_
    rintro e w' ⟨v', rfl, h1, h2⟩
    exact ⟨v', _, rfl, h1, by rw [decide_eq_false hk]; exact key false, h2⟩
end Go.Proofs.YtngglpekdjhbdaaGreat
namespace Go.Proofs.YtngglpekdjhbdaaGreat
open Go.RowKit Go.ChangeMaps Go.Deep
set_option linter.unusedSimpArgs false
set_option linter.unusedVariables false
set_option maxRecDepth 20000

theorem add64_zero (y : Nat) (hy : y < 18446744073709551616) (w : World) : (callFunc 100 #[.int .u64 0, .int .u64 y, .int .u64 0]).run Tryz.prog w = .ok (.value (.tuple #[.int .u64 y, .int .u64 0])) w := by
  rw [run_callFunc_extern Tryz.func100 (by kernel_rfl) (by kernel_rfl) (by kernel_rfl) (e := add64Entry) (by kernel_rfl), run_add64 0 y 0 (by omega) (by omega) (by omega) (by omega)]
  rw [show ((0 : Int) + (y : Int) + 0) % 18446744073709551616 = (y : Int) by omega, show ((0 : Int) + (y : Int) + 0) / 18446744073709551616 = 0 by omega]
  rfl
theorem results_row_tmp {P : Program} {fn : Func} {p u : Tmp} {ty : TypeId} (h : fn.results = #[.cell p ty, .tmp u]) (tmps : Array Value) (w : World) (g : Nat) (t : TypeId) (cs : Array Value) (fr : Nat × Nat) (d : TypeDesc)
    (hp : tmps.getD p undef = .pointer (some ⟨g, 0, none⟩)) (hg : w.heap[g]? = some (.cells cs t fr))
    (hu : P.underlying ty = some d) (hd : (match d with | .struct _ | .array _ _ => true | _ => false) = true) (hi : (P.info? ty).map (·.size) = some cs.size) :
    (results fn tmps).run P w = .ok (.tuple #[.agg cs, tmps.getD u undef]) w := by
  rw [results_cell_tmp h, hp]
  have ha : (asAddr (.pointer (some ⟨g, 0, none⟩))).run P w = .ok ⟨g, 0, none⟩ w := by simp [asAddr, go_sem]
  rw [ha]
  simp only [Result.andThen_ok, run_loadVar_row w g t ty cs fr d hg hu hd hi]
def ofN (c : Int) : Wd := putN (decide (c < 0)) 0 (sizeN c)
theorem wdOf_at (c : Int) (w : World) : Calls Tryz.prog 96 #[.int .i64 c] w fun e w' => e = .returned (wdV (ofN c)) ∧ Mod [] w w' := by
  obtain ⟨A1, hA1, n1, z1, m1⟩ := alloc_named2 w (.cells #[.bool false, .int .u64 0, .int .u64 0] 150)
  have HN := Lib.hid n1
  have HM := Lib.hid m1
  have CS := Lib.hid (fun W => size_at c W)
  have CP := Lib.hid (fun W => wdPut_at (decide (c < 0)) 0 (sizeN c) W)
  clear n1 m1
  have hdd : ∃ b, decide (c < 0) = b := ⟨_, rfl⟩
  obtain ⟨b, hb⟩ := hdd
  have HB := Lib.hid hb
  have HOF := Lib.hid (show ofN c = putN b 0 (sizeN c) by unfold ofN; rw [hb])
  rw [hb] at CP
  go_enter Tryz.func96, Tryz.ntmps96
  go_wp2_with fail
  refine (CS.out _).mono ?_
  rintro e w1 ⟨rfl, rfl⟩
  go_wp2_with fail
  refine (CP.out _).mono ?_
  rintro e w2 ⟨rfl, m2⟩
  have hr := m2.heap HN.out (by simp)
  have r0 := cell_blk hr 0
  have r1 := cell_blk hr 1
  have r2 := cell_blk hr 2
  have f0 := frozen_blk hr 0
  have f1 := frozen_blk hr 1
  have f2 := frozen_blk hr 2
  simp only [List.getElem?_toArray, List.getElem?_cons_succ, List.getElem?_cons_zero] at r0 r1 r2
  have HR := Lib.hid hr
  have HM2 := Lib.hid (HM.out.trans m2)
  clear hr m2
  unfold wdV
  go_wp2_with fail
  obtain ⟨W3, h3, m3, b3⟩ := set3 HR.out (.bool (putN b 0 (sizeN c)).neg) (.int .u64 (putN b 0 (sizeN c)).hi) (.int .u64 (putN b 0 (sizeN c)).lo)
  simp only [h3]
  refine bodyPost_ret (results_cell_row (P := Tryz.prog) (t := 150) (cs := #[.bool (putN b 0 (sizeN c)).neg, .int .u64 (putN b 0 (sizeN c)).hi, .int .u64 (putN b 0 (sizeN c)).lo]) (fr := (0, 0)) (g := w.heap.size) (h := rfl) (hp := rfl) (hg := b3) (hu := Tryz.underlying150) (hd := rfl) (hi := by rw [sizeWide]; rfl) ..) rfl ⟨by rw [HOF.out]; rfl, mod_over HM2.out m3 (by simp)⟩
/-- a power of ten, as the code has it -/
theorem wdTen_at (n : Nat) (hn : n ≤ 19) (w : World) : Calls Tryz.prog 97 #[.int .i64 n] w fun e w' => e = .returned (.int .u64 ((10 ^ n : Nat) : Int)) ∧ w' = w := by
  have h0 : decide ((n : Int) < 0) = false := decide_eq_false (by omega)
  have h1 : decide ((19 : Int) < (n : Int)) = false := decide_eq_false (by omega)
  go_enter Tryz.func97, Tryz.ntmps97
  go_wp2_with fail
  go_loopw [3, 11] (fun s3 s11 W => ∃ j : Nat, j ≤ n ∧ s11 = .int .i64 j ∧ s3 = .int .u64 ((10 ^ j : Nat) : Int) ∧ W = w) (fun _ s11 _ => n - (intOf s11).toNat)
  case atStart => exact ⟨0, by omega, rfl, rfl, rfl⟩
  case round =>
    obtain ⟨j, hj, rfl, rfl, rfl⟩ := hrel
    by_cases hlt : j < n
    · have hj2 : decide ((j : Int) < (n : Int)) = true := decide_eq_true (by omega)
      have hp : 10 ^ (j + 1) ≤ 10 ^ 19 := Nat.pow_le_pow_right (by omega) (by omega)
      have HP := Lib.hid (show IntKind.u64.wrap (((10 ^ j : Nat) : Int) * 10) = ((10 ^ (j + 1) : Nat) : Int) by
        rw [IntKind.wrap_u64]
        have : 10 ^ (j + 1) = 10 ^ j * 10 := rfl
        omega)
      generalize 10 ^ j = p at HP ⊢
      go_wp2_with fail
      go_roundw
      case rel => exact ⟨j + 1, by omega, by go_num, by rw [← HP.out], by first | rfl | trivial⟩
      case measure => simp [intOf]; omega
    · have hje : j = n := by omega
      have hj2 : decide ((j : Int) < (n : Int)) = false := decide_eq_false (by omega)
      subst hje
      generalize hpp : 10 ^ j = p
      have HPP := Lib.hid hpp
      clear hpp
      go_wp2_with fail
      go_ret
      exact ⟨by rw [HPP.out]; rfl, rfl⟩
/-- a small number times another, as the code has it -/
def timesN (neg : Bool) (lo n : Nat) : Wd := putN neg (lo * n / 18446744073709551616) (lo * n % 18446744073709551616)
set_option maxHeartbeats 4000000 in
theorem wdTimes_at (neg : Bool) (lo n : Nat) (hl : lo < 18446744073709551616) (hn : n < 18446744073709551616) (w : World) : Calls Tryz.prog 95 #[wdV ⟨neg, 0, lo⟩, .int .u64 n] w fun e w' => e = .returned (.tuple #[wdV (timesN neg lo n), .int .i64 0]) ∧ Mod [] w w' := by
  obtain ⟨A1, hA1, n1, z1, m1⟩ := alloc_named2 w (.cells #[.bool neg, .int .u64 0, .int .u64 lo] 150)
  obtain ⟨A2, hA2, n2, z2, m2⟩ := alloc_named2 A1 (.cells #[.bool false, .int .u64 0, .int .u64 0] 150)
  rw [z1] at n2
  have bX := m2.heap n1 (by simp)
  have x0 := cell_blk bX 0
  have x1 := cell_blk bX 1
  have x2 := cell_blk bX 2
  simp only [List.getElem?_toArray, List.getElem?_cons_succ, List.getElem?_cons_zero] at x0 x1 x2
  have HN := Lib.hid n2
  have HM := Lib.hid (m1.trans m2)
  have hc : lo * n / 18446744073709551616 < 18446744073709551616 := by
    rw [Nat.div_lt_iff_lt_mul (by omega)]
    exact Nat.mul_lt_mul'' hl hn
  have C1 := Lib.hid (fun W => Tryz.bits_Mul64 lo n hl hn W)
  have C2 := Lib.hid (fun W => Tryz.bits_Mul64 0 n (by omega) hn W)
  have HT := Lib.hid (show timesN neg lo n = putN neg (lo * n / 18446744073709551616) (lo * n % 18446744073709551616) from rfl)
  generalize lo * n / 18446744073709551616 = hi at hc C1 HT
  generalize lo * n % 18446744073709551616 = l2 at C1 HT
  have C3 := Lib.hid (fun W => add64_zero hi hc W)
  have CP := Lib.hid (fun W => wdPut_at neg hi l2 W)
  simp only [Nat.zero_mul, Nat.zero_div, Nat.zero_mod] at C2
  clear n1 n2 m1 m2 bX
  unfold wdV
  dsimp only
  go_enter Tryz.func95, Tryz.ntmps95
  go_wp2_with fail
  refine (C1.out _).mono ?_
  rintro e w1 ⟨rfl, rfl⟩
  go_wp2_with fail
  refine (C2.out _).mono ?_
  rintro e w1 ⟨rfl, rfl⟩
  go_wp2_with (simp only [C3.out])
  refine (CP.out _).mono ?_
  rintro e w2 ⟨rfl, m2⟩
  have hr := m2.heap HN.out (by simp)
  have r0 := cell_blk hr 0
  have r1 := cell_blk hr 1
  have r2 := cell_blk hr 2
  have f0 := frozen_blk hr 0
  have f1 := frozen_blk hr 1
  have f2 := frozen_blk hr 2
  simp only [List.getElem?_toArray, List.getElem?_cons_succ, List.getElem?_cons_zero] at r0 r1 r2
  have HR := Lib.hid hr
  have HM2 := Lib.hid (HM.out.trans m2)
  clear hr m2
  unfold wdV
  go_wp2_with fail
  obtain ⟨W3, h3, m3, b3⟩ := set3 HR.out (.bool (putN neg hi l2).neg) (.int .u64 (putN neg hi l2).hi) (.int .u64 (putN neg hi l2).lo)
  simp only [h3]
  refine bodyPost_ret (results_row_tmp (P := Tryz.prog) (t := 150) (cs := #[.bool (putN neg hi l2).neg, .int .u64 (putN neg hi l2).hi, .int .u64 (putN neg hi l2).lo]) (fr := (0, 0)) (g := w.heap.size + 1) (h := rfl) (hp := rfl) (hg := b3) (hu := Tryz.underlying150) (hd := rfl) (hi := by rw [sizeWide]; rfl) ..) rfl ⟨by rw [HT.out]; rfl, mod_over HM2.out m3 (by simp)⟩
end Go.Proofs.YtngglpekdjhbdaaGreat
namespace Go.Proofs.YtngglpekdjhbdaaGreat
open Go.RowKit Go.ChangeMaps Go.Deep
set_option linter.unusedSimpArgs false
set_option linter.unusedVariables false
set_option maxRecDepth 20000

theorem nanU_any (a : Int) (w : World) : Calls Tryz.prog 102 #[.int .u64 a] w fun e w' => e = .returned (.bool false) ∧ w' = w := by
  have h : (a != a) = false := by simp
  go_enter Tryz.func102, Tryz.ntmps102
  go_wp2_with fail
  go_ret
  exact ⟨by simp, rfl⟩
theorem cmpU_any (a b : Int) (w : World) : Calls Tryz.prog 98 #[.int .u64 a, .int .u64 b] w fun e w' => e = .returned (.int .i64 (cmpI a b)) ∧ w' = w := by
  unfold cmpI
  by_cases h1 : a < b
  · rw [if_pos h1]
    go_enter Tryz.func98, Tryz.ntmps98
    go_wp2_with fail
    refine (nanU_any a _).mono ?_
    rintro e w1 ⟨rfl, rfl⟩
    go_wp2_with fail
    refine (nanU_any b _).mono ?_
    rintro e w1 ⟨rfl, rfl⟩
    go_wp2_with fail
    go_ret
    exact ⟨rfl, rfl⟩
  · rw [if_neg h1]
    by_cases h2 : b < a
    · rw [if_pos h2]
      go_enter Tryz.func98, Tryz.ntmps98
      go_wp2_with fail
      refine (nanU_any a _).mono ?_
      rintro e w1 ⟨rfl, rfl⟩
      go_wp2_with fail
      refine (nanU_any b _).mono ?_
      rintro e w1 ⟨rfl, rfl⟩
      go_wp2_with fail
      go_ret
      exact ⟨rfl, rfl⟩
    · rw [if_neg h2]
      go_enter Tryz.func98, Tryz.ntmps98
      go_wp2_with fail
      refine (nanU_any a _).mono ?_
      rintro e w1 ⟨rfl, rfl⟩
      go_wp2_with fail
      refine (nanU_any b _).mono ?_
      rintro e w1 ⟨rfl, rfl⟩
      go_wp2_with fail
      go_ret
      exact ⟨rfl, rfl⟩
theorem or2_any {w : World} {g : Nat} {a b R : Int} (hR : Hid (R = if a ≠ 0 then a else b)) (h0 : w.cell? ⟨g, 0, none⟩ = some (.int .i64 a)) (h1 : w.cell? ⟨g, 1, none⟩ = some (.int .i64 b)) :
    Calls Tryz.prog 85 #[.slice (some ⟨g, 0, none⟩) 2 2] w fun e w' => e = .returned (.int .i64 R) ∧ w' = w := by
  go_enter Tryz.func85, Tryz.ntmps85
  go_wp2_with fail
  go_loopw [8] (fun s8 wj => ∃ k : Nat, k ≤ 2 ∧ s8 = .int .i64 k ∧ wj = w ∧ (0 < k → a = 0) ∧ (1 < k → b = 0)) (fun s8 _ => 2 - (intOf s8).toNat)
  case atStart => exact ⟨0, by omega, rfl, rfl, fun h => by omega, fun h => by omega⟩
  case round =>
    obtain ⟨k, hk, rfl, rfl, k0, k1⟩ := hrel
    rcases (show k = 0 ∨ k = 1 ∨ k = 2 by omega) with rfl | rfl | rfl
    · by_cases ha : a = 0
      · have hq : (a != 0) = false := by simp [ha]
        go_wp2_with fail
        go_roundw
        case rel => exact ⟨1, by omega, by go_num, by first | trivial | rfl, fun _ => ha, fun h => by omega⟩
        case measure => simp [intOf]
      · have hq : (a != 0) = true := by simp [ha]
        go_wp2_with fail
        go_ret
        exact ⟨by rw [hR.out, if_pos ha]; rfl, rfl⟩
    · by_cases hb : b = 0
      · have hq : (b != 0) = false := by simp [hb]
        go_wp2_with fail
        go_roundw
        case rel => exact ⟨2, by omega, by go_num, by first | trivial | rfl, fun _ => k0 (by omega), fun _ => hb⟩
        case measure => simp [intOf]
      · have hq : (b != 0) = true := by simp [hb]
        go_wp2_with fail
        go_ret
        exact ⟨by rw [hR.out, if_neg (by simpa using k0 (by omega))]; rfl, rfl⟩
    · go_wp2_with fail
      go_ret
      exact ⟨by rw [hR.out, if_neg (by simpa using k0 (by omega)), k1 (by omega)]; rfl, rfl⟩
def aboveN (x y : Wd) : Int := if cmpI (x.hi : Int) y.hi ≠ 0 then cmpI (x.hi : Int) y.hi else cmpI (x.lo : Int) y.lo
set_option maxHeartbeats 4000000 in
theorem wdAbove_at (x y : Wd) (w : World) : Calls Tryz.prog 93 #[wdV x, wdV y] w fun e w' => e = .returned (.int .i64 (aboveN x y)) ∧ Mod [] w w' := by
  obtain ⟨xn, xh, xl⟩ := x
  obtain ⟨yn, yh, yl⟩ := y
  have HR : Hid (aboveN ⟨xn, xh, xl⟩ ⟨yn, yh, yl⟩ = if cmpI (xh : Int) yh ≠ 0 then cmpI (xh : Int) yh else cmpI (xl : Int) yl) := Lib.hid rfl
  generalize aboveN ⟨xn, xh, xl⟩ ⟨yn, yh, yl⟩ = R at HR ⊢
  have H1 := Lib.hid (fun W => cmpU_any (xh : Int) yh W)
  have H2 := Lib.hid (fun W => cmpU_any (xl : Int) yl W)
  generalize cmpI (xh : Int) yh = r1 at HR H1
  generalize cmpI (xl : Int) yl = r2 at HR H2
  obtain ⟨A1, hA1, n1, z1, m1⟩ := alloc_named2 w (.cells #[.bool xn, .int .u64 xh, .int .u64 xl] 150)
  obtain ⟨A2, hA2, n2, z2, m2⟩ := alloc_named2 A1 (.cells #[.bool yn, .int .u64 yh, .int .u64 yl] 150)
  obtain ⟨A3, hA3, n3, z3, m3⟩ := alloc_named2 A2 (.cells #[.int .i64 r1, .int .i64 r2] 3)
  have p1 := m2.heap n1 (by simp)
  rw [z1] at n2 z2
  have x1 := cell_blk p1 1
  have x2 := cell_blk p1 2
  have y1 := cell_blk n2 1
  have y2 := cell_blk n2 2
  have q0 := cell_blk n3 0
  have q1 := cell_blk n3 1
  rw [z2] at n3 q0 q1
  simp only [List.getElem?_toArray, List.getElem?_cons_succ, List.getElem?_cons_zero] at x1 x2 y1 y2 q0 q1
  have HM := Lib.hid ((m1.trans m2).trans m3).drew
  have HO := Lib.hid (or2_any (w := A3.drew) HR q0 q1)
  have HA3 := Lib.hid hA3
  clear n1 n2 n3 p1 m1 m2 m3 hA3 q0 q1
  unfold wdV
  dsimp only
  go_enter Tryz.func93, Tryz.ntmps93
  go_wp2_with fail
  refine wp_plan [([0, 2, 5, 7, 1, 3, 6, 8], 4, [5, 7, 6, 8]), ([], 9, []), ([], 10, []), ([], 11, [])] [12] (by kernel_rfl) (by kernel_rfl) ?_
  simp only [wpSegs, opsOf, List.map_cons, List.map_nil, opN, List.getD_cons_zero, List.getD_cons_succ]
  go_wp2_with fail
  refine ⟨by first | trivial | rfl, ?_⟩
  go_wp2_with fail
  refine (H1.out _).mono ?_
  rintro e1 w1 ⟨rfl, rfl⟩
  go_wp2_with fail
  refine ⟨?agA, ?_⟩
  case agA =>
    intro i hi hw
    simp only [List.mem_cons, List.not_mem_nil, or_false] at hi
    rcases hi with rfl | rfl | rfl | rfl
    all_goals (simp only [opN, List.getD_cons_zero, List.getD_cons_succ, slotOf]; go_simp)
  go_wp2_with fail
  refine ⟨by first | trivial | rfl, ?_⟩
  go_wp2_with fail
  refine (H2.out _).mono ?_
  rintro e1 w1 ⟨rfl, rfl⟩
  go_wp2_with fail
  refine ⟨again_nil, ?_⟩
  go_wp2_with fail
  refine ⟨by first | trivial | rfl, ?_⟩
  go_wp2_with fail
  refine ⟨again_nil, ?_⟩
  go_wp2_with fail
  refine ⟨by first | trivial | rfl, ?_⟩
  simp only [HA3.out]
  go_wp2_with fail
  refine HO.out.mono ?_
  rintro e1 w1 ⟨rfl, rfl⟩
  go_wp2_with fail
  refine ⟨again_nil, ?_⟩
  go_wp2_with fail
  refine ⟨by first | trivial | rfl, ?_⟩
  go_wp2_with fail
  go_ret
  exact ⟨rfl, HM.out⟩
end Go.Proofs.YtngglpekdjhbdaaGreat
