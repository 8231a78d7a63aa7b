/- Layer 25: may an operation be? -/
import Derived.Test.YtnoookcfacmdkaaReqA
namespace Go.Proofs.Ytnoookcfacmdkaa
open Go.RowKit Go.ChangeMaps
set_option linter.unusedSimpArgs false
set_option linter.unusedVariables false

theorem str_list {a b : ByteArray} : (a.toList = b.toList) = (a = b) := by
  apply propext
  constructor
  · intro h
    rw [ByteArray.toList_eq, ByteArray.toList_eq] at h
    obtain ⟨⟨x⟩⟩ := a
    obtain ⟨⟨y⟩⟩ := b
    simp at h
    rw [h]
  · intro h; rw [h]
set_option maxHeartbeats 1000000 in
theorem eq_do (d d' : DoR) (w : World) : (binOp .eql 78 (.agg d.cells.toArray) (.agg d'.cells.toArray)).run Try.prog w = .ok (.bool (decide (d = d'))) w := by
  obtain ⟨k, f, nm, fk, a, b, vk, c, s, e, tx⟩ := d
  obtain ⟨k', f', nm', fk', a', b', vk', c', s', e', tx'⟩ := d'
  unfold DoR.cells
  go_simp
  simp only [str_list]
  repeat' split
  all_goals simp [*]
theorem guard_do : Try.prog.eqGuardType Try.prog.depth 78 = false := by kernel_rfl
/-- The first test: a put of no number and no truth. -/
def badV (d : DoR) : Bool := !mayV d.vk d.c d.s d.e || decide (d.vk < 1) || decide (3 < d.vk)
theorem sizeDo : (Try.prog.info? 78).map (·.size) = some 11 := by kernel_rfl
set_option maxHeartbeats 4000000 in
theorem do_bad (d : DoR) (w : World) (h2 : d.k = 2) (h : badV d = true) : Calls Try.prog 49 #[.agg d.cells.toArray] w fun e w' => e = .returned (.bool false) ∧ Mod [] w w' := by
  obtain ⟨k, f, nm, fk, a, b, vk, c, s, e, tx⟩ := d
  unfold badV at h
  dsimp only at h h2
  subst h2
  unfold DoR.cells
  have HV := Lib.hid (vMay_any vk c s e)
  unfold vKey at HV
  have hn : mayV vk c s e = true → vk < 1 ∨ 3 < vk := by
    intro e1; simp [e1] at h; exact h
  clear h
  cases hm : mayV vk c s e with
  | false =>
    rw [hm] at HV
    clear hm hn
    go_enter Try.func49, Try.ntmps49
    go_wp2_with fail
    refine (HV.out _).mono ?_
    rintro x w1 ⟨rfl, h1⟩
    go_wp2_with fail
    go_ret
    exact ⟨rfl, ((Mod.refl _ _).alloc _).trans h1⟩
  | true =>
    rw [hm] at HV
    have hn' := hn hm
    clear hn hm
    have h3 : ¬ vk < 1 → 3 < vk := fun h => hn'.resolve_left h
    clear hn'
    by_cases h1 : vk < 1
    · clear h3
      go_enter Try.func49, Try.ntmps49
      go_wp2_with fail
      refine (HV.out _).mono ?_
      rintro x w1 ⟨rfl, hm1⟩
      have hc := hm1.heap (b := w.heap.size) (heap_alloc_new w _) (by simp)
      have hq := cell_blk hc 6
      simp at hq
      go_wp2_with fail
      go_ret
      exact ⟨rfl, ((Mod.refl _ _).alloc _).trans hm1⟩
    · have h4 := h3 h1
      have h5 : 1 ≤ vk := by omega
      clear h3 h1
      go_enter Try.func49, Try.ntmps49
      go_wp2_with fail
      refine (HV.out _).mono ?_
      rintro x w1 ⟨rfl, hm1⟩
      have hc := hm1.heap (b := w.heap.size) (heap_alloc_new w _) (by simp)
      have hq := cell_blk hc 6
      simp at hq
      go_wp2_with fail
      go_ret
      exact ⟨rfl, ((Mod.refl _ _).alloc _).trans hm1⟩
def restB (d : DoR) : Bool := decide (1 ≤ d.k) && decide (d.k ≤ 7) && decide (d = d.short) && decide (0 ≤ d.f) && decide (d.f ≤ 255) && decide (d.nm.size ≤ 12) && decide (d.tx.size ≤ 400) && spanOk d.a d.b
def restOf (B : Bool) (k f : Int) (n t : Nat) (sp : Bool) : Bool := decide (1 ≤ k) && decide (k ≤ 7) && B && decide (0 ≤ f) && decide (f ≤ 255) && decide (n ≤ 12) && decide (t ≤ 400) && sp
set_option maxRecDepth 100000 in
set_option maxHeartbeats 8000000 in
theorem do_rest (d : DoR) (w : World) (h : d.k = 2 → badV d = false) (hn : d.nm.size ≤ 9223372036854775807) (ht : d.tx.size ≤ 9223372036854775807) : Calls Try.prog 49 #[.agg d.cells.toArray] w fun e w' => e = .returned (.bool (restB d)) ∧ Mod [] w w' := by
  have HY := Lib.hid (short_any d)
  have HX := Lib.hid (eq_do d d.short)
  rw [show restB d = restOf (decide (d = d.short)) d.k d.f d.nm.size d.tx.size (spanOk d.a d.b) from rfl]
  generalize decide (d = d.short) = B at HX ⊢
  generalize hS : d.short.cells.toArray = S at HY HX
  clear hS
  obtain ⟨k, f, nm, fk, a, b, vk, c, s, e, tx⟩ := d
  unfold badV at h
  dsimp only at h hn ht
  have HP := Lib.hid (span_any a b)
  have e2 : k = 2 → mayV vk c s e = true ∧ 1 ≤ vk ∧ vk ≤ 3 := by
    intro hk
    have := h hk
    simp at this
    exact ⟨this.1.1, this.1.2, this.2⟩
  clear h
  unfold DoR.cells at HX HY ⊢
  dsimp only at HX HY
  by_cases hr : 1 ≤ k ∧ k ≤ 7
  · obtain ⟨hr1, hr7⟩ := hr
    by_cases k2 : k = 2
    · subst k2
      obtain ⟨m1, m2, m3⟩ := e2 rfl
      have HV := Lib.hid (vMay_any vk c s e)
      unfold vKey at HV
      rw [m1] at HV
      clear e2 m1
      go_enter Try.func49, Try.ntmps49
      go_wp2_with fail
      refine (HV.out _).mono ?_
      rintro x w1 ⟨rfl, hm1⟩
      have hc := hm1.heap (b := w.heap.size) (heap_alloc_new w _) (by simp)
      have hq := cell_blk hc 6
      have hq0 := cell_blk hc 0
      simp at hq hq0
      have HC := Lib.hid hc
      have HM := Lib.hid (((Mod.refl _ _).alloc _).trans hm1)
      have HLD := Lib.hid (load_blk (P := Try.prog) (w := w1.drew) 78 hc Try.underlying78 rfl sizeDo)
      clear hc hm1
      go_wp2_with fail
      refine wp_plan [([0, 1, 2, 3, 4, 5, 6, 7, 8, 9, 10], 11, [9]), ([12, 13, 14, 15, 16, 17, 18, 19, 20, 21, 22, 23, 24, 25, 26, 27, 28, 29, 30, 31, 32, 33, 34, 35, 36, 37, 38], 39, [])] [40, 41] (by kernel_rfl) (by kernel_rfl) ?_
      simp only [wpSegs, opsOf, List.map_cons, List.map_nil, opN, List.getD_cons_zero, List.getD_cons_succ]
      go_wp2_with (refine xLoadAt (t := 78) rfl HLD.out rfl rfl ?_)
      refine ⟨by first | trivial | rfl, ?_⟩
      go_wp2_with fail
      refine (HY.out _).mono ?_
      rintro x w2 ⟨rfl, hm2⟩
      have hc2 := hm2.heap (b := w.heap.size) HC.out (by simp)
      have HL2 := Lib.hid (load_blk (P := Try.prog) 78 hc2 Try.underlying78 rfl sizeDo)
      have hr0 := cell_blk hc2 0
      have hr1 := cell_blk hc2 1
      have hr2 := cell_blk hc2 2
      have hr4 := cell_blk hc2 4
      have hr5 := cell_blk hc2 5
      have hr10 := cell_blk hc2 10
      simp at hr0 hr1 hr2 hr4 hr5 hr10
      have HM2 := Lib.hid (HM.out.drew.trans hm2)
      clear hc2 hm2
      go_wp2_with fail
      refine ⟨?ag1, ?_⟩
      case ag1 =>
        intro i hi hw
        simp only [List.mem_cons, List.not_mem_nil, or_false] at hi
        subst hi
        all_goals exact exec_load rfl rfl HL2.out
      cases B
      · go_wp2_with (refine xEqAgg (t := 78) rfl (HX.out _) guard_do rfl rfl rfl ?_)
        first
          | refine ⟨again_nil, ?_⟩
          | (refine ⟨by first | trivial | rfl, ?_⟩; go_wp2_with fail; refine ⟨again_nil, ?_⟩)
        go_wp2_with fail
        refine ⟨by first | trivial | rfl, ?_⟩
        go_wp2_with fail
        go_ret
        exact ⟨bool_eq (by simp [restOf]), HM2.out⟩
      · go_wp2_with (refine xEqAgg (t := 78) rfl (HX.out _) guard_do rfl rfl rfl ?_)
        all_goals
          first
            | refine ⟨again_nil, ?_⟩
            | (refine ⟨by first | trivial | rfl, ?_⟩; go_wp2_with fail; refine (HP.out _).mono ?_; rintro x w3 ⟨rfl, hm3⟩; go_wp2_with fail; refine ⟨again_nil, ?_⟩)
        all_goals
          go_wp2_with fail
          refine ⟨by first | trivial | rfl, ?_⟩
          go_wp2_with fail
          go_ret
          refine ⟨bool_eq ?_, by first | exact HM2.out | exact HM2.out.trans hm3⟩
          simp [restOf, *]
        all_goals omega
    · clear e2
      go_enter Try.func49, Try.ntmps49
      go_wp2_with fail
      generalize hw1 : w.alloc (.cells #[.int .u8 k, .int .i64 f, .string nm, .int .u8 fk, .int .i64 a, .int .i64 b, .int .u8 vk, .int .i64 c, .int .i64 s, .int .i64 e, .string tx] 78) = w1
      have hm1 : Mod [] w w1 := by rw [← hw1]; exact (Mod.refl _ _).alloc _
      have hc : w1.heap[w.heap.size]? = some (.cells #[.int .u8 k, .int .i64 f, .string nm, .int .u8 fk, .int .i64 a, .int .i64 b, .int .u8 vk, .int .i64 c, .int .i64 s, .int .i64 e, .string tx] 78 (0, 0)) := by rw [← hw1]; exact heap_alloc_new w _
      have hq0 := cell_blk hc 0
      simp at hq0
      have HC := Lib.hid hc
      have HM := Lib.hid hm1
      have HLD := Lib.hid (load_blk (P := Try.prog) (w := w1.drew) 78 hc Try.underlying78 rfl sizeDo)
      clear hc hm1 hw1
      refine wp_plan [([0, 1, 2, 3, 4, 5, 6, 7, 8, 9, 10], 11, [9]), ([12, 13, 14, 15, 16, 17, 18, 19, 20, 21, 22, 23, 24, 25, 26, 27, 28, 29, 30, 31, 32, 33, 34, 35, 36, 37, 38], 39, [])] [40, 41] (by kernel_rfl) (by kernel_rfl) ?_
      simp only [wpSegs, opsOf, List.map_cons, List.map_nil, opN, List.getD_cons_zero, List.getD_cons_succ]
      go_wp2_with (refine xLoadAt (t := 78) rfl HLD.out rfl rfl ?_)
      refine ⟨by first | trivial | rfl, ?_⟩
      go_wp2_with fail
      refine (HY.out _).mono ?_
      rintro x w2 ⟨rfl, hm2⟩
      have hc2 := hm2.heap (b := w.heap.size) HC.out (by simp)
      have HL2 := Lib.hid (load_blk (P := Try.prog) 78 hc2 Try.underlying78 rfl sizeDo)
      have hr0 := cell_blk hc2 0
      have hr1 := cell_blk hc2 1
      have hr2 := cell_blk hc2 2
      have hr4 := cell_blk hc2 4
      have hr5 := cell_blk hc2 5
      have hr10 := cell_blk hc2 10
      simp at hr0 hr1 hr2 hr4 hr5 hr10
      have HM2 := Lib.hid (HM.out.drew.trans hm2)
      clear hc2 hm2
      go_wp2_with fail
      refine ⟨?ag2, ?_⟩
      case ag2 =>
        intro i hi hw
        simp only [List.mem_cons, List.not_mem_nil, or_false] at hi
        subst hi
        all_goals exact exec_load rfl rfl HL2.out
      cases B
      · go_wp2_with (refine xEqAgg (t := 78) rfl (HX.out _) guard_do rfl rfl rfl ?_)
        first
          | refine ⟨again_nil, ?_⟩
          | (refine ⟨by first | trivial | rfl, ?_⟩; go_wp2_with fail; refine ⟨again_nil, ?_⟩)
        go_wp2_with fail
        refine ⟨by first | trivial | rfl, ?_⟩
        go_wp2_with fail
        go_ret
        exact ⟨bool_eq (by simp [restOf]), HM2.out⟩
      · go_wp2_with (refine xEqAgg (t := 78) rfl (HX.out _) guard_do rfl rfl rfl ?_)
        all_goals
          first
            | refine ⟨again_nil, ?_⟩
            | (refine ⟨by first | trivial | rfl, ?_⟩; go_wp2_with fail; refine (HP.out _).mono ?_; rintro x w3 ⟨rfl, hm3⟩; go_wp2_with fail; refine ⟨again_nil, ?_⟩)
        all_goals
          go_wp2_with fail
          refine ⟨by first | trivial | rfl, ?_⟩
          go_wp2_with fail
          go_ret
          refine ⟨bool_eq ?_, by first | exact HM2.out | exact HM2.out.trans hm3⟩
          simp [restOf, *]
        all_goals omega
  · have k2 : ¬ k = 2 := fun e => hr (by omega)
    clear e2 HY HX HP
    by_cases hlo : k < 1
    · clear hr
      go_enter Try.func49, Try.ntmps49
      go_wp2_with fail
      refine wp_plan [([0, 1, 2, 3, 4, 5, 6, 7, 8, 9, 10], 11, [9]), ([12, 13, 14, 15, 16, 17, 18, 19, 20, 21, 22, 23, 24, 25, 26, 27, 28, 29, 30, 31, 32, 33, 34, 35, 36, 37, 38], 39, [])] [40, 41] (by kernel_rfl) (by kernel_rfl) ?_
      simp only [wpSegs, opsOf, List.map_cons, List.map_nil, opN, List.getD_cons_zero, List.getD_cons_succ]
      go_wp2_with fail
      refine ⟨?agA, ?_⟩
      case agA =>
        intro i hi hw
        simp only [List.mem_cons, List.not_mem_nil, or_false] at hi
        subst hi
        all_goals (exfalso; simp [opN, Region.wanted, yielded] at hw)
      go_wp2_with fail
      first
        | refine ⟨again_nil, ?_⟩
        | (refine ⟨by first | trivial | rfl, ?_⟩; go_wp2_with fail; refine ⟨again_nil, ?_⟩)
      go_wp2_with fail
      refine ⟨by first | trivial | rfl, ?_⟩
      go_wp2_with fail
      go_ret
      refine ⟨bool_eq ?_, (((Mod.refl _ _).alloc _).drew)⟩
      simp [restOf]
      omega
    · have hhi : 7 < k := by omega
      have hlo' : 1 ≤ k := by omega
      clear hr hlo
      go_enter Try.func49, Try.ntmps49
      go_wp2_with fail
      refine wp_plan [([0, 1, 2, 3, 4, 5, 6, 7, 8, 9, 10], 11, [9]), ([12, 13, 14, 15, 16, 17, 18, 19, 20, 21, 22, 23, 24, 25, 26, 27, 28, 29, 30, 31, 32, 33, 34, 35, 36, 37, 38], 39, [])] [40, 41] (by kernel_rfl) (by kernel_rfl) ?_
      simp only [wpSegs, opsOf, List.map_cons, List.map_nil, opN, List.getD_cons_zero, List.getD_cons_succ]
      go_wp2_with fail
      refine ⟨?agB, ?_⟩
      case agB =>
        intro i hi hw
        simp only [List.mem_cons, List.not_mem_nil, or_false] at hi
        subst hi
        all_goals (exfalso; simp [opN, Region.wanted, yielded] at hw)
      go_wp2_with fail
      first
        | refine ⟨again_nil, ?_⟩
        | (refine ⟨by first | trivial | rfl, ?_⟩; go_wp2_with fail; refine ⟨again_nil, ?_⟩)
      go_wp2_with fail
      refine ⟨by first | trivial | rfl, ?_⟩
      go_wp2_with fail
      go_ret
      refine ⟨bool_eq ?_, (((Mod.refl _ _).alloc _).drew)⟩
      simp [restOf]
      omega
theorem do_any (d : DoR) (w : World) (hn : d.nm.size ≤ 9223372036854775807) (ht : d.tx.size ≤ 9223372036854775807) : Calls Try.prog 49 #[.agg d.cells.toArray] w fun e w' => e = .returned (.bool d.may) ∧ Mod [] w w' := by
  have hd : d.may = (!(decide (d.k = 2) && badV d) && restB d) := rfl
  by_cases h : d.k = 2 ∧ badV d = true
  · rw [hd, h.2, decide_eq_true h.1]
    exact do_bad d w h.1 h.2
  · have h' : d.k = 2 → badV d = false := fun h2 => by
      cases e : badV d with
      | false => rfl
      | true => exact absurd ⟨h2, e⟩ h
    have e : (decide (d.k = 2) && badV d) = false := by
      by_cases h2 : d.k = 2
      · simp [h2, h' h2]
      · simp [h2]
    rw [hd, e]
    exact do_rest d w h' hn ht
end Go.Proofs.Ytnoookcfacmdkaa
