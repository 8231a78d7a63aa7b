/- Graph: the waiting fields' own methods. -/
import Derived.Test.YtefaihockgebeaaGreatSpE
import Derived.Test.YtefaihockgebeaaGreatRow3
import Derived.Test.YtefaihockgebeaaGreatGrA
namespace Go.Proofs.YtefaihockgebeaaGreat
open Go.RowKit Go.ChangeMaps Go.Deep
set_option linter.unusedSimpArgs false
set_option linter.unusedVariables false
set_option maxRecDepth 20000

theorem assertInt (W : World) (v : Value) : (Instr.typeAssert (.iface 3 v) 20 3 false).run Tryz.prog W = .ok v W := by kernel_rfl
theorem elemIS : ElemOk Tryz.prog 69 3 1 8 := .mk' Tryz.underlying69 (by omega) (by kernel_rfl)
theorem isLen_any (a : Option Addr) (n c : Nat) (w : World) : Calls Tryz.prog 35 #[.slice a n c] w fun e w' => e = .returned (.int .i64 n) ∧ w' = w := by
  go_enter Tryz.func35, Tryz.ntmps35
  go_wp2
  go_ret
  exact ⟨rfl, rfl⟩
/-- the waiting fields as they lie: a row of the call's own, in a block -/
structure WaitAt (w : World) (base H : Nat) (sv : Value) (l : List Int) : Prop where
  box : w.heap[H]? = some (.cells #[sv] 71 (0, 0))
  own : OwnN w base sv l
theorem WaitAt.ne {w : World} {base H : Nat} {sv : Value} {l : List Int} (h : WaitAt w base H sv l) : sv.ownBlock ≠ some H := by
  intro e
  rcases h.own.2 with ⟨rfl, _⟩ | ⟨g, cap, cur, rfl, hb, hg, _⟩
  · cases e
  · simp only [Value.ownBlock, Option.some.injEq] at e
    subst e
    have := h.box
    rw [hg] at this
    simp only [Option.some.injEq, Obj.cells.injEq] at this
    exact absurd this.2.1 (by decide)
set_option maxHeartbeats 1000000 in
theorem wtPush_any (base H : Nat) (sv : Value) (l : List Int) (x : Int) (w : World) (h : WaitAt w base H sv l) (hb : base ≤ w.heap.size) (hl : l.length ≤ 1000000) :
    Calls Tryz.prog 120 #[.pointer (some ⟨H, 0, none⟩), .iface 3 (.int .i64 x)] w fun e w' => e = .returned (.tuple #[]) ∧ ∃ sv', WaitAt w' base H sv' (l ++ [x]) ∧ Mod (H :: blk sv) w w' ∧ (sv'.ownBlock = sv.ownBlock ∨ ∀ k, sv'.ownBlock = some k → w.heap.size ≤ k) := by
  have HH := lt_of_heap h.box
  have c0 := cell_blk h.box 0
  simp only [List.getElem?_toArray, List.getElem?_cons_zero] at c0
  have hm := (Mod.refl [] w).drew
  obtain ⟨v', w', g1, g2, g3⟩ := own_append1 elemIS encI_len encI_one (h.own.kept0 hm) (Nat.le_trans hb hm.size) (ty := 69) x (by omega) (by omega)
  have hne := h.ne
  have hB' : w'.heap[H]? = some (.cells #[sv] 71 (0, 0)) := g3.mod.heap (hm.heap h.box (by simp)) (fun hk => hne (mem_blk.1 hk))
  have d0 := cell_blk hB' 0
  have d1 := frozen_blk hB' 0
  simp only [List.getElem?_toArray, List.getElem?_cons_zero] at d0
  obtain ⟨a, c, rfl⟩ := h.own.row.form
  obtain ⟨a', c', e'⟩ := g2.row.form
  rw [List.length_append, List.length_singleton] at e'
  subst e'
  have hal : (w.drew.alloc (.cells (encI x).toArray 3)).heap[H]? = some (.cells #[.slice a l.length c] 71 (0, 0)) := (hm.alloc _).heap h.box (by simp)
  have b0 := cell_blk hal 0
  have b0' := cell_blk (hm.heap h.box (by simp)) 0
  simp only [List.getElem?_toArray, List.getElem?_cons_zero, encI] at b0 b0'
  have G1 := Lib.hid g1
  have HD0 := Lib.hid d0
  have HF := Lib.hid (show WaitAt (w'.setCell ⟨H, 0, none⟩ (.slice a' (l.length + 1) c')) base H (.slice a' (l.length + 1) c') (l ++ [x]) ∧ Mod (H :: blk (.slice a l.length c)) w (w'.setCell ⟨H, 0, none⟩ (.slice a' (l.length + 1) c')) by
    have hs := heap_setCell_blk hB' 0 (.slice a' (l.length + 1) c')
    have hms := (Mod.refl [H] w').setCell (p := ⟨H, 0, none⟩) (by simp) (.slice a' (l.length + 1) c')
    refine ⟨⟨by simpa using hs, g2.kept hms fun b hb hbm => ?_⟩, ?_⟩
    · simp at hbm; subst hbm
      rcases g3.heir with e | e
      · exact hne (e ▸ hb)
      · have := e b hb; simp at this; omega
    · exact ((hm.nil.trans (g3.mod.mono fun k hk => List.mem_cons_of_mem _ hk))).trans (hms.mono (by simp)))
  have HE := Lib.hid g3.heir
  clear h g1 g2 g3 hB' hm hne hal
  have hta := assertInt w.drew (.int .i64 x)
  go_enter Tryz.func120, Tryz.ntmps120
  go_wp2_with fail
  refine wp_plan [([0, 1, 5, 2, 3, 4], 6, [2, 3, 4]), ([], 7, [2, 3, 4]), ([], 8, []), ([9, 10], 11, [])] [] (by kernel_rfl) (by kernel_rfl) ?_
  simp only [wpSegs, opsOf, List.map_cons, List.map_nil, opN, List.getD_cons_zero, List.getD_cons_succ]
  go_wp2_with fail
  refine ⟨by first | trivial | rfl, ?_⟩
  go_wp2_with fail
  refine ⟨?ag1, ?_⟩
  case ag1 =>
    intro i hi hw
    simp only [List.mem_cons, List.not_mem_nil, or_false] at hi
    rcases hi with rfl | rfl | rfl
    all_goals (simp only [opN, List.getD_cons_zero, List.getD_cons_succ, slotOf]; go_simp)
  go_wp2_with fail
  refine ⟨by first | trivial | rfl, ?_⟩
  go_wp2_with fail
  refine ⟨?ag2, ?_⟩
  case ag2 =>
    intro i hi hw
    simp only [List.mem_cons, List.not_mem_nil, or_false] at hi
    rcases hi with rfl | rfl | rfl
    all_goals (simp only [opN, List.getD_cons_zero, List.getD_cons_succ, slotOf]; go_simp)
  go_wp2_with fail
  refine ⟨by first | trivial | rfl, ?_⟩
  go_wp2_with ((with_reducible refine xAppendAt G1.out rfl rfl ?_ ?_ ?_ ?_); exact rfl; exact rfl; exact rfl)
  refine ⟨again_nil, ?_⟩
  go_wp2_with fail
  refine ⟨by first | trivial | rfl, ?_⟩
  go_wp2_with fail
  refine ⟨again_nil, ?_⟩
  go_wp2_with fail
  refine ⟨by first | trivial | rfl, ?_⟩
  go_wp2_with fail
  go_end0
  exact ⟨rfl, _, HF.out.1, HF.out.2, HE.out⟩
set_option maxHeartbeats 1000000 in
theorem isLess_any (sv : Value) (l : List Int) (i j : Nat) (w : World) (h : IntsIn w sv l) (hi : i < l.length) (hj : j < l.length) (hl : l.length ≤ 1000000) :
    Calls Tryz.prog 118 #[sv, .int .i64 i, .int .i64 j] w fun e w' => e = .returned (.bool (decide (at0 l i < at0 l j))) ∧ Mod [] w w' := by
  obtain ⟨a, c, rfl⟩ := h.form
  obtain ⟨b, o, rfl, hc, c0⟩ := h.get1 hi
  obtain ⟨b', o', e', _, c1⟩ := h.get1 hj
  simp only [Option.some.injEq, Addr.mk.injEq, and_true] at e'
  obtain ⟨rfl, rfl⟩ := e'
  rw [at0_eq _ _ hi, at0_eq _ _ hj]
  generalize l[i] = x at c0 ⊢
  generalize l[j] = y at c1 ⊢
  have HM := Lib.hid ((Mod.refl [] w).drew)
  clear h
  go_enter Tryz.func118, Tryz.ntmps118
  go_wp2_with fail
  refine wp_plan [] [0, 1, 4, 5, 2, 6, 3, 7, 8, 9] (by kernel_rfl) (by kernel_rfl) ?_
  simp only [wpSegs, opsOf, List.map_cons, List.map_nil, opN, List.getD_cons_zero, List.getD_cons_succ]
  go_wp2_with fail
  refine ⟨by first | trivial | rfl, ?_⟩
  go_wp2_with fail
  go_ret
  exact ⟨rfl, HM.out⟩
theorem RowAt.own1 {w : World} {base : Nat} {g c : Nat} {l : List Int} (h : OwnN w base (.slice (some ⟨g, 0, none⟩) l.length c) l) {i : Nat} (hi : i < l.length) : w.cell? ⟨g, i, none⟩ = some (.int .i64 (at0 l i)) ∧ w.frozen? ⟨g, i, none⟩ = false := by
  have := h.cell encI_len hi (j := 0) (by omega) (u := .int .i64 l[i]) rfl
  rw [at0_eq _ _ hi]
  simpa using this
theorem own_setInt {w : World} {base g c : Nat} {l : List Int} (h : OwnN w base (.slice (some ⟨g, 0, none⟩) l.length c) l) {i : Nat} (hi : i < l.length) (z : Int) : OwnN (w.setCell ⟨g, i, none⟩ (.int .i64 z)) base (.slice (some ⟨g, 0, none⟩) l.length c) (l.set i z) := by
  have := OwnR.set encI_len h hi (j := 0) (by omega) (u := .int .i64 z) (y := z) rfl
  simpa using this
theorem own_at {w : World} {base : Nat} {a : Option Addr} {c : Nat} {l : List Int} (h : OwnN w base (.slice a l.length c) l) (h0 : 0 < l.length) : ∃ g, a = some ⟨g, 0, none⟩ ∧ base ≤ g ∧ g < w.heap.size ∧ l.length ≤ c := by
  rcases h.form with ⟨e, rfl⟩ | ⟨g, cap, e, h1, h2, h3⟩
  · simp at h0
  · simp only [Value.slice.injEq, true_and] at e
    obtain ⟨rfl, rfl⟩ := e
    exact ⟨g, rfl, h1, h2, h3⟩
set_option maxHeartbeats 1000000 in
theorem isSwap_any (base : Nat) (sv : Value) (l : List Int) (i j : Nat) (w : World) (h : OwnN w base sv l) (hi : i < l.length) (hj : j < l.length) (hl : l.length ≤ 1000000) :
    Calls Tryz.prog 122 #[sv, .int .i64 i, .int .i64 j] w fun e w' => e = .returned (.tuple #[]) ∧ OwnN w' base sv (swp l i j) ∧ Mod (blk sv) w w' := by
  obtain ⟨a, c, rfl⟩ := h.row.form
  obtain ⟨g, rfl, hg1, hg2, hg3⟩ := own_at h (by omega)
  have hd := h.kept0 ((Mod.refl [] w).drew)
  obtain ⟨c0, f0⟩ := RowAt.own1 h hi
  obtain ⟨c1, f1⟩ := RowAt.own1 h hj
  obtain ⟨c3, f3⟩ := RowAt.own1 (l := l.set i (at0 l j)) (by simpa using own_setInt h hi (at0 l j)) (i := j) (by simpa using hj)
  have h1 := own_setInt hd hi (at0 l j)
  have h2 := own_setInt (l := l.set i (at0 l j)) (by simpa using h1) (i := j) (by simpa using hj) (at0 l i)
  obtain ⟨c2, f2⟩ := RowAt.own1 (l := l.set i (at0 l j)) (by simpa using h1) (i := j) (by simpa using hj)
  have hm := (((Mod.refl [g] w).drew).setCell (p := ⟨g, i, none⟩) (by simp) (.int .i64 (at0 l j))).setCell (p := ⟨g, j, none⟩) (by simp) (.int .i64 (at0 l i))
  have HM := Lib.hid hm
  have HO := Lib.hid (show OwnN _ base (.slice (some ⟨g, 0, none⟩) l.length c) (swp l i j) by simpa [swp] using h2)
  generalize at0 l i = x at *
  generalize at0 l j = y at *
  clear h hd h1 h2 hm
  go_enter Tryz.func122, Tryz.ntmps122
  go_wp2_with fail
  refine wp_plan [([0, 1, 2, 3, 4, 5, 8, 9, 6, 10, 7, 11, 12], 13, []), ([14], 15, [])] [] (by kernel_rfl) (by kernel_rfl) ?_
  simp only [wpSegs, opsOf, List.map_cons, List.map_nil, opN, List.getD_cons_zero, List.getD_cons_succ]
  go_wp2_with fail
  refine ⟨by first | trivial | rfl, ?_⟩
  go_wp2_with fail
  refine ⟨again_nil, ?_⟩
  go_wp2_with fail
  refine ⟨by first | trivial | rfl, ?_⟩
  go_wp2_with fail
  refine ⟨again_nil, ?_⟩
  go_wp2_with fail
  refine ⟨by first | trivial | rfl, ?_⟩
  go_wp2_with fail
  go_end0
  exact ⟨rfl, HO.out, HM.out⟩
set_option maxHeartbeats 1000000 in
theorem wtPop_any (base H : Nat) (sv : Value) (l : List Int) (x : Int) (w : World) (h : WaitAt w base H sv (l ++ [x])) (hl : l.length ≤ 1000000) :
    Calls Tryz.prog 119 #[.pointer (some ⟨H, 0, none⟩)] w fun e w' => e = .returned (.iface 3 (.int .i64 x)) ∧ ∃ sv', WaitAt w' base H sv' l ∧ Mod [H] w w' ∧ sv'.ownBlock = sv.ownBlock := by
  obtain ⟨a, c, hsv⟩ := h.own.row.form
  subst hsv
  have hn := h.own
  obtain ⟨g, rfl, hg1, hg2, hg3⟩ := own_at hn (by simp)
  have hne := h.ne
  have hbox := h.box
  obtain ⟨d0, _⟩ := RowAt.own1 (hn.kept0 ((Mod.refl [] w).drew)) (i := l.length) (by simp)
  obtain ⟨d1, _⟩ := RowAt.own1 hn (i := l.length) (by simp)
  rw [show at0 (l ++ [x]) l.length = x by simp [at0]] at d0 d1
  have hshr := OwnR.shrink encI_len hn l.length (by simp)
  rw [List.take_left] at hshr
  rw [List.length_append, List.length_singleton] at *
  have c0 := cell_blk hbox 0
  have hb1 := ((Mod.refl [] w).drew).heap hbox (by simp)
  have hb2 := ((Mod.refl [] w).drew.drew).heap hbox (by simp)
  have c1 := cell_blk hb1 0
  have c2 := cell_blk hb2 0
  have f1 := frozen_blk hb1 0
  have f2 := frozen_blk hb2 0
  simp only [List.getElem?_toArray, List.getElem?_cons_zero] at c0 c1 c2
  have HF := Lib.hid (show WaitAt (w.drew.drew.setCell ⟨H, 0, none⟩ (.slice (some ⟨g, 0, none⟩) l.length c)) base H (.slice (some ⟨g, 0, none⟩) l.length c) l ∧ Mod [H] w (w.drew.drew.setCell ⟨H, 0, none⟩ (.slice (some ⟨g, 0, none⟩) l.length c)) by
    have hs := heap_setCell_blk hb2 0 (.slice (some ⟨g, 0, none⟩) l.length c)
    have hms := ((Mod.refl [H] w).drew.drew).setCell (p := ⟨H, 0, none⟩) (by simp) (.slice (some ⟨g, 0, none⟩) l.length c)
    exact ⟨⟨by simpa using hs, hshr.kept hms fun b hb hbm => by simp at hbm; subst hbm; exact hne hb⟩, hms⟩)
  have f0 := frozen_blk hbox 0
  clear h hn hne hbox hb1 hb2 hshr
  go_enter Tryz.func119, Tryz.ntmps119
  go_wp2_with fail
  refine wp_plan [] [0, 4, 1, 5, 2, 6, 3, 7, 8, 9, 10, 11, 12] (by kernel_rfl) (by kernel_rfl) ?_
  simp only [wpSegs, opsOf, List.map_cons, List.map_nil, opN, List.getD_cons_zero, List.getD_cons_succ]
  go_wp2_with fail
  refine ⟨by first | trivial | rfl, ?_⟩
  go_wp2_with fail
  refine wp_plan [([0, 1, 5, 2, 6, 3, 7, 4, 8, 9, 10, 11, 12, 13], 14, [])] [] (by kernel_rfl) (by kernel_rfl) ?_
  simp only [wpSegs, opsOf, List.map_cons, List.map_nil, opN, List.getD_cons_zero, List.getD_cons_succ]
  go_wp2_with fail
  refine ⟨by first | trivial | rfl, ?_⟩
  go_wp2_with fail
  refine ⟨again_nil, ?_⟩
  go_wp2_with fail
  refine ⟨by first | trivial | rfl, ?_⟩
  go_wp2_with fail
  go_ret
  exact ⟨rfl, _, HF.out.1, HF.out.2, rfl⟩
end Go.Proofs.YtefaihockgebeaaGreat
