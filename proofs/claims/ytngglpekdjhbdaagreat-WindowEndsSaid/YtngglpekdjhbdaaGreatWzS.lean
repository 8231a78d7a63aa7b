/- Layer 9: All, as an iterator: what it yields. -/
import Derived.Test.YtngglpekdjhbdaaGreatWzR
import Derived.Test.YtngglpekdjhbdaaGreatWzP
import Derived.RangeFuncNested
import Derived.RangeFuncBound
import Derived.RangeFuncCalls
import Derived.RangeFuncLeaves
import Derived.Shelf.Abstract
import Derived.Shelf.RegionOpen
import Derived.WalkKit
import Derived.OwnWalkIn
import Derived.TacticsInMore
import Derived.LoopNIn
import Derived.LoopIn
import Derived.Sort.LoopGhostIn
import Derived.Sort.CutIn
import Derived.Test.YtngglpekdjhbdaaGreatWzD
namespace Go.Proofs.YtngglpekdjhbdaaGreat
open Go.RowKit Go.ChangeMaps Go.Deep Tr
set_option linter.unusedSimpArgs false
set_option linter.unusedVariables false
set_option maxRecDepth 20000

theorem results_next {tmps : Array Value} {W : World} {B : Nat} {n : Nd} {is : Bool} (h4 : tmps.getD 2 undef = .pointer (some ⟨B, 0, none⟩)) (h5 : tmps.getD 3 undef = .bool is) (hb : W.heap[B]? = some (.cells #[.int .i64 n.x.f, .int .i64 n.x.t, .int .i64 n.x.i, .int .i64 n.l, .int .i64 n.r, .int .i64 n.h, .int .i64 n.t] 113 (0, 0))) :
    (results Tryz.f61 tmps).run Tryz.prog W = .ok (.tuple #[knV n, .bool is]) W := by
  have hl := run_loadVar_mid (P := Tryz.prog) W B 0 113 [.int .i64 n.x.f, .int .i64 n.x.t, .int .i64 n.x.i, .int .i64 n.l, .int .i64 n.r, .int .i64 n.h, .int .i64 n.t] _ (rangeAt_blk (by simpa using hb)) Tryz.underlying113 rfl (by rw [sizeKnot]; rfl)
  rw [results_cell_tmp Tryz.results61, h4, h5]
  have ha : (asAddr (.pointer (some ⟨B, 0, none⟩))).run Tryz.prog W = .ok ⟨B, 0, none⟩ W := by simp [asAddr, go_sem]
  rw [ha]
  simp only [Result.andThen_ok, hl]
  rfl
theorem Wk.pop {C : Array Value} {tb : Nat} {a z : Int} {T : Tr} {st : List Tr} (hl : st.length < 40) (h : Wk C tb a z (T :: st)) : Wk (C.setIfInBounds 283 (.int .i64 st.length)) tb a z st := by
  have hs := h.size
  have hent : ∀ k, k < 283 → (C.setIfInBounds 283 (.int .i64 st.length))[k]? = C[k]? := fun k hk => by
    rw [Array.getElem?_setIfInBounds, if_neg (by omega)]
  refine ⟨by rw [Array.size_setIfInBounds]; exact hs, by rw [hent 0 (by omega)]; exact h.c0, by rw [hent 1 (by omega)]; exact h.c1, by rw [hent 2 (by omega)]; exact h.c2, ?_, fun i T' hT j u hu => ?_⟩
  · rw [Array.getElem?_setIfInBounds, if_pos rfl, if_pos (by omega)]
  · have hi := (List.getElem?_eq_some_iff.1 hT).1
    have h1 := h.ent i T' (by rw [List.reverse_cons, List.getElem?_append_left hi]; exact hT) j u hu
    simp only [List.length_reverse] at hi
    by_cases e : 3 + i * 7 + j = 283
    · rw [e] at h1 ⊢
      rw [h.n] at h1
      have hj : j < 7 := by
        have := (List.getElem?_eq_some_iff.1 hu).1
        cases T' with
        | nil => simp [knC] at this
        | node => rw [knC_len] at this; exact this
      omega
    · rw [Array.getElem?_setIfInBounds, if_neg (by omega)]
      exact h1
/-- what next answers, where a node stands on the stack -/
def NxPost (w : World) (wb tb : Nat) (a z : Int) (l : Tr) (x : It) (r : Tr) (st : List Tr) (e : Ending) (w' : World) : Prop :=
  ∃ C, w'.heap[wb]? = some (.cells C 116 (0, 0)) ∧ Mod [wb] w w' ∧ ((x.f < z ∧ e = .returned (.tuple #[knV (nd l x r), .bool true]) ∧ Wk C tb a z (pushS a r st)) ∨ (z ≤ x.f ∧ e = .returned (.tuple #[knV (nd l x r), .bool false]) ∧ Wk C tb a z st))
theorem next_none {w : World} {wb tb : Nat} {a z : Int} {C : Array Value} (hb : w.heap[wb]? = some (.cells C 116 (0, 0))) (hW : Wk C tb a z []) :
    Calls Tryz.prog 61 #[.pointer (some ⟨wb, 0, none⟩)] w fun e w' => e = .returned (.tuple #[knV Nd.zero, .bool false]) ∧ Mod [] w w' := by
  have m0 := (Mod.refl [] w).alloc (.cells #[.int .i64 0, .int .i64 0, .int .i64 0, .int .i64 0, .int .i64 0, .int .i64 0, .int .i64 0] 113)
  have b0 := heap_alloc_new w (.cells #[.int .i64 0, .int .i64 0, .int .i64 0, .int .i64 0, .int .i64 0, .int .i64 0, .int .i64 0] 113)
  obtain ⟨w2, hst, mst, gst⟩ := store_blk2 (P := Tryz.prog) (c := #[.int .i64 0, .int .i64 0, .int .i64 0, .int .i64 0, .int .i64 0, .int .i64 0, .int .i64 0]) 113 b0 rfl (by rw [sizeKnot]; rfl) (by simp [Value.oneCell'])
  have cn := cell_blk (m0.heap hb (by simp)) 283
  rw [hW.n] at cn
  simp only [List.length_nil] at cn
  have HST := Lib.hid hst
  have HG := Lib.hid gst
  have HM := Lib.hid (Mod.into' m0 mst (fun k hk => .inl (by simp at hk; omega)))
  clear m0 b0 hst mst gst hb hW
  go_enter Tryz.func61, Tryz.ntmps61
  go_wp2_with ((with_reducible refine xStoreAt rfl HST.out ?_ ?_ ?_ ?_); exact rfl; exact rfl; exact rfl)
  exact bodyPost_ret (results_next (n := Nd.zero) (is := false) rfl rfl HG.out) rfl ⟨rfl, HM.out⟩
set_option maxHeartbeats 4000000 in
theorem next_at {w : World} {wb tb : Nat} {a z : Int} {nv fv : Value} {ns : List Nd} {fr : List Int} {root many : Int} {p : Nat} {l r : Tr} {x : It} {st : List Tr} {C : Array Value} (h0 : TreeAt w tb nv fv ns fr root many) (h1 : tb ≠ wb) (h2 : nv.ownBlock ≠ some wb) (h3 : fv.ownBlock ≠ some wb) (hb : w.heap[wb]? = some (.cells C 116 (0, 0))) (hW : Wk C tb a z (.node p l x r :: st)) (hS : r.rep ns) (hlow : (st.length : Int) + r.ht ≤ 39) (hl40 : st.length < 40) :
    Calls Tryz.prog 61 #[.pointer (some ⟨wb, 0, none⟩)] w (NxPost w wb tb a z l x r st) := by
  have hb0' := Lib.hid hb
  have m0 := (Mod.refl [] w).alloc (.cells #[.int .i64 0, .int .i64 0, .int .i64 0, .int .i64 0, .int .i64 0, .int .i64 0, .int .i64 0] 113)
  have hb0 := m0.heap hb (by simp)
  have cn := cell_blk hb0 283
  rw [hW.n] at cn
  simp only [List.length_cons] at cn
  have fn := frozen_blk hb0 283
  have b1 := heap_setCell_blk hb0 283 (.int .i64 st.length)
  have m1 : Mod [wb] (w.alloc (.cells #[.int .i64 0, .int .i64 0, .int .i64 0, .int .i64 0, .int .i64 0, .int .i64 0, .int .i64 0] 113)) ((w.alloc (.cells #[.int .i64 0, .int .i64 0, .int .i64 0, .int .i64 0, .int .i64 0, .int .i64 0, .int .i64 0] 113)).setCell ⟨wb, 283, none⟩ (.int .i64 st.length)) := (Mod.refl _ _).setCell (by simp) _
  have cnn : ((st.length + 1 : Nat) : Int) = (st.length : Int) + 1 := by omega
  rw [cnn] at cn
  clear cnn
  have hcs := hW.size
  have m2 := (Mod.refl [] ((w.alloc (.cells #[.int .i64 0, .int .i64 0, .int .i64 0, .int .i64 0, .int .i64 0, .int .i64 0, .int .i64 0] 113)).setCell ⟨wb, 283, none⟩ (.int .i64 st.length))).alloc (.cells #[.int .i64 0, .int .i64 0, .int .i64 0, .int .i64 0, .int .i64 0, .int .i64 0, .int .i64 0] 113)
  have b2 := m2.heap b1 (by simp)
  have n2 := heap_alloc_new ((w.alloc (.cells #[.int .i64 0, .int .i64 0, .int .i64 0, .int .i64 0, .int .i64 0, .int .i64 0, .int .i64 0] 113)).setCell ⟨wb, 283, none⟩ (.int .i64 st.length)) (.cells #[.int .i64 0, .int .i64 0, .int .i64 0, .int .i64 0, .int .i64 0, .int .i64 0, .int .i64 0] 113)
  have hsz : ((w.alloc (.cells #[.int .i64 0, .int .i64 0, .int .i64 0, .int .i64 0, .int .i64 0, .int .i64 0, .int .i64 0] 113)).setCell ⟨wb, 283, none⟩ (.int .i64 st.length)).heap.size = w.heap.size + 1 := by simp
  have hrow : ((((w.alloc (.cells #[.int .i64 0, .int .i64 0, .int .i64 0, .int .i64 0, .int .i64 0, .int .i64 0, .int .i64 0] 113)).setCell ⟨wb, 283, none⟩ (.int .i64 st.length)).alloc (.cells #[.int .i64 0, .int .i64 0, .int .i64 0, .int .i64 0, .int .i64 0, .int .i64 0, .int .i64 0] 113)).drew).rangeAt wb (3 + st.length * 7) [.int .i64 x.f, .int .i64 x.t, .int .i64 x.i, .int .i64 l.at_, .int .i64 r.at_, .int .i64 (Tr.node 0 l x r).ht, .int .i64 (Tr.node 0 l x r).top] := fun j u hu => by
    have hj : j < 7 := (List.getElem?_eq_some_iff.1 hu).1
    rw [World.cell?_drew, cell_blk b2, Array.getElem?_setIfInBounds, if_neg (by omega)]
    exact hW.ent st.length (.node p l x r) (by rw [List.reverse_cons, List.getElem?_append_right (by simp)]; simp) j u hu
  have hrow1 : ((((w.alloc (.cells #[.int .i64 0, .int .i64 0, .int .i64 0, .int .i64 0, .int .i64 0, .int .i64 0, .int .i64 0] 113)).setCell ⟨wb, 283, none⟩ (.int .i64 st.length))).drew).rangeAt wb (3 + st.length * 7) [.int .i64 x.f, .int .i64 x.t, .int .i64 x.i, .int .i64 l.at_, .int .i64 r.at_, .int .i64 (Tr.node 0 l x r).ht, .int .i64 (Tr.node 0 l x r).top] := fun j u hu => by
    have hj : j < 7 := (List.getElem?_eq_some_iff.1 hu).1
    rw [World.cell?_drew, cell_blk b1, Array.getElem?_setIfInBounds, if_neg (by omega)]
    exact hW.ent st.length (.node p l x r) (by rw [List.reverse_cons, List.getElem?_append_right (by simp)]; simp) j u hu
  have HLM := Lib.hid (run_loadAt_mid (P := Tryz.prog) _ wb (3 + st.length * 7) 113 _ _ hrow1 Tryz.underlying113 rfl (by rw [sizeKnot]; rfl))
  have HLN := Lib.hid (run_loadAt_mid (P := Tryz.prog) _ wb (3 + st.length * 7) 113 _ _ hrow Tryz.underlying113 rfl (by rw [sizeKnot]; rfl))
  have cn1 := cell_blk b2 283
  rw [Array.getElem?_setIfInBounds, if_pos rfl, if_pos (by omega)] at cn1
  obtain ⟨w3, hst, mst, gst⟩ := store_blk2 (P := Tryz.prog) (c := #[.int .i64 x.f, .int .i64 x.t, .int .i64 x.i, .int .i64 l.at_, .int .i64 r.at_, .int .i64 (Tr.node 0 l x r).ht, .int .i64 (Tr.node 0 l x r).top]) 113 (show ((((w.alloc (.cells #[.int .i64 0, .int .i64 0, .int .i64 0, .int .i64 0, .int .i64 0, .int .i64 0, .int .i64 0] 113)).setCell ⟨wb, 283, none⟩ (.int .i64 st.length)).alloc (.cells #[.int .i64 0, .int .i64 0, .int .i64 0, .int .i64 0, .int .i64 0, .int .i64 0, .int .i64 0] 113)).drew).heap[((w.alloc (.cells #[.int .i64 0, .int .i64 0, .int .i64 0, .int .i64 0, .int .i64 0, .int .i64 0, .int .i64 0] 113)).setCell ⟨wb, 283, none⟩ (.int .i64 st.length)).heap.size]? = _ from n2) rfl (by rw [sizeKnot]; rfl) (by simp [Value.oneCell'])
  rw [hsz] at hst mst gst
  have HST := Lib.hid hst
  have b3 := mst.heap (show ((((w.alloc (.cells #[.int .i64 0, .int .i64 0, .int .i64 0, .int .i64 0, .int .i64 0, .int .i64 0, .int .i64 0] 113)).setCell ⟨wb, 283, none⟩ (.int .i64 st.length)).alloc (.cells #[.int .i64 0, .int .i64 0, .int .i64 0, .int .i64 0, .int .i64 0, .int .i64 0, .int .i64 0] 113)).drew).heap[wb]? = _ from b2) (by have := lt_of_heap hb; simp; omega)
  have m3 : Mod [wb] w w3 := Mod.into' ((m0.mono (by simp)).trans (m1.trans ((m2.trans ((Mod.refl [] _).drew)).mono (by simp)))) mst (fun k hk => .inl (by simp at hk; omega))
  have hwb := lt_of_heap hb
  have r3 := mst.heap (show ((((w.alloc (.cells #[.int .i64 0, .int .i64 0, .int .i64 0, .int .i64 0, .int .i64 0, .int .i64 0, .int .i64 0] 113)).setCell ⟨wb, 283, none⟩ (.int .i64 st.length)).alloc (.cells #[.int .i64 0, .int .i64 0, .int .i64 0, .int .i64 0, .int .i64 0, .int .i64 0, .int .i64 0] 113)).drew).heap[w.heap.size]? = _ from m2.heap (m1.heap (heap_alloc_new w (.cells #[.int .i64 0, .int .i64 0, .int .i64 0, .int .i64 0, .int .i64 0, .int .i64 0, .int .i64 0] 113)) (by simp; omega)) (by simp)) (by simp)
  have pop := Wk.pop hl40 hW
  obtain ⟨w4, st4, mt4, gt4⟩ := store_blk2 (P := Tryz.prog) (c := #[.int .i64 x.f, .int .i64 x.t, .int .i64 x.i, .int .i64 l.at_, .int .i64 r.at_, .int .i64 (Tr.node 0 l x r).ht, .int .i64 (Tr.node 0 l x r).top]) 113 (show (w3.drew).heap[w.heap.size]? = _ from r3) rfl (by rw [sizeKnot]; rfl) (by simp [Value.oneCell'])
  have HL3 := Lib.hid (load_blk2 (P := Tryz.prog) 113 (show (w3.drew).heap[w.heap.size + 1]? = _ from gst) Tryz.underlying113 rfl (by rw [sizeKnot]; rfl))
  have HS4 := Lib.hid st4
  have HG4 := Lib.hid gt4
  have HE4 := Lib.hid (show z ≤ x.f → NxPost w wb tb a z l x r st (.returned (.tuple #[.agg #[.int .i64 x.f, .int .i64 x.t, .int .i64 x.i, .int .i64 l.at_, .int .i64 r.at_, .int .i64 (Tr.node 0 l x r).ht, .int .i64 (Tr.node 0 l x r).top], .bool false])) w4 from fun hz => ⟨_, mt4.heap (show (w3.drew).heap[wb]? = _ from b3) (by simp; omega), Mod.into' (m3.trans ((Mod.refl [wb] _).drew)) mt4 (fun k hk => .inl (by simp at hk; omega)), .inr ⟨hz, rfl, pop⟩⟩)
  have TW := Lib.hid (h0.off (m3.trans ((Mod.refl [wb] _).drew)) h1 h2 h3)
  have CP := Lib.hid (push_at TW.out h1 h2 h3 (show (w3.drew).heap[wb]? = _ from b3) pop hS rfl hlow)
  have R3 := Lib.hid r3
  have HE5 := Lib.hid (show ∀ w5 w6 : World, x.f < z → (∃ C5, w5.heap[wb]? = some (.cells C5 116 (0, 0)) ∧ Wk C5 tb a z (pushS a r st) ∧ Mod [wb] w3.drew w5) → Mod [w.heap.size] w5 w6 → NxPost w wb tb a z l x r st (.returned (.tuple #[.agg #[.int .i64 x.f, .int .i64 x.t, .int .i64 x.i, .int .i64 l.at_, .int .i64 r.at_, .int .i64 (Tr.node 0 l x r).ht, .int .i64 (Tr.node 0 l x r).top], .bool true])) w6 from fun w5 w6 hz h5 m6 => by
    obtain ⟨C5, g5, k5, m5⟩ := h5
    exact ⟨_, m6.heap (show w5.heap[wb]? = _ from g5) (by simp; omega), Mod.into' ((m3.trans ((Mod.refl [wb] _).drew)).trans m5) m6 (fun k hk => .inl (by simp at hk; omega)), .inl ⟨hz, rfl, k5⟩⟩)
  clear mt4 gt4 st4 pop
  have f3 := cell_blk gst 0
  simp only [List.getElem?_toArray, List.getElem?_cons_succ, List.getElem?_cons_zero] at f3
  have z3 := cell_blk b3 2
  rw [Array.getElem?_setIfInBounds, if_neg (by omega), hW.c2] at z3
  have HB3 := Lib.hid b3
  have HG3 := Lib.hid gst
  have HM3 := Lib.hid m3
  have k3 := cell_blk gst 4
  simp only [List.getElem?_toArray, List.getElem?_cons_succ, List.getElem?_cons_zero] at k3
  clear hst mst gst b3 m3 r3 hwb
  generalize (Tr.node 0 l x r).top = top at *
  generalize (Tr.node 0 l x r).ht = hh at *
  go_enter Tryz.func61, Tryz.ntmps61
  go_wp2_with fail
  refine wp_plan [([0, 1, 2, 5, 3, 6, 4, 7, 8], 9, [2, 5, 3, 6, 4, 7, 8]), ([], 10, [])] [] (by kernel_rfl) (by kernel_rfl) ?_
  simp only [wpSegs, opsOf, List.map_cons, List.map_nil, opN, List.getD_cons_zero, List.getD_cons_succ]
  go_wp2_with ((with_reducible refine xLoadAt rfl HLM.out ?_ ?_ ?_); exact rfl; exact rfl)
  refine ⟨by first | trivial | rfl, ?_⟩
  go_wp2_with fail
  refine ⟨?agN, ?_⟩
  case agN =>
    intro i hi hw
    simp only [List.mem_cons, List.not_mem_nil, or_false] at hi
    rcases hi with rfl | rfl | rfl | rfl | rfl | rfl | rfl
    all_goals (first | exact exec_load rfl rfl HLN.out | (simp only [opN, List.getD_cons_zero, List.getD_cons_succ, slotOf]; go_simp; done) | (simp only [opN, List.getD_cons_zero, List.getD_cons_succ, slotOf]; go_simp; intro hbd; omega))
  go_wp2_with fail
  refine ⟨by first | trivial | rfl, ?_⟩
  go_wp2_with ((with_reducible refine xStoreAt rfl HST.out ?_ ?_ ?_ ?_); exact rfl; exact rfl; exact rfl)
  refine ⟨again_nil, ?_⟩
  go_wp2_with fail
  refine ⟨by first | trivial | rfl, ?_⟩
  go_wp2_with fail
  by_cases hz : z ≤ x.f
  · have hzd : decide (z ≤ x.f) = true := decide_eq_true hz
    refine wp_plan [] [0, 3, 1, 4, 2, 5, 6, 7] (by kernel_rfl) (by kernel_rfl) ?_
    simp only [wpSegs, opsOf, List.map_cons, List.map_nil, opN, List.getD_cons_zero, List.getD_cons_succ]
    go_wp2_with fail
    refine ⟨by first | trivial | rfl, ?_⟩
    go_wp2_with (first | ((with_reducible refine xLoadAt rfl HL3.out ?_ ?_ ?_); exact rfl; exact rfl) | ((with_reducible refine xStoreAt rfl HS4.out ?_ ?_ ?_ ?_); exact rfl; exact rfl; exact rfl))
    exact bodyPost_ret (results_next (n := ⟨x, l.at_, r.at_, hh, top, true⟩) (is := false) rfl rfl HG4.out) rfl (HE4.out hz)
  · have hzd : decide (z ≤ x.f) = false := decide_eq_false hz
    refine wp_plan [] [0, 3, 1, 4, 2, 5, 6, 7] (by kernel_rfl) (by kernel_rfl) ?_
    simp only [wpSegs, opsOf, List.map_cons, List.map_nil, opN, List.getD_cons_zero, List.getD_cons_succ]
    go_wp2_with fail
    refine CP.out.mono ?_
    rintro e w5 ⟨rfl, h5⟩
    obtain ⟨C5, g5, k5, m5⟩ := h5
    have hwb := lt_of_heap hb0'.out
    have e5 := m5.heap (show (w3.drew).heap[w.heap.size + 1]? = _ from HG3.out) (by simp; omega)
    have r5 := m5.heap (show (w3.drew).heap[w.heap.size]? = _ from R3.out) (by simp; omega)
    obtain ⟨w6, st6, mt6, gt6⟩ := store_blk2 (P := Tryz.prog) (c := #[.int .i64 x.f, .int .i64 x.t, .int .i64 x.i, .int .i64 l.at_, .int .i64 r.at_, .int .i64 hh, .int .i64 top]) 113 (show w5.heap[w.heap.size]? = _ from r5) rfl (by rw [sizeKnot]; rfl) (by simp [Value.oneCell'])
    have HL5 := Lib.hid (load_blk2 (P := Tryz.prog) 113 (show w5.heap[w.heap.size + 1]? = _ from e5) Tryz.underlying113 rfl (by rw [sizeKnot]; rfl))
    have H5 := Lib.hid (HE5.out w5 w6 (by omega) ⟨C5, g5, k5, m5⟩ mt6)
    have HS6 := Lib.hid st6
    have HG6 := Lib.hid gt6
    clear st6 mt6 gt6 e5 r5 g5 k5 m5 hwb
    go_wp2_with (first | ((with_reducible refine xLoadAt rfl HL5.out ?_ ?_ ?_); exact rfl; exact rfl) | ((with_reducible refine xStoreAt rfl HS6.out ?_ ?_ ?_ ?_); exact rfl; exact rfl; exact rfl))
    exact bodyPost_ret (results_next (n := ⟨x, l.at_, r.at_, hh, top, true⟩) (is := true) rfl rfl HG6.out) rfl H5.out
end Go.Proofs.YtngglpekdjhbdaaGreat
namespace Go.Proofs.YtngglpekdjhbdaaGreat
set_option linter.unusedSimpArgs false
set_option linter.unusedVariables false
namespace Tr
/-- what is still to be yielded -/
def ylds (a b : Int) (st : List Tr) : List It := ((dues a st).takeWhile (fun x => decide (x.f < b))).filter (fun x => decide (a < x.t))
theorem ylds_nil (a b : Int) : ylds a b [] = [] := rfl
theorem dues_node (a : Int) (p : Nat) (l : Tr) (x : It) (r : Tr) (st : List Tr) : dues a (.node p l x r :: st) = x :: dues a (pushS a r st) := by
  rw [dues_push]
  simp [dues, due]
theorem ylds_stop {a b : Int} {p : Nat} {l : Tr} {x : It} {r : Tr} {st : List Tr} (h : b ≤ x.f) : ylds a b (.node p l x r :: st) = [] := by
  unfold ylds
  rw [dues_node, List.takeWhile_cons, if_neg (by simp; omega)]
  rfl
theorem ylds_go {a b : Int} {p : Nat} {l : Tr} {x : It} {r : Tr} {st : List Tr} (h : x.f < b) : ylds a b (.node p l x r :: st) = (if a < x.t then [x] else []) ++ ylds a b (pushS a r st) := by
  unfold ylds
  rw [dues_node, List.takeWhile_cons, if_pos (by simp; omega), List.filter_cons]
  by_cases ht : a < x.t
  · rw [if_pos (by simpa using ht), if_pos ht]; rfl
  · rw [if_neg (by simpa using ht), if_neg ht]; rfl
theorem ylds_root {a b : Int} {T : Tr} (h : srt T) : ylds a b (pushS a T []) = over a b T := by
  rw [← vis_over a b h]
  unfold ylds
  rw [dues_push]
  simp [dues]
theorem dues_less (a : Int) (p : Nat) (l : Tr) (x : It) (r : Tr) (st : List Tr) : (dues a (pushS a r st)).length < (dues a (.node p l x r :: st)).length := by
  rw [dues_node, List.length_cons]
  omega
/-- the stack's entries are nodes that stand in memory -/
def stIn (ns : List Nd) (st : List Tr) : Prop := ∀ T ∈ st, T ≠ nil ∧ T.rep ns
theorem stIn_push {ns : List Nd} (a : Int) : ∀ {T : Tr} {st : List Tr}, T.rep ns → stIn ns st → stIn ns (pushS a T st)
  | nil, st, _, h => h
  | node p l x r, st, hT, h => by
    unfold pushS
    split
    · exact h
    · refine stIn_push a hT.2.1 fun S hS => ?_
      rcases List.mem_cons.1 hS with rfl | hS
      · exact ⟨by simp, hT⟩
      · exact h S hS
end Tr
end Go.Proofs.YtngglpekdjhbdaaGreat
namespace Go.Proofs.YtngglpekdjhbdaaGreat
open Go.RowKit Go.ChangeMaps Go.Deep Tr
set_option linter.unusedSimpArgs false
set_option linter.unusedVariables false
set_option maxRecDepth 20000
attribute [local go_sem] Oper.semAt_some

theorem wk_new (tb : Nat) (a b : Int) : Wk (((Tryz.zeroCells116.setIfInBounds 0 (.pointer (some ⟨tb, 0, none⟩))).setIfInBounds 1 (.int .i64 a)).setIfInBounds 2 (.int .i64 b)) tb a b [] := by
  have hz : Tryz.zeroCells116.size = 284 := by kernel_rfl
  refine ⟨by simp [hz], ?_, ?_, ?_, ?_, fun i T h => by simp at h⟩
  · rw [Array.getElem?_setIfInBounds, if_neg (by omega), Array.getElem?_setIfInBounds, if_neg (by omega), Array.getElem?_setIfInBounds, if_pos rfl, if_pos (by omega)]
  · rw [Array.getElem?_setIfInBounds, if_neg (by omega), Array.getElem?_setIfInBounds, if_pos rfl, if_pos (by simp [hz])]
  · rw [Array.getElem?_setIfInBounds, if_pos rfl, if_pos (by simp [hz])]
  · rw [Array.getElem?_setIfInBounds, if_neg (by omega), Array.getElem?_setIfInBounds, if_neg (by omega), Array.getElem?_setIfInBounds, if_neg (by omega)]
    kernel_rfl
theorem TreeAt.keptL {l : List Nat} {w w' : World} {b : Nat} {nv fv : Value} {ns : List Nd} {fr : List Int} {root many : Int} (h : TreeAt w b nv fv ns fr root many) (m : Mod l w w') (hb : b ∉ l) (h1 : ∀ k, nv.ownBlock = some k → k ∉ l) (h2 : ∀ k, fv.ownBlock = some k → k ∉ l) : TreeAt w' b nv fv ns fr root many :=
  ⟨m.heap h.blk hb, h.row.kept m h1, h.free.kept m h2, h.bn, h.bf, h.nf⟩
/-- the blocks of a tree -/
def treeP (b : Nat) (nv fv : Value) (k : Nat) : Prop := k = b ∨ nv.ownBlock = some k ∨ fv.ownBlock = some k
theorem TreeAt.keptP {p : Nat → Prop} {w w' : World} {b : Nat} {nv fv : Value} {ns : List Nd} {fr : List Int} {root many : Int} (h : TreeAt w b nv fv ns fr root many) (m : ModP p w w') (hp : ∀ k, treeP b nv fv k → p k) : TreeAt w' b nv fv ns fr root many := by
  obtain ⟨l, ml, hl⟩ := m.toMod
  exact h.keptL ml (fun hk => hl _ hk (hp _ (.inl rfl))) (fun k hk hm => hl _ hm (hp _ (.inr (.inl hk)))) (fun k hk hm => hl _ hm (hp _ (.inr (.inr hk))))
/-- the blocks that All reads -/
def allP (b : Nat) (nv fv : Value) (Bs Bt : Nat) (k : Nat) : Prop := treeP b nv fv k ∨ k = Bs ∨ k = Bt
structure AlSt (w0 : World) (wb tb : Nat) (nv fv : Value) (Bs Bt : Nat) (a b : Int) (ns : List Nd) (S : List It) (J : List It → World → Prop) (out : List It) (st : List Tr) (C : Array Value) (w : World) : Prop where
  box : w.heap[wb]? = some (.cells C 116 (0, 0))
  wk : Wk C tb a b st
  mod : ModP (allP tb nv fv Bs Bt) w0 w
  inn : stIn ns st
  low : lowS 39 st
  inv : J out w
  res : out ++ ylds a b st = S
set_option maxHeartbeats 4000000 in
theorem all_seq (n : Nat) (hn : 1 ≤ n) (Bs Bt tb : Nat) (a b : Int) (nv fv : Value) (ns : List Nd) (fr : List Int) (root many : Int) (T : Tr) (w0 : World) (h0 : TreeAt w0 tb nv fv ns fr root many) (hT : T.rep ns) (hr : root = T.at_) (hht : T.ht ≤ 39) (hs : srt T)
    (hBt : w0.heap[Bt]? = some (.cells #[.pointer (some ⟨tb, 0, none⟩)] 65 (0, 0))) (hBs : w0.heap[Bs]? = some (.cells #[.int .i64 a, .int .i64 b] 39 (0, 0))) :
    SeqM Fence.wide n Tryz.prog 58 #[.pointer (some ⟨Bs, 0, none⟩), .pointer (some ⟨Bt, 0, none⟩)] (fun x => #[itV x]) (allP tb nv fv Bs Bt) (if a < b then over a b T else []) w0 := by
  subst hr
  intro lb J W hW hJ' hY hJ
  have hBsW := hW.heap hBs (.inr (.inl rfl))
  have hBtW := hW.heap hBt (.inr (.inr rfl))
  have TW := h0.keptP hW (fun k hk => .inl hk)
  have hlt0 : ∀ k, allP tb nv fv Bs Bt k → k < W.heap.size := fun k hk => by
    rcases hk with (rfl | hk | hk) | rfl | rfl
    · exact lt_of_heap TW.blk
    · exact (World.ownsRow.lt TW.row _ hk).2
    · exact (World.ownsRow.lt TW.free _ hk).2
    · exact lt_of_heap hBsW
    · exact lt_of_heap hBtW
  have s0 := cell_blk hBsW 0
  have s1 := cell_blk hBsW 1
  have t0 := cell_blk hBtW 0
  simp only [List.getElem?_toArray, List.getElem?_cons_succ, List.getElem?_cons_zero] at s0 s1 t0
  have HLT := Lib.hid hlt0
  have HJ := Lib.hid hJ
  have HY := Lib.hid hY
  have HJ' := Lib.hid hJ'
  have HW := Lib.hid hW
  have HTW := Lib.hid TW
  have HBs := Lib.hid hBsW
  have HBt := Lib.hid hBtW
  have H0 := Lib.hid h0
  have HBs0 := Lib.hid hBs
  clear hJ hY hJ' hW TW hlt0 hBs hBt hBsW hBtW h0
  refine callsIn_of_wp Tryz.func58 rfl trivial ?_ rfl
  simp only [Tryz.ntmps58, List.size_toArray, List.length_cons, List.length_nil, Nat.reduceAdd, Nat.reduceSub, Array.replicate_succ, Array.replicate_zero, List.push_toArray, List.append_toArray, List.nil_append, List.cons_append]
  by_cases hab : b ≤ a
  · have hd : decide (b ≤ a) = true := decide_eq_true hab
    gi_wp2_with fail
    refine bodyPost_ret (results_none rfl _ _ _) rfl ⟨⟨_, rfl⟩, HJ.out⟩
  · have hd : decide (b ≤ a) = false := decide_eq_false hab
    rw [if_pos (show a < b by omega)] at HY
    rw [if_pos (show a < b by omega)]
    generalize hSS : over a b T = SS at HY ⊢
    have HSS := Lib.hid hSS
    clear hSS
    gi_upto_region 2 with fail
    generalize hC0 : ((Tryz.zeroCells116.setIfInBounds 0 (.pointer (some ⟨tb, 0, none⟩))).setIfInBounds 1 (.int .i64 a)).setIfInBounds 2 (.int .i64 b) = C0
    have K0 : Wk C0 tb a b [] := by rw [← hC0]; exact wk_new tb a b
    clear hC0
    have mA := (Mod.refl [] W).alloc (.cells C0 116)
    have bA := heap_alloc_new W (.cells C0 116)
    have sA : W.heap.size < (W.alloc (.cells C0 116)).heap.size := by simp
    generalize W.alloc (.cells C0 116) = wA at mA bA sA ⊢
    have TA := HTW.out.kept0 mA
    have t1 := cell_blk (mA.heap HBt.out (by simp)) 0
    simp only [List.getElem?_toArray, List.getElem?_cons_succ, List.getElem?_cons_zero] at t1
    have HWA := Lib.hid (HW.out.trans (ModP.of mA (by simp)))
    have HJA := Lib.hid (HJ'.out _ _ _ HJ.out mA.nil)
    have h1 : tb ≠ W.heap.size := fun e => by have := HLT.out tb (.inl (.inl rfl)); omega
    have h2 : nv.ownBlock ≠ some W.heap.size := fun e => by have := HLT.out _ (.inl (.inr (.inl e))); omega
    have h3 : fv.ownBlock ≠ some W.heap.size := fun e => by have := HLT.out _ (.inl (.inr (.inr e))); omega
    have h4 : ∀ k, allP tb nv fv Bs Bt k → k ∉ [W.heap.size] := fun k hk hm => by have := HLT.out k hk; simp at hm; omega
    have HR := Lib.hid (root_at TA)
    have CP := Lib.hid (push_at TA h1 h2 h3 bA K0 hT rfl (by simp; omega))
    have H1 := Lib.hid h1
    have H2 := Lib.hid h2
    have H3 := Lib.hid h3
    have H4 := Lib.hid h4
    have HS := Lib.hid (show ylds a b (pushS a T []) = SS from by rw [ylds_root hs]; exact HSS.out)
    have HN := Lib.hid (show stIn ns (pushS a T []) from stIn_push a hT (by intro _ h; cases h))
    have HL := Lib.hid (show lowS 39 (pushS a T []) from lowS_push a 39 T [] trivial (by simp; omega))
    clear mA bA sA TA h1 h2 h3 h4 HTW HJ HW HLT K0 HSS hs
    gi_wp2_with fail
    refine ⟨trivial, (callsIn_wide.2 HR.out).mono ?_⟩
    rintro e w1 ⟨rfl, rfl⟩
    gi_wp2_with fail
    refine ⟨trivial, (callsIn_wide.2 CP.out).mono ?_⟩
    rintro e w2 ⟨rfl, C2, g2, k2, m2⟩
    have A2 := Lib.hid (show AlSt w0 W.heap.size tb nv fv Bs Bt a b ns SS J [] (pushS a T []) C2 w2 from ⟨g2, k2, HWA.out.trans (ModP.of m2 (fun k hk hp => H4.out k hp hk)), HN.out, HL.out, HJ'.out _ _ _ HJA.out m2, HS.out⟩)
    clear CP HR g2 k2 m2 HWA HJA HN HL HS
    generalize pushS a T [] = st0 at A2
    gi_wp2_with fail
    gi_loopg [] ((dues a st0).length) (fun k wr => ∃ out st C, k = (dues a st).length ∧ Hid (AlSt w0 W.heap.size tb nv fv Bs Bt a b ns SS J out st C wr))
    case atStart => exact ⟨[], st0, C2, rfl, A2⟩
    case round =>
      obtain ⟨out, st, C, rfl, hA⟩ := hrel
      clear A2 t1 s0 s1 t0 HBt
      have hgt : W.heap.size < wr.heap.size := lt_of_heap hA.out.box
      have HGT := Lib.hid hgt
      clear hgt
      cases st with
      | nil =>
        have CN := Lib.hid (next_none hA.out.box hA.out.wk)
        unfold knV Nd.zero at CN
        dsimp only at CN
        have HE := Lib.hid (show ∀ w', Mod [] wr w' → J SS w' from fun w' m => by
          have e := hA.out.res
          rw [ylds_nil, List.append_nil] at e
          rw [← e]
          exact HJ'.out _ _ _ hA.out.inv m.nil)
        gi_wp2_with fail
        refine ⟨trivial, (callsIn_wide.2 CN.out).mono ?_⟩
        rintro e w3 ⟨rfl, m3⟩
        have M3 := Lib.hid m3
        clear CN m3
        gi_wp2_with fail
        refine bodyPost_ret (results_none rfl _ _ _) rfl ⟨⟨_, rfl⟩, HE.out _ (M3.out.alloc _)⟩
      | cons N st =>
        obtain ⟨hN, hrep⟩ := hA.out.inn N (by simp)
        have hin : stIn ns st := fun T' hT' => hA.out.inn T' (by simp [hT'])
        cases N with
        | nil => exact absurd rfl hN
        | node p l x r =>
          have hlow := hA.out.low
          have hl5 := ht_nonneg l
          have hr5 := ht_nonneg r
          obtain ⟨hlow1, hlow2⟩ := hlow
          simp only [ht] at hlow1
          have CN := Lib.hid (next_at (H0.out.keptP hA.out.mod (fun k hk => .inl hk)) H1.out H2.out H3.out hA.out.box hA.out.wk hrep.2.2 (by omega) (by omega))
          have HIN := Lib.hid (stIn_push a hrep.2.2 hin)
          have HLO := Lib.hid (lowS_push a 39 r st hlow2 (by omega))
          have HLE := Lib.hid (dues_less a p l x r st)
          clear hN hrep hin hlow1 hlow2 hl5 hr5
          gi_wp2_with fail
          refine ⟨trivial, (callsIn_wide.2 CN.out).mono ?_⟩
          rintro e w3 ⟨C3, g3, m3, h3⟩
          have ma := (Mod.refl [] w3).alloc (.cells #[.int .i64 x.f, .int .i64 x.t, .int .i64 x.i, .int .i64 l.at_, .int .i64 r.at_, .int .i64 (Tr.node 0 l x r).ht, .int .i64 (Tr.node 0 l x r).top] 113)
          have ba := heap_alloc_new w3 (.cells #[.int .i64 x.f, .int .i64 x.t, .int .i64 x.i, .int .i64 l.at_, .int .i64 r.at_, .int .i64 (Tr.node 0 l x r).ht, .int .i64 (Tr.node 0 l x r).top] 113)
          have hm4 := hA.out.mod.trans (ModP.of m3 (fun k hk hp => H4.out k hp hk))
          have hsA := hm4.heap HBs0.out (.inr (.inl rfl))
          have hsB := ma.heap hsA (by simp)
          have sa := cell_blk hsB 0
          have f0 := cell_blk ba 0
          have f1 := cell_blk ba 1
          have f2 := cell_blk ba 2
          simp only [List.getElem?_toArray, List.getElem?_cons_succ, List.getElem?_cons_zero] at sa f0 f1 f2
          have HJ3 := Lib.hid (HJ'.out _ _ _ hA.out.inv (m3.trans ma.nil))
          have HM5 := Lib.hid (hm4.trans (ModP.of ma (by simp)))
          have HG5 := Lib.hid (ma.heap g3 (by simp))
          have HGT5 := Lib.hid (Nat.lt_of_lt_of_le HGT.out (Nat.le_trans m3.size ma.size))
          have HRES := Lib.hid hA.out.res
          clear CN ma ba hm4 hsA hsB m3 g3 hA HGT
          dsimp only [knV, nd] at h3
          generalize (Tr.node 0 l x r).top = top at *
          generalize (Tr.node 0 l x r).ht = hh at *
          rcases h3 with ⟨hz, rfl, k3⟩ | ⟨hz, rfl, k3⟩
          · have HK3 := Lib.hid k3
            have HY1 := Lib.hid (ylds_go (a := a) (p := p) (l := l) (r := r) (st := st) hz)
            clear k3
            by_cases hat : a < x.t
            · have hatd : decide (a < x.t) = true := decide_eq_true hat
              have HS1 := Lib.hid (show SS = out ++ x :: ylds a b (pushS a r st) from by
                rw [← HRES.out, HY1.out, if_pos hat]; rfl)
              obtain ⟨fn, tmps, assign, body, hy, hR⟩ := HY.out out x _ _ HS1.out HJ3.out HGT5.out
              dsimp only [itV] at hy
              gi_wp2_with fail
              refine hR.mono ?_
              rintro e W5 ⟨rfl, hJ5, hm5⟩
              have A5 := Lib.hid (show AlSt w0 W.heap.size tb nv fv Bs Bt a b ns SS J (out ++ [x]) (pushS a r st) C3 W5 from ⟨hm5.heap HG5.out (.inr rfl), HK3.out, HM5.out.trans (hm5.mono fun k hk => .inl hk), HIN.out, HLO.out, hJ5, by
                rw [HS1.out, List.append_assoc]; rfl⟩)
              clear hm5 hJ5 hy hR
              gi_wp2_with fail
              gi_roundg ((dues a (pushS a r st)).length)
              case rel => exact ⟨_, _, C3, rfl, A5⟩
              case measure => exact HLE.out
            · have hatd : decide (a < x.t) = false := decide_eq_false hat
              have A5 := Lib.hid (show AlSt w0 W.heap.size tb nv fv Bs Bt a b ns SS J out (pushS a r st) C3 _ from ⟨HG5.out, HK3.out, HM5.out, HIN.out, HLO.out, HJ3.out, by
                rw [← HRES.out, HY1.out, if_neg hat]; rfl⟩)
              gi_wp2_with fail
              refine ⟨fun _ h => (by cases h), ?_⟩
              gi_wp2_with fail
              gi_roundg ((dues a (pushS a r st)).length)
              case rel => exact ⟨out, _, C3, rfl, A5⟩
              case measure => exact HLE.out
          · have HE := Lib.hid (show J SS _ from by
              have e := HRES.out
              rw [ylds_stop hz, List.append_nil] at e
              rw [← e]
              exact HJ3.out)
            gi_wp2_with fail
            exact bodyPost_ret (results_none rfl _ _ _) rfl ⟨⟨_, rfl⟩, HE.out⟩
end Go.Proofs.YtngglpekdjhbdaaGreat
