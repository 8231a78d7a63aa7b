/- Layer 8: a tree with all that is said of it; a node is written whole, made, taken off the free ones. -/
import Derived.Test.YtngglpekdjhbdaaGreatWzM
import Derived.Laws.ResultCell
namespace Go.Proofs.YtngglpekdjhbdaaGreat
open Go.RowKit Go.ChangeMaps Go.Deep Tr
set_option linter.unusedSimpArgs false
set_option linter.unusedVariables false
set_option maxRecDepth 20000

theorem sizePath : (Tryz.prog.info? 124).map (·.size) = some 81 := by kernel_rfl
theorem load_blk2 {P : Program} {w : World} {b : Nat} {c : Array Value} {t : TypeId} {f : Nat × Nat} (T : TypeId) {d : TypeDesc} (h : w.heap[b]? = some (.cells c t f)) (hu : P.underlying T = some d) (hd : d.isRow = true) (hi : (P.info? T).map (·.size) = some c.size) :
    (Instr.loadAt T (.pointer (some ⟨b, 0, none⟩))).run P w = .ok (.agg c) w := by
  have h1 := run_loadAt_mid (P := P) w b 0 T c.toList d (rangeAt_blk (c := c.toList) (by simpa using h)) hu hd (by simpa using hi)
  simpa using h1
theorem store_blk2 {P : Program} {w : World} {b : Nat} {c c0 : Array Value} {t : TypeId} (T : TypeId) (h : w.heap[b]? = some (.cells c0 t (0, 0))) (hs : c0.size = c.size) (hi : (P.info? T).map (·.size) = some c.size) (h1 : c.all (·.oneCell') = true) :
    ∃ w', (Instr.storeAt T (.pointer (some ⟨b, 0, none⟩)) (.agg c)).run P w = .ok () w' ∧ Mod [b] w w' ∧ w'.heap[b]? = some (.cells c t (0, 0)) := by
  refine ⟨_, run_storeAt_mid w b 0 T c (there_blk h 0 c.size (by omega)) hi h1, (Mod.refl _ _).setCells (by simp) _ _, ?_⟩
  rw [heap_setCells_blk b c.toList 0 w h]
  have e := setRange_mid [] c.toList c0.toList [] (by simp [hs])
  simp only [List.nil_append, List.append_nil, List.length_nil] at e
  rw [e]
theorem results_down {tmps : Array Value} {W : World} {B : Nat} {C : Array Value} {is : Bool} (h4 : tmps.getD 4 undef = .pointer (some ⟨B, 0, none⟩)) (h5 : tmps.getD 5 undef = .bool is) (hb : W.heap[B]? = some (.cells C 124 (0, 0))) (hs : C.size = 81) :
    (results Tryz.f64 tmps).run Tryz.prog W = .ok (.tuple #[.agg C, .bool is]) W := by
  have hl := run_loadVar_mid (P := Tryz.prog) W B 0 124 C.toList _ (rangeAt_blk (c := C.toList) (by simpa using hb)) Tryz.underlying124 rfl (by rw [sizePath]; simp [hs])
  have e : C.toList.toArray = C := by simp
  rw [e] at hl
  rw [results_cell_tmp Tryz.results64, h4, h5]
  have ha : (asAddr (.pointer (some ⟨B, 0, none⟩))).run Tryz.prog W = .ok ⟨B, 0, none⟩ W := by simp [asAddr, go_sem]
  rw [ha]
  simp only [Result.andThen_ok, hl]
/-- the cells of a way -/
structure PathC (C : Array Value) (ps : List (Nat × Bool)) : Prop where
  size : C.size = 81
  one : C.all (·.oneCell') = true
  get : ∀ i q, ps[i]? = some q → C[i]? = some (.int .i64 q.1) ∧ C[40 + i]? = some (.bool q.2)
  n : C[80]? = some (.int .i64 ps.length)
  free : ∀ j, ps.length ≤ j → j < 40 → C[40 + j]? = some (.bool false)
  len : ps.length ≤ 40
def zeroPath : Array Value := (List.replicate 40 (Value.int .i64 0) ++ List.replicate 40 (Value.bool false) ++ [Value.int .i64 0]).toArray
theorem zeroPath_ok : PathC zeroPath [] := by
  refine ⟨rfl, by decide +kernel, fun i q h => by simp at h, by kernel_rfl, fun j _ hj => ?_, by simp⟩
  simp only [zeroPath, List.getElem?_toArray]
  rw [List.append_assoc, List.getElem?_append_right (by simp), List.length_replicate, List.getElem?_append_left (by simp; omega), List.getElem?_replicate, if_pos (by omega)]
theorem zeroCells_ok : PathC Tryz.zeroCells124 [] := by
  have h : Tryz.zeroCells124 = zeroPath := by kernel_rfl
  rw [h]
  exact zeroPath_ok
theorem set_all {C : Array Value} {i : Nat} {v : Value} (h : C.all (·.oneCell') = true) (hv : v.oneCell' = true) : (C.setIfInBounds i v).all (·.oneCell') = true := by
  rw [Array.all_eq_true'] at h ⊢
  intro x hx
  rcases Array.mem_or_eq_of_mem_setIfInBounds hx with e | e
  · exact h x e
  · rw [e]; exact hv
theorem PathC.add {C : Array Value} {ps : List (Nat × Bool)} (h : PathC C ps) (hl : ps.length < 40) (a : Nat) (d : Bool) :
    PathC (((C.setIfInBounds ps.length (.int .i64 a)).setIfInBounds (40 + ps.length) (.bool d)).setIfInBounds 80 (.int .i64 ((ps.length : Int) + 1))) (ps ++ [(a, d)]) := by
  have hs := h.size
  refine ⟨by simp [hs], set_all (set_all (set_all h.one rfl) rfl) rfl, fun i q hq => ?_, ?_, fun j h1 h2 => ?_, by simp; omega⟩
  · by_cases hi : i < ps.length
    · rw [List.getElem?_append_left hi] at hq
      obtain ⟨g1, g2⟩ := h.get i q hq
      simp only [Array.getElem?_setIfInBounds]
      rw [if_neg (by omega), if_neg (by omega), if_neg (by omega), if_neg (by omega), if_neg (by omega), if_neg (by omega)]
      exact ⟨g1, g2⟩
    · rw [List.getElem?_append_right (by omega)] at hq
      have hi2 : i = ps.length := by
        by_cases e : i - ps.length = 0
        · omega
        · rw [List.getElem?_singleton, if_neg e] at hq; cases hq
      subst hi2
      simp at hq
      subst hq
      simp only [Array.getElem?_setIfInBounds]
      constructor
      · rw [if_neg (by omega), if_neg (by omega), if_pos trivial, if_pos (by omega)]
      · rw [if_neg (by omega), if_pos trivial, if_pos (by simp [hs]; omega)]
  · simp [Array.getElem?_setIfInBounds, hs]
  · simp only [List.length_append, List.length_singleton] at h1
    simp only [Array.getElem?_setIfInBounds]
    rw [if_neg (by omega), if_neg (by omega), if_neg (by omega)]
    exact h.free j (by omega) h2
/-- an item that is there: its place stands last -/
theorem PathC.found {C : Array Value} {ps : List (Nat × Bool)} (h : PathC C ps) (hl : ps.length < 40) (a : Nat) :
    PathC ((C.setIfInBounds ps.length (.int .i64 a)).setIfInBounds 80 (.int .i64 ((ps.length : Int) + 1))) (ps ++ [(a, false)]) := by
  have e := h.add hl a false
  have e2 : (C.setIfInBounds ps.length (.int .i64 a)).setIfInBounds (40 + ps.length) (.bool false) = C.setIfInBounds ps.length (.int .i64 a) := by
    have hf := h.free ps.length (Nat.le_refl _) hl
    apply Array.ext'
    rw [Array.toList_setIfInBounds]
    apply List.ext_getElem?
    intro i
    rw [List.getElem?_set]
    by_cases hi : 40 + ps.length = i
    · subst hi
      rw [if_pos rfl]
      have : (C.setIfInBounds ps.length (.int .i64 a))[40 + ps.length]? = some (.bool false) := by
        simp only [Array.getElem?_setIfInBounds]
        rw [if_neg (by omega)]
        exact hf
      rw [Array.getElem?_toList, this]
      simp [h.size]
      omega
    · rw [if_neg hi]
  rw [e2] at e
  exact e
/-- where the way down stands -/
structure DSt (w : World) (x : It) (ns : List Nd) (T : Tr) (W : World) (fs : List Fr) (S : Tr) (C : Array Value) : Prop where
  item : W.heap[w.heap.size]? = some (.cells #[.int .i64 x.f, .int .i64 x.t, .int .i64 x.i] 70 (0, 0))
  box : W.heap[w.heap.size + 1]? = some (.cells C 124 (0, 0))
  path : PathC C (pth fs).reverse
  mod : Mod [] w W
  down : downT x T [] = downT x S fs
  rep : S.rep ns
  high : (fs.length : Int) + S.ht ≤ T.ht
theorem DSt.kept {w : World} {x : It} {ns : List Nd} {T : Tr} {W W' : World} {fs : List Fr} {S : Tr} {C : Array Value} (h : DSt w x ns T W fs S C) (m : Mod [] W W') : DSt w x ns T W' fs S C :=
  ⟨m.heap h.item (by simp), m.heap h.box (by simp), h.path, h.mod.trans m, h.down, h.rep, h.high⟩
theorem pth_len (fs : List Fr) : (pth fs).reverse.length = fs.length := by simp [pth]
/-- what the way down answers -/
def DownPost (w : World) (x : It) (T : Tr) (e : Ending) (w' : World) : Prop :=
  Mod [] w w' ∧ ∃ C, match (downT x T []).2 with
    | .nil => e = .returned (.tuple #[.agg C, .bool false]) ∧ PathC C (pth (downT x T []).1).reverse
    | .node p _ _ _ => e = .returned (.tuple #[.agg C, .bool true]) ∧ PathC C ((pth (downT x T []).1).reverse ++ [(p, false)])
set_option maxHeartbeats 4000000 in
theorem down_at {w : World} {b : Nat} {nv fv : Value} {ns : List Nd} {fr : List Int} {root many : Int} {T : Tr} (h0 : TreeAt w b nv fv ns fr root many) (hroot : root = T.at_) (hT : rep ns T) (bT : T.ht ≤ 39) (x : It) :
    Calls Tryz.prog 64 #[.pointer (some ⟨b, 0, none⟩), itV x] w (DownPost w x T) := by
  have HT := Lib.hid (fun (W : World) (hm : Mod [] w W) => h0.kept0 hm)
  have HROOT := Lib.hid hroot
  have S0 : Hid (DSt w x ns T ((w.alloc (.cells #[.int .i64 x.f, .int .i64 x.t, .int .i64 x.i] 70)).alloc (.cells Tryz.zeroCells124 124)) [] T Tryz.zeroCells124) := Lib.hid (by
    refine ⟨?_, ?_, zeroCells_ok, ((Mod.refl [] w).alloc _).alloc _, rfl, hT, by simp⟩
    · rw [heap_alloc_ne _ _ (by simp)]
      exact heap_alloc_new w _
    · have := heap_alloc_new (w.alloc (.cells #[.int .i64 x.f, .int .i64 x.t, .int .i64 x.i] 70)) (.cells Tryz.zeroCells124 124)
      simpa using this)
  have c3 := cell_blk (HT.out _ S0.out.mod).blk 3
  simp only [List.getElem?_toArray, List.getElem?_cons_succ, List.getElem?_cons_zero] at c3
  unfold itV
  clear h0 hT hroot
  go_enter Tryz.func64, Tryz.ntmps64
  go_wp2_with fail
  clear c3
  go_loopw [6] (fun s6 W => ∃ (fs : List Fr) (S : Tr) (C : Array Value), s6 = .int .i64 S.at_ ∧ Hid (DSt w x ns T W fs S C)) (fun _ W => 41 - (intOf ((W.cell? ⟨w.heap.size + 1, 80, none⟩).getD undef)).toNat)
  case atStart => exact ⟨[], T, _, by rw [HROOT.out], S0⟩
  case round =>
    obtain ⟨fs, S, C, rfl, hS⟩ := hrel
    clear S0
    cases S with
    | nil =>
      have hdown := hS.out.down
      have HL := Lib.hid (load_blk2 (P := Tryz.prog) 124 hS.out.box Tryz.underlying124 rfl (by rw [sizePath, hS.out.path.size]))
      obtain ⟨w2, hst, mst, gst⟩ := store_blk2 (P := Tryz.prog) 124 hS.out.box rfl (by rw [sizePath, hS.out.path.size]) hS.out.path.one
      have HST := Lib.hid hst
      have HG := Lib.hid gst
      have HE := Lib.hid (show DownPost w x T (.returned (.tuple #[.agg C, .bool false])) w2 from by
        refine ⟨Mod.into' hS.out.mod mst (fun k hk => .inl (by simp at hk; omega)), C, ?_⟩
        have hp := hS.out.path
        rw [hdown]
        simp only [downT]
        exact ⟨by first | trivial | rfl, hp⟩)
      have HSZ := Lib.hid hS.out.path.size
      clear hdown hst gst mst
      simp only [at_]
      go_wp2_with (first | ((with_reducible refine xLoadAt rfl HL.out ?_ ?_ ?_); exact rfl; exact rfl) | ((with_reducible refine xStoreAt rfl HST.out ?_ ?_ ?_ ?_); exact rfl; exact rfl; exact rfl))
      refine bodyPost_ret (results_down (is := false) rfl rfl HG.out HSZ.out) rfl HE.out
    | node p l y r =>
      obtain ⟨hnd, hrl, hrr⟩ := hS.out.rep
      have hhigh := hS.out.high
      have hl0 := ht_nonneg l
      have hr0 := ht_nonneg r
      simp only [ht] at hhigh
      have hn40 : fs.length < 40 := by omega
      have hpa := hS.out.path
      have hpl := pth_len fs
      have c80 := cell_blk hS.out.box 80
      have hC80 := hpa.n
      rw [hpl] at hC80
      rw [hC80] at c80
      have hcn : ∃ u, C[fs.length]? = some u := ⟨C[fs.length]'(by rw [hpa.size]; omega), by simp⟩
      obtain ⟨u0, hu0⟩ := hcn
      have cn := cell_blk hS.out.box fs.length
      rw [hu0] at cn
      have fn := frozen_blk hS.out.box fs.length
      have b1 := heap_setCell_blk hS.out.box fs.length (.int .i64 (p : Int))
      have m1 : Mod [w.heap.size + 1] wr (wr.setCell ⟨w.heap.size + 1, fs.length, none⟩ (.int .i64 (p : Int))) := (Mod.refl _ _).setCell (by simp) _
      have m1' : Mod [] w (wr.setCell ⟨w.heap.size + 1, fs.length, none⟩ (.int .i64 (p : Int))) := Mod.into' hS.out.mod m1 (fun k hk => .inl (by simp at hk; omega))
      have i1 := m1.heap hS.out.item (by simp)
      have T1 := HT.out _ m1'
      obtain ⟨g, cap, rfl, hg, hcap⟩ := T1.row.at_ hnd
      have hlt := (List.getElem?_eq_some_iff.1 hnd).1
      have t1 := cell_blk T1.blk 1
      simp only [List.getElem?_toArray, List.getElem?_cons_succ, List.getElem?_cons_zero] at t1
      have hy : ((wr.setCell ⟨w.heap.size + 1, fs.length, none⟩ (.int .i64 (p : Int))).drew).rangeAt g (p * 8) [.int .i64 y.f, .int .i64 y.t, .int .i64 y.i] := fun j u hu => by
        have hj : j < 3 := (List.getElem?_eq_some_iff.1 hu).1
        refine (nd_cells (T1.kept0 ((Mod.refl [] _).drew)).row hnd j u ?_).1
        rw [← hu]
        rcases (show j = 0 ∨ j = 1 ∨ j = 2 by omega) with rfl | rfl | rfl <;> rfl
      have HLY := Lib.hid (run_loadAt_mid (P := Tryz.prog) _ g (p * 8) 70 [.int .i64 y.f, .int .i64 y.t, .int .i64 y.i] _ hy Tryz.underlying70 rfl (by kernel_rfl))
      have x0 := cell_blk i1 0
      have x1 := cell_blk i1 1
      have x2 := cell_blk i1 2
      simp only [List.getElem?_toArray, List.getElem?_cons_succ, List.getElem?_cons_zero] at x0 x1 x2
      have CO := Lib.hid (order_any x y ((wr.setCell ⟨w.heap.size + 1, fs.length, none⟩ (.int .i64 (p : Int))).drew))
      unfold itV at CO
      simp only [at_]
      go_wp2_with fail
      refine wp_plan [([0, 1, 5, 2, 3, 4, 6, 7, 8, 9], 10, [])] [11] (by kernel_rfl) (by kernel_rfl) ?_
      simp only [wpSegs, opsOf, List.map_cons, List.map_nil, opN, List.getD_cons_zero, List.getD_cons_succ]
      go_wp2_with ((with_reducible refine xLoadAt rfl HLY.out ?_ ?_ ?_); exact rfl; exact rfl)
      refine ⟨by first | trivial | rfl, ?_⟩
      go_wp2_with fail
      refine CO.out.mono ?_
      rintro e w2 ⟨rfl, m2⟩
      have m12 := (((Mod.refl [] (wr.setCell ⟨w.heap.size + 1, fs.length, none⟩ (.int .i64 (p : Int)))).drew).trans m2)
      have b2 := m12.heap b1 (by simp)
      have HI2 := Lib.hid (m12.heap i1 (by simp))
      have HM2 := Lib.hid (m1'.trans m12)
      have z80 := cell_blk b2 80
      rw [show (C.setIfInBounds fs.length (.int .i64 (p : Int)))[80]? = some (.int .i64 fs.length) from by
        simp only [Array.getElem?_setIfInBounds]
        rw [if_neg (by omega)]
        exact hC80] at z80
      have gz80 := frozen_blk b2 80
      clear m2 m12 CO x0 x1 x2 hy HLY t1 T1 m1 m1' i1 b1 cn fn
      go_wp2_with fail
      refine ⟨again_nil, ?_⟩
      go_wp2_with fail
      refine ⟨by first | trivial | rfl, ?_⟩
      by_cases hc : ordI x y = 0
      · have hdn := Lib.hid (show downT x (node p l y r) fs = (fs, node p l y r) by rw [downT, if_pos hc])
        have C5 := Lib.hid (hpa.found (by rw [hpl]; exact hn40) p)
        rw [hpl] at C5
        have b3 := heap_setCell_blk b2 80 (.int .i64 ((fs.length : Int) + 1))
        have m3 : Mod [w.heap.size + 1] w2 (w2.setCell ⟨w.heap.size + 1, 80, none⟩ (.int .i64 ((fs.length : Int) + 1))) := (Mod.refl _ _).setCell (by simp) _
        have HL := Lib.hid (load_blk2 (P := Tryz.prog) 124 b3 Tryz.underlying124 rfl (by rw [sizePath, C5.out.size]))
        obtain ⟨w4, hst, mst, gst⟩ := store_blk2 (P := Tryz.prog) 124 b3 rfl (by rw [sizePath, C5.out.size]) C5.out.one
        have HST := Lib.hid hst
        have HG := Lib.hid gst
        have HE := Lib.hid (show DownPost w x T (.returned (.tuple #[.agg ((C.setIfInBounds fs.length (.int .i64 (p : Int))).setIfInBounds 80 (.int .i64 ((fs.length : Int) + 1))), .bool true])) w4 from by
          refine ⟨Mod.into' HM2.out (m3.trans mst) (fun k hk => .inl (by simp at hk; omega)), ((C.setIfInBounds fs.length (.int .i64 (p : Int))).setIfInBounds 80 (.int .i64 ((fs.length : Int) + 1))), ?_⟩
          have hp := C5.out
          rw [hS.out.down, hdn.out]
          exact ⟨by first | trivial | rfl, hp⟩)
        have HSZ := Lib.hid C5.out.size
        have hcc : (ordI x y == 0) = true := by simp [hc]
        clear hst gst mst b3 m3 C5 hnd hrl hrr hpa
        go_wp2_with (first | ((with_reducible refine xLoadAt rfl HL.out ?_ ?_ ?_); exact rfl; exact rfl) | ((with_reducible refine xStoreAt rfl HST.out ?_ ?_ ?_ ?_); exact rfl; exact rfl; exact rfl))
        refine bodyPost_ret (results_down (is := true) rfl rfl HG.out HSZ.out) rfl HE.out
      have hcc : (ordI x y == 0) = false := by simp [hc]
      by_cases hd : 0 < ordI x y
      · have hdn := Lib.hid (show downT x (node p l y r) fs = downT x r (⟨p, true, y, l⟩ :: fs) by rw [downT, if_neg hc, if_pos hd])
        have C5 := Lib.hid (hpa.add (by rw [hpl]; exact hn40) p true)
        rw [hpl] at C5
        have b3 := heap_setCell_blk b2 (40 + fs.length) (.bool true)
        have m3 : Mod [w.heap.size + 1] w2 (w2.setCell ⟨w.heap.size + 1, 40 + fs.length, none⟩ (.bool true)) := (Mod.refl _ _).setCell (by simp) _
        have b4 := heap_setCell_blk b3 80 (.int .i64 ((fs.length : Int) + 1))
        have m4 : Mod [w.heap.size + 1] w2 ((w2.setCell ⟨w.heap.size + 1, 40 + fs.length, none⟩ (.bool true)).setCell ⟨w.heap.size + 1, 80, none⟩ (.int .i64 ((fs.length : Int) + 1))) := m3.setCell (by simp) _
        have m4' := Mod.into' HM2.out m4 (fun k hk => .inl (by simp at hk; omega))
        have hsd : sideN ns p true = Tr.at_ r := by simp [sideN, nodeN_some hnd, nd]
        have CS := Lib.hid (side_at (HT.out _ m4') hnd true)
        rw [hsd] at CS
        have i4 := m4.heap HI2.out (by simp)
        have HSN : Hid (DSt w x ns T ((w2.setCell ⟨w.heap.size + 1, 40 + fs.length, none⟩ (.bool true)).setCell ⟨w.heap.size + 1, 80, none⟩ (.int .i64 ((fs.length : Int) + 1))) (⟨p, true, y, l⟩ :: fs) r _) := Lib.hid ⟨i4, b4, by
          have := C5.out
          simpa only [pth, List.map_cons, List.reverse_cons] using this, m4', hS.out.down.trans hdn.out, by assumption, by simp only [List.length_cons]; omega⟩
        have e80 := cell_blk b4 80
        have HN80 := Lib.hid (show ((w2.setCell ⟨w.heap.size + 1, 40 + fs.length, none⟩ (.bool true)).setCell ⟨w.heap.size + 1, 80, none⟩ (.int .i64 ((fs.length : Int) + 1))).cell? ⟨w.heap.size + 1, 80, none⟩ = some (.int .i64 ((fs.length : Int) + 1)) from by
          rw [e80]
          simp [hpa.size])
        have d80 := cell_blk b3 80
        have d40 := cell_blk b2 (40 + fs.length)
        rw [show (C.setIfInBounds fs.length (.int .i64 (p : Int)))[40 + fs.length]? = some (.bool false) from by
          simp only [Array.getElem?_setIfInBounds]
          rw [if_neg (by omega)]
          exact hpa.free fs.length (by rw [hpl]; exact Nat.le_refl _) hn40] at d40
        rw [show ((C.setIfInBounds fs.length (.int .i64 (p : Int))).setIfInBounds (40 + fs.length) (.bool true))[80]? = some (.int .i64 fs.length) from by
          simp only [Array.getElem?_setIfInBounds]
          rw [if_neg (by omega), if_neg (by omega)]
          exact hC80] at d80
        have g40 := frozen_blk b2 (40 + fs.length)
        have g80 := frozen_blk b3 80
        have hdd : decide (0 < ordI x y) = true := by simp; omega
        have hn80 := HN80.out
        clear b3 b4 m3 m4 m4' hsd i4 hnd hrl hrr hpa e80 C5
        go_wp2_with fail
        refine CS.out.mono ?_
        rintro e w5 ⟨rfl, rfl⟩
        go_wp2_with fail
        go_roundw
        case rel => exact ⟨_, r, _, rfl, HSN⟩
        case measure => rw [HN80.out, c80]; simp [intOf]; omega
      · have hdn := Lib.hid (show downT x (node p l y r) fs = downT x l (⟨p, false, y, r⟩ :: fs) by rw [downT, if_neg hc, if_neg hd])
        have C5 := Lib.hid (hpa.add (by rw [hpl]; exact hn40) p false)
        rw [hpl] at C5
        have b3 := heap_setCell_blk b2 (40 + fs.length) (.bool false)
        have m3 : Mod [w.heap.size + 1] w2 (w2.setCell ⟨w.heap.size + 1, 40 + fs.length, none⟩ (.bool false)) := (Mod.refl _ _).setCell (by simp) _
        have b4 := heap_setCell_blk b3 80 (.int .i64 ((fs.length : Int) + 1))
        have m4 : Mod [w.heap.size + 1] w2 ((w2.setCell ⟨w.heap.size + 1, 40 + fs.length, none⟩ (.bool false)).setCell ⟨w.heap.size + 1, 80, none⟩ (.int .i64 ((fs.length : Int) + 1))) := m3.setCell (by simp) _
        have m4' := Mod.into' HM2.out m4 (fun k hk => .inl (by simp at hk; omega))
        have hsd : sideN ns p false = Tr.at_ l := by simp [sideN, nodeN_some hnd, nd]
        have CS := Lib.hid (side_at (HT.out _ m4') hnd false)
        rw [hsd] at CS
        have i4 := m4.heap HI2.out (by simp)
        have HSN : Hid (DSt w x ns T ((w2.setCell ⟨w.heap.size + 1, 40 + fs.length, none⟩ (.bool false)).setCell ⟨w.heap.size + 1, 80, none⟩ (.int .i64 ((fs.length : Int) + 1))) (⟨p, false, y, r⟩ :: fs) l _) := Lib.hid ⟨i4, b4, by
          have := C5.out
          simpa only [pth, List.map_cons, List.reverse_cons] using this, m4', hS.out.down.trans hdn.out, by assumption, by simp only [List.length_cons]; omega⟩
        have e80 := cell_blk b4 80
        have HN80 := Lib.hid (show ((w2.setCell ⟨w.heap.size + 1, 40 + fs.length, none⟩ (.bool false)).setCell ⟨w.heap.size + 1, 80, none⟩ (.int .i64 ((fs.length : Int) + 1))).cell? ⟨w.heap.size + 1, 80, none⟩ = some (.int .i64 ((fs.length : Int) + 1)) from by
          rw [e80]
          simp [hpa.size])
        have d80 := cell_blk b3 80
        have d40 := cell_blk b2 (40 + fs.length)
        rw [show (C.setIfInBounds fs.length (.int .i64 (p : Int)))[40 + fs.length]? = some (.bool false) from by
          simp only [Array.getElem?_setIfInBounds]
          rw [if_neg (by omega)]
          exact hpa.free fs.length (by rw [hpl]; exact Nat.le_refl _) hn40] at d40
        rw [show ((C.setIfInBounds fs.length (.int .i64 (p : Int))).setIfInBounds (40 + fs.length) (.bool false))[80]? = some (.int .i64 fs.length) from by
          simp only [Array.getElem?_setIfInBounds]
          rw [if_neg (by omega), if_neg (by omega)]
          exact hC80] at d80
        have g40 := frozen_blk b2 (40 + fs.length)
        have g80 := frozen_blk b3 80
        have hdd : decide (0 < ordI x y) = false := by simp; omega
        have hn80 := HN80.out
        clear b3 b4 m3 m4 m4' hsd i4 hnd hrl hrr hpa e80 C5
        go_wp2_with fail
        refine CS.out.mono ?_
        rintro e w5 ⟨rfl, rfl⟩
        go_wp2_with fail
        go_roundw
        case rel => exact ⟨_, l, _, rfl, HSN⟩
        case measure => rw [HN80.out, c80]; simp [intOf]; omega
end Go.Proofs.YtngglpekdjhbdaaGreat
namespace Go.Proofs.YtngglpekdjhbdaaGreat
open Go.RowKit Go.ChangeMaps Go.Deep Tr
set_option linter.unusedSimpArgs false
set_option linter.unusedVariables false
set_option maxRecDepth 20000

theorem store_at2 {P : Program} {w : World} {b : Nat} {t : TypeId} (T : TypeId) (a x z y : List Value) (h : w.heap[b]? = some (.cells (a ++ (x ++ z)).toArray t (0, 0))) (hxy : x.length = y.length) (hi : (P.info? T).map (·.size) = some y.length) (h1 : (y.toArray : Array Value).all (·.oneCell') = true) :
    ∃ w', (Instr.storeAt T (.pointer (some ⟨b, a.length, none⟩)) (.agg y.toArray)).run P w = .ok () w' ∧ Mod [b] w w' ∧ w'.heap[b]? = some (.cells (a ++ (y ++ z)).toArray t (0, 0)) := by
  refine ⟨_, run_storeAt_mid w b a.length T y.toArray (there_blk h a.length y.length (by simp; omega)) (by simpa using hi) h1, (Mod.refl _ _).setCells (by simp) _ _, ?_⟩
  rw [heap_setCells_blk b y.toArray.toList a.length w h]
  have e := setRange_mid a y x z hxy
  simp only [e]
theorem take_three (a y z : List Value) (N : Nat) (h : a.length + y.length ≤ N) : (a ++ (y ++ z)).take N = a ++ (y ++ z.take (N - (a.length + y.length))) := by
  rw [List.take_append, List.take_of_length_le (show a.length ≤ N by omega), List.take_append, List.take_of_length_le (show y.length ≤ N - a.length by omega)]
  rw [show N - a.length - y.length = N - (a.length + y.length) by omega]
theorem OwnR.setAll {α : Type} {enc : α → List Value} {k : Nat} {P : Program} {E : TypeId} {w : World} {base : Nat} {l : List α} (hk : ∀ x, (enc x).length = k) (h1 : ∀ x, ∀ v ∈ enc x, v.oneCell' = true) {g cap : Nat} (h : OwnR enc k E w base (.slice (some ⟨g, 0, none⟩) l.length cap) l) {i : Nat} (hi : i < l.length) (y : α) (hs : (P.info? E).map (·.size) = some k) :
    ∃ w', (Instr.storeAt E (.pointer (some ⟨g, i * k, none⟩)) (.agg (enc y).toArray)).run P w = .ok () w' ∧ Mod [g] w w' ∧ OwnR enc k E w' base (.slice (some ⟨g, 0, none⟩) l.length cap) (l.set i y) := by
  rcases h.2 with ⟨e, _⟩ | ⟨g', cap', cur, e, hb, hg, hn, hcm, hcs, htake⟩
  · cases e
  · simp only [Value.slice.injEq, Option.some.injEq, Addr.mk.injEq, and_true, true_and] at e
    obtain ⟨rfl, rfl⟩ := e
    have hik : i * k + k ≤ l.length * k := by
      have := Nat.mul_le_mul_right k (show i + 1 ≤ l.length from hi)
      rwa [Nat.add_mul, Nat.one_mul] at this
    have hlk : l.length * k ≤ cap * k := Nat.mul_le_mul_right k hn
    have hcl : cur.toList.length = cap * k := by simpa using hcs
    have hsplit : cur.toList = cur.toList.take (i * k) ++ ((cur.toList.drop (i * k)).take k ++ cur.toList.drop (i * k + k)) := by
      rw [← List.drop_drop, List.take_append_drop, List.take_append_drop]
    have hpl : (cur.toList.take (i * k)).length = i * k := by rw [List.length_take]; omega
    have hml : ((cur.toList.drop (i * k)).take k).length = (enc y).length := by rw [hk, List.length_take, List.length_drop]; omega
    have hg' : w.heap[g]? = some (.cells (cur.toList.take (i * k) ++ ((cur.toList.drop (i * k)).take k ++ cur.toList.drop (i * k + k))).toArray E (0, 0)) := by
      rw [← hsplit]; simpa using hg
    obtain ⟨w', r, m, hh⟩ := store_at2 (P := P) E _ _ _ (enc y) hg' hml (by rw [hk]; exact hs) (by
      rw [Array.all_eq_true']
      intro v hv
      exact h1 y v (by simpa using hv))
    rw [hpl] at r
    have e1 : cur.toList.take (i * k) = flat enc (l.take i) := by
      rw [flat_take hk, ← htake, List.take_take, Nat.min_eq_left (by omega)]
    have e2 : (cur.toList.drop (i * k + k)).take (l.length * k - (i * k + k)) = flat enc (l.drop (i + 1)) := by
      rw [flat_drop hk, ← htake, List.drop_take, Nat.add_mul, Nat.one_mul]
    refine ⟨w', r, m, by rw [flat_length hk, List.length_set], .inr ⟨g, cap, _, by rw [List.length_set], hb, hh, by rw [List.length_set]; exact hn, hcm, ?_, ?_⟩⟩
    · simp only [List.size_toArray, List.length_append, hpl, hk, List.length_drop]
      omega
    · rw [List.length_set, List.toList_toArray, List.set_eq_take_append_cons_drop, if_pos hi, flat_append, flat_cons, ← e1, ← e2]
      rw [take_three _ _ _ _ (by rw [hpl, hk]; exact hik), hpl, hk]
/-- a tree with all that is said of it -/
structure AvlSt (w : World) (b : Nat) (nv fv : Value) (ns : List Nd) (fr : List Int) (T : Tr) : Prop where
  tree : TreeAt w b nv fv ns fr T.at_ T.size
  rep : T.rep ns
  avl : T.avl
  srt : T.srt
  nodup : T.places.Nodup
  free : ∀ i ∈ fr, ∃ k : Nat, i = k ∧ k < ns.length ∧ k ∉ T.places
  fnd : fr.Nodup
  full : ns.length = T.size + fr.length
theorem rep_lt {ns : List Nd} : ∀ {T : Tr}, T.rep ns → ∀ p ∈ T.places, p < ns.length
  | .nil, _, p, hp => by simp [places] at hp
  | .node q l x r, ⟨h1, h2, h3⟩, p, hp => by
    simp only [places, List.mem_cons, List.mem_append] at hp
    rcases hp with rfl | hp | hp
    · exact (List.getElem?_eq_some_iff.1 h1).1
    · exact rep_lt h2 p hp
    · exact rep_lt h3 p hp
/-- a node is written whole -/
theorem TreeAt.put {w : World} {b g cap : Nat} {fv : Value} {ns : List Nd} {fr : List Int} {root many : Int} (h : TreeAt w b (.slice (some ⟨g, 0, none⟩) ns.length cap) fv ns fr root many) {p : Nat} (hp : p < ns.length) (m : Nd) :
    ∃ w', (Instr.storeAt 128 (.pointer (some ⟨g, p * 8, none⟩)) (.agg (encNd m).toArray)).run Tryz.prog w = .ok () w' ∧ Mod [g] w w' ∧ TreeAt w' b (.slice (some ⟨g, 0, none⟩) (ns.set p m).length cap) fv (ns.set p m) fr root many := by
  obtain ⟨w', r, hm, ho⟩ := h.row.setAll (P := Tryz.prog) encNd_len encNd_one hp m (by kernel_rfl)
  have hbg : b ≠ g := fun e => h.bn (by simp [Value.ownBlock, e])
  refine ⟨w', r, hm, ?_, by rw [List.length_set]; exact ho, h.free.kept hm (fun k hk hm => ?_), by simpa [Value.ownBlock] using Ne.symm hbg, h.bf, fun k hk => h.nf k (by simpa [Value.ownBlock] using hk)⟩
  · rw [List.length_set]
    exact hm.heap h.blk (by simpa using hbg)
  · rw [List.mem_singleton] at hm
    subst hm
    exact h.nf k (by simp [Value.ownBlock]) hk
/-- a cell of the tree's own is written: how many items there are -/
theorem TreeAt.many {w : World} {b : Nat} {nv fv : Value} {ns : List Nd} {fr : List Int} {root many : Int} (h : TreeAt w b nv fv ns fr root many) (r : Int) : TreeAt (w.setCell ⟨b, 4, none⟩ (.int .i64 r)) b nv fv ns fr root r ∧ Mod [b] w (w.setCell ⟨b, 4, none⟩ (.int .i64 r)) := by
  have hm : Mod [b] w (w.setCell ⟨b, 4, none⟩ (.int .i64 r)) := (Mod.refl _ _).setCell (by simp) _
  refine ⟨⟨?_, h.row.kept hm (fun k hk hb => h.bn (by rw [List.mem_singleton] at hb; rw [← hb]; exact hk)), h.free.kept hm (fun k hk hb => h.bf (by rw [List.mem_singleton] at hb; rw [← hb]; exact hk)), h.bn, h.bf, h.nf⟩, hm⟩
  rw [heap_setCell_blk h.blk]
  simp
theorem OwnR.take {α : Type} {enc : α → List Value} {k : Nat} {E : TypeId} {w : World} {base : Nat} {l : List α} {g cap : Nat} (hk : ∀ x, (enc x).length = k) (h : OwnR enc k E w base (.slice (some ⟨g, 0, none⟩) l.length cap) l) (n : Nat) (hn : n ≤ l.length) :
    OwnR enc k E w base (.slice (some ⟨g, 0, none⟩) n cap) (l.take n) := by
  rcases h.2 with ⟨e, _⟩ | ⟨g', cap', cur, e, hb, hg, hc, hcm, hcs, htake⟩
  · cases e
  · simp only [Value.slice.injEq, Option.some.injEq, Addr.mk.injEq, and_true, true_and] at e
    obtain ⟨rfl, rfl⟩ := e
    have hl : (l.take n).length = n := by rw [List.length_take]; omega
    refine ⟨flat_length hk _, .inr ⟨g, cap, cur, by rw [hl], hb, hg, by omega, hcm, hcs, ?_⟩⟩
    rw [hl, flat_take hk, ← htake, List.take_take, Nat.min_eq_left (Nat.mul_le_mul_right _ hn)]
/-- the last free place is taken off -/
theorem TreeAt.pop {w : World} {b f cap : Nat} {nv : Value} {ns : List Nd} {fr : List Int} {root many : Int} (h : TreeAt w b nv (.slice (some ⟨f, 0, none⟩) fr.length cap) ns fr root many) (n : Nat) (hn : n ≤ fr.length) :
    TreeAt (w.setCell ⟨b, 2, none⟩ (.slice (some ⟨f, 0, none⟩) n cap)) b nv (.slice (some ⟨f, 0, none⟩) n cap) ns (fr.take n) root many ∧ Mod [b] w (w.setCell ⟨b, 2, none⟩ (.slice (some ⟨f, 0, none⟩) n cap)) := by
  have hm : Mod [b] w (w.setCell ⟨b, 2, none⟩ (.slice (some ⟨f, 0, none⟩) n cap)) := (Mod.refl _ _).setCell (by simp) _
  have hbf : b ≠ f := fun e => h.bf (by simp [Value.ownBlock, e])
  refine ⟨⟨?_, h.row.kept hm (fun k hk hb => h.bn (by rw [List.mem_singleton] at hb; rw [← hb]; exact hk)), (h.free.take encI_len n hn).kept hm (fun k hk hb => ?_), h.bn, by simpa [Value.ownBlock] using Ne.symm hbf, fun k hk => by simpa [Value.ownBlock] using h.nf k hk⟩, hm⟩
  · rw [heap_setCell_blk h.blk]
    simp
  · rw [List.mem_singleton] at hb
    subst hb
    simp [Value.ownBlock] at hk
    exact hbf hk.symm
end Go.Proofs.YtngglpekdjhbdaaGreat
