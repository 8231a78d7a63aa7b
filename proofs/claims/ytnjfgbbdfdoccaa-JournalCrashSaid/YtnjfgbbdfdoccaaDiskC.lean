/- The program's disk: Write. -/
import Derived.Test.YtnjfgbbdfdoccaaDiskB
import Derived.Test.YtnjfgbbdfdoccaaRegF
namespace Go.Proofs.Ytnjfgbbdfdoccaa
open Go.RowKit Go.ChangeMaps
set_option linter.unusedSimpArgs false
set_option linter.unusedVariables false

theorem write_refused {w : World} {b m : Nat} {D : Dk} (h : DiskAt w b m D) (k : Int) (v : Value) (ha : D.asked k ≠ 0) :
    Calls Try.prog 58 #[.pointer (some ⟨b, 0, none⟩), .int .i64 k, v] w fun e w' => e = .returned (.int .i64 (D.asked k)) ∧ w = w' := by
  have H := Lib.hid h
  clear h
  have hb : (D.asked k != 0) = true := by rw [bne_iff_ne]; exact ha
  have hb2 : (D.asked k == 0) = false := beq_eq_false_iff_ne.2 ha
  clear ha
  go_enter Try.func58, Try.ntmps58
  go_wp2_with fail
  refine (asked_any H.out k).mono ?_
  rintro e w' ⟨rfl, rfl⟩
  go_wp2_with fail
  go_ret
  exact ⟨rfl, rfl⟩
theorem write_arg {w : World} {b m : Nat} {D : Dk} (h : DiskAt w b m D) (k : Int) {v : Value} {l : List Int} (hv : BytesAt w v l) (ha : D.asked k = 0) (hn : l.length ≠ 64) (hm : l.length ≤ maxLen) :
    Calls Try.prog 58 #[.pointer (some ⟨b, 0, none⟩), .int .i64 k, v] w fun e w' => e = .returned (.int .i64 2) ∧ w = w' := by
  have H := Lib.hid h
  obtain ⟨a, cap, rfl⟩ := hv.form
  unfold maxLen at hm
  clear h hv
  have HA := Lib.hid ha
  clear ha
  have h3 : ((l.length : Int) != 64) = true := by rw [bne_iff_ne]; omega
  clear hn
  go_enter Try.func58, Try.ntmps58
  go_wp2_with fail
  refine (asked_any H.out k).mono ?_
  rintro e w' ⟨rfl, rfl⟩
  rw [HA.out]
  go_wp2_with fail
  go_ret
  exact ⟨rfl, rfl⟩

/-- A map that holds k once more. -/
def Dk.lay (D : Dk) (k : Int) (l : List Int) : Dk := { D with by_ := fun k2 => if k2 = k then some l else D.by_ k2 }
theorem lay_run {w : World} {b m : Nat} {D : Dk} (h : DiskAt w b m D) (k : Int) {l : List Int} (h64 : l.length = 64) :
    ∃ w2, (Instr.mapUpdate 60 (.map (some m)) (.int .i64 k) (.agg (bv l).toArray)).run Try.prog w = .ok () w2 ∧ Mod [m] w w2 ∧ DiskAt w2 b m (D.lay k l) := by
  obtain ⟨o, hrun, hM⟩ := run_mapUpdate_at (P := Try.prog) Try.underlying60 Try.underlying3 h.map k (.agg (bv l).toArray)
  have hm : Mod [m] w (setBlock w m o) := (Mod.refl _ _).setBlock (by simp) _
  refine ⟨_, hrun, hm, hm.heap h.blk (by simpa using h.ne), ?_, h.torn, ?_, h.after⟩
  · have e : (D.lay k l).map = fun k2 => if k2 = k then some (.agg (bv l).toArray) else D.map k2 := by
      funext k2
      unfold Dk.map Dk.lay
      by_cases hk : k2 = k <;> simp [hk]
    rw [e]
    exact hM
  · intro k2 l2 h2
    simp only [Dk.lay] at h2
    by_cases hk : k2 = k
    · simp [hk] at h2; rw [← h2]; exact h64
    · simp only [if_neg hk] at h2; exact h.sectors k2 l2 h2
theorem DiskAt.drew {w : World} {b m : Nat} {D : Dk} (h : DiskAt w b m D) : DiskAt w.drew b m D := ⟨h.blk, h.map, h.torn, h.sectors, h.after⟩
theorem DiskAt.setCell {w : World} {b m : Nat} {D D' : Dk} (h : DiskAt w b m D) (i : Nat) (v : Value) (e : (dcells m D).setIfInBounds i v = dcells m D') (e1 : D'.by_ = D.by_) (e2 : D'.torn = D.torn) (e3 : 0 ≤ D'.after ∧ D'.after ≤ 9223372036854775807) :
    DiskAt (w.setCell ⟨b, i, none⟩ v) b m D' ∧ Mod [b] w (w.setCell ⟨b, i, none⟩ v) := by
  have hm := (Mod.refl [b] w).setCell (p := ⟨b, i, none⟩) (by simp) v
  have e4 : D'.map = D.map := by unfold Dk.map; rw [e1]
  exact ⟨⟨by rw [heap_setCell_blk h.blk, e], by rw [e4]; exact h.map.of_heap (hm.block m h.map.lt (by simpa using h.ne.symm)), by rw [e2]; exact h.torn, by rw [e1]; exact h.sectors, e3⟩, hm⟩
theorem DiskAt.written {w : World} {b m : Nat} {D : Dk} (h : DiskAt w b m D) (n : Int) : DiskAt (w.setCell ⟨b, 2, none⟩ (.int .i64 n)) b m { D with written := n } ∧ Mod [b] w (w.setCell ⟨b, 2, none⟩ (.int .i64 n)) :=
  h.setCell 2 _ (by simp [dcells]) rfl rfl h.after
theorem DiskAt.afters {w : World} {b m : Nat} {D : Dk} (h : DiskAt w b m D) (n : Int) (hn : 0 ≤ n ∧ n ≤ 9223372036854775807) : DiskAt (w.setCell ⟨b, 5, none⟩ (.int .i64 n)) b m { D with after := n } ∧ Mod [b] w (w.setCell ⟨b, 5, none⟩ (.int .i64 n)) :=
  h.setCell 5 _ (by simp [dcells]) rfl rfl hn
theorem DiskAt.downs {w : World} {b m : Nat} {D : Dk} (h : DiskAt w b m D) (x : Bool) : DiskAt (w.setCell ⟨b, 3, none⟩ (.bool x)) b m { D with down := x } ∧ Mod [b] w (w.setCell ⟨b, 3, none⟩ (.bool x)) :=
  h.setCell 3 _ (by simp [dcells]) rfl rfl h.after
theorem DiskAt.sets {w : World} {b m : Nat} {D : Dk} (h : DiskAt w b m D) (x : Bool) : DiskAt (w.setCell ⟨b, 4, none⟩ (.bool x)) b m { D with set := x } ∧ Mod [b] w (w.setCell ⟨b, 4, none⟩ (.bool x)) :=
  h.setCell 4 _ (by simp [dcells]) rfl rfl h.after

set_option maxRecDepth 10000 in
theorem write_plain {w : World} {b m : Nat} {D : Dk} (h : DiskAt w b m D) (k : Int) {v : Value} {l : List Int} (hv : BytesAt w v l) (ha : D.asked k = 0) (h64 : l.length = 64) (hs : D.set = false) (hw : 0 ≤ D.written) (hw2 : D.written ≤ 4611686018427387904) :
    Calls Try.prog 58 #[.pointer (some ⟨b, 0, none⟩), .int .i64 k, v] w fun e w' => e = .returned (.int .i64 0) ∧ Mod [b, m] w w' ∧ DiskAt w' b m { D.lay k l with written := D.written + 1 } := by
  obtain ⟨bb, o, cap, rfl, hr⟩ := hv.form64 h64
  have hld := run_loadAt_mid (P := Try.prog) w.drew bb o 62 (bv l) _ hr Try.underlying62 rfl (by rw [bv_length, h64]; exact size65)
  have harr := fun w => run_arrayAt (Nat.le_refl 64) (some ⟨bb, o, none⟩) cap w
  obtain ⟨w2, hmu, hm2, hd2⟩ := lay_run h.drew k h64
  obtain ⟨hd3, hm3⟩ := hd2.written (D.written + 1)
  have c1 := h.c1
  have c4 := h.c4
  rw [hs] at c4
  have d2 : w2.cell? ⟨b, 2, none⟩ = some (.int .i64 D.written) := hd2.c2
  have f2 := frozen_blk hd2.blk 2
  have hmod : Mod [b, m] w (w2.setCell ⟨b, 2, none⟩ (.int .i64 (D.written + 1))) := (((Mod.refl _ w).drew).trans (hm2.mono (by simp))).trans (hm3.mono (by simp))
  have H := Lib.hid h
  have HA := Lib.hid ha
  have HL := Lib.hid hld
  have HU := Lib.hid hmu
  have HD := Lib.hid hd3
  have HM := Lib.hid hmod
  clear h hv ha h64 hld hmu hd2 hm2 hd3 hm3 hmod
  go_enter Try.func58, Try.ntmps58
  go_wp2_with fail
  refine (asked_any H.out k).mono ?_
  rintro e w' ⟨rfl, rfl⟩
  rw [HA.out]
  go_wp2_with fail
  refine wp_plan [([0, 1, 2, 3, 4, 5, 6, 7], 8, [])] [] (by kernel_rfl) (by kernel_rfl) ?_
  simp only [wpSegs, opsOf, List.map_cons, List.map_nil, opN, List.getD_cons_zero, List.getD_cons_succ]
  go_wp2_with (refine wpList_load rfl (t := 62) rfl rfl HL.out ?_)
  refine ⟨by first | trivial | rfl, ?_⟩
  go_wp2_with (refine wpList_mapUpdate rfl (t := 60) rfl rfl rfl rfl HU.out ?_)
  refine ⟨again_nil, ?_⟩
  go_wp2
  refine ⟨by first | trivial | rfl, ?_⟩
  go_wp2
  go_ret
  exact ⟨rfl, HM.out, HD.out⟩

set_option maxRecDepth 10000 in
theorem write_less {w : World} {b m : Nat} {D : Dk} (h : DiskAt w b m D) (k : Int) {v : Value} {l : List Int} (hv : BytesAt w v l) (hbb : ∀ bb o cap, v = .slice (some ⟨bb, o, none⟩) 64 cap → bb ≠ b) (ha : D.asked k = 0) (h64 : l.length = 64) (hs : D.set = true) (hz : D.after ≠ 0) (hw : 0 ≤ D.written) (hw2 : D.written ≤ 4611686018427387904) :
    Calls Try.prog 58 #[.pointer (some ⟨b, 0, none⟩), .int .i64 k, v] w fun e w' => e = .returned (.int .i64 0) ∧ Mod [b, m] w w' ∧ DiskAt w' b m { D.lay k l with after := D.after - 1, written := D.written + 1 } := by
  obtain ⟨bb, o, cap, rfl, hr⟩ := hv.form64 h64
  have hne := hbb bb o cap rfl
  obtain ⟨ha1, ha2⟩ := h.after
  obtain ⟨h1, hm1⟩ := h.afters (D.after - 1) ⟨by omega, by omega⟩
  have hr1 := rangeAt_mod hr hm1 (by simpa using hne)
  have hld := run_loadAt_mid (P := Try.prog) (w.setCell ⟨b, 5, none⟩ (.int .i64 (D.after - 1))).drew bb o 62 (bv l) _ hr1 Try.underlying62 rfl (by rw [bv_length, h64]; exact size65)
  have harr := fun w => run_arrayAt (Nat.le_refl 64) (some ⟨bb, o, none⟩) cap w
  obtain ⟨w2, hmu, hm2, hd2⟩ := lay_run h1.drew k h64
  obtain ⟨hd3, hm3⟩ := hd2.written (D.written + 1)
  have c4 := h.c4
  rw [hs] at c4
  have c5 := h.c5
  have f5 := frozen_blk h.blk 5
  have k1 := h1.c1
  have d2 : w2.cell? ⟨b, 2, none⟩ = some (.int .i64 D.written) := hd2.c2
  have f2 := frozen_blk hd2.blk 2
  have hz' : (D.after == 0) = false := beq_eq_false_iff_ne.2 hz
  have hmod : Mod [b, m] w (w2.setCell ⟨b, 2, none⟩ (.int .i64 (D.written + 1))) := (((hm1.mono (by simp)).drew).trans (hm2.mono (by simp))).trans (hm3.mono (by simp))
  have H := Lib.hid h
  have HA := Lib.hid ha
  have HL := Lib.hid hld
  have HU := Lib.hid hmu
  have HD := Lib.hid hd3
  have HM := Lib.hid hmod
  clear h hv ha h64 hld hmu hd2 hm2 hd3 hm3 hmod hz hbb h1 hm1 hr1
  go_enter Try.func58, Try.ntmps58
  go_wp2_with fail
  refine (asked_any H.out k).mono ?_
  rintro e w' ⟨rfl, rfl⟩
  rw [HA.out]
  go_wp2_with fail
  refine wp_plan [([0, 1, 2, 3, 4, 5, 6, 7], 8, [])] [] (by kernel_rfl) (by kernel_rfl) ?_
  simp only [wpSegs, opsOf, List.map_cons, List.map_nil, opN, List.getD_cons_zero, List.getD_cons_succ]
  go_wp2_with (refine wpList_load rfl (t := 62) rfl rfl HL.out ?_)
  refine ⟨by first | trivial | rfl, ?_⟩
  go_wp2_with (refine wpList_mapUpdate rfl (t := 60) rfl rfl rfl rfl HU.out ?_)
  refine ⟨again_nil, ?_⟩
  go_wp2
  refine ⟨by first | trivial | rfl, ?_⟩
  go_wp2
  go_ret
  exact ⟨rfl, HM.out, HD.out⟩

set_option maxRecDepth 10000 in
theorem write_crash {w : World} {b m : Nat} {D : Dk} (h : DiskAt w b m D) (k : Int) {v : Value} {l : List Int} (hv : BytesAt w v l) (ha : D.asked k = 0) (h64 : l.length = 64) (hs : D.set = true) (hz : D.after = 0) :
    Calls Try.prog 58 #[.pointer (some ⟨b, 0, none⟩), .int .i64 k, v] w fun e w' => e = .returned (.int .i64 16) ∧ Mod [b, m] w w' ∧ DiskAt w' b m { D.lay k D.torn with down := true, set := false } := by
  obtain ⟨bb, o, cap, rfl, hr⟩ := hv.form64 h64
  obtain ⟨o1, st, v0, hme, hst⟩ := run_mapEntry_at (P := Try.prog) Try.underlying60 Try.underlying3 h.drew.map k zero65
  have hm1 : Mod [m] w.drew (setBlock w.drew m o1) := (Mod.refl _ _).setBlock (by simp) _
  obtain ⟨o2, hes, hM⟩ := run_entryStore_at (P := Try.prog) Try.underlying60 Try.underlying3 hst (.agg (bv D.torn).toArray)
  have hm2 : Mod [m] (setBlock w.drew m o1) (setBlock (setBlock w.drew m o1) m o2) := (Mod.refl _ _).setBlock (by simp) _
  have hm12 := hm1.trans hm2
  have hb1 : (setBlock w.drew m o1).heap[b]? = _ := hm1.heap h.blk (by simpa using h.ne)
  have hd2 : DiskAt (setBlock (setBlock w.drew m o1) m o2) b m (D.lay k D.torn) := by
    refine ⟨hm12.heap h.blk (by simpa using h.ne), ?_, h.torn, ?_, h.after⟩
    · have e : (D.lay k D.torn).map = fun k2 => if k2 = k then some (.agg (bv D.torn).toArray) else D.map k2 := by
        funext k2
        unfold Dk.map Dk.lay
        by_cases hk : k2 = k <;> simp [hk]
      rw [e]
      exact hM
    · intro k2 l2 h2
      simp only [Dk.lay] at h2
      by_cases hk : k2 = k
      · simp [hk] at h2; rw [← h2]; exact h.torn
      · simp only [if_neg hk] at h2; exact h.sectors k2 l2 h2
  obtain ⟨hd3, hm3⟩ := hd2.downs true
  obtain ⟨hd4, hm4⟩ := hd3.sets false
  have e70 : dcells m D = ([Value.int .i64 D.n, .map (some m), .int .i64 D.written, .bool D.down, .bool D.set, .int .i64 D.after] ++ (bv D.torn ++ [])).toArray := by simp [dcells]
  have hb := h.blk
  rw [e70] at hb hb1
  have hr0 : w.drew.rangeAt b 6 (bv D.torn) := rangeAt_mid (w := w.drew) hb
  have hr1 : (setBlock w.drew m o1).rangeAt b 6 (bv D.torn) := rangeAt_mid hb1
  have hl0 := run_loadAt_mid (P := Try.prog) w.drew b 6 62 (bv D.torn) _ hr0 Try.underlying62 rfl (by rw [bv_length, h.torn]; exact size65)
  have hl1 := run_loadAt_mid (P := Try.prog) (setBlock w.drew m o1) b 6 62 (bv D.torn) _ hr1 Try.underlying62 rfl (by rw [bv_length, h.torn]; exact size65)
  have c1 := h.c1
  have c4 := h.c4
  rw [hs] at c4
  have c5 := h.c5
  have c3 : (setBlock (setBlock w.drew m o1) m o2).cell? ⟨b, 3, none⟩ = some (.bool D.down) := hd2.c3
  have f3 := frozen_blk hd2.blk 3
  have d4 : ((setBlock (setBlock w.drew m o1) m o2).setCell ⟨b, 3, none⟩ (.bool true)).cell? ⟨b, 4, none⟩ = some (.bool D.set) := hd3.c4
  have f4 := frozen_blk hd3.blk 4
  have hz' : (D.after == 0) = true := by rw [hz]; rfl
  have hmod : Mod [b, m] w (((setBlock (setBlock w.drew m o1) m o2).setCell ⟨b, 3, none⟩ (.bool true)).setCell ⟨b, 4, none⟩ (.bool false)) :=
    (((Mod.refl _ w).drew).trans (hm12.mono (by simp))).trans ((hm3.trans hm4).mono (by simp))
  have H := Lib.hid h
  have HA := Lib.hid ha
  have HL0 := Lib.hid hl0
  have HL1 := Lib.hid hl1
  have HME := Lib.hid hme
  have HES := Lib.hid hes
  have HD := Lib.hid hd4
  have HM := Lib.hid hmod
  clear h hv ha h64 hz hme hst hm1 hes hM hm2 hm12 hb1 hd2 hd3 hm3 hd4 hm4 e70 hb hr0 hr1 hl0 hl1 hmod hr
  go_enter Try.func58, Try.ntmps58
  go_wp2_with fail
  refine (asked_any H.out k).mono ?_
  rintro e w' ⟨rfl, rfl⟩
  rw [HA.out]
  go_wp2_with fail
  refine wp_plan [([0, 1, 2, 3, 4, 5, 6, 7, 8, 9, 10], 11, [8, 9, 10]), ([12], 13, []), ([14, 15], 16, []), ([17, 18], 19, [])] [] (by kernel_rfl) (by kernel_rfl) ?_
  simp only [wpSegs, opsOf, List.map_cons, List.map_nil, opN, List.getD_cons_zero, List.getD_cons_succ]
  go_wp2_with (refine wpList_load rfl (t := 62) rfl rfl HL0.out ?_)
  refine ⟨by first | trivial | rfl, ?_⟩
  go_wp2_with (refine wpList_mapEntry rfl (t := 60) rfl rfl rfl HME.out ?_)
  refine ⟨?again, ?_⟩
  case again =>
    intro i hi hw
    simp only [List.mem_cons, List.not_mem_nil, or_false] at hi
    rcases hi with rfl | rfl | rfl
    · simp only [opN, List.getD_cons_zero, List.getD_cons_succ, slotOf]
      go_simp
    · simp only [opN, List.getD_cons_zero, List.getD_cons_succ, slotOf]
      go_simp
    · exact exec_load rfl rfl HL1.out
  go_wp2
  refine ⟨by first | trivial | rfl, ?_⟩
  go_wp2_with (refine wpList_entryStore rfl (t := 60) rfl rfl rfl rfl HES.out ?_)
  refine ⟨again_nil, ?_⟩
  go_wp2
  refine ⟨by first | trivial | rfl, ?_⟩
  go_wp2
  refine ⟨again_nil, ?_⟩
  go_wp2
  refine ⟨by first | trivial | rfl, ?_⟩
  go_wp2
  refine ⟨again_nil, ?_⟩
  go_wp2
  refine ⟨by first | trivial | rfl, ?_⟩
  go_wp2
  go_ret
  exact ⟨rfl, HM.out, HD.out⟩
end Go.Proofs.Ytnjfgbbdfdoccaa
