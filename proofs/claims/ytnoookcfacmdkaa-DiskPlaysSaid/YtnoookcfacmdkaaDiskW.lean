/- Both disks' Copy. -/
import Derived.Test.YtnoookcfacmdkaaDiskV
namespace Go.Proofs.Ytnoookcfacmdkaa
open Go.RowKit Go.ChangeMaps
set_option linter.unusedSimpArgs false
set_option linter.unusedVariables false

theorem sizeDisk : (Try.prog.info? 67).map (·.size) = some 70 := by kernel_rfl
theorem infoDisk : (Try.prog.info? 67).map (fun i => (i.zero.map (·.cells.size), i.size)) = some (some 70, 70) := by kernel_rfl
theorem zeroDisk : ∃ z, (∀ w, (zeroValue 67).run Try.prog w = .ok z w) ∧ z.cells.size = 70 := by
  have h := infoDisk
  cases hi : Try.prog.info? 67 with
  | none => rw [hi] at h; cases h
  | some i =>
    rw [hi] at h
    simp only [Option.map_some, Option.some.injEq, Prod.mk.injEq] at h
    obtain ⟨h1, h2⟩ := h
    cases hz : i.zero with
    | none => rw [hz] at h1; cases h1
    | some z =>
      rw [hz] at h1
      exact ⟨z, fun w => by simp [zeroValue, typeInfo, hi, hz, go_sem], by simpa using h1⟩
theorem dcells_one (m : Nat) (D : Dk) : (dcells m D).all (·.oneCell') = true := by
  unfold dcells
  rw [Array.all_append, oneCell_bv]
  simp [Value.oneCell']
theorem dcells_size {w : World} {b m : Nat} {D : Dk} (h : DiskAt w b m D) : (dcells m D).size = 70 := by simp [dcells, bv_length, h.torn]
set_option maxRecDepth 10000 in
theorem copy_any {w : World} {b m : Nat} {D : Dk} (h : DiskAt w b m D) :
    Calls Try.prog 20 #[.pointer (some ⟨b, 0, none⟩)] w fun e w' => ∃ b' m', e = .returned (.pointer (some ⟨b', 0, none⟩)) ∧ Mod [] w w' ∧ DiskAt w' b' m' D ∧ w.heap.size ≤ b' ∧ w.heap.size ≤ m' := by
  obtain ⟨z, hz, hzs⟩ := zeroDisk
  have hsz := dcells_size h
  have hld := load_whole (P := Try.prog) 67 h.blk Try.underlying67 rfl (by rw [hsz]; exact sizeDisk)
  obtain ⟨hst, hm1, hb1⟩ := store_whole (P := Try.prog) (w := w.alloc (.cells z.cells 67)) (b := w.heap.size) (c := dcells m D) (c0 := z.cells) 67 (heap_alloc_new w _) (by rw [hzs, hsz]) (by rw [hsz]; exact sizeDisk) (dcells_one m D)
  generalize hw1 : (w.alloc (.cells z.cells 67)).setCells w.heap.size 0 (dcells m D).toList = w1 at hst hm1 hb1
  have hm : Mod [] w w1 := ((Mod.refl [] w).alloc _).toNil hm1 (by simp)
  have hbl := lt_of_heap h.blk
  have h' := h.kept hm (by simp) (by simp)
  have c1 := h'.c1
  have f1 := frozen_blk hb1 1
  have e1 : w1.cell? ⟨w.heap.size, 1, none⟩ = some (.map (some m)) := by rw [cell_blk hb1]; simp [dcells]
  have H := Lib.hid h'
  have HL := Lib.hid hld
  have HS := Lib.hid hst
  have HB := Lib.hid hb1
  have HZ := Lib.hid hz
  have HW := Lib.hid hw1
  have HM := Lib.hid hm
  clear h h' hld hst hb1 hz hw1 hzs hsz hm hm1
  go_enter Try.func20, Try.ntmps20
  go_wp2_with first
    | (refine wpList_load rfl (t := 67) rfl rfl HL.out ?_)
    | (refine wpList_alloc rfl (t := 67) rfl HZ.out ?_)
    | (refine wpList_store rfl (t := 67) rfl rfl rfl HS.out ?_)
  refine (clone_any H.out.map).mono ?_
  rintro e w2 ⟨rfl, hm2, hmap⟩
  have hb2 := hm2.heap HB.out (by simp)
  have f2 := frozen_blk hb2 1
  have e2 : w2.cell? ⟨w.heap.size, 1, none⟩ = some (.map (some m)) := by rw [cell_blk hb2]; simp [dcells]
  have hb3 := heap_setCell_blk hb2 1 (.map (some w1.heap.size))
  have ed : (dcells m D).setIfInBounds 1 (.map (some w1.heap.size)) = dcells w1.heap.size D := by simp [dcells]
  rw [ed] at hb3
  have hs1 : w.heap.size < w1.heap.size := lt_of_heap HB.out
  have hm3 := (Mod.refl [w.heap.size] w2).setCell (p := ⟨w.heap.size, 1, none⟩) (by simp) (.map (some w1.heap.size))
  have HK := Lib.hid (show Mod [] w _ ∧ DiskAt _ w.heap.size w1.heap.size D from ⟨(HM.out.trans hm2).toNil hm3 (by simp), hb3, hmap.of_heap (hm3.block _ hmap.lt (by simp; omega)), H.out.torn, H.out.sectors, H.out.after⟩)
  clear hm2 hmap hb2 hb3 hm3
  go_wp2_with fail
  go_ret
  exact ⟨w.heap.size, w1.heap.size, rfl, HK.out.1, HK.out.2, Nat.le_refl _, by omega⟩
/-! ### the document's -/
theorem infoRef : (Try.prog.info? 41).map (fun i => (i.zero.map (·.cells.size), i.size)) = some (some 7, 7) := by kernel_rfl
theorem sizeRef : (Try.prog.info? 41).map (·.size) = some 7 := by kernel_rfl
theorem zeroRef : ∃ z, (∀ w, (zeroValue 41).run Try.prog w = .ok z w) ∧ z.cells.size = 7 := by
  have h := infoRef
  cases hi : Try.prog.info? 41 with
  | none => rw [hi] at h; cases h
  | some i =>
    rw [hi] at h
    simp only [Option.map_some, Option.some.injEq, Prod.mk.injEq] at h
    obtain ⟨h1, h2⟩ := h
    cases hz : i.zero with
    | none => rw [hz] at h1; cases h1
    | some z =>
      rw [hz] at h1
      exact ⟨z, fun w => by simp [zeroValue, typeInfo, hi, hz, go_sem], by simpa using h1⟩
theorem rows_src {w : World} {v : Value} {g : Nat} {l : List (Int × ByteArray)} (h : RowsAt w v g l) : (∃ ad c, v = .slice (some ad) l.length c ∧ ∀ j u, (rowCells l)[j]? = some u → w.cell? (ad.add j) = some u) ∨ (∃ c, v = .slice none 0 c ∧ l.length = 0) := by
  obtain ⟨a, cap, hv, ha⟩ := h.form
  rcases ha with rfl | rfl
  · cases a with
    | none => exact .inr ⟨cap, hv, rfl⟩
    | some ad => exact .inl ⟨ad, cap, hv, fun j u hu => by simp [rowCells] at hu⟩
  · exact .inl ⟨_, cap, hv, fun j u hu => by rw [Addr.add_lit]; exact h.cells j u hu⟩
theorem RowsAt.of_cells {w : World} {base : Nat} {v : Value} {l : List (Int × ByteArray)} (h : OwnCells w base 71 2 v l.length (rowCells l)) : ∃ g, base ≤ g ∧ RowsAt w v g l := by
  obtain ⟨g, cap, cur, rfl, hb, hg, hn, hm, hsz, htk⟩ := h
  refine ⟨g, hb, ⟨⟨_, cap, rfl, .inr rfl⟩, fun j u hu => ?_, by omega⟩⟩
  rw [← htk, List.getElem?_take] at hu
  split at hu
  · rw [cell_blk hg]; simpa using hu
  · cases hu
set_option maxRecDepth 10000 in
theorem rcopy_any {w : World} {b : Nat} {v : Value} {g : Nat} {R : Rk} (h : RefAt w b v g R) (hl : R.rows.length ≤ 1000000) :
    Calls Try.prog 21 #[.pointer (some ⟨b, 0, none⟩)] w fun e w' => ∃ b' v' g', e = .returned (.pointer (some ⟨b', 0, none⟩)) ∧ Mod [] w w' ∧ RefAt w' b' v' g' R ∧ w.heap.size ≤ b' ∧ w.heap.size ≤ g' ∧ b' ≠ g' := by
  obtain ⟨z, hz, hzs⟩ := zeroRef
  obtain ⟨a0, cap0, hv0, _⟩ := h.rows.form
  have hld := load_whole (P := Try.prog) 41 h.blk Try.underlying41 rfl sizeRef
  obtain ⟨hst, hm1, hb1⟩ := store_whole (P := Try.prog) (w := w.alloc (.cells z.cells 41)) (b := w.heap.size) (c := rcells v R) (c0 := z.cells) 41 (heap_alloc_new w _) (by rw [hzs]; rfl) sizeRef (by rw [hv0]; simp [rcells, Value.oneCell'])
  generalize hw1 : (w.alloc (.cells z.cells 41)).setCells w.heap.size 0 (rcells v R).toList = w1 at hst hm1 hb1
  have hm : Mod [] w w1 := ((Mod.refl [] w).alloc _).toNil hm1 (by simp)
  have hs1 : w.heap.size < w1.heap.size := lt_of_heap hb1
  have hbl := lt_of_heap h.blk
  have h' := h.kept hm (by simp) (by simp)
  have h2 := h'.kept ((Mod.refl [] w1).alloc (.cells #[] 71)) (by simp) (by simp)
  obtain ⟨i, zr, hi, hzr, hs, hby, hzsr⟩ := infoRow
  obtain ⟨v', w', hrun, ho, hma⟩ := append_all (P := Try.prog) (w := w1.alloc (.cells #[] 71)) w1.heap.size 39 71 i zr 2 24 (by kernel_rfl) hi hzr hs hby hzsr (by omega) (heap_alloc_new w1 _) (Nat.le_refl _)
    (rows_src h2.rows) (rowCells_length _ |>.trans (Nat.mul_comm _ _)) (oneCell_rows _) h.rows.max (by omega) 39
  obtain ⟨g', hg', hro⟩ := RowsAt.of_cells ho
  have hb1' := hma.heap ((heap_alloc_ne w1 (.cells #[] 71) hs1).trans hb1) (by simp only [List.mem_singleton]; omega)
  have f1 := frozen_blk hb1' 1
  have e1 : w'.cell? ⟨w.heap.size, 1, none⟩ = some v := by rw [cell_blk hb1']; rfl
  have hb3 := heap_setCell_blk hb1' 1 v'
  have hm3 := (Mod.refl [w.heap.size] w').setCell (p := ⟨w.heap.size, 1, none⟩) (by simp) v'
  have hmm : Mod [] w w' := ((hm.alloc _).toNil hma (by simp; omega))
  have HK := Lib.hid (show Mod [] w _ ∧ RefAt _ w.heap.size v' g' R from ⟨hmm.toNil hm3 (by simp), hb3, hro.kept hm3 (by simp; omega), h.after⟩)
  obtain ⟨a3, cap3, hv3, _⟩ := hro.form
  subst hv3
  subst hv0
  have c1 := h2.c1
  have HL := Lib.hid hld
  have HS := Lib.hid hst
  have HZ := Lib.hid hz
  have HW := Lib.hid hw1
  have HR := Lib.hid hrun
  clear h h' h2 hld hst hb1 hz hw1 hzs hm hm1 hrun ho hma hro hb1' hb3 hm3 hmm hi hzr hs hby hzsr
  go_enter Try.func21, Try.ntmps21
  go_wp2_with first
    | (refine wpList_load rfl (t := 41) rfl rfl HL.out ?_)
    | (refine wpList_alloc rfl (t := 41) rfl HZ.out ?_)
    | (refine wpList_store rfl (t := 41) rfl rfl rfl HS.out ?_)
    | (refine wpList_append rfl (t := 39) rfl rfl rfl HR.out ?_)
  go_ret
  exact ⟨w.heap.size, _, g', rfl, HK.out.1, HK.out.2, Nat.le_refl _, by omega, by omega⟩
end Go.Proofs.Ytnoookcfacmdkaa
