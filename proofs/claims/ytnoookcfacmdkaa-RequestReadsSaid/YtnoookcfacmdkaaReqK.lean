/- Layer 25: an operation is read. -/
import Derived.Test.YtnoookcfacmdkaaReqJ
namespace Go.Proofs.Ytnoookcfacmdkaa
open Go.RowKit Go.ChangeMaps
set_option linter.unusedSimpArgs false
set_option linter.unusedVariables false
set_option maxRecDepth 20000

/-- How an operation stands that is being read: the reader, the result's block. -/
structure St (w : World) (rb bb : Nat) (W : World) (rest : List Int) (c : Array Value) : Prop where
  rd : Rd W rb bb rest
  blk : W.heap[w.heap.size]? = some (.cells c 78 (0, 0))
  mod : Mod [rb] w W
  lt : rb < w.heap.size
  ltb : bb < w.heap.size
section
variable {w : World} {rb bb : Nat} {W W' : World} {rest rest' : List Int} {c : Array Value}
theorem St.call (h : St w rb bb W rest c) (h1 : Rd W' rb bb rest') (m1 : Mod [rb] W W') : St w rb bb W' rest' c :=
  ⟨h1, m1.heap h.blk (by have := h.lt; simp; omega), h.mod.trans m1, h.lt, h.ltb⟩
theorem St.set (h : St w rb bb W rest c) (i : Nat) (v : Value) : St w rb bb (W.setCell ⟨w.heap.size, i, none⟩ v) rest (c.setIfInBounds i v) :=
  ⟨h.rd.kept ((Mod.refl [w.heap.size] W).setCell (by simp) v) (by have := h.lt; simp; omega) (by have := h.ltb; simp; omega), heap_setCell_blk h.blk i v,
    h.mod.into ((Mod.refl [w.heap.size] W).setCell (p := ⟨w.heap.size, i, none⟩) (by simp) v) (by simp), h.lt, h.ltb⟩
theorem St.store (T : TypeId) (x z a y : List Value) (h : St w rb bb W rest (a ++ (x ++ z)).toArray) (hxy : x.length = y.length) (hi : (Try.prog.info? T).map (·.size) = some y.length) (h1 : (y.toArray : Array Value).all (·.oneCell') = true) :
    ∃ W', (Instr.storeAt T (.pointer (some ⟨w.heap.size, a.length, none⟩)) (.agg y.toArray)).run Try.prog W = .ok () W' ∧ St w rb bb W' rest (a ++ (y ++ z)).toArray := by
  refine ⟨_, run_storeAt_mid W w.heap.size a.length T y.toArray (there_blk h.blk a.length y.length (by simp; omega)) (by simpa using hi) h1, ?_⟩
  have hm : Mod [w.heap.size] W (W.setCells w.heap.size a.length y.toArray.toList) := (Mod.refl _ _).setCells (by simp) _ _
  refine ⟨h.rd.kept hm (by have := h.lt; simp; omega) (by have := h.ltb; simp; omega), ?_, h.mod.into hm (by simp), h.lt, h.ltb⟩
  rw [heap_setCells_blk w.heap.size y.toArray.toList a.length W h.blk]
  have e := setRange_mid a y x z hxy
  simp only [e]
theorem St.start (h : Rd w rb bb rest) (c : Array Value) : St w rb bb (w.alloc (.cells c 78)) rest c :=
  ⟨h.kept0 ((Mod.refl [] w).alloc _), heap_alloc_new w _, ((Mod.refl [] w).alloc _).nil, h.lt, h.ltb⟩
theorem St.to {c' : Array Value} (h : St w rb bb W rest c) (e : c = c') : St w rb bb W rest c' := e ▸ h
end
def zeroC : Array Value := #[.int .u8 0, .int .i64 0, .string ⟨#[]⟩, .int .u8 0, .int .i64 0, .int .i64 0, .int .u8 0, .int .i64 0, .int .i64 0, .int .i64 0, .string ⟨#[]⟩]

set_option maxHeartbeats 2000000 in
theorem do_k_none {w : World} {rb bb : Nat} {l : List Int} (h : Rd w rb bb l)  (B0 : Hid (Byt l)) (E0 : Hid (pNum 1 l = none)) :
    Calls Try.prog 39 #[.pointer (some ⟨rb, 0, none⟩)] w fun e w' => e = .panicked wrongP ∧ Mod [rb] w w' := by
  have S0 := Lib.hid (St.start h #[.int .u8 0, .int .i64 0, .string ⟨#[]⟩, .int .u8 0, .int .i64 0, .int .i64 0, .int .u8 0, .int .i64 0, .int .i64 0, .int .i64 0, .string ⟨#[]⟩])
  clear h
  go_enter Try.func39, Try.ntmps39
  go_wp2_with fail
  refine (rnum_any S0.out.rd B0.out 1 (by omega)).mono ?_
  rintro e w1 hr
  obtain ⟨rfl, m1⟩ := reads_none hr E0.out
  have HM := Lib.hid (S0.out.mod.trans m1)
  clear hr m1
  go_wp2_with fail
  exact ⟨rfl, rfl, HM.out⟩
set_option maxHeartbeats 2000000 in
theorem do_1_text {w : World} {rb bb : Nat} {l : List Int} (h : Rd w rb bb l) {r1 : List Int} (B0 : Hid (Byt l)) (B1 : Hid (Byt r1)) (E0 : Hid (pNum 1 l = some (1, r1))) (E1 : Hid (pText 1 r1 = none)) :
    Calls Try.prog 39 #[.pointer (some ⟨rb, 0, none⟩)] w fun e w' => e = .panicked wrongP ∧ Mod [rb] w w' := by
  have S0 := Lib.hid (St.start h #[.int .u8 0, .int .i64 0, .string ⟨#[]⟩, .int .u8 0, .int .i64 0, .int .i64 0, .int .u8 0, .int .i64 0, .int .i64 0, .int .i64 0, .string ⟨#[]⟩])
  clear h
  go_enter Try.func39, Try.ntmps39
  go_wp2_with fail
  refine (rnum_any S0.out.rd B0.out 1 (by omega)).mono ?_
  rintro e w1 hr
  obtain ⟨rfl, h1, m1⟩ := reads_some hr E0.out
  have S1 := Lib.hid (S0.out.call h1 m1)
  clear hr h1 m1
  have q := cell_blk S1.out.blk 0
  have fz := frozen_blk S1.out.blk 0
  simp only [List.getElem?_toArray, List.getElem?_cons_succ, List.getElem?_cons_zero] at q
  have S2 := Lib.hid ((S1.out.set 0 (.int .u8 1)).to (c' := #[.int .u8 1, .int .i64 0, .string ⟨#[]⟩, .int .u8 0, .int .i64 0, .int .i64 0, .int .u8 0, .int .i64 0, .int .i64 0, .int .i64 0, .string ⟨#[]⟩]) (by simp))
  have p0 := cell_blk S2.out.blk 0
  simp only [List.getElem?_toArray, List.getElem?_cons_zero] at p0
  go_wp2_with fail
  clear p0 q fz
  refine (rtext_any S2.out.rd B1.out 1 (by omega)).mono ?_
  rintro e w2 hr
  obtain ⟨rfl, m1⟩ := reads_none hr E1.out
  have HM := Lib.hid (S2.out.mod.trans m1)
  clear hr m1
  go_wp2_with fail
  exact ⟨rfl, rfl, HM.out⟩
set_option maxHeartbeats 2000000 in
theorem do_1_kind {w : World} {rb bb : Nat} {l : List Int} (h : Rd w rb bb l) {nm : ByteArray} {r1 : List Int} {r2 : List Int} (B0 : Hid (Byt l)) (B1 : Hid (Byt r1)) (B2 : Hid (Byt r2)) (E0 : Hid (pNum 1 l = some (1, r1))) (E1 : Hid (pText 1 r1 = some (nm, r2))) (E2 : Hid (pNum 1 r2 = none)) :
    Calls Try.prog 39 #[.pointer (some ⟨rb, 0, none⟩)] w fun e w' => e = .panicked wrongP ∧ Mod [rb] w w' := by
  have S0 := Lib.hid (St.start h #[.int .u8 0, .int .i64 0, .string ⟨#[]⟩, .int .u8 0, .int .i64 0, .int .i64 0, .int .u8 0, .int .i64 0, .int .i64 0, .int .i64 0, .string ⟨#[]⟩])
  clear h
  go_enter Try.func39, Try.ntmps39
  go_wp2_with fail
  refine (rnum_any S0.out.rd B0.out 1 (by omega)).mono ?_
  rintro e w1 hr
  obtain ⟨rfl, h1, m1⟩ := reads_some hr E0.out
  have S1 := Lib.hid (S0.out.call h1 m1)
  clear hr h1 m1
  have q := cell_blk S1.out.blk 0
  have fz := frozen_blk S1.out.blk 0
  simp only [List.getElem?_toArray, List.getElem?_cons_succ, List.getElem?_cons_zero] at q
  have S2 := Lib.hid ((S1.out.set 0 (.int .u8 1)).to (c' := #[.int .u8 1, .int .i64 0, .string ⟨#[]⟩, .int .u8 0, .int .i64 0, .int .i64 0, .int .u8 0, .int .i64 0, .int .i64 0, .int .i64 0, .string ⟨#[]⟩]) (by simp))
  have p0 := cell_blk S2.out.blk 0
  simp only [List.getElem?_toArray, List.getElem?_cons_zero] at p0
  go_wp2_with fail
  clear p0 q fz
  refine (rtext_any S2.out.rd B1.out 1 (by omega)).mono ?_
  rintro e w2 hr
  obtain ⟨rfl, h1, m1⟩ := reads_some hr E1.out
  have S3 := Lib.hid (S2.out.call h1 m1)
  clear hr h1 m1
  have q := cell_blk S3.out.blk 2
  have fz := frozen_blk S3.out.blk 2
  simp only [List.getElem?_toArray, List.getElem?_cons_succ, List.getElem?_cons_zero] at q
  have S4 := Lib.hid ((S3.out.set 2 (.string nm)).to (c' := #[.int .u8 1, .int .i64 0, .string nm, .int .u8 0, .int .i64 0, .int .i64 0, .int .u8 0, .int .i64 0, .int .i64 0, .int .i64 0, .string ⟨#[]⟩]) (by simp))
  have p0 := cell_blk S4.out.blk 0
  simp only [List.getElem?_toArray, List.getElem?_cons_zero] at p0
  go_wp2_with fail
  clear p0 q fz
  refine (rnum_any S4.out.rd B2.out 1 (by omega)).mono ?_
  rintro e w3 hr
  obtain ⟨rfl, m1⟩ := reads_none hr E2.out
  have HM := Lib.hid (S4.out.mod.trans m1)
  clear hr m1
  go_wp2_with fail
  exact ⟨rfl, rfl, HM.out⟩
set_option maxHeartbeats 2000000 in
theorem do_1_all {w : World} {rb bb : Nat} {l : List Int} (h : Rd w rb bb l) {fk : Int} {nm : ByteArray} {r1 : List Int} {r2 : List Int} {r3 : List Int} (B0 : Hid (Byt l)) (B1 : Hid (Byt r1)) (B2 : Hid (Byt r2)) (hf : 0 ≤ fk ∧ fk < 256) (E0 : Hid (pNum 1 l = some (1, r1))) (E1 : Hid (pText 1 r1 = some (nm, r2))) (E2 : Hid (pNum 1 r2 = some (fk, r3))) :
    Calls Try.prog 39 #[.pointer (some ⟨rb, 0, none⟩)] w fun e w' => e = .returned (.agg #[.int .u8 1, .int .i64 0, .string nm, .int .u8 fk, .int .i64 0, .int .i64 0, .int .u8 0, .int .i64 0, .int .i64 0, .int .i64 0, .string ⟨#[]⟩]) ∧ Rd w' rb bb r3 ∧ Mod [rb] w w' := by
  have S0 := Lib.hid (St.start h #[.int .u8 0, .int .i64 0, .string ⟨#[]⟩, .int .u8 0, .int .i64 0, .int .i64 0, .int .u8 0, .int .i64 0, .int .i64 0, .int .i64 0, .string ⟨#[]⟩])
  clear h
  have hf0 := hf.1
  have hf1 := hf.2
  clear hf
  go_enter Try.func39, Try.ntmps39
  go_wp2_with fail
  refine (rnum_any S0.out.rd B0.out 1 (by omega)).mono ?_
  rintro e w1 hr
  obtain ⟨rfl, h1, m1⟩ := reads_some hr E0.out
  have S1 := Lib.hid (S0.out.call h1 m1)
  clear hr h1 m1
  have q := cell_blk S1.out.blk 0
  have fz := frozen_blk S1.out.blk 0
  simp only [List.getElem?_toArray, List.getElem?_cons_succ, List.getElem?_cons_zero] at q
  have S2 := Lib.hid ((S1.out.set 0 (.int .u8 1)).to (c' := #[.int .u8 1, .int .i64 0, .string ⟨#[]⟩, .int .u8 0, .int .i64 0, .int .i64 0, .int .u8 0, .int .i64 0, .int .i64 0, .int .i64 0, .string ⟨#[]⟩]) (by simp))
  have p0 := cell_blk S2.out.blk 0
  simp only [List.getElem?_toArray, List.getElem?_cons_zero] at p0
  go_wp2_with fail
  clear p0 q fz
  refine (rtext_any S2.out.rd B1.out 1 (by omega)).mono ?_
  rintro e w2 hr
  obtain ⟨rfl, h1, m1⟩ := reads_some hr E1.out
  have S3 := Lib.hid (S2.out.call h1 m1)
  clear hr h1 m1
  have q := cell_blk S3.out.blk 2
  have fz := frozen_blk S3.out.blk 2
  simp only [List.getElem?_toArray, List.getElem?_cons_succ, List.getElem?_cons_zero] at q
  have S4 := Lib.hid ((S3.out.set 2 (.string nm)).to (c' := #[.int .u8 1, .int .i64 0, .string nm, .int .u8 0, .int .i64 0, .int .i64 0, .int .u8 0, .int .i64 0, .int .i64 0, .int .i64 0, .string ⟨#[]⟩]) (by simp))
  have p0 := cell_blk S4.out.blk 0
  simp only [List.getElem?_toArray, List.getElem?_cons_zero] at p0
  go_wp2_with fail
  clear p0 q fz
  refine (rnum_any S4.out.rd B2.out 1 (by omega)).mono ?_
  rintro e w3 hr
  obtain ⟨rfl, h1, m1⟩ := reads_some hr E2.out
  have S5 := Lib.hid (S4.out.call h1 m1)
  clear hr h1 m1
  have q := cell_blk S5.out.blk 3
  have fz := frozen_blk S5.out.blk 3
  simp only [List.getElem?_toArray, List.getElem?_cons_succ, List.getElem?_cons_zero] at q
  have S6 := Lib.hid ((S5.out.set 3 (.int .u8 fk)).to (c' := #[.int .u8 1, .int .i64 0, .string nm, .int .u8 fk, .int .i64 0, .int .i64 0, .int .u8 0, .int .i64 0, .int .i64 0, .int .i64 0, .string ⟨#[]⟩]) (by simp))
  have hld := load_blk (P := Try.prog) 78 S6.out.blk Try.underlying78 rfl sizeDo
  obtain ⟨wf, hfs, hmf, hbf⟩ := store_ret (c := #[.int .u8 1, .int .i64 0, .string nm, .int .u8 fk, .int .i64 0, .int .i64 0, .int .u8 0, .int .i64 0, .int .i64 0, .int .i64 0, .string ⟨#[]⟩]) 78 S6.out.blk rfl sizeDo (by simp [Value.oneCell'])
  have HLD := Lib.hid hld
  have HFS := Lib.hid hfs
  have HRD := Lib.hid (S6.out.rd.kept hmf (by have := S6.out.lt; simp; omega) (by have := S6.out.ltb; simp; omega))
  have HMF := Lib.hid (S6.out.mod.into hmf (by simp))
  have z0 := cell_blk hbf 0
  have z1 := cell_blk hbf 1
  have z2 := cell_blk hbf 2
  have z3 := cell_blk hbf 3
  have z4 := cell_blk hbf 4
  have z5 := cell_blk hbf 5
  have z6 := cell_blk hbf 6
  have z7 := cell_blk hbf 7
  have z8 := cell_blk hbf 8
  have z9 := cell_blk hbf 9
  have z10 := cell_blk hbf 10
  simp only [List.getElem?_toArray, List.getElem?_cons_succ, List.getElem?_cons_zero] at z0 z1 z2 z3 z4 z5 z6 z7 z8 z9 z10
  clear hld hfs hmf hbf
  have p0 := cell_blk S6.out.blk 0
  simp only [List.getElem?_toArray, List.getElem?_cons_zero] at p0
  go_wp2_with (first | ((with_reducible refine xLoadAt rfl HLD.out ?_ ?_ ?_); exact rfl; exact rfl) | ((with_reducible refine xStoreAt rfl HFS.out ?_ ?_ ?_ ?_); exact rfl; exact rfl; exact rfl))
  exact bodyPost_ret (v := .agg #[.int .u8 1, .int .i64 0, .string nm, .int .u8 fk, .int .i64 0, .int .i64 0, .int .u8 0, .int .i64 0, .int .i64 0, .int .i64 0, .string ⟨#[]⟩]) (by simp [results, Try.results39, go_sem, z0, z1, z2, z3, z4, z5, z6, z7, z8, z9, z10]) rfl ⟨rfl, HRD.out, HMF.out⟩
set_option maxHeartbeats 2000000 in
theorem do_f_none {w : World} {rb bb : Nat} {l : List Int} (h : Rd w rb bb l) {k : Int} {r1 : List Int} (B0 : Hid (Byt l)) (B1 : Hid (Byt r1)) (hk : 0 ≤ k ∧ k < 256) (k1 : ¬ k = 1) (E0 : Hid (pNum 1 l = some (k, r1))) (E1 : Hid (pNum 1 r1 = none)) :
    Calls Try.prog 39 #[.pointer (some ⟨rb, 0, none⟩)] w fun e w' => e = .panicked wrongP ∧ Mod [rb] w w' := by
  have S0 := Lib.hid (St.start h #[.int .u8 0, .int .i64 0, .string ⟨#[]⟩, .int .u8 0, .int .i64 0, .int .i64 0, .int .u8 0, .int .i64 0, .int .i64 0, .int .i64 0, .string ⟨#[]⟩])
  clear h
  have hk0 := hk.1
  have hk1 := hk.2
  clear hk
  go_enter Try.func39, Try.ntmps39
  go_wp2_with fail
  refine (rnum_any S0.out.rd B0.out 1 (by omega)).mono ?_
  rintro e w1 hr
  obtain ⟨rfl, h1, m1⟩ := reads_some hr E0.out
  have S1 := Lib.hid (S0.out.call h1 m1)
  clear hr h1 m1
  have q := cell_blk S1.out.blk 0
  have fz := frozen_blk S1.out.blk 0
  simp only [List.getElem?_toArray, List.getElem?_cons_succ, List.getElem?_cons_zero] at q
  have S2 := Lib.hid ((S1.out.set 0 (.int .u8 k)).to (c' := #[.int .u8 k, .int .i64 0, .string ⟨#[]⟩, .int .u8 0, .int .i64 0, .int .i64 0, .int .u8 0, .int .i64 0, .int .i64 0, .int .i64 0, .string ⟨#[]⟩]) (by simp))
  have p0 := cell_blk S2.out.blk 0
  simp only [List.getElem?_toArray, List.getElem?_cons_zero] at p0
  go_wp2_with fail
  clear p0 q fz
  refine (rnum_any S2.out.rd B1.out 1 (by omega)).mono ?_
  rintro e w2 hr
  obtain ⟨rfl, m1⟩ := reads_none hr E1.out
  have HM := Lib.hid (S2.out.mod.trans m1)
  clear hr m1
  go_wp2_with fail
  exact ⟨rfl, rfl, HM.out⟩
set_option maxHeartbeats 2000000 in
theorem do_other {w : World} {rb bb : Nat} {l : List Int} (h : Rd w rb bb l) {k : Int} {f : Int} {r1 : List Int} {r2 : List Int} (B0 : Hid (Byt l)) (B1 : Hid (Byt r1)) (hk : 0 ≤ k ∧ k < 256) (hf : 0 ≤ f ∧ f < 256) (k1 : ¬ k = 1) (k2 : ¬ k = 2) (k3 : ¬ k = 3) (k4 : ¬ k = 4) (k6 : ¬ k = 6) (E0 : Hid (pNum 1 l = some (k, r1))) (E1 : Hid (pNum 1 r1 = some (f, r2))) :
    Calls Try.prog 39 #[.pointer (some ⟨rb, 0, none⟩)] w fun e w' => e = .returned (.agg #[.int .u8 k, .int .i64 f, .string ⟨#[]⟩, .int .u8 0, .int .i64 0, .int .i64 0, .int .u8 0, .int .i64 0, .int .i64 0, .int .i64 0, .string ⟨#[]⟩]) ∧ Rd w' rb bb r2 ∧ Mod [rb] w w' := by
  have S0 := Lib.hid (St.start h #[.int .u8 0, .int .i64 0, .string ⟨#[]⟩, .int .u8 0, .int .i64 0, .int .i64 0, .int .u8 0, .int .i64 0, .int .i64 0, .int .i64 0, .string ⟨#[]⟩])
  clear h
  have hk0 := hk.1
  have hk1 := hk.2
  clear hk
  have hf0 := hf.1
  have hf1 := hf.2
  clear hf
  go_enter Try.func39, Try.ntmps39
  go_wp2_with fail
  refine (rnum_any S0.out.rd B0.out 1 (by omega)).mono ?_
  rintro e w1 hr
  obtain ⟨rfl, h1, m1⟩ := reads_some hr E0.out
  have S1 := Lib.hid (S0.out.call h1 m1)
  clear hr h1 m1
  have q := cell_blk S1.out.blk 0
  have fz := frozen_blk S1.out.blk 0
  simp only [List.getElem?_toArray, List.getElem?_cons_succ, List.getElem?_cons_zero] at q
  have S2 := Lib.hid ((S1.out.set 0 (.int .u8 k)).to (c' := #[.int .u8 k, .int .i64 0, .string ⟨#[]⟩, .int .u8 0, .int .i64 0, .int .i64 0, .int .u8 0, .int .i64 0, .int .i64 0, .int .i64 0, .string ⟨#[]⟩]) (by simp))
  have p0 := cell_blk S2.out.blk 0
  simp only [List.getElem?_toArray, List.getElem?_cons_zero] at p0
  go_wp2_with fail
  clear p0 q fz
  refine (rnum_any S2.out.rd B1.out 1 (by omega)).mono ?_
  rintro e w2 hr
  obtain ⟨rfl, h1, m1⟩ := reads_some hr E1.out
  have S3 := Lib.hid (S2.out.call h1 m1)
  clear hr h1 m1
  have q := cell_blk S3.out.blk 1
  have fz := frozen_blk S3.out.blk 1
  simp only [List.getElem?_toArray, List.getElem?_cons_succ, List.getElem?_cons_zero] at q
  have S4 := Lib.hid ((S3.out.set 1 (.int .i64 f)).to (c' := #[.int .u8 k, .int .i64 f, .string ⟨#[]⟩, .int .u8 0, .int .i64 0, .int .i64 0, .int .u8 0, .int .i64 0, .int .i64 0, .int .i64 0, .string ⟨#[]⟩]) (by simp))
  have hld := load_blk (P := Try.prog) 78 S4.out.blk Try.underlying78 rfl sizeDo
  obtain ⟨wf, hfs, hmf, hbf⟩ := store_ret (c := #[.int .u8 k, .int .i64 f, .string ⟨#[]⟩, .int .u8 0, .int .i64 0, .int .i64 0, .int .u8 0, .int .i64 0, .int .i64 0, .int .i64 0, .string ⟨#[]⟩]) 78 S4.out.blk rfl sizeDo (by simp [Value.oneCell'])
  have HLD := Lib.hid hld
  have HFS := Lib.hid hfs
  have HRD := Lib.hid (S4.out.rd.kept hmf (by have := S4.out.lt; simp; omega) (by have := S4.out.ltb; simp; omega))
  have HMF := Lib.hid (S4.out.mod.into hmf (by simp))
  have z0 := cell_blk hbf 0
  have z1 := cell_blk hbf 1
  have z2 := cell_blk hbf 2
  have z3 := cell_blk hbf 3
  have z4 := cell_blk hbf 4
  have z5 := cell_blk hbf 5
  have z6 := cell_blk hbf 6
  have z7 := cell_blk hbf 7
  have z8 := cell_blk hbf 8
  have z9 := cell_blk hbf 9
  have z10 := cell_blk hbf 10
  simp only [List.getElem?_toArray, List.getElem?_cons_succ, List.getElem?_cons_zero] at z0 z1 z2 z3 z4 z5 z6 z7 z8 z9 z10
  clear hld hfs hmf hbf
  have p0 := cell_blk S4.out.blk 0
  simp only [List.getElem?_toArray, List.getElem?_cons_zero] at p0
  go_wp2_with (first | ((with_reducible refine xLoadAt rfl HLD.out ?_ ?_ ?_); exact rfl; exact rfl) | ((with_reducible refine xStoreAt rfl HFS.out ?_ ?_ ?_ ?_); exact rfl; exact rfl; exact rfl))
  exact bodyPost_ret (v := .agg #[.int .u8 k, .int .i64 f, .string ⟨#[]⟩, .int .u8 0, .int .i64 0, .int .i64 0, .int .u8 0, .int .i64 0, .int .i64 0, .int .i64 0, .string ⟨#[]⟩]) (by simp [results, Try.results39, go_sem, z0, z1, z2, z3, z4, z5, z6, z7, z8, z9, z10]) rfl ⟨rfl, HRD.out, HMF.out⟩
set_option maxHeartbeats 2000000 in
theorem do_3_none {w : World} {rb bb : Nat} {l : List Int} (h : Rd w rb bb l) {f : Int} {r1 : List Int} {r2 : List Int} (B0 : Hid (Byt l)) (B1 : Hid (Byt r1)) (B2 : Hid (Byt r2)) (hf : 0 ≤ f ∧ f < 256) (E0 : Hid (pNum 1 l = some (3, r1))) (E1 : Hid (pNum 1 r1 = some (f, r2))) (E2 : Hid (pSpan r2 = none)) :
    Calls Try.prog 39 #[.pointer (some ⟨rb, 0, none⟩)] w fun e w' => e = .panicked wrongP ∧ Mod [rb] w w' := by
  have S0 := Lib.hid (St.start h #[.int .u8 0, .int .i64 0, .string ⟨#[]⟩, .int .u8 0, .int .i64 0, .int .i64 0, .int .u8 0, .int .i64 0, .int .i64 0, .int .i64 0, .string ⟨#[]⟩])
  clear h
  have hf0 := hf.1
  have hf1 := hf.2
  clear hf
  go_enter Try.func39, Try.ntmps39
  go_wp2_with fail
  refine (rnum_any S0.out.rd B0.out 1 (by omega)).mono ?_
  rintro e w1 hr
  obtain ⟨rfl, h1, m1⟩ := reads_some hr E0.out
  have S1 := Lib.hid (S0.out.call h1 m1)
  clear hr h1 m1
  have q := cell_blk S1.out.blk 0
  have fz := frozen_blk S1.out.blk 0
  simp only [List.getElem?_toArray, List.getElem?_cons_succ, List.getElem?_cons_zero] at q
  have S2 := Lib.hid ((S1.out.set 0 (.int .u8 3)).to (c' := #[.int .u8 3, .int .i64 0, .string ⟨#[]⟩, .int .u8 0, .int .i64 0, .int .i64 0, .int .u8 0, .int .i64 0, .int .i64 0, .int .i64 0, .string ⟨#[]⟩]) (by simp))
  have p0 := cell_blk S2.out.blk 0
  simp only [List.getElem?_toArray, List.getElem?_cons_zero] at p0
  go_wp2_with fail
  clear p0 q fz
  refine (rnum_any S2.out.rd B1.out 1 (by omega)).mono ?_
  rintro e w2 hr
  obtain ⟨rfl, h1, m1⟩ := reads_some hr E1.out
  have S3 := Lib.hid (S2.out.call h1 m1)
  clear hr h1 m1
  have q := cell_blk S3.out.blk 1
  have fz := frozen_blk S3.out.blk 1
  simp only [List.getElem?_toArray, List.getElem?_cons_succ, List.getElem?_cons_zero] at q
  have S4 := Lib.hid ((S3.out.set 1 (.int .i64 f)).to (c' := #[.int .u8 3, .int .i64 f, .string ⟨#[]⟩, .int .u8 0, .int .i64 0, .int .i64 0, .int .u8 0, .int .i64 0, .int .i64 0, .int .i64 0, .string ⟨#[]⟩]) (by simp))
  have p0 := cell_blk S4.out.blk 0
  simp only [List.getElem?_toArray, List.getElem?_cons_zero] at p0
  go_wp2_with fail
  clear p0 q fz
  refine (rspan_any S4.out.rd B2.out).mono ?_
  rintro e w3 hr
  obtain ⟨rfl, m1⟩ := reads_none hr E2.out
  have HM := Lib.hid (S4.out.mod.trans m1)
  clear hr m1
  go_wp2_with fail
  exact ⟨rfl, rfl, HM.out⟩
set_option maxHeartbeats 2000000 in
theorem do_3_all {w : World} {rb bb : Nat} {l : List Int} (h : Rd w rb bb l) {f : Int} {r1 : List Int} {r2 : List Int} {r3 : List Int} {xs : Int × Int} (B0 : Hid (Byt l)) (B1 : Hid (Byt r1)) (B2 : Hid (Byt r2)) (hf : 0 ≤ f ∧ f < 256) (E0 : Hid (pNum 1 l = some (3, r1))) (E1 : Hid (pNum 1 r1 = some (f, r2))) (E2 : Hid (pSpan r2 = some (xs, r3))) :
    Calls Try.prog 39 #[.pointer (some ⟨rb, 0, none⟩)] w fun e w' => e = .returned (.agg #[.int .u8 3, .int .i64 f, .string ⟨#[]⟩, .int .u8 0, .int .i64 xs.1, .int .i64 xs.2, .int .u8 0, .int .i64 0, .int .i64 0, .int .i64 0, .string ⟨#[]⟩]) ∧ Rd w' rb bb r3 ∧ Mod [rb] w w' := by
  have S0 := Lib.hid (St.start h #[.int .u8 0, .int .i64 0, .string ⟨#[]⟩, .int .u8 0, .int .i64 0, .int .i64 0, .int .u8 0, .int .i64 0, .int .i64 0, .int .i64 0, .string ⟨#[]⟩])
  clear h
  have hf0 := hf.1
  have hf1 := hf.2
  clear hf
  go_enter Try.func39, Try.ntmps39
  go_wp2_with fail
  refine (rnum_any S0.out.rd B0.out 1 (by omega)).mono ?_
  rintro e w1 hr
  obtain ⟨rfl, h1, m1⟩ := reads_some hr E0.out
  have S1 := Lib.hid (S0.out.call h1 m1)
  clear hr h1 m1
  have q := cell_blk S1.out.blk 0
  have fz := frozen_blk S1.out.blk 0
  simp only [List.getElem?_toArray, List.getElem?_cons_succ, List.getElem?_cons_zero] at q
  have S2 := Lib.hid ((S1.out.set 0 (.int .u8 3)).to (c' := #[.int .u8 3, .int .i64 0, .string ⟨#[]⟩, .int .u8 0, .int .i64 0, .int .i64 0, .int .u8 0, .int .i64 0, .int .i64 0, .int .i64 0, .string ⟨#[]⟩]) (by simp))
  have p0 := cell_blk S2.out.blk 0
  simp only [List.getElem?_toArray, List.getElem?_cons_zero] at p0
  go_wp2_with fail
  clear p0 q fz
  refine (rnum_any S2.out.rd B1.out 1 (by omega)).mono ?_
  rintro e w2 hr
  obtain ⟨rfl, h1, m1⟩ := reads_some hr E1.out
  have S3 := Lib.hid (S2.out.call h1 m1)
  clear hr h1 m1
  have q := cell_blk S3.out.blk 1
  have fz := frozen_blk S3.out.blk 1
  simp only [List.getElem?_toArray, List.getElem?_cons_succ, List.getElem?_cons_zero] at q
  have S4 := Lib.hid ((S3.out.set 1 (.int .i64 f)).to (c' := #[.int .u8 3, .int .i64 f, .string ⟨#[]⟩, .int .u8 0, .int .i64 0, .int .i64 0, .int .u8 0, .int .i64 0, .int .i64 0, .int .i64 0, .string ⟨#[]⟩]) (by simp))
  have p0 := cell_blk S4.out.blk 0
  simp only [List.getElem?_toArray, List.getElem?_cons_zero] at p0
  go_wp2_with fail
  clear p0 q fz
  refine (rspan_any S4.out.rd B2.out).mono ?_
  rintro e w3 hr
  obtain ⟨rfl, h1, m1⟩ := reads_some hr E2.out
  have S5 := Lib.hid (S4.out.call h1 m1)
  clear hr h1 m1
  obtain ⟨wx2, hst, sx⟩ := St.store 52 [.int .i64 0, .int .i64 0] [.int .u8 0, .int .i64 0, .int .i64 0, .int .i64 0, .string ⟨#[]⟩] [.int .u8 3, .int .i64 f, .string ⟨#[]⟩, .int .u8 0] [.int .i64 xs.1, .int .i64 xs.2] S5.out rfl (by kernel_rfl) (by simp [Value.oneCell'])
  have HST2 := Lib.hid hst
  have S6 := Lib.hid (sx.to (c' := #[.int .u8 3, .int .i64 f, .string ⟨#[]⟩, .int .u8 0, .int .i64 xs.1, .int .i64 xs.2, .int .u8 0, .int .i64 0, .int .i64 0, .int .i64 0, .string ⟨#[]⟩]) (by simp))
  clear hst sx
  have hld := load_blk (P := Try.prog) 78 S6.out.blk Try.underlying78 rfl sizeDo
  obtain ⟨wf, hfs, hmf, hbf⟩ := store_ret (c := #[.int .u8 3, .int .i64 f, .string ⟨#[]⟩, .int .u8 0, .int .i64 xs.1, .int .i64 xs.2, .int .u8 0, .int .i64 0, .int .i64 0, .int .i64 0, .string ⟨#[]⟩]) 78 S6.out.blk rfl sizeDo (by simp [Value.oneCell'])
  have HLD := Lib.hid hld
  have HFS := Lib.hid hfs
  have HRD := Lib.hid (S6.out.rd.kept hmf (by have := S6.out.lt; simp; omega) (by have := S6.out.ltb; simp; omega))
  have HMF := Lib.hid (S6.out.mod.into hmf (by simp))
  have z0 := cell_blk hbf 0
  have z1 := cell_blk hbf 1
  have z2 := cell_blk hbf 2
  have z3 := cell_blk hbf 3
  have z4 := cell_blk hbf 4
  have z5 := cell_blk hbf 5
  have z6 := cell_blk hbf 6
  have z7 := cell_blk hbf 7
  have z8 := cell_blk hbf 8
  have z9 := cell_blk hbf 9
  have z10 := cell_blk hbf 10
  simp only [List.getElem?_toArray, List.getElem?_cons_succ, List.getElem?_cons_zero] at z0 z1 z2 z3 z4 z5 z6 z7 z8 z9 z10
  clear hld hfs hmf hbf
  have p0 := cell_blk S6.out.blk 0
  simp only [List.getElem?_toArray, List.getElem?_cons_zero] at p0
  go_wp2_with (first | ((with_reducible refine xStoreAt rfl HST2.out ?_ ?_ ?_ ?_); exact rfl; exact rfl; exact rfl) | ((with_reducible refine xLoadAt rfl HLD.out ?_ ?_ ?_); exact rfl; exact rfl) | ((with_reducible refine xStoreAt rfl HFS.out ?_ ?_ ?_ ?_); exact rfl; exact rfl; exact rfl))
  exact bodyPost_ret (v := .agg #[.int .u8 3, .int .i64 f, .string ⟨#[]⟩, .int .u8 0, .int .i64 xs.1, .int .i64 xs.2, .int .u8 0, .int .i64 0, .int .i64 0, .int .i64 0, .string ⟨#[]⟩]) (by simp [results, Try.results39, go_sem, z0, z1, z2, z3, z4, z5, z6, z7, z8, z9, z10]) rfl ⟨rfl, HRD.out, HMF.out⟩
set_option maxHeartbeats 2000000 in
theorem do_2_span {w : World} {rb bb : Nat} {l : List Int} (h : Rd w rb bb l) {f : Int} {r1 : List Int} {r2 : List Int} (B0 : Hid (Byt l)) (B1 : Hid (Byt r1)) (B2 : Hid (Byt r2)) (hf : 0 ≤ f ∧ f < 256) (E0 : Hid (pNum 1 l = some (2, r1))) (E1 : Hid (pNum 1 r1 = some (f, r2))) (E2 : Hid (pSpan r2 = none)) :
    Calls Try.prog 39 #[.pointer (some ⟨rb, 0, none⟩)] w fun e w' => e = .panicked wrongP ∧ Mod [rb] w w' := by
  have S0 := Lib.hid (St.start h #[.int .u8 0, .int .i64 0, .string ⟨#[]⟩, .int .u8 0, .int .i64 0, .int .i64 0, .int .u8 0, .int .i64 0, .int .i64 0, .int .i64 0, .string ⟨#[]⟩])
  clear h
  have hf0 := hf.1
  have hf1 := hf.2
  clear hf
  go_enter Try.func39, Try.ntmps39
  go_wp2_with fail
  refine (rnum_any S0.out.rd B0.out 1 (by omega)).mono ?_
  rintro e w1 hr
  obtain ⟨rfl, h1, m1⟩ := reads_some hr E0.out
  have S1 := Lib.hid (S0.out.call h1 m1)
  clear hr h1 m1
  have q := cell_blk S1.out.blk 0
  have fz := frozen_blk S1.out.blk 0
  simp only [List.getElem?_toArray, List.getElem?_cons_succ, List.getElem?_cons_zero] at q
  have S2 := Lib.hid ((S1.out.set 0 (.int .u8 2)).to (c' := #[.int .u8 2, .int .i64 0, .string ⟨#[]⟩, .int .u8 0, .int .i64 0, .int .i64 0, .int .u8 0, .int .i64 0, .int .i64 0, .int .i64 0, .string ⟨#[]⟩]) (by simp))
  have p0 := cell_blk S2.out.blk 0
  simp only [List.getElem?_toArray, List.getElem?_cons_zero] at p0
  go_wp2_with fail
  clear p0 q fz
  refine (rnum_any S2.out.rd B1.out 1 (by omega)).mono ?_
  rintro e w2 hr
  obtain ⟨rfl, h1, m1⟩ := reads_some hr E1.out
  have S3 := Lib.hid (S2.out.call h1 m1)
  clear hr h1 m1
  have q := cell_blk S3.out.blk 1
  have fz := frozen_blk S3.out.blk 1
  simp only [List.getElem?_toArray, List.getElem?_cons_succ, List.getElem?_cons_zero] at q
  have S4 := Lib.hid ((S3.out.set 1 (.int .i64 f)).to (c' := #[.int .u8 2, .int .i64 f, .string ⟨#[]⟩, .int .u8 0, .int .i64 0, .int .i64 0, .int .u8 0, .int .i64 0, .int .i64 0, .int .i64 0, .string ⟨#[]⟩]) (by simp))
  have p0 := cell_blk S4.out.blk 0
  simp only [List.getElem?_toArray, List.getElem?_cons_zero] at p0
  go_wp2_with fail
  clear p0 q fz
  refine (rspan_any S4.out.rd B2.out).mono ?_
  rintro e w3 hr
  obtain ⟨rfl, m1⟩ := reads_none hr E2.out
  have HM := Lib.hid (S4.out.mod.trans m1)
  clear hr m1
  go_wp2_with fail
  exact ⟨rfl, rfl, HM.out⟩
set_option maxHeartbeats 2000000 in
theorem do_2_value {w : World} {rb bb : Nat} {l : List Int} (h : Rd w rb bb l) {f : Int} {r1 : List Int} {r2 : List Int} {r3 : List Int} {xs : Int × Int} (B0 : Hid (Byt l)) (B1 : Hid (Byt r1)) (B2 : Hid (Byt r2)) (hf : 0 ≤ f ∧ f < 256) (E0 : Hid (pNum 1 l = some (2, r1))) (E1 : Hid (pNum 1 r1 = some (f, r2))) (B3 : Hid (Byt r3)) (E2 : Hid (pSpan r2 = some (xs, r3))) (E3 : Hid (pVal r3 = none)) :
    Calls Try.prog 39 #[.pointer (some ⟨rb, 0, none⟩)] w fun e w' => e = .panicked wrongP ∧ Mod [rb] w w' := by
  have S0 := Lib.hid (St.start h #[.int .u8 0, .int .i64 0, .string ⟨#[]⟩, .int .u8 0, .int .i64 0, .int .i64 0, .int .u8 0, .int .i64 0, .int .i64 0, .int .i64 0, .string ⟨#[]⟩])
  clear h
  have hf0 := hf.1
  have hf1 := hf.2
  clear hf
  go_enter Try.func39, Try.ntmps39
  go_wp2_with fail
  refine (rnum_any S0.out.rd B0.out 1 (by omega)).mono ?_
  rintro e w1 hr
  obtain ⟨rfl, h1, m1⟩ := reads_some hr E0.out
  have S1 := Lib.hid (S0.out.call h1 m1)
  clear hr h1 m1
  have q := cell_blk S1.out.blk 0
  have fz := frozen_blk S1.out.blk 0
  simp only [List.getElem?_toArray, List.getElem?_cons_succ, List.getElem?_cons_zero] at q
  have S2 := Lib.hid ((S1.out.set 0 (.int .u8 2)).to (c' := #[.int .u8 2, .int .i64 0, .string ⟨#[]⟩, .int .u8 0, .int .i64 0, .int .i64 0, .int .u8 0, .int .i64 0, .int .i64 0, .int .i64 0, .string ⟨#[]⟩]) (by simp))
  have p0 := cell_blk S2.out.blk 0
  simp only [List.getElem?_toArray, List.getElem?_cons_zero] at p0
  go_wp2_with fail
  clear p0 q fz
  refine (rnum_any S2.out.rd B1.out 1 (by omega)).mono ?_
  rintro e w2 hr
  obtain ⟨rfl, h1, m1⟩ := reads_some hr E1.out
  have S3 := Lib.hid (S2.out.call h1 m1)
  clear hr h1 m1
  have q := cell_blk S3.out.blk 1
  have fz := frozen_blk S3.out.blk 1
  simp only [List.getElem?_toArray, List.getElem?_cons_succ, List.getElem?_cons_zero] at q
  have S4 := Lib.hid ((S3.out.set 1 (.int .i64 f)).to (c' := #[.int .u8 2, .int .i64 f, .string ⟨#[]⟩, .int .u8 0, .int .i64 0, .int .i64 0, .int .u8 0, .int .i64 0, .int .i64 0, .int .i64 0, .string ⟨#[]⟩]) (by simp))
  have p0 := cell_blk S4.out.blk 0
  simp only [List.getElem?_toArray, List.getElem?_cons_zero] at p0
  go_wp2_with fail
  clear p0 q fz
  refine (rspan_any S4.out.rd B2.out).mono ?_
  rintro e w3 hr
  obtain ⟨rfl, h1, m1⟩ := reads_some hr E2.out
  have S5 := Lib.hid (S4.out.call h1 m1)
  clear hr h1 m1
  obtain ⟨wx2, hst, sx⟩ := St.store 52 [.int .i64 0, .int .i64 0] [.int .u8 0, .int .i64 0, .int .i64 0, .int .i64 0, .string ⟨#[]⟩] [.int .u8 2, .int .i64 f, .string ⟨#[]⟩, .int .u8 0] [.int .i64 xs.1, .int .i64 xs.2] S5.out rfl (by kernel_rfl) (by simp [Value.oneCell'])
  have HST2 := Lib.hid hst
  have S6 := Lib.hid (sx.to (c' := #[.int .u8 2, .int .i64 f, .string ⟨#[]⟩, .int .u8 0, .int .i64 xs.1, .int .i64 xs.2, .int .u8 0, .int .i64 0, .int .i64 0, .int .i64 0, .string ⟨#[]⟩]) (by simp))
  clear hst sx
  have p0 := cell_blk S6.out.blk 0
  simp only [List.getElem?_toArray, List.getElem?_cons_zero] at p0
  go_wp2_with ((with_reducible refine xStoreAt rfl HST2.out ?_ ?_ ?_ ?_); exact rfl; exact rfl; exact rfl)
  clear p0 
  refine (rvalue_any S6.out.rd B3.out).mono ?_
  rintro e w4 hr
  obtain ⟨rfl, m1⟩ := reads_none hr E3.out
  have HM := Lib.hid (S6.out.mod.trans m1)
  clear hr m1
  go_wp2_with fail
  exact ⟨rfl, rfl, HM.out⟩
set_option maxHeartbeats 2000000 in
theorem do_2_all {w : World} {rb bb : Nat} {l : List Int} (h : Rd w rb bb l) {f : Int} {r1 : List Int} {r2 : List Int} {r3 : List Int} {r4 : List Int} {xs : Int × Int} {xv : Int × Int × Int} (B0 : Hid (Byt l)) (B1 : Hid (Byt r1)) (B2 : Hid (Byt r2)) (hf : 0 ≤ f ∧ f < 256) (E0 : Hid (pNum 1 l = some (2, r1))) (E1 : Hid (pNum 1 r1 = some (f, r2))) (B3 : Hid (Byt r3)) (E2 : Hid (pSpan r2 = some (xs, r3))) (E3 : Hid (pVal r3 = some (xv, r4))) :
    Calls Try.prog 39 #[.pointer (some ⟨rb, 0, none⟩)] w fun e w' => e = .returned (.agg #[.int .u8 2, .int .i64 f, .string ⟨#[]⟩, .int .u8 0, .int .i64 xs.1, .int .i64 xs.2, .int .u8 xv.1, .int .i64 xv.2.1, .int .i64 xv.2.2, .int .i64 0, .string ⟨#[]⟩]) ∧ Rd w' rb bb r4 ∧ Mod [rb] w w' := by
  have S0 := Lib.hid (St.start h #[.int .u8 0, .int .i64 0, .string ⟨#[]⟩, .int .u8 0, .int .i64 0, .int .i64 0, .int .u8 0, .int .i64 0, .int .i64 0, .int .i64 0, .string ⟨#[]⟩])
  clear h
  have hf0 := hf.1
  have hf1 := hf.2
  clear hf
  go_enter Try.func39, Try.ntmps39
  go_wp2_with fail
  refine (rnum_any S0.out.rd B0.out 1 (by omega)).mono ?_
  rintro e w1 hr
  obtain ⟨rfl, h1, m1⟩ := reads_some hr E0.out
  have S1 := Lib.hid (S0.out.call h1 m1)
  clear hr h1 m1
  have q := cell_blk S1.out.blk 0
  have fz := frozen_blk S1.out.blk 0
  simp only [List.getElem?_toArray, List.getElem?_cons_succ, List.getElem?_cons_zero] at q
  have S2 := Lib.hid ((S1.out.set 0 (.int .u8 2)).to (c' := #[.int .u8 2, .int .i64 0, .string ⟨#[]⟩, .int .u8 0, .int .i64 0, .int .i64 0, .int .u8 0, .int .i64 0, .int .i64 0, .int .i64 0, .string ⟨#[]⟩]) (by simp))
  have p0 := cell_blk S2.out.blk 0
  simp only [List.getElem?_toArray, List.getElem?_cons_zero] at p0
  go_wp2_with fail
  clear p0 q fz
  refine (rnum_any S2.out.rd B1.out 1 (by omega)).mono ?_
  rintro e w2 hr
  obtain ⟨rfl, h1, m1⟩ := reads_some hr E1.out
  have S3 := Lib.hid (S2.out.call h1 m1)
  clear hr h1 m1
  have q := cell_blk S3.out.blk 1
  have fz := frozen_blk S3.out.blk 1
  simp only [List.getElem?_toArray, List.getElem?_cons_succ, List.getElem?_cons_zero] at q
  have S4 := Lib.hid ((S3.out.set 1 (.int .i64 f)).to (c' := #[.int .u8 2, .int .i64 f, .string ⟨#[]⟩, .int .u8 0, .int .i64 0, .int .i64 0, .int .u8 0, .int .i64 0, .int .i64 0, .int .i64 0, .string ⟨#[]⟩]) (by simp))
  have p0 := cell_blk S4.out.blk 0
  simp only [List.getElem?_toArray, List.getElem?_cons_zero] at p0
  go_wp2_with fail
  clear p0 q fz
  refine (rspan_any S4.out.rd B2.out).mono ?_
  rintro e w3 hr
  obtain ⟨rfl, h1, m1⟩ := reads_some hr E2.out
  have S5 := Lib.hid (S4.out.call h1 m1)
  clear hr h1 m1
  obtain ⟨wx2, hst, sx⟩ := St.store 52 [.int .i64 0, .int .i64 0] [.int .u8 0, .int .i64 0, .int .i64 0, .int .i64 0, .string ⟨#[]⟩] [.int .u8 2, .int .i64 f, .string ⟨#[]⟩, .int .u8 0] [.int .i64 xs.1, .int .i64 xs.2] S5.out rfl (by kernel_rfl) (by simp [Value.oneCell'])
  have HST2 := Lib.hid hst
  have S6 := Lib.hid (sx.to (c' := #[.int .u8 2, .int .i64 f, .string ⟨#[]⟩, .int .u8 0, .int .i64 xs.1, .int .i64 xs.2, .int .u8 0, .int .i64 0, .int .i64 0, .int .i64 0, .string ⟨#[]⟩]) (by simp))
  clear hst sx
  have p0 := cell_blk S6.out.blk 0
  simp only [List.getElem?_toArray, List.getElem?_cons_zero] at p0
  go_wp2_with ((with_reducible refine xStoreAt rfl HST2.out ?_ ?_ ?_ ?_); exact rfl; exact rfl; exact rfl)
  clear p0 
  refine (rvalue_any S6.out.rd B3.out).mono ?_
  rintro e w4 hr
  obtain ⟨rfl, h1, m1⟩ := reads_some hr E3.out
  have S7 := Lib.hid (S6.out.call h1 m1)
  clear hr h1 m1
  obtain ⟨wx3, hst, sx⟩ := St.store 76 [.int .u8 0, .int .i64 0, .int .i64 0, .int .i64 0] [.string ⟨#[]⟩] [.int .u8 2, .int .i64 f, .string ⟨#[]⟩, .int .u8 0, .int .i64 xs.1, .int .i64 xs.2] [.int .u8 xv.1, .int .i64 xv.2.1, .int .i64 xv.2.2, .int .i64 0] S7.out rfl (by kernel_rfl) (by simp [Value.oneCell'])
  have HST3 := Lib.hid hst
  have S8 := Lib.hid (sx.to (c' := #[.int .u8 2, .int .i64 f, .string ⟨#[]⟩, .int .u8 0, .int .i64 xs.1, .int .i64 xs.2, .int .u8 xv.1, .int .i64 xv.2.1, .int .i64 xv.2.2, .int .i64 0, .string ⟨#[]⟩]) (by simp))
  clear hst sx
  have hld := load_blk (P := Try.prog) 78 S8.out.blk Try.underlying78 rfl sizeDo
  obtain ⟨wf, hfs, hmf, hbf⟩ := store_ret (c := #[.int .u8 2, .int .i64 f, .string ⟨#[]⟩, .int .u8 0, .int .i64 xs.1, .int .i64 xs.2, .int .u8 xv.1, .int .i64 xv.2.1, .int .i64 xv.2.2, .int .i64 0, .string ⟨#[]⟩]) 78 S8.out.blk rfl sizeDo (by simp [Value.oneCell'])
  have HLD := Lib.hid hld
  have HFS := Lib.hid hfs
  have HRD := Lib.hid (S8.out.rd.kept hmf (by have := S8.out.lt; simp; omega) (by have := S8.out.ltb; simp; omega))
  have HMF := Lib.hid (S8.out.mod.into hmf (by simp))
  have z0 := cell_blk hbf 0
  have z1 := cell_blk hbf 1
  have z2 := cell_blk hbf 2
  have z3 := cell_blk hbf 3
  have z4 := cell_blk hbf 4
  have z5 := cell_blk hbf 5
  have z6 := cell_blk hbf 6
  have z7 := cell_blk hbf 7
  have z8 := cell_blk hbf 8
  have z9 := cell_blk hbf 9
  have z10 := cell_blk hbf 10
  simp only [List.getElem?_toArray, List.getElem?_cons_succ, List.getElem?_cons_zero] at z0 z1 z2 z3 z4 z5 z6 z7 z8 z9 z10
  clear hld hfs hmf hbf
  have p0 := cell_blk S8.out.blk 0
  simp only [List.getElem?_toArray, List.getElem?_cons_zero] at p0
  go_wp2_with (first | ((with_reducible refine xStoreAt rfl HST3.out ?_ ?_ ?_ ?_); exact rfl; exact rfl; exact rfl) | ((with_reducible refine xLoadAt rfl HLD.out ?_ ?_ ?_); exact rfl; exact rfl) | ((with_reducible refine xStoreAt rfl HFS.out ?_ ?_ ?_ ?_); exact rfl; exact rfl; exact rfl))
  exact bodyPost_ret (v := .agg #[.int .u8 2, .int .i64 f, .string ⟨#[]⟩, .int .u8 0, .int .i64 xs.1, .int .i64 xs.2, .int .u8 xv.1, .int .i64 xv.2.1, .int .i64 xv.2.2, .int .i64 0, .string ⟨#[]⟩]) (by simp [results, Try.results39, go_sem, z0, z1, z2, z3, z4, z5, z6, z7, z8, z9, z10]) rfl ⟨rfl, HRD.out, HMF.out⟩
set_option maxHeartbeats 2000000 in
theorem do_4_none {w : World} {rb bb : Nat} {l : List Int} (h : Rd w rb bb l) {f : Int} {r1 : List Int} {r2 : List Int} (B0 : Hid (Byt l)) (B1 : Hid (Byt r1)) (B2 : Hid (Byt r2)) (hf : 0 ≤ f ∧ f < 256) (E0 : Hid (pNum 1 l = some (4, r1))) (E1 : Hid (pNum 1 r1 = some (f, r2))) (E2 : Hid (pText 2 r2 = none)) :
    Calls Try.prog 39 #[.pointer (some ⟨rb, 0, none⟩)] w fun e w' => e = .panicked wrongP ∧ Mod [rb] w w' := by
  have S0 := Lib.hid (St.start h #[.int .u8 0, .int .i64 0, .string ⟨#[]⟩, .int .u8 0, .int .i64 0, .int .i64 0, .int .u8 0, .int .i64 0, .int .i64 0, .int .i64 0, .string ⟨#[]⟩])
  clear h
  have hf0 := hf.1
  have hf1 := hf.2
  clear hf
  go_enter Try.func39, Try.ntmps39
  go_wp2_with fail
  refine (rnum_any S0.out.rd B0.out 1 (by omega)).mono ?_
  rintro e w1 hr
  obtain ⟨rfl, h1, m1⟩ := reads_some hr E0.out
  have S1 := Lib.hid (S0.out.call h1 m1)
  clear hr h1 m1
  have q := cell_blk S1.out.blk 0
  have fz := frozen_blk S1.out.blk 0
  simp only [List.getElem?_toArray, List.getElem?_cons_succ, List.getElem?_cons_zero] at q
  have S2 := Lib.hid ((S1.out.set 0 (.int .u8 4)).to (c' := #[.int .u8 4, .int .i64 0, .string ⟨#[]⟩, .int .u8 0, .int .i64 0, .int .i64 0, .int .u8 0, .int .i64 0, .int .i64 0, .int .i64 0, .string ⟨#[]⟩]) (by simp))
  have p0 := cell_blk S2.out.blk 0
  simp only [List.getElem?_toArray, List.getElem?_cons_zero] at p0
  go_wp2_with fail
  clear p0 q fz
  refine (rnum_any S2.out.rd B1.out 1 (by omega)).mono ?_
  rintro e w2 hr
  obtain ⟨rfl, h1, m1⟩ := reads_some hr E1.out
  have S3 := Lib.hid (S2.out.call h1 m1)
  clear hr h1 m1
  have q := cell_blk S3.out.blk 1
  have fz := frozen_blk S3.out.blk 1
  simp only [List.getElem?_toArray, List.getElem?_cons_succ, List.getElem?_cons_zero] at q
  have S4 := Lib.hid ((S3.out.set 1 (.int .i64 f)).to (c' := #[.int .u8 4, .int .i64 f, .string ⟨#[]⟩, .int .u8 0, .int .i64 0, .int .i64 0, .int .u8 0, .int .i64 0, .int .i64 0, .int .i64 0, .string ⟨#[]⟩]) (by simp))
  have p0 := cell_blk S4.out.blk 0
  simp only [List.getElem?_toArray, List.getElem?_cons_zero] at p0
  go_wp2_with fail
  clear p0 q fz
  refine (rtext_any S4.out.rd B2.out 2 (by omega)).mono ?_
  rintro e w3 hr
  obtain ⟨rfl, m1⟩ := reads_none hr E2.out
  have HM := Lib.hid (S4.out.mod.trans m1)
  clear hr m1
  go_wp2_with fail
  exact ⟨rfl, rfl, HM.out⟩
set_option maxHeartbeats 2000000 in
theorem do_4_all {w : World} {rb bb : Nat} {l : List Int} (h : Rd w rb bb l) {f : Int} {tx : ByteArray} {r1 : List Int} {r2 : List Int} {r3 : List Int} (B0 : Hid (Byt l)) (B1 : Hid (Byt r1)) (B2 : Hid (Byt r2)) (hf : 0 ≤ f ∧ f < 256) (E0 : Hid (pNum 1 l = some (4, r1))) (E1 : Hid (pNum 1 r1 = some (f, r2))) (E2 : Hid (pText 2 r2 = some (tx, r3))) :
    Calls Try.prog 39 #[.pointer (some ⟨rb, 0, none⟩)] w fun e w' => e = .returned (.agg #[.int .u8 4, .int .i64 f, .string ⟨#[]⟩, .int .u8 0, .int .i64 0, .int .i64 0, .int .u8 0, .int .i64 0, .int .i64 0, .int .i64 0, .string tx]) ∧ Rd w' rb bb r3 ∧ Mod [rb] w w' := by
  have S0 := Lib.hid (St.start h #[.int .u8 0, .int .i64 0, .string ⟨#[]⟩, .int .u8 0, .int .i64 0, .int .i64 0, .int .u8 0, .int .i64 0, .int .i64 0, .int .i64 0, .string ⟨#[]⟩])
  clear h
  have hf0 := hf.1
  have hf1 := hf.2
  clear hf
  go_enter Try.func39, Try.ntmps39
  go_wp2_with fail
  refine (rnum_any S0.out.rd B0.out 1 (by omega)).mono ?_
  rintro e w1 hr
  obtain ⟨rfl, h1, m1⟩ := reads_some hr E0.out
  have S1 := Lib.hid (S0.out.call h1 m1)
  clear hr h1 m1
  have q := cell_blk S1.out.blk 0
  have fz := frozen_blk S1.out.blk 0
  simp only [List.getElem?_toArray, List.getElem?_cons_succ, List.getElem?_cons_zero] at q
  have S2 := Lib.hid ((S1.out.set 0 (.int .u8 4)).to (c' := #[.int .u8 4, .int .i64 0, .string ⟨#[]⟩, .int .u8 0, .int .i64 0, .int .i64 0, .int .u8 0, .int .i64 0, .int .i64 0, .int .i64 0, .string ⟨#[]⟩]) (by simp))
  have p0 := cell_blk S2.out.blk 0
  simp only [List.getElem?_toArray, List.getElem?_cons_zero] at p0
  go_wp2_with fail
  clear p0 q fz
  refine (rnum_any S2.out.rd B1.out 1 (by omega)).mono ?_
  rintro e w2 hr
  obtain ⟨rfl, h1, m1⟩ := reads_some hr E1.out
  have S3 := Lib.hid (S2.out.call h1 m1)
  clear hr h1 m1
  have q := cell_blk S3.out.blk 1
  have fz := frozen_blk S3.out.blk 1
  simp only [List.getElem?_toArray, List.getElem?_cons_succ, List.getElem?_cons_zero] at q
  have S4 := Lib.hid ((S3.out.set 1 (.int .i64 f)).to (c' := #[.int .u8 4, .int .i64 f, .string ⟨#[]⟩, .int .u8 0, .int .i64 0, .int .i64 0, .int .u8 0, .int .i64 0, .int .i64 0, .int .i64 0, .string ⟨#[]⟩]) (by simp))
  have p0 := cell_blk S4.out.blk 0
  simp only [List.getElem?_toArray, List.getElem?_cons_zero] at p0
  go_wp2_with fail
  clear p0 q fz
  refine (rtext_any S4.out.rd B2.out 2 (by omega)).mono ?_
  rintro e w3 hr
  obtain ⟨rfl, h1, m1⟩ := reads_some hr E2.out
  have S5 := Lib.hid (S4.out.call h1 m1)
  clear hr h1 m1
  have q := cell_blk S5.out.blk 10
  have fz := frozen_blk S5.out.blk 10
  simp only [List.getElem?_toArray, List.getElem?_cons_succ, List.getElem?_cons_zero] at q
  have S6 := Lib.hid ((S5.out.set 10 (.string tx)).to (c' := #[.int .u8 4, .int .i64 f, .string ⟨#[]⟩, .int .u8 0, .int .i64 0, .int .i64 0, .int .u8 0, .int .i64 0, .int .i64 0, .int .i64 0, .string tx]) (by simp))
  have hld := load_blk (P := Try.prog) 78 S6.out.blk Try.underlying78 rfl sizeDo
  obtain ⟨wf, hfs, hmf, hbf⟩ := store_ret (c := #[.int .u8 4, .int .i64 f, .string ⟨#[]⟩, .int .u8 0, .int .i64 0, .int .i64 0, .int .u8 0, .int .i64 0, .int .i64 0, .int .i64 0, .string tx]) 78 S6.out.blk rfl sizeDo (by simp [Value.oneCell'])
  have HLD := Lib.hid hld
  have HFS := Lib.hid hfs
  have HRD := Lib.hid (S6.out.rd.kept hmf (by have := S6.out.lt; simp; omega) (by have := S6.out.ltb; simp; omega))
  have HMF := Lib.hid (S6.out.mod.into hmf (by simp))
  have z0 := cell_blk hbf 0
  have z1 := cell_blk hbf 1
  have z2 := cell_blk hbf 2
  have z3 := cell_blk hbf 3
  have z4 := cell_blk hbf 4
  have z5 := cell_blk hbf 5
  have z6 := cell_blk hbf 6
  have z7 := cell_blk hbf 7
  have z8 := cell_blk hbf 8
  have z9 := cell_blk hbf 9
  have z10 := cell_blk hbf 10
  simp only [List.getElem?_toArray, List.getElem?_cons_succ, List.getElem?_cons_zero] at z0 z1 z2 z3 z4 z5 z6 z7 z8 z9 z10
  clear hld hfs hmf hbf
  have p0 := cell_blk S6.out.blk 0
  simp only [List.getElem?_toArray, List.getElem?_cons_zero] at p0
  go_wp2_with (first | ((with_reducible refine xLoadAt rfl HLD.out ?_ ?_ ?_); exact rfl; exact rfl) | ((with_reducible refine xStoreAt rfl HFS.out ?_ ?_ ?_ ?_); exact rfl; exact rfl; exact rfl))
  exact bodyPost_ret (v := .agg #[.int .u8 4, .int .i64 f, .string ⟨#[]⟩, .int .u8 0, .int .i64 0, .int .i64 0, .int .u8 0, .int .i64 0, .int .i64 0, .int .i64 0, .string tx]) (by simp [results, Try.results39, go_sem, z0, z1, z2, z3, z4, z5, z6, z7, z8, z9, z10]) rfl ⟨rfl, HRD.out, HMF.out⟩
set_option maxHeartbeats 2000000 in
theorem do_6_none {w : World} {rb bb : Nat} {l : List Int} (h : Rd w rb bb l) {f : Int} {r1 : List Int} {r2 : List Int} (B0 : Hid (Byt l)) (B1 : Hid (Byt r1)) (B2 : Hid (Byt r2)) (hf : 0 ≤ f ∧ f < 256) (E0 : Hid (pNum 1 l = some (6, r1))) (E1 : Hid (pNum 1 r1 = some (f, r2))) (E2 : Hid (pText 2 r2 = none)) :
    Calls Try.prog 39 #[.pointer (some ⟨rb, 0, none⟩)] w fun e w' => e = .panicked wrongP ∧ Mod [rb] w w' := by
  have S0 := Lib.hid (St.start h #[.int .u8 0, .int .i64 0, .string ⟨#[]⟩, .int .u8 0, .int .i64 0, .int .i64 0, .int .u8 0, .int .i64 0, .int .i64 0, .int .i64 0, .string ⟨#[]⟩])
  clear h
  have hf0 := hf.1
  have hf1 := hf.2
  clear hf
  go_enter Try.func39, Try.ntmps39
  go_wp2_with fail
  refine (rnum_any S0.out.rd B0.out 1 (by omega)).mono ?_
  rintro e w1 hr
  obtain ⟨rfl, h1, m1⟩ := reads_some hr E0.out
  have S1 := Lib.hid (S0.out.call h1 m1)
  clear hr h1 m1
  have q := cell_blk S1.out.blk 0
  have fz := frozen_blk S1.out.blk 0
  simp only [List.getElem?_toArray, List.getElem?_cons_succ, List.getElem?_cons_zero] at q
  have S2 := Lib.hid ((S1.out.set 0 (.int .u8 6)).to (c' := #[.int .u8 6, .int .i64 0, .string ⟨#[]⟩, .int .u8 0, .int .i64 0, .int .i64 0, .int .u8 0, .int .i64 0, .int .i64 0, .int .i64 0, .string ⟨#[]⟩]) (by simp))
  have p0 := cell_blk S2.out.blk 0
  simp only [List.getElem?_toArray, List.getElem?_cons_zero] at p0
  go_wp2_with fail
  clear p0 q fz
  refine (rnum_any S2.out.rd B1.out 1 (by omega)).mono ?_
  rintro e w2 hr
  obtain ⟨rfl, h1, m1⟩ := reads_some hr E1.out
  have S3 := Lib.hid (S2.out.call h1 m1)
  clear hr h1 m1
  have q := cell_blk S3.out.blk 1
  have fz := frozen_blk S3.out.blk 1
  simp only [List.getElem?_toArray, List.getElem?_cons_succ, List.getElem?_cons_zero] at q
  have S4 := Lib.hid ((S3.out.set 1 (.int .i64 f)).to (c' := #[.int .u8 6, .int .i64 f, .string ⟨#[]⟩, .int .u8 0, .int .i64 0, .int .i64 0, .int .u8 0, .int .i64 0, .int .i64 0, .int .i64 0, .string ⟨#[]⟩]) (by simp))
  have p0 := cell_blk S4.out.blk 0
  simp only [List.getElem?_toArray, List.getElem?_cons_zero] at p0
  go_wp2_with fail
  clear p0 q fz
  refine (rtext_any S4.out.rd B2.out 2 (by omega)).mono ?_
  rintro e w3 hr
  obtain ⟨rfl, m1⟩ := reads_none hr E2.out
  have HM := Lib.hid (S4.out.mod.trans m1)
  clear hr m1
  go_wp2_with fail
  exact ⟨rfl, rfl, HM.out⟩
set_option maxHeartbeats 2000000 in
theorem do_6_all {w : World} {rb bb : Nat} {l : List Int} (h : Rd w rb bb l) {f : Int} {tx : ByteArray} {r1 : List Int} {r2 : List Int} {r3 : List Int} (B0 : Hid (Byt l)) (B1 : Hid (Byt r1)) (B2 : Hid (Byt r2)) (hf : 0 ≤ f ∧ f < 256) (E0 : Hid (pNum 1 l = some (6, r1))) (E1 : Hid (pNum 1 r1 = some (f, r2))) (E2 : Hid (pText 2 r2 = some (tx, r3))) :
    Calls Try.prog 39 #[.pointer (some ⟨rb, 0, none⟩)] w fun e w' => e = .returned (.agg #[.int .u8 6, .int .i64 f, .string ⟨#[]⟩, .int .u8 0, .int .i64 0, .int .i64 0, .int .u8 0, .int .i64 0, .int .i64 0, .int .i64 0, .string tx]) ∧ Rd w' rb bb r3 ∧ Mod [rb] w w' := by
  have S0 := Lib.hid (St.start h #[.int .u8 0, .int .i64 0, .string ⟨#[]⟩, .int .u8 0, .int .i64 0, .int .i64 0, .int .u8 0, .int .i64 0, .int .i64 0, .int .i64 0, .string ⟨#[]⟩])
  clear h
  have hf0 := hf.1
  have hf1 := hf.2
  clear hf
  go_enter Try.func39, Try.ntmps39
  go_wp2_with fail
  refine (rnum_any S0.out.rd B0.out 1 (by omega)).mono ?_
  rintro e w1 hr
  obtain ⟨rfl, h1, m1⟩ := reads_some hr E0.out
  have S1 := Lib.hid (S0.out.call h1 m1)
  clear hr h1 m1
  have q := cell_blk S1.out.blk 0
  have fz := frozen_blk S1.out.blk 0
  simp only [List.getElem?_toArray, List.getElem?_cons_succ, List.getElem?_cons_zero] at q
  have S2 := Lib.hid ((S1.out.set 0 (.int .u8 6)).to (c' := #[.int .u8 6, .int .i64 0, .string ⟨#[]⟩, .int .u8 0, .int .i64 0, .int .i64 0, .int .u8 0, .int .i64 0, .int .i64 0, .int .i64 0, .string ⟨#[]⟩]) (by simp))
  have p0 := cell_blk S2.out.blk 0
  simp only [List.getElem?_toArray, List.getElem?_cons_zero] at p0
  go_wp2_with fail
  clear p0 q fz
  refine (rnum_any S2.out.rd B1.out 1 (by omega)).mono ?_
  rintro e w2 hr
  obtain ⟨rfl, h1, m1⟩ := reads_some hr E1.out
  have S3 := Lib.hid (S2.out.call h1 m1)
  clear hr h1 m1
  have q := cell_blk S3.out.blk 1
  have fz := frozen_blk S3.out.blk 1
  simp only [List.getElem?_toArray, List.getElem?_cons_succ, List.getElem?_cons_zero] at q
  have S4 := Lib.hid ((S3.out.set 1 (.int .i64 f)).to (c' := #[.int .u8 6, .int .i64 f, .string ⟨#[]⟩, .int .u8 0, .int .i64 0, .int .i64 0, .int .u8 0, .int .i64 0, .int .i64 0, .int .i64 0, .string ⟨#[]⟩]) (by simp))
  have p0 := cell_blk S4.out.blk 0
  simp only [List.getElem?_toArray, List.getElem?_cons_zero] at p0
  go_wp2_with fail
  clear p0 q fz
  refine (rtext_any S4.out.rd B2.out 2 (by omega)).mono ?_
  rintro e w3 hr
  obtain ⟨rfl, h1, m1⟩ := reads_some hr E2.out
  have S5 := Lib.hid (S4.out.call h1 m1)
  clear hr h1 m1
  have q := cell_blk S5.out.blk 10
  have fz := frozen_blk S5.out.blk 10
  simp only [List.getElem?_toArray, List.getElem?_cons_succ, List.getElem?_cons_zero] at q
  have S6 := Lib.hid ((S5.out.set 10 (.string tx)).to (c' := #[.int .u8 6, .int .i64 f, .string ⟨#[]⟩, .int .u8 0, .int .i64 0, .int .i64 0, .int .u8 0, .int .i64 0, .int .i64 0, .int .i64 0, .string tx]) (by simp))
  have hld := load_blk (P := Try.prog) 78 S6.out.blk Try.underlying78 rfl sizeDo
  obtain ⟨wf, hfs, hmf, hbf⟩ := store_ret (c := #[.int .u8 6, .int .i64 f, .string ⟨#[]⟩, .int .u8 0, .int .i64 0, .int .i64 0, .int .u8 0, .int .i64 0, .int .i64 0, .int .i64 0, .string tx]) 78 S6.out.blk rfl sizeDo (by simp [Value.oneCell'])
  have HLD := Lib.hid hld
  have HFS := Lib.hid hfs
  have HRD := Lib.hid (S6.out.rd.kept hmf (by have := S6.out.lt; simp; omega) (by have := S6.out.ltb; simp; omega))
  have HMF := Lib.hid (S6.out.mod.into hmf (by simp))
  have z0 := cell_blk hbf 0
  have z1 := cell_blk hbf 1
  have z2 := cell_blk hbf 2
  have z3 := cell_blk hbf 3
  have z4 := cell_blk hbf 4
  have z5 := cell_blk hbf 5
  have z6 := cell_blk hbf 6
  have z7 := cell_blk hbf 7
  have z8 := cell_blk hbf 8
  have z9 := cell_blk hbf 9
  have z10 := cell_blk hbf 10
  simp only [List.getElem?_toArray, List.getElem?_cons_succ, List.getElem?_cons_zero] at z0 z1 z2 z3 z4 z5 z6 z7 z8 z9 z10
  clear hld hfs hmf hbf
  have p0 := cell_blk S6.out.blk 0
  simp only [List.getElem?_toArray, List.getElem?_cons_zero] at p0
  go_wp2_with (first | ((with_reducible refine xLoadAt rfl HLD.out ?_ ?_ ?_); exact rfl; exact rfl) | ((with_reducible refine xStoreAt rfl HFS.out ?_ ?_ ?_ ?_); exact rfl; exact rfl; exact rfl))
  exact bodyPost_ret (v := .agg #[.int .u8 6, .int .i64 f, .string ⟨#[]⟩, .int .u8 0, .int .i64 0, .int .i64 0, .int .u8 0, .int .i64 0, .int .i64 0, .int .i64 0, .string tx]) (by simp [results, Try.results39, go_sem, z0, z1, z2, z3, z4, z5, z6, z7, z8, z9, z10]) rfl ⟨rfl, HRD.out, HMF.out⟩
end Go.Proofs.Ytnoookcfacmdkaa
