/- Layer 25: a record's form, written. -/
import Derived.Test.YtnoookcfacmdkaaReqG
namespace Go.Proofs.Ytnoookcfacmdkaa
open Go.RowKit Go.ChangeMaps
set_option linter.unusedSimpArgs false
set_option linter.unusedVariables false
set_option maxRecDepth 20000

theorem encs_app (a b : List DoR) : encs (a ++ b) = encs a ++ encs b := by
  induction a with
  | nil => rfl
  | cons d a ih => simp [encs, ih]
theorem enc_len {d : DoR} (h : d.may = true) : d.enc.length ≤ 500 := by
  obtain ⟨_, _, _, hn, ht, _, _⟩ := may_kinds h
  unfold DoR.enc
  split
  · simp [numsOf_length]; omega
  · simp only [List.length_cons]
    split
    · simp only [List.length_append, List.length_cons, ends, numB_length]
      split <;> simp [numB_length]
    · split
      · simp [ends, numB_length]
      · split
        · simp [numsOf_length, numB_length]; omega
        · simp
theorem encs_len : ∀ {ds : List DoR}, (∀ d ∈ ds, d.may = true) → (encs ds).length ≤ 500 * ds.length
  | [], _ => by simp [encs]
  | d :: ds, h => by
    have h1 := enc_len (h d (by simp))
    have h2 := encs_len (ds := ds) fun x hx => h x (by simp [hx])
    simp only [encs, List.length_append, List.length_cons]
    omega
theorem infoDo : (Try.prog.info? 78).map (fun i => (i.zero.map (·.cells.size), i.size)) = some (some 11, 11) := by kernel_rfl
theorem zeroDo : ∃ z, (∀ w, (zeroValue 78).run Try.prog w = .ok z w) ∧ z.cells.size = 11 := by
  have h := infoDo
  cases hi : Try.prog.info? 78 with
  | none => rw [hi] at h; cases h
  | some i =>
    rw [hi] at h
    simp only [Option.map_some, Option.some.injEq, Prod.mk.injEq] at h
    obtain ⟨h1, h2⟩ := h
    cases hz : i.zero with
    | none => rw [hz] at h1; cases h1
    | some z =>
      rw [hz] at h1
      exact ⟨z, fun w => by simp [zeroValue, typeInfo, hi, hz, go_sem], by simpa using h1⟩
theorem store_blk {P : Program} {w : World} {b : Nat} {c c0 : Array Value} {t : TypeId} (T : TypeId) (h : w.heap[b]? = some (.cells c0 t (0, 0))) (hs : c0.size = c.size) (hi : (P.info? T).map (·.size) = some c.size) (h1 : c.all (·.oneCell') = true) :
    (Instr.storeAt T (.pointer (some ⟨b, 0, none⟩)) (.agg c)).run P w = .ok () (w.setCells b 0 c.toList) ∧ Mod [b] w (w.setCells b 0 c.toList) ∧ (w.setCells b 0 c.toList).heap[b]? = some (.cells c t (0, 0)) := by
  refine ⟨run_storeAt_mid w b 0 T c (there_blk h 0 c.size (by omega)) hi h1, (Mod.refl _ _).setCells (by simp) _ _, ?_⟩
  rw [heap_setCells_blk b c.toList 0 w h]
  have e := setRange_mid [] c.toList c0.toList [] (by simp [hs])
  simp only [List.nil_append, List.append_nil, List.length_nil] at e
  rw [e]
set_option maxHeartbeats 1000000 in
theorem encode_no (r : RecR) (v : Value) (w : World) (h : DosAt w v r.ds) (hf : ∀ d ∈ r.ds, d.Fit) (hl : r.ds.length ≤ 9223372036854775807) (hm : r.may = false) :
    Calls Try.prog 29 #[recV r v] w fun e w' => e = .returned (.tuple #[.slice none 0 0, .int .i64 2]) ∧ Mod [] w w' := by
  have hm0 := (Mod.refl [] w).alloc (.cells #[.int .u8 r.k, v, .int .i64 r.a, .int .i64 r.b] 54)
  have HA := Lib.hid (rMay_any r v _ (h.kept0 hm0) hf hl)
  have HM := Lib.hid hm0
  rw [hm] at HA
  obtain ⟨x, c, rfl, _⟩ := h
  clear hm0 hm hf hl
  unfold recV at HA ⊢
  go_enter Try.func29, Try.ntmps29
  go_wp2_with fail
  refine HA.out.mono ?_
  rintro e w1 ⟨rfl, h1⟩
  go_wp2_with fail
  go_ret2
  exact ⟨rfl, HM.out.trans h1⟩
set_option maxHeartbeats 1000000 in
theorem encode_span (r : RecR) (v : Value) (w : World) (h : DosAt w v r.ds) (hf : ∀ d ∈ r.ds, d.Fit) (hl : r.ds.length ≤ 9223372036854775807) (hm : r.may = true) (hk : r.k ≠ 1) :
    Calls Try.prog 29 #[recV r v] w fun e w' => ∃ v', e = .returned (.tuple #[v', .int .i64 0]) ∧ OwnB w' w.heap.size v' r.enc ∧ Mod [] w w' := by
  have hm0 := (Mod.refl [] w).alloc (.cells #[.int .u8 r.k, v, .int .i64 r.a, .int .i64 r.b] 54)
  have HA := Lib.hid (rMay_any r v _ (h.kept0 hm0) hf hl)
  have hc0 := heap_alloc_new w (.cells #[.int .u8 r.k, v, .int .i64 r.a, .int .i64 r.b] 54)
  have HM := Lib.hid hm0
  have hsp : spanOk r.a r.b = true := by
    unfold RecR.may at hm
    rw [if_neg hk] at hm
    split at hm
    · simp only [Bool.and_eq_true] at hm; exact hm.2
    · cases hm
  rw [hm] at HA
  obtain ⟨x, c, rfl, _⟩ := h
  clear hm0 hm hf hl
  unfold recV at HA ⊢
  have HE : Hid (r.enc = [r.k] ++ ends r.a r.b) := Lib.hid (by unfold RecR.enc; rw [if_neg hk]; rfl)
  have HC0 := Lib.hid hc0
  have HSP := Lib.hid hsp
  clear hc0 hsp
  go_enter Try.func29, Try.ntmps29
  go_wp2_with fail
  refine HA.out.mono ?_
  rintro e w1 ⟨rfl, h1⟩
  have hc1 := h1.heap HC0.out (by simp)
  have q0 := cell_blk hc1 0
  have q2 := cell_blk hc1 2
  have q3 := cell_blk hc1 3
  simp at q0 q2 q3
  have hs1 := HM.out.size
  have hlt := lt_of_heap hc1
  have hc2 := (heap_alloc_ne w1 (.cells #[.int .u8 r.k] 5) hlt).trans hc1
  have p0 := cell_blk hc2 0
  have p2 := cell_blk hc2 2
  have p3 := cell_blk hc2 3
  simp only [List.getElem?_toArray, List.getElem?_cons_succ, List.getElem?_cons_zero] at p0 p2 p3
  have HO := Lib.hid (OwnB.new w1 w.heap.size (by omega) r.k)
  have HM1 := Lib.hid (HM.out.trans h1)
  clear h1 hc1 hc2
  go_wp2_with fail
  refine (ends_any HO.out (by simp; omega) r.a r.b HSP.out (by simp)).mono ?_
  rintro e w2 ⟨v2, rfl, o2, g2⟩
  have HO2 := Lib.hid o2
  have HG2 := Lib.hid g2
  clear o2 g2
  go_wp2_with fail
  go_ret2
  refine ⟨v2, rfl, ?_, HG2.out.intoNil HO.out (Nat.le_refl _) (HM1.out.alloc _)⟩
  rw [HE.out]
  exact HO2.out
theorem may_commit {r : RecR} (hm : r.may = true) (hk : r.k = 1) : r.ds.length ≤ 64 ∧ (r.a = 0 ∧ r.b = 0) ∧ ∀ d ∈ r.ds, d.may = true := by
  unfold RecR.may at hm
  rw [if_pos hk] at hm
  simp only [Bool.and_eq_true, decide_eq_true_eq, List.all_eq_true] at hm
  exact ⟨hm.1.1, hm.1.2, hm.2⟩
theorem oneCell_do (d : DoR) : (d.cells.toArray : Array Value).all (·.oneCell') = true := by
  simp [DoR.cells, Value.oneCell']
set_option maxHeartbeats 2000000 in
theorem encode_commit (r : RecR) (v : Value) (w : World) (h : DosAt w v r.ds) (hf : ∀ d ∈ r.ds, d.Fit) (hm : r.may = true) (hk : r.k = 1) :
    Calls Try.prog 29 #[recV r v] w fun e w' => ∃ v', e = .returned (.tuple #[v', .int .i64 0]) ∧ OwnB w' w.heap.size v' r.enc ∧ Mod [] w w' := by
  obtain ⟨hlen, hab, hall⟩ := may_commit hm hk
  have hm0 := (Mod.refl [] w).alloc (.cells #[.int .u8 r.k, v, .int .i64 r.a, .int .i64 r.b] 54)
  have HA := Lib.hid (rMay_any r v _ (h.kept0 hm0) hf (by omega))
  have hc0 := heap_alloc_new w (.cells #[.int .u8 r.k, v, .int .i64 r.a, .int .i64 r.b] 54)
  rw [hm] at HA
  have HD := Lib.hid h
  obtain ⟨x, c, rfl, _⟩ := h
  clear hab hf hm
  unfold recV at HA ⊢
  obtain ⟨k, ds, a, b⟩ := r
  dsimp only at hk hlen hall HA hc0 HD hm0 ⊢
  subst hk
  have HE : Hid (RecR.enc ⟨1, ds, a, b⟩ = [1] ++ [(ds.length : Int)] ++ encs ds) := Lib.hid (by
    have e1 : (ds.length : Int) % 256 = ds.length := by omega
    simp [RecR.enc, e1])
  have HM := Lib.hid hm0
  have HC0 := Lib.hid hc0
  have HALL := Lib.hid hall
  clear hc0 hm0 hall
  go_enter Try.func29, Try.ntmps29
  go_wp2_with fail
  refine HA.out.mono ?_
  rintro e w1 ⟨rfl, h1⟩
  have hc1 := h1.heap HC0.out (by simp)
  have q0 := cell_blk hc1 0
  simp at q0
  have hs1 := HM.out.size
  have hsz1 := h1.size
  have hlt := lt_of_heap hc1
  have hc2 := (heap_alloc_ne w1 (.cells #[.int .u8 1] 5) hlt).trans hc1
  have p0 := cell_blk hc2 0
  have p1 := cell_blk hc2 1
  simp only [List.getElem?_toArray, List.getElem?_cons_succ, List.getElem?_cons_zero] at p0 p1
  obtain ⟨v2, w2, r2, o2, g2⟩ := app_at (OwnB.new w1 w.heap.size (by omega) 1) (by simp; omega) ds.length (by simp) (g := w1.heap.size + 1) (by simp)
  have hm2 : Mod [] w w2 := g2.intoNil (OwnB.new w1 w.heap.size (by omega) 1) (Nat.le_refl _) ((HM.out.trans h1).alloc _)
  have hc3 := g2.heap (OwnB.new w1 w.heap.size (by omega) 1) hc2 (fun k hk => by simp [Value.ownBlock] at hk; omega)
  have p21 := cell_blk hc3 1
  simp at p21
  have HR2 := Lib.hid r2
  have HO2 := Lib.hid o2
  have HM2 := Lib.hid hm2
  clear h1 hc1 hc2 r2 o2 g2 hm2 hc3 hs1 hsz1
  go_wp2_with ((with_reducible refine xAppendAt HR2.out rfl rfl ?_ ?_ ?_ ?_); exact rfl; exact rfl; exact rfl)
  go_loopw [4, 30] (fun s4 s30 wr => ∃ (i : Nat) (v4 : Value), v4 = s4 ∧ i ≤ ds.length ∧ s30 = .int .i64 i ∧ Hid (OwnB wr w.heap.size v4 ([1] ++ [(ds.length : Int)] ++ encs (ds.take i))) ∧ Hid (Mod [] w wr)) (fun _ s30 _ => ds.length - (intOf s30).toNat)
  case atStart => exact ⟨0, v2, rfl, by omega, rfl, Lib.hid (by simpa [encs] using HO2.out), HM2⟩
  case round =>
    obtain ⟨i, v4, rfl, hi, rfl, hown, hmod⟩ := hrel
    by_cases hlt : i < ds.length
    · obtain ⟨bb, o, rfl, hr⟩ : ∃ bb o, x = some ⟨bb, o, none⟩ ∧ wr.rangeAt bb (o + i * 11) ds[i].cells := by
        obtain ⟨a', cap', e, hx⟩ := HD.out
        simp only [Value.slice.injEq, true_and] at e
        obtain ⟨rfl, rfl⟩ := e
        obtain ⟨bb, o, ha, hr⟩ := hx i ds[i] (by simp [hlt])
        exact ⟨bb, o, ha, rangeAt_mod hr hmod.out (by simp)⟩
      have hdm := HALL.out ds[i] (by simp)
      have HT := Lib.hid (show ds.take (i + 1) = ds.take i ++ [ds[i]] from List.take_succ_eq_append_getElem hlt)
      have hel : (encs (ds.take i)).length ≤ 500 * i := by
        have := encs_len (ds := ds.take i) fun y hy => HALL.out y (List.mem_of_mem_take hy)
        rw [List.length_take] at this
        omega
      generalize ds[i] = d at hr hdm HT
      obtain ⟨z, hz, hzs⟩ := zeroDo
      have hld := load_do hr
      obtain ⟨hst, hm3, hb3⟩ := store_blk (P := Try.prog) (w := wr.alloc (.cells z.cells 78)) (b := wr.heap.size) (c := d.cells.toArray) (c0 := z.cells) 78 (heap_alloc_new wr _) (by rw [hzs]; rfl) sizeDo (oneCell_do d)
      generalize hw3 : (wr.alloc (.cells z.cells 78)).setCells wr.heap.size 0 (d.cells.toArray : Array Value).toList = w3 at hst hm3 hb3
      have hmr : Mod [] wr w3 := ((Mod.refl [] wr).alloc _).intoNil hm3 (by simp)
      have hl3 := load_blk (P := Try.prog) 78 hb3 Try.underlying78 rfl sizeDo
      have hput := put_any (hown.out.kept0 hmr) (Nat.le_trans hmod.out.size hmr.size) d hdm (by simp; omega)
      have HLD := Lib.hid hld
      have HST := Lib.hid hst
      have HZ := Lib.hid hz
      have HL3 := Lib.hid hl3
      have HP := Lib.hid hput
      have HMR := Lib.hid hmr
      clear hr hdm hz hzs hld hst hm3 hb3 hw3 hmr hl3 hput hel
      go_wp2_with (first
        | ((with_reducible refine xLoadAt rfl HLD.out ?_ ?_ ?_); exact rfl; exact rfl)
        | (refine xAlloc (t := 78) rfl HZ.out rfl ?_)
        | ((with_reducible refine xStoreAt rfl HST.out ?_ ?_ ?_ ?_); exact rfl; exact rfl; exact rfl)
        | ((with_reducible refine xLoadAt rfl HL3.out ?_ ?_ ?_); exact rfl; exact rfl))
      refine HP.out.mono ?_
      rintro e w4 ⟨v5, rfl, o5, g5⟩
      have HO5 := Lib.hid o5
      have HG5 := Lib.hid (g5.intoNil (hown.out.kept0 HMR.out) (Nat.le_refl _) (hmod.out.trans HMR.out))
      clear o5 g5
      go_wp2_with fail
      go_roundw
      case rel => exact ⟨i + 1, v5, rfl, by omega, by go_num, Lib.hid (by
        rw [HT.out, encs_app]
        have h5 := HO5.out
        simpa [encs] using h5), HG5⟩
      case measure => simp [intOf]; omega
    · have e1 : Hid (encs (ds.take i) = encs ds) := Lib.hid (by rw [List.take_of_length_le (by omega)])
      have hge : ds.length ≤ i := by omega
      clear HR2
      go_wp2_with fail
      go_ret2
      refine ⟨_, rfl, ?_, hmod.out⟩
      rw [HE.out, ← e1.out]
      exact hown.out
theorem encode_yes (r : RecR) (v : Value) (w : World) (h : DosAt w v r.ds) (hf : ∀ d ∈ r.ds, d.Fit) (hl : r.ds.length ≤ 9223372036854775807) (hm : r.may = true) :
    Calls Try.prog 29 #[recV r v] w fun e w' => ∃ v', e = .returned (.tuple #[v', .int .i64 0]) ∧ OwnB w' w.heap.size v' r.enc ∧ Mod [] w w' := by
  by_cases hk : r.k = 1
  · exact encode_commit r v w h hf hm hk
  · exact encode_span r v w h hf hl hm hk
end Go.Proofs.Ytnoookcfacmdkaa
