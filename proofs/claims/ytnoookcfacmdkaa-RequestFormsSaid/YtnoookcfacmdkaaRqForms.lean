/- Whether any record may be, and its form, are the document's; it is read again; the record stays. No condition. -/
import Derived.Test.YtnoookcfacmdkaaRqE
import Derived.Test.YtnoookcfacmdkaaReqS
import Derived.Test.YtnoookcfacmdkaaReqT
namespace Go.Proofs.Ytnoookcfacmdkaa
open Go.RowKit Go.ChangeMaps Go.Deep
set_option linter.unusedSimpArgs false
set_option linter.unusedVariables false
set_option maxRecDepth 20000

def SomeLe (w : World) (n : Nat) (e : Ending) (w' : World) : Prop := ∃ b, e = .returned (.bool b) ∧ (b = false → n ≤ 80) ∧ Mod [] w w'
set_option maxHeartbeats 1000000 in
theorem great25_le (r : RecR) (v : Value) (w : World) (h : DosAt w v r.ds) (hf : ∀ d ∈ r.ds, d.Fit) (hl : r.ds.length ≤ 9223372036854775807) :
    Calls Try.prog 28 #[recV r v] w (SomeLe w r.ds.length) := by
  have H := Lib.hid h
  have HF := Lib.hid hf
  obtain ⟨x, c, rfl, _⟩ := h
  clear hf
  unfold recV
  obtain ⟨k, ds, a, b⟩ := r
  dsimp only at hl H HF ⊢
  have hc0 := heap_alloc_new w (.cells #[.int .u8 k, .slice x ds.length c, .int .i64 a, .int .i64 b] 54)
  have HC0 := Lib.hid hc0
  have HM0 := Lib.hid ((Mod.refl [] w).alloc (.cells #[.int .u8 k, .slice x ds.length c, .int .i64 a, .int .i64 b] 54))
  clear hc0
  go_enter Try.func28, Try.ntmps28
  go_wp2_with fail
  go_loopw [3, 8] (fun s3 s8 wr => ∃ (i : Nat) (y : Int), i ≤ ds.length ∧ s8 = .int .i64 i ∧ s3 = .int .i64 y ∧ Hid (Mod [] (w.alloc (.cells #[.int .u8 k, .slice x ds.length c, .int .i64 a, .int .i64 b] 54)) wr)) (fun _ s8 _ => ds.length - (intOf s8).toNat)
  case atStart => exact ⟨0, 0, by omega, rfl, rfl, Lib.hid (Mod.refl _ _)⟩
  case round =>
    obtain ⟨i, y, hi, rfl, rfl, hm⟩ := hrel
    have hcr := hm.out.heap HC0.out (by simp)
    have q1 := cell_blk hcr 1
    simp at q1
    clear hcr
    by_cases hlt : i < ds.length
    · obtain ⟨bb, o, rfl, hr⟩ : ∃ bb o, x = some ⟨bb, o, none⟩ ∧ wr.rangeAt bb (o + i * 11) ds[i].cells := by
        obtain ⟨a', cap', e, hx⟩ := H.out
        simp only [Value.slice.injEq, true_and] at e
        obtain ⟨rfl, rfl⟩ := e
        obtain ⟨bb, o, ha, hr⟩ := hx i ds[i] (by simp [hlt])
        exact ⟨bb, o, ha, rangeAt_mod hr (HM0.out.trans hm.out) (by simp)⟩
      have hdf := HF.out ds[i] (by simp)
      generalize ds[i] = d at hr hdf
      obtain ⟨k', f', nm, fk', a', b', vk', c', s', e', tx⟩ := d
      have q2 := hr 2 (.string nm) rfl
      have q10 := hr 10 (.string tx) rfl
      have hn := hdf.nm
      have ht := hdf.tx
      dsimp only at hn ht
      clear hr hdf
      go_wp2_with fail
      refine wp_plan [([0, 1, 3, 8, 10, 2, 9, 4, 11, 5, 12, 6, 13, 7, 14, 15, 16], 17, [])] [] (by kernel_rfl) (by kernel_rfl) ?_
      simp only [wpSegs, opsOf, List.map_cons, List.map_nil, opN, List.getD_cons_zero, List.getD_cons_succ]
      go_wp2_with fail
      refine ⟨by first | trivial | rfl, ?_⟩
      go_wp2_with fail
      refine ⟨again_nil, ?_⟩
      go_wp2_with fail
      refine ⟨by first | trivial | rfl, ?_⟩
      have HMq := Lib.hid (hm.out.trans ((Mod.refl [] wr).drew))
      go_wp2_with fail
      go_roundw
      case rel => exact ⟨i + 1, _, by omega, by go_num, rfl, HMq⟩
      case measure => simp [intOf]; omega
    · have hge : ds.length ≤ i := by omega
      go_wp2_with fail
      all_goals
        go_ret
        refine ⟨_, rfl, fun hb => ?_, HM0.out.trans hm.out⟩
        first | omega | cases hb
theorem dos_form {w : World} {v : Value} {ds : List DoR} (h : DosAt w v ds) : ∃ a c, v = .slice a ds.length c := by
  obtain ⟨a, c, rfl, _⟩ := h
  exact ⟨a, c, rfl⟩
theorem dos_src {w : World} {v : Value} {ds : List DoR} (h : DosAt w v ds) : Src Try.prog 11 50 v ds.length (flatD ds) w := by
  obtain ⟨a, c, rfl, hx⟩ := h
  have h1 : ∀ u ∈ flatD ds, u.oneCell' = true := by
    intro u hu
    simp only [flatD, List.mem_flatMap] at hu
    obtain ⟨d, _, hd⟩ := hu
    simp [DoR.cells] at hd
    rcases hd with rfl | rfl | rfl | rfl | rfl | rfl | rfl | rfl | rfl | rfl | rfl <;> rfl
  cases a with
  | none =>
    have : ds = [] := by
      cases ds with
      | nil => rfl
      | cons d t =>
        obtain ⟨b, o, h0, _⟩ := hx 0 d rfl
        cases h0
    subst this
    exact Src.ofNil w Try.underlying50 c
  | some ad =>
    refine Src.ofSlice (P := Try.prog) w Try.underlying50 ad ds.length c (flatD ds) (flatD_len ds) (fun j u hu => ?_) h1
    have hj := (List.getElem?_eq_some_iff.1 hu).1
    rw [flatD_len] at hj
    have hi : j / 11 < ds.length := by omega
    obtain ⟨b, o, h0, hr⟩ := hx (j / 11) ds[j / 11] (by simp [hi])
    cases h0
    have hr11 : j % 11 < (ds[j / 11]).cells.length := by simp [DoR.cells]; omega
    have hf := flatD_get ds (j / 11) ds[j / 11] (by simp [hi]) (j % 11) _ (List.getElem?_eq_getElem hr11)
    rw [show j / 11 * 11 + j % 11 = j by omega, hu] at hf
    have := hr (j % 11) _ (List.getElem?_eq_getElem hr11)
    rw [Addr.add_mid, hf, ← this]
    congr 2
    omega
theorem copy_dos {w : World} {v : Value} {ds : List DoR} (h : DosAt w v ds) (hl : ds.length ≤ 1000) :
    ∃ a c w', (Builtin.append_ #[50, 50] 50 #[.slice (some ⟨w.heap.size, 0, none⟩) 0 0, v]).run Try.prog (w.alloc (.cells #[] 78)) = .ok (.slice a ds.length c) w' ∧ DosAt w' (.slice a ds.length c) ds ∧ Mod [] w w' ∧ ∀ k, (Value.slice a ds.length c).ownBlock = some k → w.heap.size ≤ k := by
  obtain ⟨i, z, hi, hz, hs1, hby, hzs⟩ := infoDo2
  have hm := (Mod.refl [] w).alloc (.cells #[] 78)
  have hown : (w.alloc (.cells #[] 78)).ownsRow w.heap.size 78 11 (.slice (some ⟨w.heap.size, 0, none⟩) 0 0) 0 [] :=
    ⟨rfl, .inr ⟨w.heap.size, 0, #[], rfl, Nat.le_refl _, heap_alloc_new w _, Nat.le_refl _, by simp, rfl, rfl⟩⟩
  obtain ⟨v', w', h1, h2, h3⟩ := append_own (P := Try.prog) w.heap.size 50 50 50 78 i z 11 104 Try.underlying50 hi hz hs1 hby hzs (by omega) hown (dos_src (h.kept0 hm)) (by unfold maxLen; omega) (by omega) (by simp)
  rw [Nat.zero_add, List.nil_append] at h2
  have hd := dos_own h2
  obtain ⟨a, c, rfl⟩ := dos_form hd
  exact ⟨a, c, w', h1, hd, h3.intoNil hown (by simp) hm, fun k hk => (World.ownsRow.lt h2 k hk).1⟩
/-- three records in their boxes -/
structure ZSt (w W : World) (B : Nat) (k : Int) (ds : List DoR) (a b : Int) (v : Value) : Prop where
  box : W.heap[B]? = some (.cells #[.int .u8 k, v, .int .i64 a, .int .i64 b] 54 (0, 0))
  dos : DosAt W v ds
  mod : Mod [] w W
theorem ZSt.kept {w W W' : World} {B : Nat} {k : Int} {ds : List DoR} {a b : Int} {v : Value} (h : ZSt w W B k ds a b v) (m : Mod [] W W') : ZSt w W' B k ds a b v :=
  ⟨m.heap h.box (by simp), h.dos.kept0 m, h.mod.trans m⟩
theorem ZSt.load {w W : World} {B : Nat} {k : Int} {ds : List DoR} {a b : Int} {v : Value} (h : ZSt w W B k ds a b v) : (Instr.loadAt 54 (.pointer (some ⟨B, 0, none⟩))).run Try.prog W = .ok (.agg #[.int .u8 k, v, .int .i64 a, .int .i64 b]) W :=
  load_blk (P := Try.prog) 54 h.box Try.underlying54 rfl sizeRecord
set_option maxHeartbeats 8000000 in
theorem forms_walk (r s : RecR) (vr vs : Value) (w : World) (hr : DosAt w vr r.ds) (hs : DosAt w vs s.ds) (fr : ∀ d ∈ r.ds, d.Fit) (fs : ∀ d ∈ s.ds, d.Fit) (lr : r.ds.length ≤ 9223372036854775807) (ls : s.ds.length ≤ 9223372036854775807) (wr : r.Wf) :
    Calls Try.prog 8 #[recV r vr, recV s vs] w fun e w' => e = .returned (.bool true) ∧ Mod [] w w' := by
  obtain ⟨k, ds, a, b⟩ := r
  obtain ⟨k', es, a', b'⟩ := s
  dsimp only at hr hs fr fs lr ls
  obtain ⟨xr, cr, rfl⟩ := dos_form hr
  obtain ⟨xs, cs, rfl⟩ := dos_form hs
  have R0 : Hid (ZSt w ((w.alloc (.cells #[.int .u8 k, .slice xr ds.length cr, .int .i64 a, .int .i64 b] 54)).alloc (.cells #[.int .u8 k', .slice xs es.length cs, .int .i64 a', .int .i64 b'] 54)) w.heap.size k ds a b (.slice xr ds.length cr)) := Lib.hid
    ⟨by rw [heap_alloc_ne _ _ (by simp)]; exact heap_alloc_new w _, hr.kept0 (((Mod.refl [] w).alloc _).alloc _), ((Mod.refl [] w).alloc _).alloc _⟩
  have S0 : Hid (ZSt w ((w.alloc (.cells #[.int .u8 k, .slice xr ds.length cr, .int .i64 a, .int .i64 b] 54)).alloc (.cells #[.int .u8 k', .slice xs es.length cs, .int .i64 a', .int .i64 b'] 54)) (w.heap.size + 1) k' es a' b' (.slice xs es.length cs)) := Lib.hid
    ⟨by simpa using heap_alloc_new (w.alloc (.cells #[.int .u8 k, .slice xr ds.length cr, .int .i64 a, .int .i64 b] 54)) (.cells #[.int .u8 k', .slice xs es.length cs, .int .i64 a', .int .i64 b'] 54), hs.kept0 (((Mod.refl [] w).alloc _).alloc _), ((Mod.refl [] w).alloc _).alloc _⟩
  have HG1 := Lib.hid (great25_le ⟨k, ds, a, b⟩ (.slice xr ds.length cr) _ R0.out.dos fr lr)
  have HG2 := Lib.hid (fun (W : World) (h : DosAt W (.slice xs es.length cs) es) => great25_le ⟨k', es, a', b'⟩ (.slice xs es.length cs) W h fs ls)
  have FR := Lib.hid fr
  have WR := Lib.hid wr
  have FC : Hid (∀ d ∈ ds, CFit d) := Lib.hid (fun d hd => by
    have := wr.2 d hd
    have h1 := this.c0
    have h2 := this.c1
    unfold CFit
    omega)
  unfold recV at HG1 HG2 ⊢
  dsimp only at HG1 HG2 ⊢
  have HLR := Lib.hid R0.out.load
  clear hr hs fr fs wr
  go_enter Try.func8, Try.ntmps8
  go_wp2_with ((with_reducible refine xLoadAt rfl HLR.out ?_ ?_ ?_); exact rfl; exact rfl)
  refine HG1.out.mono ?_
  rintro e w1 ⟨g1, rfl, hg1, m1⟩
  have R1 := Lib.hid (R0.out.kept m1)
  have S1 := Lib.hid (S0.out.kept m1)
  have HLS := Lib.hid S1.out.load
  clear m1 HLR R0 S0
  cases g1
  · have hl80 : ds.length ≤ 80 := hg1 rfl
    go_wp2_with ((with_reducible refine xLoadAt rfl HLS.out ?_ ?_ ?_); exact rfl; exact rfl)
    refine (HG2.out _ S1.out.dos).mono ?_
    rintro e w2 ⟨g2, rfl, hg2, m2⟩
    have R2 := Lib.hid (R1.out.kept m2)
    have S2 := Lib.hid (S1.out.kept m2)
    have HLR := Lib.hid R2.out.load
    clear m2 HLS R1 S1 hg1
    cases g2
    · have he80 : es.length ≤ 80 := hg2 rfl
      clear hg2
      have mA := (Mod.refl [] w2).alloc (.cells #[.int .u8 k, .slice xr ds.length cr, .int .i64 a, .int .i64 b] 54)
      have hA := heap_alloc_new w2 (.cells #[.int .u8 k, .slice xr ds.length cr, .int .i64 a, .int .i64 b] 54)
      obtain ⟨ia, ic, w4, r4, d4, m4, o4⟩ := copy_dos (R2.out.dos.kept0 mA) (by omega)
      have q1 := cell_blk (R2.out.kept (mA.alloc (.cells #[] 78))).box 1
      simp only [List.getElem?_toArray, List.getElem?_cons_succ, List.getElem?_cons_zero] at q1
      rw [World.size_alloc] at r4 o4
      obtain ⟨w5, hst5, ms5, hb5⟩ := store_one 50 [.int .u8 k] (.slice xr ds.length cr) [.int .i64 a, .int .i64 b] (.slice ia ds.length ic) (m4.heap hA (by simp)) (by kernel_rfl) (by simp [Value.oneCell', Value.cells])
      have m05 : Mod [] w2 w5 := (mA.trans m4).intoNil ms5 (by simp)
      have R5 := Lib.hid (R2.out.kept m05)
      have S5 := Lib.hid (S2.out.kept m05)
      have I5 : Hid (ZSt w w5 w2.heap.size k ds a b (.slice ia ds.length ic)) := Lib.hid ⟨hb5, d4.kept ms5 (fun _ z hz bb o m c e => by
        rw [List.mem_singleton] at hz
        subst hz
        have := o4 bb (by rw [e]; simp [Value.ownBlock])
        omega), R2.out.mod.trans m05⟩
      have HR4 := Lib.hid r4
      have HST5 := Lib.hid hst5
      have HLI := Lib.hid I5.out.load
      clear mA hA r4 d4 m4 o4 hst5 ms5 hb5 m05 R2 S2
      by_cases hm : RecR.may ⟨k, ds, a, b⟩ = true
      all_goals have hm' := hm
      · have HEN := Lib.hid (encode_yes ⟨k, ds, a, b⟩ _ w5 I5.out.dos FR.out lr hm)
        unfold recV at HEN
        dsimp only at HEN
        go_wp2_with (first | ((with_reducible refine xLoadAt rfl HLR.out ?_ ?_ ?_); exact rfl; exact rfl) | ((with_reducible refine xAppendAt HR4.out rfl rfl ?_ ?_ ?_ ?_); exact rfl; exact rfl; exact rfl) | ((with_reducible refine xStoreAt rfl HST5.out ?_ ?_ ?_ ?_); exact rfl; exact rfl; exact rfl) | ((with_reducible refine xLoadAt rfl HLI.out ?_ ?_ ?_); exact rfl; exact rfl))
        refine HEN.out.mono ?_
        rintro e w6 ⟨vb, rfl, o6, m6⟩
        have I6 := Lib.hid (I5.out.kept m6)
        have R6 := Lib.hid (R5.out.kept m6)
        have S6 := Lib.hid (S5.out.kept m6)
        have HLI6 := Lib.hid I6.out.load
        have HLR6 := Lib.hid R6.out.load
        have HLS6 := Lib.hid S6.out.load
        have hne : RecR.enc ⟨k, ds, a, b⟩ ≠ [] := by unfold RecR.enc; split <;> simp
        have hlen : (RecR.enc ⟨k, ds, a, b⟩).length ≤ 40000 := by
          by_cases hk : k = 1
          · obtain ⟨q1, _, q3⟩ := may_commit hm hk
            have := encs_len q3
            unfold RecR.enc
            dsimp only at this q1 ⊢
            rw [if_pos hk]
            simp only [List.length_cons]
            omega
          · unfold RecR.enc
            dsimp only
            rw [if_neg hk]
            simp [ends, numB_length]
        obtain ⟨g, cap, rfl, hgb, hg2, hcap, hcm, hr6⟩ := o6.rd hne (by omega)
        unfold maxLen at hcm
        have HRD := Lib.hid (fun (W : World) (hm : Mod [] w6 W) => dec_some (w := W) (RdB.at_ 0 cap _ (rangeAt_mod hr6 hm (by simp)) hcap hcm) (Nat.lt_of_lt_of_le hg2 hm.size) (rec_byt WR.out) (by omega) (decodeR_enc ⟨k, ds, a, b⟩ WR.out hm'))
        go_wp2_with fail
        refine wp_plan [([0, 2], 1, [2]), ([], 3, []), ([4, 5, 6, 7, 9, 10], 8, [9, 10]), ([], 11, []), ([12, 13, 14, 15, 16], 17, [])] [18, 19] (by kernel_rfl) (by kernel_rfl) ?_
        simp only [wpSegs, opsOf, List.map_cons, List.map_nil, opN, List.getD_cons_zero, List.getD_cons_succ]
        have I7 := Lib.hid (I6.out.kept ((Mod.refl [] w6).drew))
        have R7 := Lib.hid (R6.out.kept ((Mod.refl [] w6).drew))
        have S7 := Lib.hid (S6.out.kept ((Mod.refl [] w6).drew))
        have HLI7 := Lib.hid I7.out.load
        have HLR7 := Lib.hid R7.out.load
        have HLS7 := Lib.hid S7.out.load
        go_wp2_with (first | ((with_reducible refine xLoadAt rfl HLI7.out ?_ ?_ ?_); exact rfl; exact rfl) | ((with_reducible refine xLoadAt rfl HLR7.out ?_ ?_ ?_); exact rfl; exact rfl) | ((with_reducible refine xLoadAt rfl HLS7.out ?_ ?_ ?_); exact rfl; exact rfl))
        refine ⟨by first | trivial | rfl, ?_⟩
        go_wp2_with fail
        refine (rMay_any ⟨k, ds, a, b⟩ (.slice ia ds.length ic) _ I7.out.dos FR.out lr).mono ?_
        rintro e w8 ⟨rfl, m8⟩
        have I8 := Lib.hid (I7.out.kept m8)
        have R8 := Lib.hid (R7.out.kept m8)
        have S8 := Lib.hid (S7.out.kept m8)
        have HLI8 := Lib.hid I8.out.load
        have HLR8 := Lib.hid R8.out.load
        have HLS8 := Lib.hid S8.out.load
        go_wp2_with fail
        have cR0 := cell_blk R8.out.box 0
        have cR1 := cell_blk R8.out.box 1
        have cR2 := cell_blk R8.out.box 2
        have cR3 := cell_blk R8.out.box 3
        simp only [List.getElem?_toArray, List.getElem?_cons_succ, List.getElem?_cons_zero] at cR0 cR1 cR2 cR3
        refine ⟨?agA, ?_⟩
        case agA =>
          intro i hi hw
          simp only [List.mem_cons, List.not_mem_nil, or_false] at hi
          subst hi
          all_goals (simp only [opN, List.getD_cons_zero, List.getD_cons_succ, slotOf]; go_simp)
        clear cR0 cR1 cR2 cR3
        go_wp2_with fail
        refine ⟨by first | trivial | rfl, ?_⟩
        go_wp2_with fail
        refine (rmay25_any ⟨k, ds, a, b⟩ (.slice xr ds.length cr) _ R8.out.dos FC.out (by dsimp only; omega)).mono ?_
        rintro e w9 ⟨rfl, m9⟩
        have I9 := Lib.hid (I8.out.kept m9)
        have R9 := Lib.hid (R8.out.kept m9)
        have S9 := Lib.hid (S8.out.kept m9)
        have HLI9 := Lib.hid I9.out.load
        have HLR9 := Lib.hid R9.out.load
        have HLS9 := Lib.hid S9.out.load
        go_wp2_with fail
        refine ⟨again_nil, ?_⟩
        go_wp2_with (first | ((with_reducible refine xLoadAt rfl HLI9.out ?_ ?_ ?_); exact rfl; exact rfl) | ((with_reducible refine xLoadAt rfl HLR9.out ?_ ?_ ?_); exact rfl; exact rfl) | ((with_reducible refine xLoadAt rfl HLS9.out ?_ ?_ ?_); exact rfl; exact rfl))
        refine ⟨by first | trivial | rfl, ?_⟩
        go_wp2_with fail
        refine (same_any ⟨k, ds, a, b⟩ ⟨k', es, a', b'⟩ (.slice ia ds.length ic) (.slice xs es.length cs) _ I9.out.dos S9.out.dos lr ls).mono ?_
        rintro e w10 ⟨rfl, m10⟩
        have I10 := Lib.hid (I9.out.kept m10)
        have R10 := Lib.hid (R9.out.kept m10)
        have S10 := Lib.hid (S9.out.kept m10)
        have HLI10 := Lib.hid I10.out.load
        have HLR10 := Lib.hid R10.out.load
        have HLS10 := Lib.hid S10.out.load
        go_wp2_with fail
        have cR0 := cell_blk R10.out.box 0
        have cR1 := cell_blk R10.out.box 1
        have cR2 := cell_blk R10.out.box 2
        have cR3 := cell_blk R10.out.box 3
        have cS0 := cell_blk S10.out.box 0
        have cS1 := cell_blk S10.out.box 1
        have cS2 := cell_blk S10.out.box 2
        have cS3 := cell_blk S10.out.box 3
        simp only [List.getElem?_toArray, List.getElem?_cons_succ, List.getElem?_cons_zero] at cR0 cR1 cR2 cR3 cS0 cS1 cS2 cS3
        refine ⟨?agB, ?_⟩
        case agB =>
          intro i hi hw
          simp only [List.mem_cons, List.not_mem_nil, or_false] at hi
          rcases hi with rfl | rfl
          all_goals (simp only [opN, List.getD_cons_zero, List.getD_cons_succ, slotOf]; go_simp)
        clear cR0 cR1 cR2 cR3 cS0 cS1 cS2 cS3
        go_wp2_with fail
        refine ⟨by first | trivial | rfl, ?_⟩
        go_wp2_with fail
        refine (refSame_any ⟨k, ds, a, b⟩ ⟨k', es, a', b'⟩ (.slice xr ds.length cr) (.slice xs es.length cs) _ R10.out.dos S10.out.dos lr ls).mono ?_
        rintro e w11 ⟨rfl, m11⟩
        have I11 := Lib.hid (I10.out.kept m11)
        have R11 := Lib.hid (R10.out.kept m11)
        have S11 := Lib.hid (S10.out.kept m11)
        have HLI11 := Lib.hid I11.out.load
        have HLR11 := Lib.hid R11.out.load
        have HLS11 := Lib.hid S11.out.load
        go_wp2_with fail
        refine ⟨again_nil, ?_⟩
        go_wp2_with (first | ((with_reducible refine xLoadAt rfl HLI11.out ?_ ?_ ?_); exact rfl; exact rfl) | ((with_reducible refine xLoadAt rfl HLR11.out ?_ ?_ ?_); exact rfl; exact rfl) | ((with_reducible refine xLoadAt rfl HLS11.out ?_ ?_ ?_); exact rfl; exact rfl))
        refine ⟨by first | trivial | rfl, ?_⟩
        go_wp2_with fail
        refine (refSame_any ⟨k, ds, a, b⟩ ⟨k, ds, a, b⟩ (.slice ia ds.length ic) (.slice xr ds.length cr) _ I11.out.dos R11.out.dos lr lr).mono ?_
        rintro e w12 ⟨rfl, m12⟩
        have I12 := Lib.hid (I11.out.kept m12)
        have R12 := Lib.hid (R11.out.kept m12)
        have S12 := Lib.hid (S11.out.kept m12)
        have HLI12 := Lib.hid I12.out.load
        have HLR12 := Lib.hid R12.out.load
        have HLS12 := Lib.hid S12.out.load
        rw [decide_eq_true rfl]
        go_wp2_with fail
        refine ⟨again_nil, ?_⟩
        go_wp2_with fail
        refine ⟨by first | trivial | rfl, ?_⟩
        go_wp2_with (first | ((with_reducible refine xLoadAt rfl HLI12.out ?_ ?_ ?_); exact rfl; exact rfl) | ((with_reducible refine xLoadAt rfl HLR12.out ?_ ?_ ?_); exact rfl; exact rfl) | ((with_reducible refine xLoadAt rfl HLS12.out ?_ ?_ ?_); exact rfl; exact rfl))
        refine (rmay25_any ⟨k, ds, a, b⟩ (.slice xr ds.length cr) _ R12.out.dos FC.out (by dsimp only; omega)).mono ?_
        rintro e w13 ⟨rfl, m13⟩
        have I13 := Lib.hid (I12.out.kept m13)
        have R13 := Lib.hid (R12.out.kept m13)
        have S13 := Lib.hid (S12.out.kept m13)
        have HLI13 := Lib.hid I13.out.load
        have HLR13 := Lib.hid R13.out.load
        have HLS13 := Lib.hid S13.out.load
        simp only [hm]
        have M613 : Hid (Mod [] w6 w13) := Lib.hid (((((((Mod.refl [] w6).drew).trans m8).trans m9).trans m10).trans m11).trans m12).trans m13
        have HDEC := Lib.hid (HRD.out w13 M613.out)
        have HOB := Lib.hid (fun (W : World) (hm : Mod [] w6 W) => o6.kept0 hm)
        go_wp2_with fail
        refine HDEC.out.mono ?_
        rintro e w14 ⟨vx, rfl, dx, m14, _⟩
        obtain ⟨xa, xc, rfl⟩ := dos_form dx
        unfold recV
        have X15 : Hid (ZSt w (w14.alloc (.cells #[.int .u8 k, .slice xa ds.length xc, .int .i64 a, .int .i64 b] 54)) w14.heap.size k ds a b (.slice xa ds.length xc)) := Lib.hid ⟨heap_alloc_new w14 _, dx.kept0 ((Mod.refl [] w14).alloc _), (R13.out.mod.trans m14).alloc _⟩
        have m15 := m14.trans ((Mod.refl [] w14).alloc (.cells #[.int .u8 k, .slice xa ds.length xc, .int .i64 a, .int .i64 b] 54))
        have M615 := Lib.hid (M613.out.trans m15)
        have I15 := Lib.hid (I13.out.kept m15)
        have R15 := Lib.hid (R13.out.kept m15)
        have S15 := Lib.hid (S13.out.kept m15)
        have HLI15 := Lib.hid I15.out.load
        have HLR15 := Lib.hid R15.out.load
        have HLS15 := Lib.hid S15.out.load
        have X16 := Lib.hid (X15.out.kept ((Mod.refl [] _).drew))
        have I16 := Lib.hid (I15.out.kept ((Mod.refl [] _).drew))
        have R16 := Lib.hid (R15.out.kept ((Mod.refl [] _).drew))
        have S16 := Lib.hid (S15.out.kept ((Mod.refl [] _).drew))
        have HLI16 := Lib.hid I16.out.load
        have HLR16 := Lib.hid R16.out.load
        have HLS16 := Lib.hid S16.out.load
        have M616 := Lib.hid (M615.out.trans ((Mod.refl [] _).drew))
        have HC16 := Lib.hid (conv_bytes (HOB.out _ M616.out).bytes)
        clear dx m14 m15 HDEC
        go_wp2_with fail
        refine wp_plan [([0, 1, 2, 3, 5, 4], 6, [4]), ([7, 8, 9, 10, 11, 12, 13, 14, 15, 16], 17, []), ([18, 19], 20, [])] [21, 22] (by kernel_rfl) (by kernel_rfl) ?_
        simp only [wpSegs, opsOf, List.map_cons, List.map_nil, opN, List.getD_cons_zero, List.getD_cons_succ]
        go_wp2_with (first | ((with_reducible refine xLoadAt rfl HLR16.out ?_ ?_ ?_); exact rfl; exact rfl) | ((with_reducible refine xConvertAt rfl HC16.out ?_ ?_ ?_); exact rfl; exact rfl))
        refine ⟨by first | trivial | rfl, ?_⟩
        go_wp2_with fail
        refine (refEncode_any ⟨k, ds, a, b⟩ (.slice xr ds.length cr) _ R16.out.dos hm).mono ?_
        rintro e w17 ⟨ve, rfl, o17, m17⟩
        have I17 := Lib.hid (I16.out.kept m17)
        have R17 := Lib.hid (R16.out.kept m17)
        have S17 := Lib.hid (S16.out.kept m17)
        have HLI17 := Lib.hid I17.out.load
        have HLR17 := Lib.hid R17.out.load
        have HLS17 := Lib.hid S17.out.load
        have X17 := Lib.hid (X16.out.kept m17)
        have HLX17 := Lib.hid X17.out.load
        have M617 := Lib.hid (M616.out.trans m17)
        have HC17 := Lib.hid (conv_bytes (HOB.out _ M617.out).bytes)
        have HE17 := Lib.hid (conv_bytes o17.bytes)
        obtain ⟨ea, ec, rfl⟩ := o17.form
        clear m17
        go_wp2_with fail
        refine ⟨?agC, ?_⟩
        case agC =>
          intro i hi hw
          simp only [List.mem_cons, List.not_mem_nil, or_false] at hi
          subst hi
          all_goals (simp only [opN, List.getD_cons_zero, List.getD_cons_succ, slotOf]; go_simp; first | done | exact HC17.out | (rw [HC17.out]; rfl))
        go_wp2_with (first | ((with_reducible refine xLoadAt rfl HLX17.out ?_ ?_ ?_); exact rfl; exact rfl) | ((with_reducible refine xLoadAt rfl HLR17.out ?_ ?_ ?_); exact rfl; exact rfl) | ((with_reducible refine xConvertAt rfl HC17.out ?_ ?_ ?_); exact rfl; exact rfl) | ((with_reducible refine xConvertAt rfl HE17.out ?_ ?_ ?_); exact rfl; exact rfl))
        refine ⟨by first | trivial | rfl, ?_⟩
        go_wp2_with fail
        refine (refSame_any ⟨k, ds, a, b⟩ ⟨k, ds, a, b⟩ (.slice xa ds.length xc) (.slice xr ds.length cr) _ X17.out.dos R17.out.dos lr lr).mono ?_
        rintro e w18 ⟨rfl, m18⟩
        have M18 := Lib.hid (R17.out.mod.trans m18)
        rw [decide_eq_true rfl]
        clear m18
        go_wp2_with fail
        refine ⟨again_nil, ?_⟩
        go_wp2_with fail
        refine ⟨by first | trivial | rfl, ?_⟩
        go_wp2_with fail
        refine (known25_any _).mono ?_
        rintro e w19 ⟨rfl, m19⟩
        have M19 := Lib.hid (M18.out.trans m19)
        clear m19
        go_wp2_with fail
        refine ⟨again_nil, ?_⟩
        go_wp2_with fail
        refine ⟨by first | trivial | rfl, ?_⟩
        go_wp2_with fail
        go_ret
        exact ⟨rfl, M19.out⟩
      · have hm0 : RecR.may ⟨k, ds, a, b⟩ = false := by simpa using hm
        have HEN := Lib.hid (encode_no ⟨k, ds, a, b⟩ _ w5 I5.out.dos FR.out lr hm0)
        unfold recV at HEN
        dsimp only at HEN
        go_wp2_with (first | ((with_reducible refine xLoadAt rfl HLR.out ?_ ?_ ?_); exact rfl; exact rfl) | ((with_reducible refine xAppendAt HR4.out rfl rfl ?_ ?_ ?_ ?_); exact rfl; exact rfl; exact rfl) | ((with_reducible refine xStoreAt rfl HST5.out ?_ ?_ ?_ ?_); exact rfl; exact rfl; exact rfl) | ((with_reducible refine xLoadAt rfl HLI.out ?_ ?_ ?_); exact rfl; exact rfl))
        refine HEN.out.mono ?_
        rintro e w6 ⟨rfl, m6⟩
        have I6 := Lib.hid (I5.out.kept m6)
        have R6 := Lib.hid (R5.out.kept m6)
        have S6 := Lib.hid (S5.out.kept m6)
        have HLI6 := Lib.hid I6.out.load
        have HLR6 := Lib.hid R6.out.load
        have HLS6 := Lib.hid S6.out.load
        clear hm hm'
        have hm := hm0
        go_wp2_with fail
        refine wp_plan [([0, 2], 1, [2]), ([], 3, []), ([4, 5, 6, 7, 9, 10], 8, [9, 10]), ([], 11, []), ([12, 13, 14, 15, 16], 17, [])] [18, 19] (by kernel_rfl) (by kernel_rfl) ?_
        simp only [wpSegs, opsOf, List.map_cons, List.map_nil, opN, List.getD_cons_zero, List.getD_cons_succ]
        have I7 := Lib.hid (I6.out.kept ((Mod.refl [] w6).drew))
        have R7 := Lib.hid (R6.out.kept ((Mod.refl [] w6).drew))
        have S7 := Lib.hid (S6.out.kept ((Mod.refl [] w6).drew))
        have HLI7 := Lib.hid I7.out.load
        have HLR7 := Lib.hid R7.out.load
        have HLS7 := Lib.hid S7.out.load
        go_wp2_with (first | ((with_reducible refine xLoadAt rfl HLI7.out ?_ ?_ ?_); exact rfl; exact rfl) | ((with_reducible refine xLoadAt rfl HLR7.out ?_ ?_ ?_); exact rfl; exact rfl) | ((with_reducible refine xLoadAt rfl HLS7.out ?_ ?_ ?_); exact rfl; exact rfl))
        refine ⟨by first | trivial | rfl, ?_⟩
        go_wp2_with fail
        refine (rMay_any ⟨k, ds, a, b⟩ (.slice ia ds.length ic) _ I7.out.dos FR.out lr).mono ?_
        rintro e w8 ⟨rfl, m8⟩
        have I8 := Lib.hid (I7.out.kept m8)
        have R8 := Lib.hid (R7.out.kept m8)
        have S8 := Lib.hid (S7.out.kept m8)
        have HLI8 := Lib.hid I8.out.load
        have HLR8 := Lib.hid R8.out.load
        have HLS8 := Lib.hid S8.out.load
        go_wp2_with fail
        have cR0 := cell_blk R8.out.box 0
        have cR1 := cell_blk R8.out.box 1
        have cR2 := cell_blk R8.out.box 2
        have cR3 := cell_blk R8.out.box 3
        simp only [List.getElem?_toArray, List.getElem?_cons_succ, List.getElem?_cons_zero] at cR0 cR1 cR2 cR3
        refine ⟨?agA, ?_⟩
        case agA =>
          intro i hi hw
          simp only [List.mem_cons, List.not_mem_nil, or_false] at hi
          subst hi
          all_goals (simp only [opN, List.getD_cons_zero, List.getD_cons_succ, slotOf]; go_simp)
        clear cR0 cR1 cR2 cR3
        go_wp2_with fail
        refine ⟨by first | trivial | rfl, ?_⟩
        go_wp2_with fail
        refine (rmay25_any ⟨k, ds, a, b⟩ (.slice xr ds.length cr) _ R8.out.dos FC.out (by dsimp only; omega)).mono ?_
        rintro e w9 ⟨rfl, m9⟩
        have I9 := Lib.hid (I8.out.kept m9)
        have R9 := Lib.hid (R8.out.kept m9)
        have S9 := Lib.hid (S8.out.kept m9)
        have HLI9 := Lib.hid I9.out.load
        have HLR9 := Lib.hid R9.out.load
        have HLS9 := Lib.hid S9.out.load
        go_wp2_with fail
        refine ⟨again_nil, ?_⟩
        go_wp2_with (first | ((with_reducible refine xLoadAt rfl HLI9.out ?_ ?_ ?_); exact rfl; exact rfl) | ((with_reducible refine xLoadAt rfl HLR9.out ?_ ?_ ?_); exact rfl; exact rfl) | ((with_reducible refine xLoadAt rfl HLS9.out ?_ ?_ ?_); exact rfl; exact rfl))
        refine ⟨by first | trivial | rfl, ?_⟩
        go_wp2_with fail
        refine (same_any ⟨k, ds, a, b⟩ ⟨k', es, a', b'⟩ (.slice ia ds.length ic) (.slice xs es.length cs) _ I9.out.dos S9.out.dos lr ls).mono ?_
        rintro e w10 ⟨rfl, m10⟩
        have I10 := Lib.hid (I9.out.kept m10)
        have R10 := Lib.hid (R9.out.kept m10)
        have S10 := Lib.hid (S9.out.kept m10)
        have HLI10 := Lib.hid I10.out.load
        have HLR10 := Lib.hid R10.out.load
        have HLS10 := Lib.hid S10.out.load
        go_wp2_with fail
        have cR0 := cell_blk R10.out.box 0
        have cR1 := cell_blk R10.out.box 1
        have cR2 := cell_blk R10.out.box 2
        have cR3 := cell_blk R10.out.box 3
        have cS0 := cell_blk S10.out.box 0
        have cS1 := cell_blk S10.out.box 1
        have cS2 := cell_blk S10.out.box 2
        have cS3 := cell_blk S10.out.box 3
        simp only [List.getElem?_toArray, List.getElem?_cons_succ, List.getElem?_cons_zero] at cR0 cR1 cR2 cR3 cS0 cS1 cS2 cS3
        refine ⟨?agB, ?_⟩
        case agB =>
          intro i hi hw
          simp only [List.mem_cons, List.not_mem_nil, or_false] at hi
          rcases hi with rfl | rfl
          all_goals (simp only [opN, List.getD_cons_zero, List.getD_cons_succ, slotOf]; go_simp)
        clear cR0 cR1 cR2 cR3 cS0 cS1 cS2 cS3
        go_wp2_with fail
        refine ⟨by first | trivial | rfl, ?_⟩
        go_wp2_with fail
        refine (refSame_any ⟨k, ds, a, b⟩ ⟨k', es, a', b'⟩ (.slice xr ds.length cr) (.slice xs es.length cs) _ R10.out.dos S10.out.dos lr ls).mono ?_
        rintro e w11 ⟨rfl, m11⟩
        have I11 := Lib.hid (I10.out.kept m11)
        have R11 := Lib.hid (R10.out.kept m11)
        have S11 := Lib.hid (S10.out.kept m11)
        have HLI11 := Lib.hid I11.out.load
        have HLR11 := Lib.hid R11.out.load
        have HLS11 := Lib.hid S11.out.load
        go_wp2_with fail
        refine ⟨again_nil, ?_⟩
        go_wp2_with (first | ((with_reducible refine xLoadAt rfl HLI11.out ?_ ?_ ?_); exact rfl; exact rfl) | ((with_reducible refine xLoadAt rfl HLR11.out ?_ ?_ ?_); exact rfl; exact rfl) | ((with_reducible refine xLoadAt rfl HLS11.out ?_ ?_ ?_); exact rfl; exact rfl))
        refine ⟨by first | trivial | rfl, ?_⟩
        go_wp2_with fail
        refine (refSame_any ⟨k, ds, a, b⟩ ⟨k, ds, a, b⟩ (.slice ia ds.length ic) (.slice xr ds.length cr) _ I11.out.dos R11.out.dos lr lr).mono ?_
        rintro e w12 ⟨rfl, m12⟩
        have I12 := Lib.hid (I11.out.kept m12)
        have R12 := Lib.hid (R11.out.kept m12)
        have S12 := Lib.hid (S11.out.kept m12)
        have HLI12 := Lib.hid I12.out.load
        have HLR12 := Lib.hid R12.out.load
        have HLS12 := Lib.hid S12.out.load
        rw [decide_eq_true rfl]
        go_wp2_with fail
        refine ⟨again_nil, ?_⟩
        go_wp2_with fail
        refine ⟨by first | trivial | rfl, ?_⟩
        go_wp2_with (first | ((with_reducible refine xLoadAt rfl HLI12.out ?_ ?_ ?_); exact rfl; exact rfl) | ((with_reducible refine xLoadAt rfl HLR12.out ?_ ?_ ?_); exact rfl; exact rfl) | ((with_reducible refine xLoadAt rfl HLS12.out ?_ ?_ ?_); exact rfl; exact rfl))
        refine (rmay25_any ⟨k, ds, a, b⟩ (.slice xr ds.length cr) _ R12.out.dos FC.out (by dsimp only; omega)).mono ?_
        rintro e w13 ⟨rfl, m13⟩
        have I13 := Lib.hid (I12.out.kept m13)
        have R13 := Lib.hid (R12.out.kept m13)
        have S13 := Lib.hid (S12.out.kept m13)
        have HLI13 := Lib.hid I13.out.load
        have HLR13 := Lib.hid R13.out.load
        have HLS13 := Lib.hid S13.out.load
        simp only [hm]
        go_wp2_with fail
        refine (known25_any _).mono ?_
        rintro e w14 ⟨rfl, m14⟩
        go_wp2_with fail
        go_ret
        exact ⟨rfl, R13.out.mod.trans m14⟩
    · go_wp2_with ((with_reducible refine xLoadAt rfl HLR.out ?_ ?_ ?_); exact rfl; exact rfl)
      refine (known25_any _).mono ?_
      rintro e w3 ⟨rfl, m3⟩
      go_wp2_with fail
      go_ret
      exact ⟨rfl, R2.out.mod.trans m3⟩
  · go_wp2_with fail
    refine (known25_any _).mono ?_
    rintro e w3 ⟨rfl, m3⟩
    go_wp2_with fail
    go_ret
    exact ⟨rfl, R1.out.mod.trans m3⟩
end Go.Proofs.Ytnoookcfacmdkaa
namespace Go.Proofs.Ytnoookcfacmdkaa
open Go.ChangeShapes Go.WideShapes Go.ChangeAt Go.RowKit Go.ChangeMaps Go.Deep
set_option linter.unusedSimpArgs false
set_option linter.unusedVariables false
theorem okWide_struct {P : Program} {W : World} {r : Reach} {base : Nat} {t : TypeId} {fs : Array Field} {v : Value} (ht : P.underlying t = some (.struct fs)) (h : Value.okWide P W r base t v) : ∃ cs, v = .agg cs ∧ cs.size = P.cellsOf t := by
  unfold Value.okWide at h
  rw [ht] at h
  obtain ⟨cs, h1, h2, _⟩ := h
  exact ⟨cs, h1, h2⟩
set_option maxRecDepth 100000 in
theorem forms_lifted (os : Os) (started : os.Started) (H : Type) (enc : TypeId × Value → H) :
    ReturnsInHanded {} Try.checked os 8 .any (Rows.requestFormsSpec.pre6 enc Try.prog Try.f8 Rows.requestFormsRow.domain false) (Rows.requestFormsSpec.post enc Try.prog Try.f8 false true false false) := by
  refine returnsInHanded_of_change_sized (C := Try.checked) own started (by kernel_rfl) Try.func8
    (ChangeSpec.witness6 (enc := enc) (C := Try.checked) false ⟨#[], #[.agg #[.int .u8 0, .slice none 0 0, .int .i64 0, .int .i64 0], .agg #[.int .u8 0, .slice none 0 0, .int .i64 0, .int .i64 0]], []⟩ 8 (by kernel_rfl) (by kernel_rfl) (by kernel_rfl) (by kernel_rfl)) ?_
  intro W base args ds gs before hval0 hW hcnd hsz _
  have hval : ∀ (j : Nat) t v, Try.f8.params[j]? = some t → args[j]? = some v → Value.okWide Try.prog W .any base t v := hval0
  have hW' := hW
  obtain ⟨p, q, hA0, hV, rfl, hfz, hnd⟩ := hW
  have hA : DataW.TrodAll enc Try.prog W 0 (fun _ => true) true Try.f8.params.toList args.toList ds p := hA0
  have hsz' : (DataW.weightsEach Try.prog (Try.f8.params.toList ++ (ChangeSpec.plain Rows.requestFormsSpec).varTypes Try.prog) (ds ++ gs)).all (· ≤ reachBytes) = true := hsz
  rw [Try.params8] at hA hval hsz'
  obtain ⟨v0, vs0, d0, ds0, p0, q0, hargs, rfl, rfl, h0, r0⟩ := trodAll_cons hA
  obtain ⟨v1, vs1, d1, ds1, p1, q1, rfl, rfl, rfl, h1, r1⟩ := trodAll_cons r0
  obtain ⟨rfl, rfl, rfl⟩ := trodAll_nil r1
  obtain rfl : args = #[v0, v1] := by cases args; simp_all
  obtain ⟨rfl, rfl⟩ := trodVars_none hV
  have hl0 : Lite Try.prog 54 d0 := Lite.of hsz' (j := 0) rfl rfl
  have hl1 : Lite Try.prog 54 d1 := Lite.of hsz' (j := 1) rfl rfl
  obtain ⟨r, x, rfl, hd, hlen, hwf, hfit⟩ := record_arg (okWide_struct Try.underlying54 (hval 0 54 v0 rfl rfl)) h0 hl0
  obtain ⟨s, y, rfl, hd1, hlen1, hwf1, hfit1⟩ := record_arg (okWide_struct Try.underlying54 (hval 1 54 v1 rfl rfl)) h1 hl1
  clear hA0 hval0
  refine (forms_walk r s x y W hd hd1 hfit hfit1 (by omega) (by omega) hwf).mono fun e W' ⟨he, hg⟩ => ⟨_, he, law_post ?_ hW' hg.toBelow rfl rfl rfl⟩
  rw [Try.params8]
  simp only [List.mem_cons, List.not_mem_nil, or_false]
  rintro t (rfl | rfl)
  all_goals exact ⟨by kernel_rfl, of_decide_eq_true (by kernel_rfl)⟩
theorem forms_holds : Rows.RequestFormsSaid :=
  OpenClaim.holds_of_wide 8 Try.f8 rfl rfl rfl rfl rfl rfl rfl ⟨rfl, rfl, rfl, rfl, rfl⟩ rfl rfl rfl rfl rfl (by kernel_rfl) Try.func8 (by kernel_rfl)
    (of_decide_eq_true (by kernel_rfl)) (by unfold Func.isWrapper; first | (rw [if_pos (by decide +kernel)]; kernel_rfl) | (rw [if_neg (by decide +kernel)]; exact ⟨rfl, rfl⟩))
    (fun os started H enc _ => forms_lifted os started H enc)
#print axioms forms_holds
end Go.Proofs.Ytnoookcfacmdkaa
