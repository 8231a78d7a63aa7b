/- DiskPlays: the loop. -/
import Derived.Test.YtnoookcfacmdkaaPlaysA
namespace Go.Proofs.Ytnoookcfacmdkaa
open Go.RowKit Go.ChangeMaps
set_option linter.unusedSimpArgs false
set_option linter.unusedVariables false

theorem Both.start {w w1 : World} {n : Int} (hn : 1 ≤ n) (hm : Mod [] w w1) (hd : DiskAt w1 (w.heap.size + 1) w.heap.size (Dk.new n)) :
    Both w (w1.alloc (.cells (rcells (.slice none 0 0) (Rk.new n)) 41)) (w.heap.size + 1) w.heap.size (Dk.new n) w1.heap.size (.slice none 0 0) (w1.heap.size + 1) (Rk.new n) n 0 := by
  have hlt := lt_of_heap hd.blk
  have hs := hm.size
  exact {
    disk := hd.kept ((Mod.refl [] w1).alloc _) (by simp) (by simp)
    ref := ⟨heap_alloc_new w1 _, ⟨⟨none, 0, rfl, .inl rfl⟩, fun j u hu => by simp [Rk.new, rowCells] at hu, by simp [Rk.new]⟩, by simp [Rk.new], by simp [Rk.new]⟩
    same := Same.new n hn
    num := rfl
    low := by simp [Rk.new]
    high := by simp [Rk.new]
    rows := by simp [Rk.new]
    mod := hm.alloc _
    fb := by omega
    fm := by omega
    frb := by omega
    fg := by omega
    brb := by omega
    bg := by omega
    mrb := by omega
    mg := by omega
    rbg := by omega }
/-- A block that begins with bytes. -/
def Row8 (w : World) (gb len : Nat) : Prop := ∃ cur T, w.heap[gb]? = some (.cells cur T (0, 0)) ∧ len ≤ cur.size ∧ ∀ j, j < len → ∃ x, cur[j]? = some (.int .u8 x)
theorem Row8.cell {w : World} {gb len : Nat} (h : Row8 w gb len) {j : Nat} (hj : j < len) : ∃ x, w.cell? ⟨gb, j, none⟩ = some (.int .u8 x) ∧ w.frozen? ⟨gb, j, none⟩ = false := by
  obtain ⟨cur, T, h1, h2, h3⟩ := h
  obtain ⟨x, hx⟩ := h3 j hj
  exact ⟨x, by rw [cell_blk h1, hx], frozen_blk h1 j⟩
theorem Row8.set {w : World} {gb len : Nat} (h : Row8 w gb len) (i : Nat) (y : Int) : Row8 (w.setCell ⟨gb, i, none⟩ (.int .u8 y)) gb len := by
  obtain ⟨cur, T, h1, h2, h3⟩ := h
  refine ⟨_, T, heap_setCell_blk h1 i _, by simpa using h2, fun j hj => ?_⟩
  rw [Array.getElem?_setIfInBounds]
  split
  · subst_vars
    exact ⟨y, by rw [if_pos (by omega)]⟩
  · exact h3 j hj
theorem Row8.kept {w w' : World} {gb len : Nat} {l : List Nat} (h : Row8 w gb len) (hm : Mod l w w') (hn : gb ∉ l) : Row8 w' gb len := by
  obtain ⟨cur, T, h1, h2, h3⟩ := h
  exact ⟨cur, T, hm.heap h1 hn, h2, h3⟩
theorem Row8.lt {w : World} {gb len : Nat} (h : Row8 w gb len) : gb < w.heap.size := by
  obtain ⟨cur, T, h1, _⟩ := h
  exact lt_of_heap h1
theorem infoU8 : ∃ i z, Try.prog.info? 5 = some i ∧ i.zero = some z ∧ i.size = 1 ∧ i.bytes = 1 ∧ z.cells.size = 1 := by
  have h : (Try.prog.info? 5).map (fun i => (i.zero.map (·.cells.size), i.size, i.bytes)) = some (some 1, 1, 1) := by kernel_rfl
  cases hi : Try.prog.info? 5 with
  | none => rw [hi] at h; cases h
  | some i =>
    rw [hi] at h
    simp only [Option.map_some, Option.some.injEq, Prod.mk.injEq] at h
    obtain ⟨h1, h2, h3⟩ := h
    cases hz : i.zero with
    | none => rw [hz] at h1; cases h1
    | some z => rw [hz] at h1; exact ⟨i, z, rfl, hz, h2, h3, by simpa using h1⟩
theorem bytes_src {w : World} {v : Value} {l : List Int} (h : BytesAt w v l) : (∃ ad c, v = .slice (some ad) l.length c ∧ ∀ j u, (bv l)[j]? = some u → w.cell? (ad.add j) = some u) ∨ (∃ c, v = .slice none 0 c ∧ l.length = 0) := by
  cases h with
  | nil a cap =>
    cases a with
    | none => exact .inr ⟨cap, rfl, rfl⟩
    | some ad => exact .inl ⟨ad, cap, rfl, fun j u hu => by simp [bv] at hu⟩
  | at_ b o cap l hr => exact .inl ⟨_, cap, rfl, fun j u hu => by rw [Addr.add_mid]; exact hr j u hu⟩
/-- The bytes are copied behind an empty slice of the call's own. -/
theorem copy_bytes {w : World} {v : Value} {l : List Int} (h : BytesAt w v l) (hl : l.length ≤ 140737488355328) :
    ∃ gb c w', (Builtin.append_ #[23, 23] 23 #[.slice (some ⟨w.heap.size, 0, none⟩) 0 0, v]).run Try.prog (w.alloc (.cells #[] 5)) = .ok (.slice (some ⟨gb, 0, none⟩) l.length c) w' ∧
      w.heap.size ≤ gb ∧ Mod [] w w' ∧ Row8 w' gb l.length ∧ BytesAt w' (.slice (some ⟨gb, 0, none⟩) l.length c) l := by
  obtain ⟨i, z, hi, hz, hs, hby, hzs⟩ := infoU8
  obtain ⟨v', w', hrun, ⟨g, cap, cur, rfl, hb, hg, hn, hm, hsz, htk⟩, hmod⟩ := append_all (P := Try.prog) (w := w.alloc (.cells #[] 5)) w.heap.size 23 5 i z 1 1 (by kernel_rfl) hi hz hs hby hzs (by omega) (heap_alloc_new w _) (Nat.le_refl _)
    (bytes_src (h.kept0 ((Mod.refl [] w).alloc _))) (by simp [bv_length]) (by
      have := oneCell_bv l
      intro u hu
      rw [Array.all_eq_true'] at this
      exact this u (by simpa using hu)) (by unfold maxLen; omega) (by omega) 23
  have hat : ∀ j u, (bv l)[j]? = some u → cur[j]? = some u := fun j u hj => by
    rw [← htk, List.getElem?_take] at hj
    split at hj
    · simpa using hj
    · cases hj
  refine ⟨g, cap, w', hrun, hb, ((Mod.refl [] w).alloc _).toNil hmod (by simp), ⟨cur, _, hg, by omega, fun j hj => ?_⟩, .at_ g 0 cap l fun j u hj => ?_⟩
  · exact ⟨l[j], hat j _ (by simp [bv, hj])⟩
  · rw [Nat.zero_add, cell_blk hg]
    exact hat j u hj
theorem infoOp : (Try.prog.info? 43).map (fun i => (i.zero.map (·.cells.size), i.size)) = some (some 3, 3) := by kernel_rfl
theorem sizeOp : (Try.prog.info? 43).map (·.size) = some 3 := by kernel_rfl
theorem zeroOp : ∃ z, (∀ w, (zeroValue 43).run Try.prog w = .ok z w) ∧ z.cells.size = 3 := by
  have h := infoOp
  cases hi : Try.prog.info? 43 with
  | none => rw [hi] at h; cases h
  | some i =>
    rw [hi] at h
    simp only [Option.map_some, Option.some.injEq, Prod.mk.injEq] at h
    obtain ⟨h1, h2⟩ := h
    cases hz : i.zero with
    | none => rw [hz] at h1; cases h1
    | some z =>
      rw [hz] at h1
      exact ⟨z, fun w => by simp [zeroValue, typeInfo, hi, hz, go_sem], by simpa using h1⟩
set_option maxHeartbeats 2000000 in
set_option maxRecDepth 10000 in
theorem plays_main (a : Option Addr) (L : List Op3) (cap : Nat) (n : Int) (w : World) (h : L.length ≤ 200) (h1 : 1 ≤ n) (h2 : n ≤ 65536) (hL : OpsAt w a L) :
    Calls Try.prog 4 #[.int .i64 n, .slice a L.length cap] w fun e w' => e = .returned (.bool true) ∧ Mod [] w w' := by
  have HL := Lib.hid hL
  clear hL
  go_enter Try.func4, Try.ntmps4
  go_wp2_with fail
  refine (new_yes n w h1 h2).mono ?_
  rintro e w1 ⟨rfl, hm1, hd1⟩
  have HB := Lib.hid (Both.start h1 hm1 hd1)
  clear hm1 hd1
  go_wp2_with fail
  go_loopw [5, 7, 53] (fun s5 s7 s53 wr => ∃ (i b m rb g : Nat) (D : Dk) (R : Rk) (v : Value), i ≤ L.length ∧ s5 = .pointer (some ⟨b, 0, none⟩) ∧ s7 = .pointer (some ⟨rb, 0, none⟩) ∧ s53 = .int .i64 i ∧ Hid (Both w wr b m D rb v g R n i)) (fun _ _ s53 _ => L.length - (intOf s53).toNat)
  case atStart => exact ⟨0, _, _, _, _, _, _, _, by omega, rfl, rfl, rfl, HB⟩
  case round =>
    obtain ⟨i, b, m, rb, g, D, R, v, hi, rfl, rfl, rfl, hb⟩ := hrel
    by_cases hlt : i < L.length
    · obtain ⟨ba, oa, rfl, hop⟩ := HL.out.each i L[i] (by simp [hlt])
      generalize L[i] = q at hop
      obtain ⟨kind, at_, qv, l⟩ := q
      have HQ0 := Lib.hid hop.bytes
      obtain ⟨hcells, hbytes, hmax, hat⟩ := hop.kept hb.out.mod
      dsimp only at hcells hbytes hmax hat
      clear hop
      obtain ⟨z, hz, hzs⟩ := zeroOp
      obtain ⟨xa, xc, hqv⟩ := hbytes.form
      have hld := run_loadAt_mid (P := Try.prog) wr ba (oa + i * 3) 43 [.int .i64 kind, .int .i64 at_, qv] _ hcells Try.underlying43 rfl sizeOp
      obtain ⟨hst, hm2, hb2⟩ := store_whole (P := Try.prog) (w := wr.alloc (.cells z.cells 43)) (b := wr.heap.size) (c := #[.int .i64 kind, .int .i64 at_, qv]) (c0 := z.cells) 43 (heap_alloc_new wr _) (by rw [hzs]; rfl) sizeOp (by rw [hqv]; simp [Value.oneCell'])
      generalize hw2 : (wr.alloc (.cells z.cells 43)).setCells wr.heap.size 0 (#[.int .i64 kind, .int .i64 at_, qv] : Array Value).toList = w2 at hst hm2 hb2
      have hmr : Mod [] wr w2 := ((Mod.refl [] wr).alloc _).toNil hm2 (by simp)
      obtain ⟨gb, c, w3, hrun, hgb, hm3, hrow, hbn⟩ := copy_bytes (hbytes.kept0 hmr) hmax
      have hs2 : wr.heap.size < w2.heap.size := lt_of_heap hb2
      have hq0 : w2.cell? ⟨wr.heap.size, 2, none⟩ = some qv := by rw [cell_blk hb2]; rfl
      have hq1 : w3.cell? ⟨wr.heap.size, 0, none⟩ = some (.int .i64 kind) := by rw [cell_blk (hm3.heap hb2 (by simp))]; rfl
      have hwgb : w.heap.size ≤ gb := by have := hb.out.mod.size; omega
      obtain ⟨l1, l2, l3⟩ := hb.out.lts
      obtain ⟨g3, hb3, hg3⟩ := hb.out.move gb
      have hne0 : gb ≠ b ∧ gb ≠ m ∧ gb ≠ rb ∧ gb ≠ g3 := by omega
      subst hqv
      have HLD := Lib.hid hld
      have HST := Lib.hid hst
      have HZ := Lib.hid hz
      have HR := Lib.hid hrun
      have HO := Lib.hid (hm3.heap hb2 (by simp))
      have HW := Lib.hid hw2
      have HQ := Lib.hid (hbytes.kept0 (hmr.trans hm3))
      have HB3 := Lib.hid (hb3.kept0 (hmr.trans hm3))
      have HNE := Lib.hid hne0
      have HROW := Lib.hid hrow
      have HBN := Lib.hid hbn
      clear hcells hbytes hld hst hb2 hw2 hz hzs hm2 hrun hrow hbn hb HB hb3 hg3 hne0
      go_upto_block 2 with (first
        | (refine xLoad (t := 43) rfl rfl HLD.out rfl ?_)
        | (refine xAlloc (t := 43) rfl HZ.out rfl ?_)
        | (refine xStore (t := 43) rfl rfl rfl HST.out rfl ?_)
        | (refine xAppend (t := 23) rfl rfl rfl HR.out rfl ?_))
      go_cut [5, 7] from 54 to 193 (fun s5 s7 wx => ∃ (b m rb g : Nat) (D : Dk) (R : Rk) (v : Value), s5 = .pointer (some ⟨b, 0, none⟩) ∧ s7 = .pointer (some ⟨rb, 0, none⟩) ∧ Hid (Both w wx b m D rb v g R n (i + 1)) ∧ Hid (Row8 wx gb l.length) ∧ Hid (gb ≠ b ∧ gb ≠ m ∧ gb ≠ rb ∧ gb ≠ g))
      case first =>
        have hq2 : w3.cell? ⟨wr.heap.size, 1, none⟩ = some (.int .i64 at_) := by rw [cell_blk HO.out]; rfl
        have hq3 : w3.cell? ⟨wr.heap.size, 2, none⟩ = some (.slice xa l.length xc) := by rw [cell_blk HO.out]; rfl
        have HQQ := Lib.hid (And.intro hlt hi)
        clear HLD HST HZ HR HW hq0
        by_cases k1 : kind = 1
        · subst k1
          have hbs := HB3.out
          obtain ⟨hs1, hs2⟩ := hbs.same.write at_ l
          have hwr := write_any (hbs.disk.kept ((Mod.refl [] w3).drew) (by simp) (by simp)) at_ (HBN.out.kept0 ((Mod.refl [] w3).drew)) (off_slice HNE.out.1) (by unfold maxLen; omega) (by rw [hbs.same.written]; exact hbs.low) (by rw [hbs.same.written]; have := hbs.high; omega)
          rw [hs1] at hwr
          have HS2 := Lib.hid hs2
          have HWR := Lib.hid hwr
          have HBS := Lib.hid hbs
          clear hs1 hs2 hwr hbs
          go_wp2_with fail
          refine wp_plan [([0, 1, 2, 3, 5, 6, 7, 8, 9], 4, [6, 7, 8, 9]), ([], 10, [])] [11] (by kernel_rfl) (by kernel_rfl) ?_
          simp only [wpSegs, opsOf, List.map_cons, List.map_nil, opN, List.getD_cons_zero, List.getD_cons_succ]
          go_wp2_with fail
          refine ⟨by first | trivial | rfl, ?_⟩
          go_wp2_with fail
          refine HWR.out.mono ?_
          rintro e w4 ⟨rfl, hm4, hd4⟩
          have hm4' : Mod [b, m] w3 w4 := ((Mod.refl [b, m] w3).drew).trans (hm4.mono (by simp))
          have hob : wr.heap.size ≠ b ∧ wr.heap.size ≠ m := by omega
          have hO4 := hm4'.heap HO.out (by simp; omega)
          have hq2' : w4.cell? ⟨wr.heap.size, 1, none⟩ = some (.int .i64 at_) := by rw [cell_blk hO4]; rfl
          have hq3' : w4.cell? ⟨wr.heap.size, 2, none⟩ = some (.slice xa l.length xc) := by rw [cell_blk hO4]; rfl
          have hr4 := HBS.out.ref.kept hm4' (by have := HBS.out.brb; have := HBS.out.mrb; simp; omega) (by have := HBS.out.bg; have := HBS.out.mg; simp; omega)
          have hx4 := HQ0.out.old HQ.out hm4' (by intro k hk; have := HBS.out.fb; have := HBS.out.fm; simp only [List.mem_cons, List.not_mem_nil, or_false] at hk; omega)
          have hw5 := rwrite_any hr4 HBS.out.rbg (by have := HBS.out.rows; omega) at_ hx4 (fun hl => off_old HQ0.out hl HBS.out.frb) (by unfold maxLen; omega) HBS.out.low (by have := HBS.out.high; omega)
          have HW5 := Lib.hid hw5
          have HD4 := Lib.hid hd4
          have HM4 := Lib.hid hm4'
          clear hm4 hm4' hd4 hO4 hr4 hx4 hw5 hob
          go_wp2_with fail
          refine ⟨?again1, ?_⟩
          case again1 =>
            intro i hi hw
            simp only [List.mem_cons, List.not_mem_nil, or_false] at hi
            rcases hi with rfl | rfl | rfl | rfl
            all_goals (simp only [opN, List.getD_cons_zero, List.getD_cons_succ, slotOf]; go_simp)
          go_wp2_with fail
          refine ⟨by first | trivial | rfl, ?_⟩
          go_wp2_with fail
          refine HW5.out.mono ?_
          rintro e w5 ⟨rfl, hm5, v5, g5, hg5, hr5⟩
          have hbn := HBS.out.next HD4.out HM4.out hm5 hr5 hg5 HS2.out (n_write _ _ _) (written_write _ _ _).1 (written_write _ _ _).2 (rows_write _ _ _)
          have hrw := (HROW.out.kept HM4.out (by have := HNE.out; simp; omega)).kept hm5 (by have := HNE.out; simp; omega)
          have hgg : gb ≠ g5 := by
            have h1 := HNE.out.2.2.2
            have h2 := HROW.out.lt
            have h3 := HM4.out.size
            omega
          have HBN2 := Lib.hid hbn
          have HRW := Lib.hid hrw
          have HGG := Lib.hid hgg
          clear hm5 hg5 hr5 hbn hrw hgg
          go_wp2_with fail
          refine ⟨again_nil, ?_⟩
          go_wp2_with fail
          refine ⟨by first | trivial | rfl, ?_⟩
          go_wp2_with fail
          go_meet
          exact ⟨b, m, rb, g5, _, _, v5, rfl, rfl, HBN2, HRW, Lib.hid ⟨HNE.out.1, HNE.out.2.1, HNE.out.2.2.1, HGG.out⟩⟩
        by_cases k2 : kind = 2
        · subst k2
          by_cases ha : R.asked at_ = 0
          · have hrd := read_yes HB3.out.disk at_ (by rw [HB3.out.same.asked]; exact ha)
            have hB4 := HB3.out.kept0 ((Mod.refl [] w3).alloc (.cells (bv (D.sec at_)).toArray 65))
            have hO4 := ((Mod.refl [] w3).alloc (.cells (bv (D.sec at_)).toArray 65)).heap HO.out (by simp)
            have hq2' : (w3.alloc (.cells (bv (D.sec at_)).toArray 65)).cell? ⟨wr.heap.size, 1, none⟩ = some (.int .i64 at_) := by rw [cell_blk hO4]; rfl
            have hrr := rread_done hB4.ref at_ ha
            have hs64 := sec_length HB3.out.disk at_
            have hbx := bytes_new w3 (D.sec at_) 65
            rw [hs64] at hbx
            have hr8 : Row8 (w3.alloc (.cells (bv (D.sec at_)).toArray 65)) w3.heap.size 64 := ⟨_, _, heap_alloc_new w3 _, by simp [bv_length, hs64], fun j hj => ⟨(D.sec at_)[j]'(by omega), by simp [bv, hs64, hj]⟩⟩
            have HRD := Lib.hid hrd
            have HB4 := Lib.hid hB4
            have HRR := Lib.hid hrr
            have HBX := Lib.hid hbx
            have HR8 := Lib.hid hr8
            have HA := Lib.hid ha
            clear hrd hB4 hO4 hrr hs64 hbx hr8 ha
            go_wp2_with fail
            refine HRD.out.mono ?_
            rintro e w4 ⟨rfl, rfl⟩
            go_wp2_with fail
            refine HRR.out.mono ?_
            rintro e w5 ⟨rfl, hm5⟩
            have hcv := conv_bytes (HBX.out.kept0 hm5)
            rw [HB3.out.same.sec] at hcv
            have HCV := Lib.hid hcv
            have HM5 := Lib.hid (((Mod.refl [] w3).alloc (.cells (bv (D.sec at_)).toArray 65)).trans hm5)
            have HR5 := Lib.hid (HR8.out.kept hm5 (by simp))
            clear hcv hm5
            go_wp2_with (refine xConvert (s := 23) rfl rfl HCV.out rfl ?_)
            go_loopw [104] (fun s104 wj => ∃ j : Nat, j ≤ 64 ∧ s104 = .int .i64 j ∧ Mod [w3.heap.size] w5 wj ∧ Hid (Row8 wj w3.heap.size 64)) (fun s104 _ => 64 - (intOf s104).toNat)
            case atStart => exact ⟨0, by omega, rfl, Mod.refl _ _, HR5⟩
            case round =>
              obtain ⟨j, hj, rfl, hmj, hrj⟩ := hrel
              by_cases hlj : j < 64
              · obtain ⟨x, cx, fx⟩ := hrj.out.cell hlj
                go_wp2_with fail
                go_roundw
                case rel => exact ⟨j + 1, by omega, by go_num, hmj.setCell (by simp) _, Lib.hid (hrj.out.set _ _)⟩
                case measure => simp [intOf]; omega
              · have hjl : j = 64 := by omega
                obtain ⟨g6, hb6, hg6⟩ := HB3.out.move (w3.heap.size + gb)
                obtain ⟨y1, y2, y3⟩ := HB3.out.lts
                have y4 := HROW.out.lt
                have y5 := HB3.out.mod.size
                have hne := HNE.out
                have hbn := ((hb6.kept0 HM5.out).kept hmj (by intro k hk; simp only [List.mem_singleton] at hk; omega)).more
                have hrw := (HROW.out.kept HM5.out (by simp)).kept hmj (by simp; omega)
                have HBN2 := Lib.hid hbn
                have HRW := Lib.hid hrw
                have HGG := Lib.hid (show gb ≠ b ∧ gb ≠ m ∧ gb ≠ rb ∧ gb ≠ g6 by omega)
                have HJ := Lib.hid hjl
                clear hb6 hg6 hbn hrw hne hjl
                go_wp2_with fail
                go_meet
                exact ⟨b, m, rb, g6, D, R, v, rfl, rfl, HBN2, HRW, HGG⟩
          · have hrd := read_no HB3.out.disk at_ (by rw [HB3.out.same.asked]; exact ha)
            rw [HB3.out.same.asked] at hrd
            have hrr := rread_refused HB3.out.ref at_ ha
            have hcv := conv_bytes (BytesAt.nil none 0 : BytesAt w3 (.slice none 0 0) [])
            have e0 : strOfNums [] = ByteArray.empty := rfl
            rw [e0] at hcv
            have HRD := Lib.hid hrd
            have HRR := Lib.hid hrr
            have HCV := Lib.hid hcv
            have HB4 := Lib.hid HB3.out.more
            have HA := Lib.hid ha
            clear hrd hrr hcv e0 ha
            go_wp2_with fail
            refine HRD.out.mono ?_
            rintro e w4 ⟨rfl, rfl⟩
            go_wp2_with fail
            refine HRR.out.mono ?_
            rintro e w5 ⟨rfl, rfl⟩
            go_wp2_with (refine xConvert (s := 23) rfl rfl HCV.out rfl ?_)
            go_loop [104] (fun s104 => s104 = .int .i64 0) (fun _ => 0)
            case atStart => rfl
            case round =>
              subst hrel
              go_wp2_with fail
              go_meet
              exact ⟨b, m, rb, g3, D, R, v, rfl, rfl, HB4, HROW, HNE⟩
        by_cases k3 : kind = 3
        · subst k3
          have hbs := HB3.out
          obtain ⟨hs1, hs2⟩ := hbs.same.crash at_ l
          have hwr := crash_any (hbs.disk.kept ((Mod.refl [] w3).drew) (by simp) (by simp)) at_ (HBN.out.kept0 ((Mod.refl [] w3).drew)) (by unfold maxLen; omega) hat
          rw [hs1] at hwr
          have HS2 := Lib.hid hs2
          have HWR := Lib.hid hwr
          have HBS := Lib.hid hbs
          clear hs1 hs2 hwr hbs
          go_wp2_with fail
          refine wp_plan [([0, 1, 2, 3, 5, 6, 7, 8, 9], 4, [6, 7, 8, 9]), ([], 10, [])] [11] (by kernel_rfl) (by kernel_rfl) ?_
          simp only [wpSegs, opsOf, List.map_cons, List.map_nil, opN, List.getD_cons_zero, List.getD_cons_succ]
          go_wp2_with fail
          refine ⟨by first | trivial | rfl, ?_⟩
          go_wp2_with fail
          refine HWR.out.mono ?_
          rintro e w4 ⟨rfl, hm4, hd4⟩
          have hm4' : Mod [b, m] w3 w4 := ((Mod.refl [b, m] w3).drew).trans (hm4.mono (by intro k hk; simp only [List.mem_singleton] at hk; simp [hk]))
          have hob : wr.heap.size ≠ b ∧ wr.heap.size ≠ m := by omega
          have hO4 := hm4'.heap HO.out (by simp; omega)
          have hq2' : w4.cell? ⟨wr.heap.size, 1, none⟩ = some (.int .i64 at_) := by rw [cell_blk hO4]; rfl
          have hq3' : w4.cell? ⟨wr.heap.size, 2, none⟩ = some (.slice xa l.length xc) := by rw [cell_blk hO4]; rfl
          have hr4 := HBS.out.ref.kept hm4' (by have := HBS.out.brb; have := HBS.out.mrb; simp; omega) (by have := HBS.out.bg; have := HBS.out.mg; simp; omega)
          have hx4 := HQ0.out.old HQ.out hm4' (by intro k hk; have := HBS.out.fb; have := HBS.out.fm; simp only [List.mem_cons, List.not_mem_nil, or_false] at hk; omega)
          have hw5 := rcrash_any hr4 HBS.out.rbg at_ hx4 (by unfold maxLen; omega) hat
          have HW5 := Lib.hid hw5
          have HD4 := Lib.hid hd4
          have HM4 := Lib.hid hm4'
          clear hm4 hm4' hd4 hO4 hr4 hx4 hw5 hob
          go_wp2_with fail
          refine ⟨?again1, ?_⟩
          case again1 =>
            intro i hi hw
            simp only [List.mem_cons, List.not_mem_nil, or_false] at hi
            rcases hi with rfl | rfl | rfl | rfl
            all_goals (simp only [opN, List.getD_cons_zero, List.getD_cons_succ, slotOf]; go_simp)
          go_wp2_with fail
          refine ⟨by first | trivial | rfl, ?_⟩
          go_wp2_with fail
          refine HW5.out.mono ?_
          rintro e w5 ⟨rfl, hm5, hr5⟩
          have hbn := HBS.out.next HD4.out HM4.out hm5 hr5 (.inl rfl) HS2.out (n_crash _ _ _) (by rw [written_crash]; omega) (by rw [written_crash]; omega) (by rw [rows_crash]; omega)
          have hrw := (HROW.out.kept HM4.out (by have := HNE.out; simp; omega)).kept hm5 (by have := HNE.out; simp; omega)
          have HBN2 := Lib.hid hbn
          have HRW := Lib.hid hrw
          clear hm5 hr5 hbn hrw
          go_wp2_with fail
          refine ⟨again_nil, ?_⟩
          go_wp2_with fail
          refine ⟨by first | trivial | rfl, ?_⟩
          go_wp2_with fail
          go_meet
          exact ⟨b, m, rb, g3, _, _, v, rfl, rfl, HBN2, HRW, HNE⟩
        by_cases k4 : kind = 4
        · subst k4
          have hup := up_any HB3.out.disk
          have HUP := Lib.hid hup
          clear hup
          go_wp2_with fail
          refine HUP.out.mono ?_
          rintro e w4 ⟨rfl, hm4, hd4⟩
          have hm4' : Mod [b, m] w3 w4 := hm4.mono (by intro k hk; simp only [List.mem_singleton] at hk; simp [hk])
          have hr4 := HB3.out.ref.kept hm4' (by have := HB3.out.brb; have := HB3.out.mrb; simp; omega) (by have := HB3.out.bg; have := HB3.out.mg; simp; omega)
          obtain ⟨hr5, hm5⟩ := hr4.downs HB3.out.rbg false
          have f3 := frozen_blk hr4.blk 3
          have c3 := hr4.c3
          have hbn := HB3.out.next hd4 hm4' hm5 hr5 (.inl rfl) HB3.out.same.up rfl (Int.le_refl _) (by dsimp only; omega) (by dsimp only; omega)
          have hrw := (HROW.out.kept hm4' (by have := HNE.out; simp; omega)).kept hm5 (by have := HNE.out; simp; omega)
          have HBN2 := Lib.hid hbn
          have HRW := Lib.hid hrw
          clear hm4 hm4' hd4 hr4 hr5 hm5 hbn hrw
          go_wp2_with fail
          go_meet
          exact ⟨b, m, rb, g3, _, _, v, rfl, rfl, HBN2, HRW, HNE⟩
        by_cases k5 : kind = 5
        · subst k5
          have hcp := copy_any HB3.out.disk
          have HCP := Lib.hid hcp
          clear hcp
          go_wp2_with fail
          refine HCP.out.mono ?_
          rintro e w4 ⟨b2, m2, rfl, hm4, hd4, hlb, hlm⟩
          have HB4 := Lib.hid (HB3.out.kept0 hm4)
          have hO4 := hm4.heap HO.out (by simp)
          have hq2' : w4.cell? ⟨wr.heap.size, 1, none⟩ = some (.int .i64 at_) := by rw [cell_blk hO4]; rfl
          have HO4 := Lib.hid hO4
          have HD4 := Lib.hid hd4
          have HM4 := Lib.hid hm4
          clear hO4 hd4 hm4
          go_wp2_with fail
          refine wp_plan [([0, 1, 2], 3, [1, 2]), ([], 4, [])] [] (by kernel_rfl) (by kernel_rfl) ?_
          simp only [wpSegs, opsOf, List.map_cons, List.map_nil, opN, List.getD_cons_zero, List.getD_cons_succ]
          go_wp2_with fail
          refine ⟨by first | trivial | rfl, ?_⟩
          go_wp2_with fail
          refine (full_own 7 w4.drew).mono ?_
          rintro e w5 ⟨_, rfl, ⟨a5, rfl⟩, hf5⟩
          have hm5 : Mod [] w4 w5 := ((Mod.refl [] w4).drew).trans hf5.mod
          have hO5 := hm5.heap HO4.out (by simp)
          have hq2'' : w5.cell? ⟨wr.heap.size, 1, none⟩ = some (.int .i64 at_) := by rw [cell_blk hO5]; rfl
          have hB5 := HB4.out.kept0 hm5
          have hwr := write_any hB5.disk at_ hf5.bytes (hf5.off b HB4.out.lts.1) (full_max 7) (by rw [hB5.same.written]; exact hB5.low) (by rw [hB5.same.written]; have := hB5.high; omega)
          have HWR := Lib.hid hwr
          have HB5 := Lib.hid hB5
          have HM5 := Lib.hid hm5
          clear hm5 hO5 hB5 hwr hf5
          go_wp2_with fail
          refine ⟨?again1, ?_⟩
          case again1 =>
            intro i hi hw
            simp only [List.mem_cons, List.not_mem_nil, or_false] at hi
            rcases hi with rfl | rfl
            all_goals (simp only [opN, List.getD_cons_zero, List.getD_cons_succ, slotOf]; go_simp)
          go_wp2_with fail
          refine ⟨by first | trivial | rfl, ?_⟩
          go_wp2_with fail
          refine HWR.out.mono ?_
          rintro e w6 ⟨rfl, hm6, hd6⟩
          have hr6 := HB5.out.ref.kept hm6 (by have := HB5.out.brb; have := HB5.out.mrb; simp; omega) (by have := HB5.out.bg; have := HB5.out.mg; simp; omega)
          have hcq := rcopy_any hr6 (by have := HB5.out.rows; omega)
          have HCQ := Lib.hid hcq
          have HM6 := Lib.hid hm6
          clear hm6 hd6 hr6 hcq
          go_wp2_with fail
          refine ⟨again_nil, ?_⟩
          go_wp2_with fail
          refine ⟨by first | trivial | rfl, ?_⟩
          go_wp2_with fail
          refine HCQ.out.mono ?_
          rintro e w7 ⟨rb7, v7, g7, rfl, hm7, hr7, hlr, hlg, hng⟩
          have hall : Both w w7 b2 m2 D rb7 v7 g7 R n (i + 1) ∧ Row8 w7 gb l.length ∧ (gb ≠ b2 ∧ gb ≠ m2 ∧ gb ≠ rb7 ∧ gb ≠ g7) := by
            have t4 := HM4.out
            have t5 := HM5.out
            have t6 := HM6.out
            have z4 := t4.size
            have z5 := t5.size
            have z6 := t6.size
            have hh := HB3.out
            obtain ⟨y1, y2, y3⟩ := hh.lts
            have y4 := HROW.out.lt
            have x1 := hh.fb
            have x2 := hh.fm
            have x3 := hh.mod.size
            have x4 := hh.low
            have x5 := hh.high
            have x6 := hh.rows
            have hne := HNE.out
            have hd5 := HD4.out.kept t5 (by simp) (by simp)
            have hd6 := hd5.kept t6 (by simp; omega) (by simp; omega)
            have hd7 := hd6.kept hm7 (by simp) (by simp)
            have u1 := lt_of_heap HD4.out.blk
            have u2 := HD4.out.map.lt
            refine ⟨{ disk := hd7, ref := hr7, same := hh.same, num := hh.num, low := x4, high := by omega, rows := by omega, mod := ?_, fb := by omega, fm := by omega, frb := by omega, fg := by omega, brb := by omega, bg := by omega, mrb := by omega, mg := by omega, rbg := hng }, ?_, by omega⟩
            · exact ((((hh.mod.trans t4).trans t5).toNil t6 (by intro k hk; simp only [List.mem_cons, List.not_mem_nil, or_false] at hk; omega)).trans hm7)
            · exact (((HROW.out.kept t4 (by simp)).kept t5 (by simp)).kept t6 (by simp; omega)).kept hm7 (by simp)
          have HALL := Lib.hid hall
          clear hall hm7 hr7
          go_wp2_with fail
          go_meet
          exact ⟨b2, m2, rb7, g7, D, R, v7, rfl, rfl, Lib.hid HALL.out.1, Lib.hid HALL.out.2.1, Lib.hid HALL.out.2.2⟩
        by_cases k6 : kind = 6
        · subst k6
          have hcp := copy_any (HB3.out.disk.kept ((Mod.refl [] w3).drew) (by simp) (by simp))
          have HCP := Lib.hid hcp
          clear hcp
          go_wp2_with fail
          refine wp_plan [([0, 2, 3], 1, [2, 3]), ([], 4, [2, 3]), ([], 5, [])] [] (by kernel_rfl) (by kernel_rfl) ?_
          simp only [wpSegs, opsOf, List.map_cons, List.map_nil, opN, List.getD_cons_zero, List.getD_cons_succ]
          go_wp2_with fail
          refine ⟨by first | trivial | rfl, ?_⟩
          go_wp2_with fail
          refine HCP.out.mono ?_
          rintro e w4 ⟨b2, m2, rfl, hm4, hd4, hlb, hlm⟩
          have hm4' : Mod [] w3 w4 := ((Mod.refl [] w3).drew).trans hm4
          have hO4 := hm4'.heap HO.out (by simp)
          have hq2' : w4.cell? ⟨wr.heap.size, 1, none⟩ = some (.int .i64 at_) := by rw [cell_blk hO4]; rfl
          have HO4 := Lib.hid hO4
          have HD4 := Lib.hid hd4
          have HM4 := Lib.hid hm4'
          have HLB := Lib.hid (show w3.heap.size ≤ b2 ∧ w3.heap.size ≤ m2 from ⟨hlb, hlm⟩)
          clear hO4 hd4 hm4 hm4' hlb hlm
          go_wp2_with fail
          refine ⟨?again1, ?_⟩
          case again1 =>
            intro i hi hw
            simp only [List.mem_cons, List.not_mem_nil, or_false] at hi
            rcases hi with rfl | rfl
            all_goals (simp only [opN, List.getD_cons_zero, List.getD_cons_succ, slotOf]; go_simp)
          go_wp2_with fail
          refine ⟨by first | trivial | rfl, ?_⟩
          go_wp2_with fail
          refine (full_own 7 w4).mono ?_
          rintro e w5 ⟨_, rfl, ⟨a5, rfl⟩, hf5⟩
          have hO5 := hf5.mod.heap HO4.out (by simp)
          have hq2'' : w5.cell? ⟨wr.heap.size, 1, none⟩ = some (.int .i64 at_) := by rw [cell_blk hO5]; rfl
          have hwr := write_any (HD4.out.kept hf5.mod (by simp) (by simp)) at_ hf5.bytes (hf5.off b2 (lt_of_heap HD4.out.blk)) (full_max 7) (by rw [HB3.out.same.written]; exact HB3.out.low) (by rw [HB3.out.same.written]; have := HB3.out.high; omega)
          have HWR := Lib.hid hwr
          have HM5 := Lib.hid hf5.mod
          clear hO5 hwr hf5
          go_wp2_with fail
          refine ⟨?again2, ?_⟩
          case again2 =>
            intro i hi hw
            simp only [List.mem_cons, List.not_mem_nil, or_false] at hi
            rcases hi with rfl | rfl
            all_goals (simp only [opN, List.getD_cons_zero, List.getD_cons_succ, slotOf]; go_simp)
          go_wp2_with fail
          refine ⟨by first | trivial | rfl, ?_⟩
          go_wp2_with fail
          refine HWR.out.mono ?_
          rintro e w6 ⟨rfl, hm6, hd6⟩
          have hm7 : Mod [] w3 w6 := (HM4.out.trans HM5.out).toNil hm6 (by intro k hk; have := HLB.out; simp only [List.mem_cons, List.not_mem_nil, or_false] at hk; omega)
          have HBN2 := Lib.hid (HB3.out.kept0 hm7).more
          have HRW := Lib.hid (HROW.out.kept hm7 (by simp))
          clear hm6 hd6 hm7
          go_wp2_with fail
          refine ⟨again_nil, ?_⟩
          go_wp2_with fail
          refine ⟨by first | trivial | rfl, ?_⟩
          go_wp2_with fail
          go_meet
          exact ⟨b, m, rb, g3, D, R, v, rfl, rfl, HBN2, HRW, HNE⟩
        have q1 : (kind == 1) = false := beq_eq_false_iff_ne.2 k1
        have q2 : (kind == 2) = false := beq_eq_false_iff_ne.2 k2
        have q3 : (kind == 3) = false := beq_eq_false_iff_ne.2 k3
        have q4 : (kind == 4) = false := beq_eq_false_iff_ne.2 k4
        have q5 : (kind == 5) = false := beq_eq_false_iff_ne.2 k5
        have q6 : (kind == 6) = false := beq_eq_false_iff_ne.2 k6
        have HB4 := Lib.hid HB3.out.more
        clear k1 k2 k3 k4 k5 k6
        go_wp2_with fail
        go_meet
        exact ⟨b, m, rb, g3, D, R, v, rfl, rfl, HB4, HROW, HNE⟩
      case rest =>
        obtain ⟨b, m, rb, g, D, R, v, rfl, rfl, hb, hrow, hne⟩ := hcut
        have HGB := Lib.hid hwgb
        clear HLD HST HZ HR HO HW HQ HB3 HROW HBN hq0 hq1
        have hl63 : l.length ≤ 9223372036854775807 := by omega
        go_wp2_with fail
        go_loopw [157] (fun s157 wj => ∃ j : Nat, j ≤ l.length ∧ s157 = .int .i64 j ∧ Mod [gb] wc wj ∧ Hid (Row8 wj gb l.length)) (fun s157 _ => l.length - (intOf s157).toNat)
        case atStart => exact ⟨0, by omega, rfl, Mod.refl _ _, hrow⟩
        case round =>
          obtain ⟨j, hj, rfl, hmj, hrj⟩ := hrel
          by_cases hlj : j < l.length
          · obtain ⟨x, cx, fx⟩ := hrj.out.cell hlj
            go_wp2_with fail
            go_roundw
            case rel => exact ⟨j + 1, by omega, by go_num, hmj.setCell (by simp) _, Lib.hid (hrj.out.set _ _)⟩
            case measure => simp [intOf]; omega
          · have hjl : j = l.length := by omega
            have hB := hb.out.kept hmj (fun k hk => by
              have := List.mem_singleton.1 hk
              subst this
              exact ⟨HGB.out, hne.out.1, hne.out.2.1, hne.out.2.2.1, hne.out.2.2.2⟩)
            have hBd := hB.kept0 ((Mod.refl [] wr).drew)
            have c2 := hB.ref.c2
            have c3 := hB.ref.c3
            rw [← hB.same.down] at c3
            rw [← hB.same.written] at c2
            have hdn := down_any hBd.disk
            have hwr := written_any hBd.disk
            have hsc := sectors_any hBd.disk
            rw [hBd.num] at hsc
            have HBB := Lib.hid hB
            have HJ := Lib.hid hjl
            clear hB hBd hb hrow hjl
            go_wp2_with fail
            refine wp_plan [([0, 1, 2, 3, 5, 6, 7, 8], 4, [6, 7, 8]), ([9, 10, 11, 12, 14, 15, 16, 17], 13, [15, 16, 17]), ([18, 19, 20, 21, 23], 22, [])] [24, 25] (by kernel_rfl) (by kernel_rfl) ?_
            simp only [wpSegs, opsOf, List.map_cons, List.map_nil, opN, List.getD_cons_zero, List.getD_cons_succ]
            go_wp2_with fail
            refine ⟨by first | trivial | rfl, ?_⟩
            go_wp2_with fail
            refine hdn.mono ?_
            rintro e w4 ⟨rfl, rfl⟩
            go_wp2_with fail
            refine ⟨?again1, ?_⟩
            case again1 =>
              intro i hi hw
              simp only [List.mem_cons, List.not_mem_nil, or_false] at hi
              rcases hi with rfl | rfl | rfl
              all_goals (simp only [opN, List.getD_cons_zero, List.getD_cons_succ, slotOf]; go_simp)
            go_wp2_with fail
            refine ⟨by first | trivial | rfl, ?_⟩
            go_wp2_with fail
            refine hwr.mono ?_
            rintro e w4 ⟨rfl, rfl⟩
            go_wp2_with fail
            refine ⟨?again2, ?_⟩
            case again2 =>
              intro i hi hw
              simp only [List.mem_cons, List.not_mem_nil, or_false] at hi
              rcases hi with rfl | rfl | rfl
              all_goals (simp only [opN, List.getD_cons_zero, List.getD_cons_succ, slotOf]; go_simp)
            go_wp2_with fail
            refine ⟨by first | trivial | rfl, ?_⟩
            go_wp2_with fail
            refine hsc.mono ?_
            rintro e w4 ⟨rfl, rfl⟩
            go_wp2_with fail
            refine ⟨again_nil, ?_⟩
            go_wp2_with fail
            refine ⟨by first | trivial | rfl, ?_⟩
            have HBQ := Lib.hid (HBB.out.kept0 ((Mod.refl [] wr).drew))
            go_wp2_with fail
            go_roundw
            case rel => exact ⟨i + 1, b, m, rb, g, D, R, v, by omega, rfl, rfl, by go_num, HBQ⟩
            case measure => simp [intOf]; omega
    · have hil : i = L.length := by omega
      go_wp2_with fail
      refine (known30_any _).mono ?_
      rintro e w2 ⟨rfl, hm2⟩
      go_wp2_with fail
      go_ret
      exact ⟨rfl, hb.out.mod.trans hm2⟩
end Go.Proofs.Ytnoookcfacmdkaa
