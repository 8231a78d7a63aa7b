/- Layer 25: bytes are read as a record: the ways that succeed. -/
import Derived.Test.YtnoookcfacmdkaaReqR
namespace Go.Proofs.Ytnoookcfacmdkaa
open Go.RowKit Go.ChangeMaps
set_option linter.unusedSimpArgs false
set_option linter.unusedVariables false
set_option maxRecDepth 20000

/-- What a reading answers that succeeds. -/
def DecOk (w : World) (r : RecR) (e : Ending) (w' : World) : Prop := ∃ v, e = .returned (.tuple #[recV r v, .int .i64 0]) ∧ DosAt w' v r.ds ∧ Mod [] w w' ∧ ∀ k, v.ownBlock = some k → w.heap.size ≤ k
theorem ok_leaves {w W : World} {r : RecR} {v : Value} (g2 : W.heap[w.heap.size]? = some (.cells #[.int .u8 r.k, v, .int .i64 r.a, .int .i64 r.b] 54 (0, 0))) (g3 : W.heap[w.heap.size + 1]? = some (.cells #[.int .i64 0] 26 (0, 0)))
    (hd : DosAt W v r.ds) (hm : Mod [] w W) (hv : ∀ k, v.ownBlock = some k → w.heap.size ≤ k) (hform : ∃ a n c, v = .slice a n c) (tmps : Array Value) (h2 : tmps[2]? = some (.pointer (some ⟨w.heap.size, 0, none⟩))) (h3 : tmps[3]? = some (.pointer (some ⟨w.heap.size + 1, 0, none⟩))) :
    bodyPostD Try.prog Try.f25 (DecOk w r) .ret { tmps := tmps, defers := [{ target := .fn (.func 37) #[.pointer (some ⟨w.heap.size, 0, none⟩), .pointer (some ⟨w.heap.size + 1, 0, none⟩)], args := #[] }] } W := by
  refine leaves_cons (f := 37) (args := #[.pointer (some ⟨w.heap.size, 0, none⟩), .pointer (some ⟨w.heap.size + 1, 0, none⟩)]) (by simp) (by simp [go_sem]) ?_
  refine idle.mono ?_
  rintro e u' w'' ⟨rfl, rfl, rfl⟩
  have q0 := cell_blk g2 0
  have q1 := cell_blk g2 1
  have q2 := cell_blk g2 2
  have q3 := cell_blk g2 3
  have r0 := cell_blk g3 0
  simp only [List.getElem?_toArray, List.getElem?_cons_succ, List.getElem?_cons_zero] at q0 q1 q2 q3 r0
  obtain ⟨a, n, c, rfl⟩ := hform
  have HD := Lib.hid hd
  have HM := Lib.hid hm
  have HV := Lib.hid hv
  clear g2 g3 hm hd hv
  simp [Leaves, settle, results, Try.results25, go_sem, h2, h3, q0, q1, q2, q3, r0]
  exact ⟨_, rfl, HD.out, HM.out, HV.out⟩

set_option maxHeartbeats 2000000 in
theorem dec_span_yes {w : World} {bb : Nat} {sv : Value} {l : List Int} (h : RdB w bb sv l) (hb : bb < w.heap.size) (hB : Byt l) {k : Int} {r1 r2 : List Int} {xs : Int × Int} (hk0 : 0 ≤ k) (hk1 : k < 256) (k1 : ¬ k = 1) (B1 : Byt r1) (E0 : Hid (pNum 1 l = some (k, r1))) (E1 : Hid (pSpan r1 = some (xs, r2))) (YES : Hid (RecR.may ⟨k, [], xs.1, xs.2⟩ = true ∧ RecR.enc ⟨k, [], xs.1, xs.2⟩ = l)) :
    Calls Try.prog 25 #[sv] w (DecOk w ⟨k, [], xs.1, xs.2⟩) := by
  have S0 := Lib.hid (Dec.start h hb)
  have HI := Lib.hid h
  obtain ⟨a, c, hform⟩ := h.bytes.form
  subst hform
  clear h
  have hmf : ∀ (fn : Fn) (first cap : Array Value) (w : World), (Instr.makeFunc fn first cap).run Try.prog w = .ok (.func fn first cap) w := fun _ _ _ _ => rfl
  go_enter_defers Try.func25, Try.ntmps25
  go_wp2_with fail
  refine (rnum_any S0.out.rd hB 1 (by omega)).mono ?_
  rintro e w1 hr
  obtain ⟨rfl, h1, m1⟩ := reads_some hr E0.out
  have S1 := Lib.hid (S0.out.call h1 m1)
  have S2 := Lib.hid ((S1.out.set 0 (.int .u8 k)).to (c2' := #[.int .u8 k, .slice none 0 0, .int .i64 0, .int .i64 0]) (by simp))
  have q := cell_blk S1.out.out 0
  have fz := frozen_blk S1.out.out 0
  have p0 := cell_blk S2.out.out 0
  simp only [List.getElem?_toArray, List.getElem?_cons_zero] at q p0
  clear hr h1 m1
  go_wp2_with fail
  clear q fz p0
  refine (rspan_any S2.out.rd B1).mono ?_
  rintro e w2 hr
  obtain ⟨rfl, h2, m2⟩ := reads_some hr E1.out
  have S3 := Lib.hid (S2.out.call h2 m2)
  obtain ⟨w3, hst, mst, gst⟩ := store_at 52 [.int .u8 k, .slice none 0 0] [.int .i64 0, .int .i64 0] [] [.int .i64 xs.1, .int .i64 xs.2] S3.out.out rfl (by kernel_rfl) (by simp [Value.oneCell'])
  have S4 := Lib.hid (S3.out.outS mst gst)
  have HST := Lib.hid hst
  have WF : Hid (RecR.Wf ⟨k, [], xs.1, xs.2⟩) := Lib.hid ⟨⟨hk0, hk1⟩, by simp⟩
  have hdos : DosAt w3 (.slice none 0 0) [] := ⟨none, 0, rfl, fun i d hd => by simp at hd⟩
  clear hr h2 m2 hst mst gst
  have HL := Lib.hid (load_blk (P := Try.prog) 54 S4.out.out Try.underlying54 rfl sizeRecord)
  go_wp2_with (first | ((with_reducible refine xStoreAt rfl HST.out ?_ ?_ ?_ ?_); exact rfl; exact rfl; exact rfl) | ((with_reducible refine xLoadAt rfl HL.out ?_ ?_ ?_); exact rfl; exact rfl))
  refine (encode_yes ⟨k, [], xs.1, xs.2⟩ (.slice none 0 0) _ hdos (by simp) (by simp) YES.out.1).mono ?_
  rintro e w5 ⟨v5, rfl, o5, m5⟩
  have S5 := Lib.hid (S4.out.quiet m5)
  have S6 := Lib.hid (S5.out.setE (.int .i64 0))
  have qe := cell_blk S5.out.err 0
  have fe := frozen_blk S5.out.err 0
  have pe := cell_blk S6.out.err 0
  have fe6 := frozen_blk S6.out.err 0
  simp only [List.getElem?_toArray, List.getElem?_cons_zero] at qe pe
  have hi5 : RdB w5 bb (.slice a l.length c) l := (HI.out.kept S4.out.mod (by simp)).kept m5 (by simp)
  have hmE : Mod [w.heap.size + 1] w5 (w5.setCell ⟨w.heap.size + 1, 0, none⟩ (.int .i64 0)) := (Mod.refl _ _).setCell (by simp) _
  have hi6 := hi5.kept hmE (by simp; omega)
  have ho6 : OwnB (w5.setCell ⟨w.heap.size + 1, 0, none⟩ (.int .i64 0)) w3.heap.size v5 (RecR.enc ⟨k, [], xs.1, xs.2⟩) := ownsRow_kept o5 hmE (fun k hk => by
    have := (World.ownsRow.lt o5 k hk).1
    have := lt_of_heap S4.out.err
    simp
    omega)
  have HQ := Lib.hid (equal_any ho6.bytes hi6.bytes (rec_byt WF.out) hB)
  have hdc : decide (RecR.enc ⟨k, [], xs.1, xs.2⟩ = l) = true := decide_eq_true YES.out.2
  rw [hdc] at HQ
  have hl6 := load_blk (P := Try.prog) 54 S6.out.out Try.underlying54 rfl sizeRecord
  obtain ⟨w7, hst7, mst7, gst7⟩ := store_ret (c := #[.int .u8 k, (.slice none 0 0), .int .i64 xs.1, .int .i64 xs.2]) 54 S6.out.out rfl sizeRecord (by simp [Value.oneCell'])
  have S7 := Lib.hid (S6.out.outS mst7 gst7)
  have S8 := Lib.hid (S7.out.setE (.int .i64 0))
  have q7 := cell_blk S7.out.err 0
  have f7 := frozen_blk S7.out.err 0
  simp only [List.getElem?_toArray, List.getElem?_cons_zero] at q7
  have hmE8 : Mod [w.heap.size + 1] w7 (w7.setCell ⟨w.heap.size + 1, 0, none⟩ (.int .i64 0)) := (Mod.refl _ _).setCell (by simp) _
  have HDD : Hid (DosAt (w7.setCell ⟨w.heap.size + 1, 0, none⟩ (.int .i64 0)) (.slice none 0 0) (RecR.ds ⟨k, [], xs.1, xs.2⟩)) := Lib.hid (⟨none, 0, rfl, fun i d hd => by simp at hd⟩)
  have HST7 := Lib.hid hst7
  have HL6 := Lib.hid hl6
  clear o5 m5 hi5 hmE hi6 ho6 hdc hl6 hst7 mst7 gst7 hmE8
  go_wp2_with fail
  refine HQ.out.mono ?_
  rintro e w6 ⟨rfl, rfl⟩
  go_wp2_with (first | ((with_reducible refine xLoadAt rfl HL6.out ?_ ?_ ?_); exact rfl; exact rfl) | ((with_reducible refine xStoreAt rfl HST7.out ?_ ?_ ?_ ?_); exact rfl; exact rfl; exact rfl))
  refine ok_leaves (r := ⟨k, [], xs.1, xs.2⟩) (v := (.slice none 0 0)) S8.out.out S8.out.err HDD.out S8.out.mod (by simp [Value.ownBlock]) ⟨_, _, _, rfl⟩ _ ?_ ?_ <;> rfl

set_option maxHeartbeats 4000000 in
theorem dec_commit_yes {w : World} {bb : Nat} {sv : Value} {l : List Int} (h : RdB w bb sv l) (hb : bb < w.heap.size) (hB : Byt l) {r1 r2 t0 : List Int} {n : Nat} {DS : List DoR} (B1 : Byt r1) (E0 : Hid (pNum 1 l = some (1, r1))) (hn : n < 256) (B2 : Hid (Byt r2)) (L2 : Hid (r2.length ≤ l.length)) (L9 : Hid (l.length ≤ 140737488355328)) (E1 : Hid (pNum 1 r1 = some ((n : Int), r2))) (DONE : Hid (pDos n r2 = some (DS, t0))) (YES : Hid (RecR.may ⟨1, DS, 0, 0⟩ = true ∧ RecR.enc ⟨1, DS, 0, 0⟩ = l)) :
    Calls Try.prog 25 #[sv] w (DecOk w ⟨1, DS, 0, 0⟩) := by
  have S0 := Lib.hid (Dec.start h hb)
  have HI := Lib.hid h
  obtain ⟨a, c, hform⟩ := h.bytes.form
  subst hform
  clear h
  have hmf : ∀ (fn : Fn) (first cap : Array Value) (w : World), (Instr.makeFunc fn first cap).run Try.prog w = .ok (.func fn first cap) w := fun _ _ _ _ => rfl
  go_enter_defers Try.func25, Try.ntmps25
  go_wp2_with fail
  refine (rnum_any S0.out.rd hB 1 (by omega)).mono ?_
  rintro e w1 hr
  obtain ⟨rfl, h1, m1⟩ := reads_some hr E0.out
  have S1 := Lib.hid (S0.out.call h1 m1)
  have S2 := Lib.hid ((S1.out.set 0 (.int .u8 1)).to (c2' := #[.int .u8 1, .slice none 0 0, .int .i64 0, .int .i64 0]) (by simp))
  have q := cell_blk S1.out.out 0
  have fz := frozen_blk S1.out.out 0
  have p0 := cell_blk S2.out.out 0
  simp only [List.getElem?_toArray, List.getElem?_cons_zero] at q p0
  clear hr h1 m1
  go_wp2_with fail
  clear q fz p0
  refine (rnum_any S2.out.rd B1 1 (by omega)).mono ?_
  rintro e w2 hr
  obtain ⟨rfl, h2, m2⟩ := reads_some hr E1.out
  have S3 := Lib.hid (S2.out.call h2 m2)
  clear hr h2 m2
  go_wp2_with fail
  go_loopw [19] (fun s19 W => ∃ (i : Nat) (ds : List DoR) (rest : List Int) (v : Value), s19 = .int .u64 i ∧ i ≤ n ∧ Hid (ds.length = i) ∧ Hid (Dec w bb W rest #[.int .u8 1, v, .int .i64 0, .int .i64 0] (.int .i64 0)) ∧
      Hid (W.ownsRow (w.heap.size + 3) 78 11 v ds.length (flatD ds)) ∧ Hid (pDos n r2 = prepend ds (pDos (n - i) rest)) ∧ Hid (Byt rest) ∧ Hid (rest.length ≤ l.length) ∧ Hid (∀ d ∈ ds, d.Wf ∧ d.Fit)) (fun s19 _ => n - (intOf s19).toNat)
  case atStart => exact ⟨0, [], r2, .slice none 0 0, rfl, by omega, Lib.hid rfl, S3, Lib.hid (World.ownsRow_nil _ _ _ _), Lib.hid (by
    cases h : pDos n r2 with
    | none => simp [h, prepend]
    | some x => simp [h, prepend]), B2, L2, Lib.hid (by simp)⟩
  case round =>
    obtain ⟨i, ds, rest, v, rfl, hi, hdl, hS, hown, hpd, hbt, hrl, hds⟩ := hrel
    by_cases hlt : i < n
    · obtain ⟨m, hm⟩ : ∃ m, n - i = m + 1 := ⟨n - i - 1, by omega⟩
      rw [hm] at hpd
      cases hq : pDo rest with
      | none =>
        exfalso
        have h1 := hpd.out
        simp only [pDos, hq] at h1
        rw [DONE.out] at h1
        simp [prepend] at h1
      | some y =>
        obtain ⟨d, rest'⟩ := y
        obtain ⟨hwf, hbt'⟩ := pDo_byt hbt.out hq
        obtain ⟨hn1, hn2, hn3⟩ := pDo_len hq
        have hfit : d.Fit := ⟨by have := hrl.out; have := L9.out; omega, by have := hrl.out; have := L9.out; omega⟩
        have HQ := Lib.hid hq
        have HN := Lib.hid (show pDos n r2 = prepend (ds ++ [d]) (pDos (n - (i + 1)) rest') by
          rw [hpd.out, show n - (i + 1) = m by omega]
          simp only [pDos, hq]
          cases pDos m rest' with
          | none => rfl
          | some x => simp [prepend])
        have HBT := Lib.hid hbt'
        have HRL := Lib.hid (show rest'.length ≤ l.length from Nat.le_trans hn3 hrl.out)
        have HDS : Hid (∀ y ∈ ds ++ [d], y.Wf ∧ y.Fit) := Lib.hid (by
          intro y hy
          rcases List.mem_append.1 hy with hy | hy
          · exact hds.out y hy
          · rw [List.mem_singleton.1 hy]; exact ⟨hwf, hfit⟩)
        have HDL := Lib.hid (show (ds ++ [d]).length = i + 1 by simp [hdl.out])
        have hi1000 : ds.length ≤ 1000 := by rw [hdl.out]; omega
        clear hq hm hwf hfit hn1 hn2 hn3 hbt'
        have q1 := cell_blk hS.out.out 1
        simp only [List.getElem?_toArray, List.getElem?_cons_succ, List.getElem?_cons_zero] at q1
        have hfo := dos_own hown.out
        obtain ⟨da, dc, hdv, hfo2⟩ := hfo
        clear hfo2
        subst hdv
        go_wp2_with fail
        refine wp_plan [([0, 2, 1], 3, [0, 1]), ([], 4, [0, 1]), ([], 5, []), ([6], 7, [])] [] (by kernel_rfl) (by kernel_rfl) ?_
        simp only [wpSegs, opsOf, List.map_cons, List.map_nil, opN, List.getD_cons_zero, List.getD_cons_succ]
        go_wp2_with fail
        refine ⟨by first | trivial | rfl, ?_⟩
        go_wp2_with fail
        refine (rdo_any ((hS.out.quiet ((Mod.refl [] _).drew)).rd) hbt.out).mono ?_
        intro e W2 hr
        obtain ⟨rfl, h2, m2⟩ := reads_some hr HQ.out
        have S5 := Lib.hid ((hS.out.quiet ((Mod.refl [] _).drew)).call h2 m2)
        have hmd := (((Mod.refl [] wr).drew).nil (l := [w.heap.size + 2])).trans m2
        have ho2 := ownsRow_kept hown.out hmd (fun k hk => by
          have := (World.ownsRow.lt hown.out k hk).1
          simp; omega)
        have q2 := cell_blk S5.out.out 1
        have q21 := cell_blk ((heap_alloc_ne W2 (.cells d.cells.toArray 78) (lt_of_heap S5.out.out)).trans S5.out.out) 1
        simp only [List.getElem?_toArray, List.getElem?_cons_succ, List.getElem?_cons_zero] at q2 q21
        have hsz2 := lt_of_heap S5.out.err
        have hrb2 := S5.out.rd.lt
        obtain ⟨v6, w6, r6, o6, g6⟩ := app_do ho2 (by omega) d hi1000 rfl
        have hS6 : Dec w bb w6 rest' #[.int .u8 1, .slice da ds.length dc, .int .i64 0, .int .i64 0] (.int .i64 0) := by
          have hno : ∀ k, k < w.heap.size + 3 → k ∉ blk (.slice da ds.length dc) := fun k hk hm => by
            rw [mem_blk] at hm
            have := (World.ownsRow.lt ho2 k hm).1
            omega
          exact ⟨S5.out.rd.kept g6.mod (hno _ (by omega)) (hno _ (by have := S5.out.ltb; omega)), g6.mod.heap S5.out.out (hno _ (by omega)), g6.mod.heap S5.out.err (hno _ (by omega)), g6.intoNil ho2 (by omega) S5.out.mod, S5.out.ltb⟩
        obtain ⟨w7, hst, mst, gst⟩ := store_one 50 [.int .u8 1] (.slice da ds.length dc) [.int .i64 0, .int .i64 0] v6 hS6.out (by kernel_rfl) (ownsRow_one_cell o6)
        have S7 := Lib.hid (hS6.outS mst gst)
        have HO7 := Lib.hid (ownsRow_kept o6 mst (fun k hk => by
          have := (World.ownsRow.lt o6 k hk).1
          simp; omega))
        have HR6 := Lib.hid r6
        have HST : Hid ((Instr.storeAt 50 (.pointer (some ⟨w.heap.size, 1, none⟩)) v6).run Try.prog w6 = .ok () w7) := Lib.hid hst
        clear hr h2 m2 hmd ho2 r6 o6 g6 hS6 hst mst gst hsz2 hrb2
        go_wp2_with fail
        refine ⟨?agC1, ?_⟩
        case agC1 =>
          intro i hi hw
          simp only [List.mem_cons, List.not_mem_nil, or_false] at hi
          rcases hi with rfl | rfl
          all_goals (simp only [opN, List.getD_cons_zero, List.getD_cons_succ, slotOf]; go_simp)
        go_wp2_with fail
        refine ⟨by first | trivial | rfl, ?_⟩
        refine xBuildSlice (build_do d W2) rfl (by simp [Act.eval]) rfl ?_
        go_wp2_with fail
        refine ⟨?agC2, ?_⟩
        case agC2 =>
          intro i hi hw
          simp only [List.mem_cons, List.not_mem_nil, or_false] at hi
          rcases hi with rfl | rfl
          all_goals (simp only [opN, List.getD_cons_zero, List.getD_cons_succ, slotOf]; go_simp)
        go_wp2_with fail
        refine ⟨by first | trivial | rfl, ?_⟩
        go_wp2_with ((with_reducible refine xAppendAt HR6.out rfl rfl ?_ ?_ ?_ ?_); exact rfl; exact rfl; exact rfl)
        refine ⟨again_nil, ?_⟩
        go_wp2_with fail
        refine ⟨by first | trivial | rfl, ?_⟩
        go_wp2_with ((with_reducible refine xStoreAt rfl HST.out ?_ ?_ ?_ ?_); exact rfl; exact rfl; exact rfl)
        refine ⟨again_nil, ?_⟩
        go_wp2_with fail
        refine ⟨by first | trivial | rfl, ?_⟩
        go_wp2_with fail
        go_roundw
        case rel => exact ⟨i + 1, ds ++ [d], rest', v6, by go_num, by omega, HDL, S7, HO7, HN, HBT, HRL, HDS⟩
        case measure => simp [intOf]; omega
    · have hin : i = n := by omega
      have HPD : Hid (pDos n r2 = some (ds, rest)) := Lib.hid (by
        rw [hpd.out, hin, Nat.sub_self]
        simp [pDos, prepend])
      have heq : ds = DS := by
        have h1 := HPD.out
        rw [DONE.out] at h1
        simp at h1
        exact h1.1.symm
      subst heq
      have hge : n ≤ i := by omega
      have hi1000 : ds.length ≤ 1000 := by rw [hdl.out]; omega
      have WF : Hid (RecR.Wf ⟨1, ds, 0, 0⟩) := Lib.hid ⟨⟨by simp, by simp⟩, fun d hd => (hds.out d hd).1⟩
      have hfo := dos_own hown.out
      have HDO := Lib.hid hfo
      obtain ⟨da, dc, hdv, hfo2⟩ := hfo
      clear hfo2 hin
      subst hdv
      have HL := Lib.hid (load_blk (P := Try.prog) 54 hS.out.out Try.underlying54 rfl sizeRecord)
      go_wp2_with ((with_reducible refine xLoadAt rfl HL.out ?_ ?_ ?_); exact rfl; exact rfl)
      refine (encode_yes ⟨1, ds, 0, 0⟩ (.slice da ds.length dc) _ HDO.out (fun d hd => (hds.out d hd).2) (by dsimp only; omega) YES.out.1).mono ?_
      rintro e w5 ⟨v5, rfl, o5, m5⟩
      have S5 := Lib.hid (hS.out.quiet m5)
      have S6 := Lib.hid (S5.out.setE (.int .i64 0))
      have qe := cell_blk S5.out.err 0
      have fe := frozen_blk S5.out.err 0
      have pe := cell_blk S6.out.err 0
      have fe6 := frozen_blk S6.out.err 0
      simp only [List.getElem?_toArray, List.getElem?_cons_zero] at qe pe
      have hi5 : RdB w5 bb (.slice a l.length c) l := (HI.out.kept hS.out.mod (by simp)).kept m5 (by simp)
      have hmE : Mod [w.heap.size + 1] w5 (w5.setCell ⟨w.heap.size + 1, 0, none⟩ (.int .i64 0)) := (Mod.refl _ _).setCell (by simp) _
      have hi6 := hi5.kept hmE (by simp; omega)
      have ho6 : OwnB (w5.setCell ⟨w.heap.size + 1, 0, none⟩ (.int .i64 0)) wr.heap.size v5 (RecR.enc ⟨1, ds, 0, 0⟩) := ownsRow_kept o5 hmE (fun k hk => by
        have := (World.ownsRow.lt o5 k hk).1
        have := lt_of_heap hS.out.err
        simp
        omega)
      have HQ := Lib.hid (equal_any ho6.bytes hi6.bytes (rec_byt WF.out) hB)
      have hdc : decide (RecR.enc ⟨1, ds, 0, 0⟩ = l) = true := decide_eq_true YES.out.2
      rw [hdc] at HQ
      have hl6 := load_blk (P := Try.prog) 54 S6.out.out Try.underlying54 rfl sizeRecord
      obtain ⟨w7, hst7, mst7, gst7⟩ := store_ret (c := #[.int .u8 1, (.slice da ds.length dc), .int .i64 0, .int .i64 0]) 54 S6.out.out rfl sizeRecord (by simp [Value.oneCell'])
      have S7 := Lib.hid (S6.out.outS mst7 gst7)
      have S8 := Lib.hid (S7.out.setE (.int .i64 0))
      have q7 := cell_blk S7.out.err 0
      have f7 := frozen_blk S7.out.err 0
      simp only [List.getElem?_toArray, List.getElem?_cons_zero] at q7
      have hmE8 : Mod [w.heap.size + 1] w7 (w7.setCell ⟨w.heap.size + 1, 0, none⟩ (.int .i64 0)) := (Mod.refl _ _).setCell (by simp) _
      have HDD : Hid (DosAt (w7.setCell ⟨w.heap.size + 1, 0, none⟩ (.int .i64 0)) (.slice da ds.length dc) (RecR.ds ⟨1, ds, 0, 0⟩)) := Lib.hid (((HDO.out.kept0 m5).kept hmE (fun _ => by (intro k hk bq oq nq cq e; simp at e hk; have := (World.ownsRow.lt hown.out bq (by rw [e.1]; rfl)).1; omega))).kept ((mst7.mono (l' := [w.heap.size, w.heap.size + 1]) (by simp)).trans (hmE8.mono (by simp))) (fun _ => by (intro k hk bq oq nq cq e; simp at e hk; have := (World.ownsRow.lt hown.out bq (by rw [e.1]; rfl)).1; omega)))
      have HST7 := Lib.hid hst7
      have HL6 := Lib.hid hl6
      clear o5 m5 hi5 hmE hi6 ho6 hdc hl6 hst7 mst7 gst7 hmE8
      go_wp2_with fail
      refine HQ.out.mono ?_
      rintro e w6 ⟨rfl, rfl⟩
      go_wp2_with (first | ((with_reducible refine xLoadAt rfl HL6.out ?_ ?_ ?_); exact rfl; exact rfl) | ((with_reducible refine xStoreAt rfl HST7.out ?_ ?_ ?_ ?_); exact rfl; exact rfl; exact rfl))
      refine ok_leaves (r := ⟨1, ds, 0, 0⟩) (v := (.slice da ds.length dc)) S8.out.out S8.out.err HDD.out S8.out.mod (fun k hk => by have := (World.ownsRow.lt hown.out k hk).1; omega) ⟨_, _, _, rfl⟩ _ ?_ ?_ <;> rfl

end Go.Proofs.Ytnoookcfacmdkaa
