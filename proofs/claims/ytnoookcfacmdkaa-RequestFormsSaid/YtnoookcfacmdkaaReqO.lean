/- Layer 25: bytes are read as a record: the ways that give up. -/
import Derived.Test.YtnoookcfacmdkaaReqN
namespace Go.Proofs.Ytnoookcfacmdkaa
open Go.RowKit Go.ChangeMaps
set_option linter.unusedSimpArgs false
set_option linter.unusedVariables false
set_option maxRecDepth 20000

theorem rec_cells (r : RecR) (v : Value) : recV r v = .agg #[.int .u8 r.k, v, .int .i64 r.a, .int .i64 r.b] := rfl
theorem sizeRecord : (Try.prog.info? 54).map (·.size) = some 4 := by kernel_rfl

set_option maxHeartbeats 1000000 in
theorem dec_span_none {w : World} {bb : Nat} {sv : Value} {l : List Int} (h : RdB w bb sv l) (hb : bb < w.heap.size) (hB : Byt l) {k : Int} {r1 : List Int} (hk0 : 0 ≤ k) (hk1 : k < 256) (k1 : ¬ k = 1) (B1 : Byt r1) (E0 : Hid (pNum 1 l = some (k, r1))) (E1 : Hid (pSpan r1 = none)) :
    Calls Try.prog 25 #[sv] w (Wrong w) := by
  have S0 := Lib.hid (Dec.start h hb)
  have HI := Lib.hid h
  obtain ⟨a, c, hform⟩ := h.bytes.form
  subst hform
  clear h
  have hmf : ∀ (fn : Fn) (first cap : Array Value) (w : World), (Instr.makeFunc fn first cap).run Try.prog w = .ok (.func fn first cap) w := fun _ _ _ _ => rfl
  go_enter_defers Try.func25, Try.ntmps25
  go_wp2_with fail
  refine (rnum_any S0.out.rd hB 1 (by omega)).mono ?_
  rintro e w1 hr
  obtain ⟨rfl, h1, m1⟩ := reads_some hr E0.out
  have S1 := Lib.hid (S0.out.call h1 m1)
  have S2 := Lib.hid ((S1.out.set 0 (.int .u8 k)).to (c2' := #[.int .u8 k, .slice none 0 0, .int .i64 0, .int .i64 0]) (by simp))
  have q := cell_blk S1.out.out 0
  have fz := frozen_blk S1.out.out 0
  have p0 := cell_blk S2.out.out 0
  simp only [List.getElem?_toArray, List.getElem?_cons_zero] at q p0
  clear hr h1 m1
  go_wp2_with fail
  clear q fz p0
  refine (rspan_any S2.out.rd B1).mono ?_
  rintro e w2 hr
  obtain ⟨rfl, mx⟩ := reads_none hr E1.out
  have HD := Lib.hid (wrong_end S2.out mx rfl)
  clear hr mx
  go_wp2_with fail
  refine wrong_leaves HD.out _ ?_ ?_ <;> rfl

set_option maxHeartbeats 2000000 in
theorem dec_span {w : World} {bb : Nat} {sv : Value} {l : List Int} (h : RdB w bb sv l) (hb : bb < w.heap.size) (hB : Byt l) {k : Int} {r1 r2 : List Int} {xs : Int × Int} (hk0 : 0 ≤ k) (hk1 : k < 256) (k1 : ¬ k = 1) (B1 : Byt r1) (E0 : Hid (pNum 1 l = some (k, r1))) (E1 : Hid (pSpan r1 = some (xs, r2))) (NO : Hid (¬ (RecR.may ⟨k, [], xs.1, xs.2⟩ = true ∧ RecR.enc ⟨k, [], xs.1, xs.2⟩ = l))) :
    Calls Try.prog 25 #[sv] w (Wrong w) := by
  have S0 := Lib.hid (Dec.start h hb)
  have HI := Lib.hid h
  obtain ⟨a, c, hform⟩ := h.bytes.form
  subst hform
  clear h
  have hmf : ∀ (fn : Fn) (first cap : Array Value) (w : World), (Instr.makeFunc fn first cap).run Try.prog w = .ok (.func fn first cap) w := fun _ _ _ _ => rfl
  go_enter_defers Try.func25, Try.ntmps25
  go_wp2_with fail
  refine (rnum_any S0.out.rd hB 1 (by omega)).mono ?_
  rintro e w1 hr
  obtain ⟨rfl, h1, m1⟩ := reads_some hr E0.out
  have S1 := Lib.hid (S0.out.call h1 m1)
  have S2 := Lib.hid ((S1.out.set 0 (.int .u8 k)).to (c2' := #[.int .u8 k, .slice none 0 0, .int .i64 0, .int .i64 0]) (by simp))
  have q := cell_blk S1.out.out 0
  have fz := frozen_blk S1.out.out 0
  have p0 := cell_blk S2.out.out 0
  simp only [List.getElem?_toArray, List.getElem?_cons_zero] at q p0
  clear hr h1 m1
  go_wp2_with fail
  clear q fz p0
  refine (rspan_any S2.out.rd B1).mono ?_
  rintro e w2 hr
  obtain ⟨rfl, h2, m2⟩ := reads_some hr E1.out
  have S3 := Lib.hid (S2.out.call h2 m2)
  obtain ⟨w3, hst, mst, gst⟩ := store_at 52 [.int .u8 k, .slice none 0 0] [.int .i64 0, .int .i64 0] [] [.int .i64 xs.1, .int .i64 xs.2] S3.out.out rfl (by kernel_rfl) (by simp [Value.oneCell'])
  have S4 := Lib.hid (S3.out.outS mst gst)
  have HST := Lib.hid hst
  have WF : Hid (RecR.Wf ⟨k, [], xs.1, xs.2⟩) := Lib.hid ⟨⟨hk0, hk1⟩, by simp⟩
  have hdos : DosAt w3 (.slice none 0 0) [] := ⟨none, 0, rfl, fun i d hd => by simp at hd⟩
  clear hr h2 m2 hst mst gst
  have HL := Lib.hid (load_blk (P := Try.prog) 54 S4.out.out Try.underlying54 rfl sizeRecord)
  go_wp2_with (first | ((with_reducible refine xStoreAt rfl HST.out ?_ ?_ ?_ ?_); exact rfl; exact rfl; exact rfl) | ((with_reducible refine xLoadAt rfl HL.out ?_ ?_ ?_); exact rfl; exact rfl))
  by_cases hm : RecR.may ⟨k, [], xs.1, xs.2⟩ = true
  · refine (encode_yes ⟨k, [], xs.1, xs.2⟩ (.slice none 0 0) _ hdos (by simp) (by simp) hm).mono ?_
    rintro e w5 ⟨v5, rfl, o5, m5⟩
    have S5 := Lib.hid (S4.out.quiet m5)
    have S6 := Lib.hid (S5.out.setE (.int .i64 0))
    have qe := cell_blk S5.out.err 0
    have fe := frozen_blk S5.out.err 0
    have pe := cell_blk S6.out.err 0
    simp only [List.getElem?_toArray, List.getElem?_cons_zero] at qe pe
    have hne : ¬ RecR.enc ⟨k, [], xs.1, xs.2⟩ = l := fun e => NO.out ⟨hm, e⟩
    have hi5 : RdB w5 bb (.slice a l.length c) l := (HI.out.kept S4.out.mod (by simp)).kept m5 (by simp)
    have hmE : Mod [w.heap.size + 1] w5 (w5.setCell ⟨w.heap.size + 1, 0, none⟩ (.int .i64 0)) := (Mod.refl _ _).setCell (by simp) _
    have hi6 := hi5.kept hmE (by simp; omega)
    have ho6 : OwnB (w5.setCell ⟨w.heap.size + 1, 0, none⟩ (.int .i64 0)) w3.heap.size v5 (RecR.enc ⟨k, [], xs.1, xs.2⟩) := ownsRow_kept o5 hmE (fun k hk => by
      have := (World.ownsRow.lt o5 k hk).1
      have := lt_of_heap S4.out.err
      simp
      omega)
    have HQ := Lib.hid (equal_any ho6.bytes hi6.bytes (rec_byt WF.out) hB)
    have hdc : decide (RecR.enc ⟨k, [], xs.1, xs.2⟩ = l) = false := decide_eq_false hne
    rw [hdc] at HQ
    have HD := Lib.hid (wrong_end S6.out (Mod.refl _ _) rfl)
    clear o5 m5 hne hi5 hmE hi6 ho6 hdc hm
    go_wp2_with fail
    refine HQ.out.mono ?_
    rintro e w6 ⟨rfl, rfl⟩
    go_wp2_with fail
    refine wrong_leaves HD.out _ ?_ ?_ <;> rfl
  · have hmf' : RecR.may ⟨k, [], xs.1, xs.2⟩ = false := by simpa using hm
    refine (encode_no ⟨k, [], xs.1, xs.2⟩ (.slice none 0 0) _ hdos (by simp) (by simp) hmf').mono ?_
    rintro e w5 ⟨rfl, m5⟩
    have S5 := Lib.hid (S4.out.quiet m5)
    have S6 := Lib.hid (S5.out.setE (.int .i64 2))
    have qe := cell_blk S5.out.err 0
    have fe := frozen_blk S5.out.err 0
    have pe := cell_blk S6.out.err 0
    simp only [List.getElem?_toArray, List.getElem?_cons_zero] at qe pe
    have HD := Lib.hid (wrong_end S6.out (Mod.refl _ _) rfl)
    clear m5 hm hmf'
    go_wp2_with fail
    refine wrong_leaves HD.out _ ?_ ?_ <;> rfl

end Go.Proofs.Ytnoookcfacmdkaa
