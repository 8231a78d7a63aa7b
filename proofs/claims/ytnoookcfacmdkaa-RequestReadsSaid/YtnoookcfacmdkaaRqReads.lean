/- The record of any bytes, or that they are none's form, is the document's; bytes stay. No condition. -/
import Derived.Test.YtnoookcfacmdkaaRqE
import Derived.Test.YtnoookcfacmdkaaReqT
namespace Go.Proofs.Ytnoookcfacmdkaa
open Go.RowKit Go.ChangeMaps Go.Deep
set_option linter.unusedSimpArgs false
set_option linter.unusedVariables false
set_option maxRecDepth 20000

def recOf : Option RecR → RecR
  | some r => r
  | none => RecR.zero
def errOf : Option RecR → Int
  | some _ => 0
  | none => 4
/-- what either Decode answers -/
def DecAny (w : World) (o : Option RecR) (e : Ending) (w' : World) : Prop :=
  ∃ v, e = .returned (.tuple #[recV (recOf o) v, .int .i64 (errOf o)]) ∧ DosAt w' v (recOf o).ds ∧ Mod [] w w' ∧ ∀ k, v.ownBlock = some k → w.heap.size ≤ k
theorem dos_zero (w : World) : DosAt w (.slice none 0 0) RecR.zero.ds := ⟨none, 0, rfl, fun i d hd => by simp [RecR.zero] at hd⟩
theorem dec_any {w : World} {bb : Nat} {sv : Value} {l : List Int} (h : RdB w bb sv l) (hb : bb < w.heap.size) (hB : Byt l) (L9 : l.length ≤ 140737488355328) :
    Calls Try.prog 25 #[sv] w (DecAny w (decodeR l)) := by
  cases hd : decodeR l with
  | none => exact (dec_none h hb hB L9 hd).mono fun e w' ⟨h1, h2⟩ => ⟨_, h1, dos_zero w', h2, by simp [Value.ownBlock]⟩
  | some r => exact (dec_some h hb hB L9 hd).mono fun e w' ⟨v, h1, h2, h3, h4⟩ => ⟨v, h1, h2, h3, h4⟩
theorem refDec_any2 (a : Option Addr) (c : Nat) (l : List Int) (w : World) (h : BytesAt w (.slice a l.length c) l) (hcap : l.length ≤ c) (hB : Byt l) (hl : l.length ≤ 140737488355328) :
    Calls Try.prog 26 #[.slice a l.length c] w (DecAny w (decodeR l)) := by
  rw [← refDecodeR_eq hB]
  refine (refDec_any a c l w h hcap hB hl).mono fun e w' h => ?_
  cases hd : refDecodeR l with
  | none => rw [hd] at h; exact ⟨_, h.1, dos_zero w', h.2, by simp [Value.ownBlock]⟩
  | some r => rw [hd] at h; obtain ⟨v, h1, h2, h3, h4⟩ := h; exact ⟨v, h1, h2, h3, h4⟩
theorem recOf_len (l : List Int) : (recOf (decodeR l)).ds.length ≤ 64 := by
  cases hd : decodeR l with
  | none => simp [recOf, RecR.zero]
  | some r =>
    obtain ⟨t, h1, h2, h3⟩ := decodeR_some hd
    simp only [recOf]
    unfold RecR.may at h2
    split at h2
    · simp only [Bool.and_eq_true, decide_eq_true_eq] at h2; exact h2.1.1
    · split at h2
      · simp only [Bool.and_eq_true, decide_eq_true_eq] at h2; omega
      · cases h2
theorem DosAt.off {w w' : World} {v : Value} {ds : List DoR} {g n : Nat} (h : DosAt w v ds) (hm : Mod [g] w w') (hv : ∀ k, v.ownBlock = some k → n ≤ k) (hg : g < n) : DosAt w' v ds :=
  h.kept hm fun _ k hk bb o m c e => by
    rw [List.mem_singleton] at hk
    subst hk e
    have := hv bb (by simp [Value.ownBlock])
    omega
theorem DosAt.form {w : World} {v : Value} {ds : List DoR} (h : DosAt w v ds) : ∃ a c, v = .slice a ds.length c := by
  obtain ⟨a, c, rfl, _⟩ := h
  exact ⟨a, c, rfl⟩
/-- a record in a box at bx, its operations not in block g -/
structure YSt (w W : World) (bx g : Nat) (k : Int) (ds : List DoR) (a b : Int) (v : Value) : Prop where
  box : W.heap[bx]? = some (.cells #[.int .u8 k, v, .int .i64 a, .int .i64 b] 54 (0, 0))
  dos : DosAt W v ds
  mod : Mod [] w W
  own : ∀ k, v.ownBlock = some k → g < k
theorem YSt.start {w w2 : World} {g : Nat} {k : Int} {ds : List DoR} {a b : Int} {v : Value} (hm : Mod [] w w2) (hd : DosAt w2 v ds) (ho : ∀ k, v.ownBlock = some k → g < k) : YSt w (w2.alloc (.cells #[.int .u8 k, v, .int .i64 a, .int .i64 b] 54)) w2.heap.size g k ds a b v :=
  ⟨heap_alloc_new w2 _, hd.kept0 ((Mod.refl [] w2).alloc _), hm.alloc _, ho⟩
theorem YSt.kept {w W W' : World} {bx g : Nat} {k : Int} {ds : List DoR} {a b : Int} {v : Value} (h : YSt w W bx g k ds a b v) (m : Mod [] W W') : YSt w W' bx g k ds a b v :=
  ⟨m.heap h.box (by simp), h.dos.kept0 m, h.mod.trans m, h.own⟩
theorem YSt.off {w W W' : World} {bx g : Nat} {k : Int} {ds : List DoR} {a b : Int} {v : Value} (h : YSt w W bx g k ds a b v) (m : Mod [g] W W') (hb : g < bx) (hw : w.heap.size ≤ g) : YSt w W' bx g k ds a b v :=
  ⟨m.heap h.box (by simp; omega), h.dos.off m (n := g + 1) (fun k hk => h.own k hk) (by omega), h.mod.intoNil m (by simpa using hw), h.own⟩
set_option maxHeartbeats 4000000 in
theorem reads_walk (a : Option Addr) (c : Nat) (l : List Int) (w : World) (h : BytesAt w (.slice a l.length c) l) (hcap : l.length ≤ c) (hB : Byt l) (hl63 : l.length ≤ 140737488355328) :
    Calls Try.prog 6 #[.slice a l.length c] w fun e w' => e = .returned (.bool true) ∧ Mod [] w w' := by
  have H := Lib.hid h
  clear h
  by_cases h3 : l.length ≤ 3000
  · obtain ⟨gb, cb, w1, r1, hgb, m1, row1, b1, hc1, hc2, hr1⟩ := copy_bytes H.out hl63
    have hrd : RdB w1 gb (.slice (some ⟨gb, 0, none⟩) l.length cb) l := RdB.at_ 0 cb l hr1 hc1 hc2
    have HDEC := Lib.hid (dec_any hrd row1.lt hB hl63)
    have HREF := Lib.hid (fun (W : World) (hm : Mod [] w W) => refDec_any2 a c l W (H.out.kept0 hm) hcap hB hl63)
    have HLEN := Lib.hid (recOf_len l)
    have HGB := Lib.hid row1.lt
    generalize decodeR l = o at HDEC HREF HLEN
    unfold DecAny at HDEC HREF
    generalize recOf o = r at HDEC HREF HLEN
    generalize errOf o = en at HDEC HREF
    obtain ⟨rk, rds, ra, rb⟩ := r
    dsimp only at HLEN HDEC HREF
    unfold recV at HDEC HREF
    dsimp only at HDEC HREF
    have R1 := Lib.hid r1
    have M1 := Lib.hid m1
    have ROW := Lib.hid row1
    have B1 := Lib.hid b1
    unfold maxLen at hc2
    clear r1 m1 row1 b1 hr1 hrd
    go_enter Try.func6, Try.ntmps6
    go_wp2_with ((with_reducible refine xAppendAt R1.out rfl rfl ?_ ?_ ?_ ?_); exact rfl; exact rfl; exact rfl)
    refine HDEC.out.mono ?_
    rintro e w2 ⟨vx, rfl, dx, m2, ox⟩
    obtain ⟨xa, xc, rfl⟩ := dx.form
    have S2 := Lib.hid (YSt.start (k := rk) (a := ra) (b := rb) (M1.out.trans m2) dx (fun k hk => Nat.lt_of_lt_of_le HGB.out (ox k hk)))
    have hgb2 : gb < w2.heap.size := Nat.lt_of_lt_of_le HGB.out m2.size
    have HB2 := Lib.hid (B1.out.kept0 (m2.trans ((Mod.refl [] w2).alloc (.cells #[.int .u8 rk, .slice xa rds.length xc, .int .i64 ra, .int .i64 rb] 54))))
    have HR2 := Lib.hid (ROW.out.kept (m2.trans ((Mod.refl [] w2).alloc (.cells #[.int .u8 rk, .slice xa rds.length xc, .int .i64 ra, .int .i64 rb] 54))) (by simp))
    clear dx m2 ox M1 B1 ROW
    go_wp2_with fail
    refine (HREF.out _ S2.out.mod).mono ?_
    rintro e w3 ⟨vy, rfl, dy, m3, oy⟩
    obtain ⟨ya, yc, rfl⟩ := dy.form
    have mb3 := m3.trans ((Mod.refl [] w3).alloc (.cells #[.int .u8 rk, .slice ya rds.length yc, .int .i64 ra, .int .i64 rb] 54))
    have S3 := Lib.hid (S2.out.kept mb3)
    have T3 := Lib.hid (YSt.start (k := rk) (a := ra) (b := rb) (S2.out.mod.trans m3) dy (g := gb) (fun k hk => by have := oy k hk; simp at this; omega))
    have HB3 := Lib.hid (HB2.out.kept0 mb3)
    have HR3 := Lib.hid (HR2.out.kept mb3 (by simp))
    have hsz3 : w2.heap.size < w3.heap.size := by have := m3.size; simp at this; omega
    have HLX := Lib.hid (load_blk (P := Try.prog) 54 S3.out.box Try.underlying54 rfl sizeRecord)
    have HLY := Lib.hid (load_blk (P := Try.prog) 54 T3.out.box Try.underlying54 rfl sizeRecord)
    have HSAME := Lib.hid (refSame_any ⟨rk, rds, ra, rb⟩ ⟨rk, rds, ra, rb⟩ _ _ _ S3.out.dos T3.out.dos (by have := HLEN.out; dsimp only; omega) (by have := HLEN.out; dsimp only; omega))
    unfold recV at HSAME
    rw [decide_eq_true rfl] at HSAME
    dsimp only at HSAME
    clear dy m3 oy mb3 HB2 HR2
    have he : (en != en) = false := by simp
    go_wp2_with (first | ((with_reducible refine xLoadAt rfl HLX.out ?_ ?_ ?_); exact rfl; exact rfl) | ((with_reducible refine xLoadAt rfl HLY.out ?_ ?_ ?_); exact rfl; exact rfl))
    refine HSAME.out.mono ?_
    rintro e w4 ⟨rfl, m4⟩
    have S4 := Lib.hid (S3.out.kept m4)
    have T4 := Lib.hid (T3.out.kept m4)
    have HB4 := Lib.hid (HB3.out.kept0 m4)
    have HR4 := Lib.hid (HR3.out.kept m4 (by simp))
    have HCI := Lib.hid (conv_bytes HB4.out)
    have HCO := Lib.hid (conv_bytes (H.out.kept0 S4.out.mod))
    have hs := str_yes (rfl : l = l)
    clear m4 HSAME
    go_wp2_with (first | ((with_reducible refine xConvertAt rfl HCI.out ?_ ?_ ?_); exact rfl; exact rfl) | ((with_reducible refine xConvertAt rfl HCO.out ?_ ?_ ?_); exact rfl; exact rfl))
    clear HCI HCO HB4 HLX HLY S3 T3 HB3 HR3 S2
    go_loopw [44] (fun s44 wj => ∃ j : Nat, j ≤ l.length ∧ s44 = .int .i64 j ∧ Mod [gb] w4 wj ∧ Hid (Row8 wj gb l.length)) (fun s44 _ => l.length - (intOf s44).toNat)
    case atStart => exact ⟨0, by omega, rfl, Mod.refl _ _, HR4⟩
    case round =>
      obtain ⟨j, hj, rfl, hmj, hrj⟩ := hrel
      by_cases hlj : j < l.length
      · obtain ⟨x, cx, fx⟩ := hrj.out.cell hlj
        go_wp2_with fail
        go_roundw
        case rel => exact ⟨j + 1, by omega, by go_num, hmj.setCell (by simp) _, Lib.hid (hrj.out.set _ _)⟩
        case measure => simp [intOf]; omega
      · have S5 := Lib.hid (S4.out.off hmj hgb2 hgb)
        have T5 := Lib.hid (T4.out.off hmj (by omega) hgb)
        have HLX := Lib.hid (load_blk (P := Try.prog) 54 S5.out.box Try.underlying54 rfl sizeRecord)
        have HLY := Lib.hid (load_blk (P := Try.prog) 54 T5.out.box Try.underlying54 rfl sizeRecord)
        have HSAME := Lib.hid (refSame_any ⟨rk, rds, ra, rb⟩ ⟨rk, rds, ra, rb⟩ _ _ _ S5.out.dos T5.out.dos (by have := HLEN.out; dsimp only; omega) (by have := HLEN.out; dsimp only; omega))
        unfold recV at HSAME
        rw [decide_eq_true rfl] at HSAME
        dsimp only at HSAME
        clear hmj hrj S4 T4
        go_wp2_with (first | ((with_reducible refine xLoadAt rfl HLX.out ?_ ?_ ?_); exact rfl; exact rfl) | ((with_reducible refine xLoadAt rfl HLY.out ?_ ?_ ?_); exact rfl; exact rfl))
        refine HSAME.out.mono ?_
        rintro e w6 ⟨rfl, m6⟩
        have HM6 := Lib.hid (S5.out.mod.trans m6)
        clear m6
        go_wp2_with fail
        refine (known25_any _).mono ?_
        rintro e w7 ⟨rfl, m7⟩
        go_wp2_with fail
        go_ret
        exact ⟨rfl, HM6.out.trans m7⟩
  · go_enter Try.func6, Try.ntmps6
    go_wp2_with fail
    refine (known25_any _).mono ?_
    rintro e w1 ⟨rfl, m1⟩
    go_wp2_with fail
    go_ret
    exact ⟨rfl, m1⟩
end Go.Proofs.Ytnoookcfacmdkaa
namespace Go.Proofs.Ytnoookcfacmdkaa
open Go.ChangeShapes Go.WideShapes Go.ChangeAt Go.RowKit Go.ChangeMaps Go.Deep
set_option linter.unusedSimpArgs false
set_option linter.unusedVariables false
theorem bytes_in {H : Type} {enc : TypeId × Value → H} {w : World} {v : Value} {d : DataW H} {pl : List MemPlace} (hv : ∃ a n c, v = .slice a n c) (h : DataW.Trod enc Try.prog w 0 (fun _ => true) true 23 v d pl) (hw : Lite Try.prog 23 d) :
    ∃ (a : Option Addr) (l : List Int) (c : Nat), v = .slice a l.length c ∧ BytesAt w v l ∧ l.length ≤ c ∧ Byt l ∧ l.length ≤ 140737488355328 := by
  obtain ⟨a, n, c, rfl⟩ := hv
  obtain ⟨fuel, hf⟩ := h
  have hf' : DataW.trod enc Try.prog w 0 (fun _ => true) true fuel 23 [Value.slice a n c] = some (d, pl) := hf
  obtain ⟨a', l, c', hcs, h1, h2, h3, h4, h5⟩ := ints_cells Try.underlying23 Try.underlying5 cT_u8 hf' hw
  simp only [List.cons.injEq, and_true] at hcs
  rw [hcs]
  have hb : Try.prog.bytesOf 5 = 1 := by kernel_rfl
  rw [hb] at h3
  have r : reachBytes = 140737488351232 := rfl
  refine ⟨a', l, c', rfl, ?_, h1, fun x hx => u8_in (h4 x hx), by omega⟩
  rcases h5 with rfl | ⟨b, o, rfl, hr⟩
  · exact .nil _ _
  · exact .at_ b o c' l hr
set_option maxRecDepth 100000 in
theorem reads_lifted (os : Os) (started : os.Started) (H : Type) (enc : TypeId × Value → H) :
    ReturnsInHanded {} Try.checked os 6 .any (Rows.requestReadsSpec.pre6 enc Try.prog Try.f6 Rows.requestReadsRow.domain false) (Rows.requestReadsSpec.post enc Try.prog Try.f6 false true false false) := by
  refine returnsInHanded_of_change_sized (C := Try.checked) own started (by kernel_rfl) Try.func6
    (ChangeSpec.witness6 (enc := enc) (C := Try.checked) false ⟨#[], #[.slice none 0 0], []⟩ 8 (by kernel_rfl) (by kernel_rfl) (by kernel_rfl) (by kernel_rfl)) ?_
  intro W base args ds gs before hval0 hW hcnd hsz _
  have hval : ∀ (j : Nat) t v, Try.f6.params[j]? = some t → args[j]? = some v → Value.okWide Try.prog W .any base t v := hval0
  have hW' := hW
  obtain ⟨p, q, hA0, hV, rfl, hfz, hnd⟩ := hW
  have hA : DataW.TrodAll enc Try.prog W 0 (fun _ => true) true Try.f6.params.toList args.toList ds p := hA0
  have hsz' : (DataW.weightsEach Try.prog (Try.f6.params.toList ++ (ChangeSpec.plain Rows.requestReadsSpec).varTypes Try.prog) (ds ++ gs)).all (· ≤ reachBytes) = true := hsz
  rw [Try.params6] at hA hval hsz'
  obtain ⟨v0, vs0, d0, ds0, p0, q0, hargs, rfl, rfl, h0, r0⟩ := trodAll_cons hA
  obtain ⟨rfl, rfl, rfl⟩ := trodAll_nil r0
  obtain rfl : args = #[v0] := by cases args; simp_all
  obtain ⟨rfl, rfl⟩ := trodVars_none hV
  have hl0 : Lite Try.prog 23 d0 := Lite.of hsz' (j := 0) rfl rfl
  obtain ⟨a, l, c, rfl, hb, hc, hB, hl⟩ := bytes_in (okWide_slice Try.underlying23 (hval 0 23 v0 rfl rfl)) h0 hl0
  clear hA0 hval0
  refine (reads_walk a c l W hb hc hB hl).mono fun e W' ⟨he, hg⟩ => ⟨_, he, law_post ?_ hW' hg.toBelow rfl rfl rfl⟩
  rw [Try.params6]
  simp only [List.mem_cons, List.not_mem_nil, or_false]
  rintro t rfl
  all_goals exact ⟨by kernel_rfl, of_decide_eq_true (by kernel_rfl)⟩
theorem reads_holds : Rows.RequestReadsSaid :=
  OpenClaim.holds_of_wide 6 Try.f6 rfl rfl rfl rfl rfl rfl rfl ⟨rfl, rfl, rfl, rfl, rfl⟩ rfl rfl rfl rfl rfl (by kernel_rfl) Try.func6 (by kernel_rfl)
    (of_decide_eq_true (by kernel_rfl)) (by unfold Func.isWrapper; first | (rw [if_pos (by decide +kernel)]; kernel_rfl) | (rw [if_neg (by decide +kernel)]; exact ⟨rfl, rfl⟩))
    (fun os started H enc _ => reads_lifted os started H enc)
#print axioms reads_holds
end Go.Proofs.Ytnoookcfacmdkaa
