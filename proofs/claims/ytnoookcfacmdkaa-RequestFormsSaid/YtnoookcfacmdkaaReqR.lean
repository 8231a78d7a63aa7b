/- Layer 25: what is no form is refused; two known forms; what is great. -/
import Derived.Test.YtnoookcfacmdkaaReqQ
namespace Go.Proofs.Ytnoookcfacmdkaa
open Go.RowKit Go.ChangeMaps
set_option linter.unusedSimpArgs false
set_option linter.unusedVariables false
set_option maxRecDepth 20000

theorem dec_none {w : World} {bb : Nat} {sv : Value} {l : List Int} (h : RdB w bb sv l) (hb : bb < w.heap.size) (hB : Byt l) (L9 : l.length ≤ 140737488355328) (hd : decodeR l = none) :
    Calls Try.prog 25 #[sv] w (Wrong w) := by
  cases q0 : pNum 1 l with
  | none => exact dec_k h hb hB (Lib.hid q0)
  | some x =>
    obtain ⟨k, r1⟩ := x
    obtain ⟨hk0, hk1, B1⟩ := pNum_byt hB q0
    rw [p1] at hk1
    by_cases k1 : k = 1
    · subst k1
      cases q1 : pNum 1 r1 with
      | none => exact dec_n_none h hb hB B1 (Lib.hid q0) (Lib.hid q1)
      | some y =>
        obtain ⟨n, r2⟩ := y
        obtain ⟨hn0, hn1, B2⟩ := pNum_byt B1 q1
        rw [p1] at hn1
        obtain ⟨m, rfl⟩ := Int.eq_ofNat_of_zero_le hn0
        have l1 : r2.length ≤ l.length := by
          obtain ⟨_, _, e1⟩ := pNum_some q0
          obtain ⟨_, _, e2⟩ := pNum_some q1
          rw [e2, e1]
          simp only [List.length_drop]
          omega
        refine dec_commit h hb hB B1 (Lib.hid q0) (by omega) (Lib.hid B2) (Lib.hid l1) (Lib.hid L9) (Lib.hid q1) (Lib.hid ?_)
        rintro ds t hp ⟨hm, he⟩
        have : decodeR l = some ⟨1, ds, 0, 0⟩ := by
          unfold decodeR pRec
          simp only [q0, q1, if_true, Int.toNat_natCast, hp]
          rw [if_pos ⟨hm, he⟩]
        rw [hd] at this
        cases this
    · cases q1 : pSpan r1 with
      | none => exact dec_span_none h hb hB hk0 hk1 k1 B1 (Lib.hid q0) (Lib.hid q1)
      | some y =>
        obtain ⟨xs, r2⟩ := y
        refine dec_span h hb hB hk0 hk1 k1 B1 (Lib.hid q0) (Lib.hid q1) (Lib.hid ?_)
        rintro ⟨hm, he⟩
        have : decodeR l = some ⟨k, [], xs.1, xs.2⟩ := by
          unfold decodeR pRec
          simp only [q0, q1, if_neg k1]
          rw [if_pos ⟨hm, he⟩]
        rw [hd] at this
        cases this
def knownA : RecR := ⟨2, [], 1, 256⟩
def knownD : DoR := { DoR.zero with k := 5, f := 3 }
def knownB : RecR := ⟨1, [knownD], 0, 0⟩
theorem knownA_enc : knownA.enc = [2, 0, 0, 1, 0, 1, 0] := by decide
theorem knownB_enc : knownB.enc = [1, 1, 5, 3] := by decide
set_option maxHeartbeats 1000000 in
theorem known25_any (w : World) : Calls Try.prog 24 #[] w fun e w' => e = .returned (.bool true) ∧ Mod [] w w' := by
  have hA : DosAt w (.slice none 0 0) knownA.ds := ⟨none, 0, rfl, fun i d hd => by simp [knownA] at hd⟩
  have HA := Lib.hid (encode_yes knownA (.slice none 0 0) w hA (by simp [knownA]) (by simp [knownA]) (by decide))
  unfold recV knownA at HA
  dsimp only at HA
  clear hA
  go_enter Try.func24, Try.ntmps24
  go_wp2_with fail
  refine HA.out.mono ?_
  rintro e w1 ⟨v1, rfl, o1, m1⟩
  have hm1 := (Mod.refl [] w1).alloc (.cells knownD.cells.toArray 78)
  have hB : DosAt (w1.alloc (.cells knownD.cells.toArray 78)) (.slice (some ⟨w1.heap.size, 0, none⟩) 1 1) knownB.ds := ⟨_, 1, rfl, fun i d hd => ⟨w1.heap.size, 0, rfl, fun j u hu => by
    have hi : i = 0 := by
      have := (List.getElem?_eq_some_iff.1 hd).1
      simp [knownB] at this
      exact this
    subst hi
    simp [knownB] at hd
    subst hd
    simp only [Nat.zero_mul, Nat.zero_add]
    rw [cell_blk (heap_alloc_new w1 _)]
    simpa using hu⟩⟩
  have HB := Lib.hid (encode_yes knownB (.slice (some ⟨w1.heap.size, 0, none⟩) 1 1) _ hB (by intro d hd; simp [knownB] at hd; subst hd; exact ⟨by decide, by decide⟩) (by simp [knownB]) (by decide))
  unfold recV knownB at HB
  dsimp only at HB
  have HO1 := Lib.hid o1
  have HM1 := Lib.hid (m1.trans hm1)
  clear o1 m1 hm1 hB
  go_wp2_with fail
  refine HB.out.mono ?_
  rintro e w2 ⟨v2, rfl, o2, m2⟩
  have b1 := ((HO1.out.kept0 ((Mod.refl [] w1).alloc (.cells knownD.cells.toArray 78))).kept0 m2).bytes
  have c1 := conv_bytes b1
  have c2 := conv_bytes o2.bytes
  have e1 : RecR.enc ⟨2, [], 1, 256⟩ = [2, 0, 0, 1, 0, 1, 0] := knownA_enc
  have e2 : RecR.enc ⟨1, [knownD], 0, 0⟩ = [1, 1, 5, 3] := knownB_enc
  rw [e1, show strOfNums [2, 0, 0, 1, 0, 1, 0] = (⟨#[2, 0, 0, 1, 0, 1, 0]⟩ : ByteArray) from rfl] at c1
  rw [e2, show strOfNums [1, 1, 5, 3] = (⟨#[1, 1, 5, 3]⟩ : ByteArray) from rfl] at c2
  have HC1 := Lib.hid c1
  have HC2 := Lib.hid c2
  have HM2 := Lib.hid (HM1.out.trans m2)
  clear b1 c1 c2 e1 e2 o2 m2
  go_wp2_with (first | ((with_reducible refine xConvertAt rfl HC1.out ?_ ?_ ?_); exact rfl; exact rfl) | ((with_reducible refine xConvertAt rfl HC2.out ?_ ?_ ?_); exact rfl; exact rfl))
  go_ret
  exact ⟨rfl, HM2.out⟩
def SomeB (w : World) (e : Ending) (w' : World) : Prop := ∃ b, e = .returned (.bool b) ∧ Mod [] w w'
set_option maxHeartbeats 1000000 in
theorem great25_any (r : RecR) (v : Value) (w : World) (h : DosAt w v r.ds) (hf : ∀ d ∈ r.ds, d.Fit) (hl : r.ds.length ≤ 9223372036854775807) :
    Calls Try.prog 28 #[recV r v] w (SomeB w) := by
  have H := Lib.hid h
  have HF := Lib.hid hf
  obtain ⟨x, c, rfl, _⟩ := h
  clear hf
  unfold recV
  obtain ⟨k, ds, a, b⟩ := r
  dsimp only at hl H HF ⊢
  have hc0 := heap_alloc_new w (.cells #[.int .u8 k, .slice x ds.length c, .int .i64 a, .int .i64 b] 54)
  have HC0 := Lib.hid hc0
  have HM0 := Lib.hid ((Mod.refl [] w).alloc (.cells #[.int .u8 k, .slice x ds.length c, .int .i64 a, .int .i64 b] 54))
  clear hc0
  go_enter Try.func28, Try.ntmps28
  go_wp2_with fail
  go_loopw [3, 8] (fun s3 s8 wr => ∃ (i : Nat) (y : Int), i ≤ ds.length ∧ s8 = .int .i64 i ∧ s3 = .int .i64 y ∧ Hid (Mod [] (w.alloc (.cells #[.int .u8 k, .slice x ds.length c, .int .i64 a, .int .i64 b] 54)) wr)) (fun _ s8 _ => ds.length - (intOf s8).toNat)
  case atStart => exact ⟨0, 0, by omega, rfl, rfl, Lib.hid (Mod.refl _ _)⟩
  case round =>
    obtain ⟨i, y, hi, rfl, rfl, hm⟩ := hrel
    have hcr := hm.out.heap HC0.out (by simp)
    have q1 := cell_blk hcr 1
    simp at q1
    clear hcr
    by_cases hlt : i < ds.length
    · obtain ⟨bb, o, rfl, hr⟩ : ∃ bb o, x = some ⟨bb, o, none⟩ ∧ wr.rangeAt bb (o + i * 11) ds[i].cells := by
        obtain ⟨a', cap', e, hx⟩ := H.out
        simp only [Value.slice.injEq, true_and] at e
        obtain ⟨rfl, rfl⟩ := e
        obtain ⟨bb, o, ha, hr⟩ := hx i ds[i] (by simp [hlt])
        exact ⟨bb, o, ha, rangeAt_mod hr (HM0.out.trans hm.out) (by simp)⟩
      have hdf := HF.out ds[i] (by simp)
      generalize ds[i] = d at hr hdf
      obtain ⟨k', f', nm, fk', a', b', vk', c', s', e', tx⟩ := d
      have q2 := hr 2 (.string nm) rfl
      have q10 := hr 10 (.string tx) rfl
      have hn := hdf.nm
      have ht := hdf.tx
      dsimp only at hn ht
      clear hr hdf
      go_wp2_with fail
      refine wp_plan [([0, 1, 3, 8, 10, 2, 9, 4, 11, 5, 12, 6, 13, 7, 14, 15, 16], 17, [])] [] (by kernel_rfl) (by kernel_rfl) ?_
      simp only [wpSegs, opsOf, List.map_cons, List.map_nil, opN, List.getD_cons_zero, List.getD_cons_succ]
      go_wp2_with fail
      refine ⟨by first | trivial | rfl, ?_⟩
      go_wp2_with fail
      refine ⟨again_nil, ?_⟩
      go_wp2_with fail
      refine ⟨by first | trivial | rfl, ?_⟩
      have HMq := Lib.hid (hm.out.trans ((Mod.refl [] wr).drew))
      go_wp2_with fail
      go_roundw
      case rel => exact ⟨i + 1, _, by omega, by go_num, rfl, HMq⟩
      case measure => simp [intOf]; omega
    · have hge : ds.length ≤ i := by omega
      go_wp2_with fail
      all_goals
        go_ret
        exact ⟨_, rfl, HM0.out.trans hm.out⟩
end Go.Proofs.Ytnoookcfacmdkaa
