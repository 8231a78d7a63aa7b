/- The journal: a checkpoint. -/
import Derived.Test.YtnjfgbbdfdoccaaJnJ
namespace Go.Proofs.Ytnjfgbbdfdoccaa
open Go.RowKit Go.ChangeMaps
set_option linter.unusedSimpArgs false
set_option linter.unusedVariables false
set_option maxRecDepth 20000

/-- a copy's bytes -/
def ckOwn (l : List (List Int)) : List Int := (l.map fun b => fourP b.length ++ b).flatten
theorem ckOwn_snoc (l : List (List Int)) (b : List Int) : ckOwn (l ++ [b]) = ckOwn l ++ (fourP b.length ++ b) := by simp [ckOwn]
theorem ckOwn_le {l : List (List Int)} (n : Nat) : (ckOwn (l.take n)).length ≤ (ckOwn l).length := by
  unfold ckOwn
  rw [List.map_take]
  exact flat_take_len n
theorem ckOwn_isB {l : List (List Int)} (h : ∀ b ∈ l, IsB b) : IsB (ckOwn l) := fun x hx => by
  unfold ckOwn at hx
  obtain ⟨y, hy, hx⟩ := List.mem_flatten.1 hx
  obtain ⟨b, hb, rfl⟩ := List.mem_map.1 hy
  exact IsB.append (fourP_isB _) (h b hb) x hx
def Jk.checkA (J : Jk) (D : Dk) : Int × Jk × Dk :=
  if J.l.length = 0 then J.write D (beginP D.n (J.epoch + 1)) zeros64 else J.writes D (layPlan (beginP D.n (J.epoch + 1)) (frameP 1 (J.epoch + 1) J.l.length (ckOwn J.l)) (manyP (ckOwn J.l).length))
def Jk.checkM (J : Jk) : Int := if J.l.length = 0 then 0 else ((manyP (ckOwn J.l).length : Nat) : Int)
def Jk.checkB (J : Jk) (D : Dk) (r : Int × Jk × Dk) : Int × Jk × Dk :=
  if r.1 = 0 then
    if (r.2.1.write r.2.2 ((J.epoch + 1) % 2) (superP (J.epoch + 1))).1 = 0 then
      (0, { (r.2.1.write r.2.2 ((J.epoch + 1) % 2) (superP (J.epoch + 1))).2.1 with epoch := J.epoch + 1, at_ := beginP D.n (J.epoch + 1) + J.checkM }, (r.2.1.write r.2.2 ((J.epoch + 1) % 2) (superP (J.epoch + 1))).2.2)
    else r.2.1.write r.2.2 ((J.epoch + 1) % 2) (superP (J.epoch + 1))
  else r
/-- a checkpoint -/
def Jk.check (J : Jk) (D : Dk) : Int × Jk × Dk :=
  if J.dead = true then (16, J, D)
  else if J.epoch = 4294967295 ∨ (0 < J.l.length ∧ halfP D.n < ((manyP (ckOwn J.l).length : Nat) : Int) + 1) then (7, J, D)
  else J.checkB D (J.checkA D)
theorem Rec8.offJ {w : World} {base j d m : Nat} {J : Jk} {D : Dk} {h : SlH} {l : List Int} (r : Rec8 w base h l) (hj : JAt w base j d m J D) : OffJ h.val j d m := fun bb o n c e => by
  obtain ⟨_, cs, f, h1⟩ := r.typ bb o n c e
  obtain ⟨t1, _, _⟩ := hj.jblk
  obtain ⟨t2, t3⟩ := hj.disk.jt
  refine ⟨fun e => ?_, fun e => ?_, fun e => ?_⟩
  · subst e; have := t1 _ _ _ h1; revert this; decide
  · subst e; have := t2 _ _ _ h1; revert this; decide
  · subst e; have := t3 _ _ _ h1; revert this; decide
/-- the journal's two numbers are set -/
theorem JAt.setNums {w : World} {base j d m : Nat} {J : Jk} {D : Dk} (h : JAt w base j d m J D) (ep at' : Int) :
    JAt ((w.setCell ⟨j, 1, none⟩ (.int .i64 ep)).setCell ⟨j, 2, none⟩ (.int .i64 at')) base j d m { J with epoch := ep, at_ := at' } D ∧ Mod [j] w ((w.setCell ⟨j, 1, none⟩ (.int .i64 ep)).setCell ⟨j, 2, none⟩ (.int .i64 at')) := by
  obtain ⟨tj, nd, nm⟩ := h.jblk
  obtain ⟨⟨v, hs, e1, e2, e3, e4⟩, hD, hg⟩ := h
  have g2 := heap_setCell_blk (heap_setCell_blk e1 1 (.int .i64 ep)) 2 (.int .i64 at')
  have ms : Mod [j] w ((w.setCell ⟨j, 1, none⟩ (.int .i64 ep)).setCell ⟨j, 2, none⟩ (.int .i64 at')) := ((Mod.refl _ _).setCell (by simp) _).setCell (by simp) _
  have hty : ∀ k ∈ [j], ∀ cs E f, w.heap[k]? = some (.cells cs E f) → E = 67 := fun k hk cs E f hc => by
    simp at hk; subst hk; rw [e1] at hc; cases hc; rfl
  refine ⟨⟨⟨v, hs, by simpa using g2, e2.kept ms (fun k hk hkm => ?_), e3, fun i x l hx hl => (e4 i x l hx hl).kept ms (fun k hk cs f hc => ?_)⟩, hD.kept ms (by simp; exact fun e => nd e.symm) (by simp; exact fun e => nm e.symm), hg⟩, ms⟩
  · obtain ⟨c, hc⟩ := ownsRow_cells e2 hk
    have := hty k hkm c _ _ hc
    revert this; decide
  · have := hty k hk cs _ f hc
    revert this; decide
theorem beginP_range {n ep : Int} (h0 : 8 ≤ n) (h1 : n ≤ 65536) : 2 ≤ beginP n ep ∧ beginP n ep ≤ 32769 := by
  have hh : 0 ≤ halfP n ∧ halfP n ≤ 32767 := by unfold halfP; omega
  unfold beginP
  have : ep % 2 = 0 ∨ ep % 2 = 1 := by omega
  rcases this with h | h <;> rw [h] <;> omega
set_option maxHeartbeats 8000000 in
theorem jCheckpoint_at {w : World} {base j d m : Nat} {J : Jk} {D : Dk} (h : JAt w base j d m J D) (hk : JOk J D) (hown : (ckOwn J.l).length ≤ 67108864) (hbs : base ≤ w.heap.size) (hge : base ≤ d ∧ base ≤ m) :
    Calls Try.prog 13 #[.pointer (some ⟨j, 0, none⟩)] w fun e w' => e = .returned (.int .i64 (J.check D).1) ∧ JAt w' base j d m (J.check D).2.1 (J.check D).2.2 ∧ JMod base w w' := by
  have HGE := Lib.hid hge
  clear hge
  have CN := Lib.hid (jNone_at h)
  obtain ⟨c0, c1, c2, c4⟩ := h.cells
  have HJ := Lib.hid h
  have HK := Lib.hid hk
  have HOL := Lib.hid hown
  clear h
  by_cases hd : J.dead = true
  · have HP := Lib.hid (show J.check D = (16, J, D) from if_pos hd)
    rw [hd] at c4
    go_enter Try.func13, Try.ntmps13
    go_wp2_with (refine CN.out.mono ?_; rintro e w' ⟨rfl, rfl⟩)
    go_ret
    exact ⟨by rw [HP.out]; rfl, by rw [HP.out]; exact HJ.out, JMod.refl _ _⟩
  have hdf : J.dead = false := by simpa using hd
  rw [hdf] at c4
  obtain ⟨v, hs, e1, e2, e3, e4⟩ := HJ.out.ex
  have c3 : w.cell? ⟨j, 3, none⟩ = some v := by rw [cell_blk e1]; rfl
  obtain ⟨va, vc, rfl⟩ := e2.lens
  have hk' := hk
  obtain ⟨n0, n1, ep0, ep1, a0, a1, w0, w1', l0⟩ := hk'
  have HE3 := Lib.hid e3
  have HIB := Lib.hid (show ∀ b ∈ J.l, IsB b from fun b hb => by
    obtain ⟨i, hi, rfl⟩ := List.getElem_of_mem hb
    have hi2 : i < hs.length := by omega
    exact (e4 i hs[i] J.l[i] (List.getElem?_eq_getElem hi2) (List.getElem?_eq_getElem hi)).isb)
  have HR := Lib.hid (⟨e2, e4⟩ : _ ∧ _)
  have hhl : hs.length ≤ 1048576 := by omega
  clear e1 e2 e4 e3 hk
  go_enter Try.func13, Try.ntmps13
  go_wp2_with (refine CN.out.mono ?_; rintro e w' ⟨rfl, rfl⟩)
  go_loopw [3, 22] (fun s3 s22 W => ∃ (i K : Nat) (oa : Option Addr) (oc : Nat), i ≤ hs.length ∧ s22 = .int .i64 i ∧ s3 = .slice oa K oc ∧ K ≤ 67108864 ∧ Hid (K = (ckOwn (J.l.take i)).length ∧ OwnR enc8 1 5 W w.heap.size (.slice oa K oc) (ckOwn (J.l.take i)) ∧ Mod [] w W)) (fun _ s22 _ => hs.length - (intOf s22).toNat)
  case atStart => exact ⟨0, 0, none, 0, by omega, rfl, rfl, by omega, Lib.hid ⟨rfl, OwnR.nil_ _ _, Mod.refl _ _⟩⟩
  case round =>
    obtain ⟨i, K, oa, oc, hi, rfl, rfl, hK, hS⟩ := hrel
    obtain ⟨hKe, hO, hM⟩ := hS.out
    by_cases hlt : i < hs.length
    · have hil : i < J.l.length := by rw [← HE3.out]; exact hlt
      obtain ⟨x, hx⟩ : ∃ x, hs[i]? = some x := ⟨hs[i], List.getElem?_eq_getElem hlt⟩
      have hrec := (HR.out.2 i x J.l[i] hx (List.getElem?_eq_getElem hil)).kept0 hM
      obtain ⟨q, o, heq, hc, hg⟩ := RowAt.get encH_len (HR.out.1.row.kept0 hM) hlt
      cases heq
      have p0 := hg 0 x.val (by omega) (by rw [(List.getElem?_eq_some_iff.1 hx).2]; rfl)
      simp only [Nat.mul_one, Nat.add_zero] at p0
      have hF : ckOwn (J.l.take (i + 1)) = ckOwn (J.l.take i) ++ (fourP J.l[i].length ++ J.l[i]) := by
        rw [List.take_succ_eq_append_getElem hil, ckOwn_snoc]
      have hle := Nat.le_trans (ckOwn_le (l := J.l) (i + 1)) HOL.out
      have HF := Lib.hid hF
      rw [hF] at hle
      simp only [List.length_append, fourP_len] at hle
      have hxn := hrec.len
      generalize hb : J.l[i] = b at hrec HF hle hxn
      obtain ⟨xa, xn, xc⟩ := x
      dsimp only at hxn
      subst hxn
      simp only [SlH.val] at p0
      have CF := Lib.hid (jFour_at (b.length : Int) (by omega) (by omega) wr)
      have HRC := Lib.hid hrec.row
      have HO := Lib.hid hO
      have HM := Lib.hid hM
      have HKE := Lib.hid hKe
      have hbl : b.length ≤ 67108864 := by omega
      have h1 : decide ((i : Int) < (hs.length : Int)) = true := decide_eq_true (by omega)
      have h2 : decide ((i : Int) < 0) = false := decide_eq_false (by omega)
      have h3 : decide ((hs.length : Int) ≤ (i : Int)) = false := decide_eq_false (by omega)
      clear hrec hg hc hF hS hO hM hKe hb
      go_wp2_with fail
      refine CF.out.mono ?_
      rintro e wa ⟨fv, rfl, hf, ma⟩
      obtain ⟨fa, fc, rfl⟩ := hf.lens
      obtain ⟨X, hAl, kA, zA, mA⟩ := alloc_named2 wa (.cells #[.slice oa K oc, .slice fa (fourP (b.length : Int)).length fc, .slice xa b.length xc] 33)
      obtain ⟨gH, hgH⟩ : ∃ g, wa.heap.size = g := ⟨_, rfl⟩
      rw [hgH] at kA
      have hBs : BsAt X (.slice (some ⟨gH, 0, none⟩) 3 3) [⟨oa, K, oc⟩, ⟨fa, (fourP (b.length : Int)).length, fc⟩, ⟨xa, b.length, xc⟩] [ckOwn (J.l.take i), fourP b.length, b] := by
        refine ⟨row_litJ kA rfl rfl, rfl, fun n x l h1 h2 => ?_⟩
        have hn : n < 3 := by have := (List.getElem?_eq_some_iff.1 h1).1; simpa using this
        obtain rfl | rfl | rfl : n = 0 ∨ n = 1 ∨ n = 2 := by omega
        · cases h1; cases h2; exact ⟨((HO.out.row.kept0 ma).kept0 mA), HKE.out⟩
        · cases h1; cases h2; exact ⟨hf.row.kept0 mA, rfl⟩
        · cases h1; cases h2; exact ⟨(HRC.out.kept0 ma).kept0 mA, rfl⟩
      have HMX := Lib.hid (HM.out.trans (ma.trans mA))
      have CC := Lib.hid (slConcat_at hBs (by simp) (by simp [fourP_len]; omega))
      have HAl := Lib.hid hAl
      have HgH := Lib.hid hgH
      clear hAl hgH zA kA mA hBs ma hf CF p0
      go_wp2_with fail
      rw [HgH.out, HAl.out]
      clear HAl HgH
      refine CC.out.mono ?_
      rintro e wb ⟨u, rfl, hu, mb⟩
      have hu2 : OwnR enc8 1 5 wb w.heap.size u (ckOwn (J.l.take (i + 1))) := by
        rw [HF.out]
        have := hu.mono HMX.out.size
        simpa using this
      obtain ⟨ua, uc, hue⟩ := hu2.lens
      have hln : (ckOwn (J.l.take (i + 1))).length ≤ 67108864 := Nat.le_trans (ckOwn_le _) HOL.out
      obtain ⟨uk, huk⟩ : ∃ k, (ckOwn (J.l.take (i + 1))).length = k := ⟨_, rfl⟩
      rw [huk] at hue hln
      subst hue
      have HN := Lib.hid (⟨huk.symm, hu2, HMX.out.trans mb⟩ : uk = (ckOwn (J.l.take (i + 1))).length ∧ _ ∧ _)
      clear hu hu2 mb huk CC
      go_wp2_with fail
      go_roundw
      case rel => exact ⟨i + 1, uk, ua, uc, by omega, by go_num, rfl, hln, HN⟩
      case measure => simp [intOf]; omega
    · obtain rfl : i = hs.length := by omega
      have h1 : decide ((hs.length : Int) < (hs.length : Int)) = false := decide_eq_false (by omega)
      have hta : J.l.take hs.length = J.l := List.take_of_length_le (by rw [HE3.out]; omega)
      rw [hta] at hKe hO
      have CM := Lib.hid (jMany_at (K : Int) (by omega) (by omega) wr)
      have HO := Lib.hid hO
      have HM := Lib.hid hM
      have HJW := Lib.hid (HJ.out.kept0 hM)
      have p0 := hM.cellD c0
      have p1 := hM.cellD c1
      have p3 := hM.cellD c3
      have HMK := Lib.hid (show ((manyP (ckOwn J.l).length : Nat) : Int) = ((K : Int) + 81) / 64 from by rw [← hKe]; unfold manyP; omega)
      have HKE := Lib.hid hKe
      have CH := Lib.hid (jHalf_at HJW.out.disk ⟨by omega, n1⟩)
      have hhf : 0 ≤ halfP D.n ∧ halfP D.n ≤ 32767 := by unfold halfP; omega
      clear c0 c1 c2 c3 c4 hS hta hKe hO hM CN
      go_wp2_with fail
      refine CM.out.mono ?_
      rintro e w1 ⟨rfl, rfl⟩
      clear CM
      have HPN := Lib.hid (show ¬ J.dead = true from hd)
      by_cases hA : J.epoch = 4294967295
      · have HP := Lib.hid (show J.check D = (7, J, D) from by unfold Jk.check; rw [if_neg hd, if_pos (.inl hA)])
        have dA : (J.epoch == 4294967295) = true := by simpa using hA
        have dA2 : decide (J.epoch = 4294967295) = true := decide_eq_true hA
        clear hA
        go_wp2_with fail
        go_ret
        exact ⟨by rw [HP.out]; rfl, by rw [HP.out]; exact HJW.out, JMod.nil HM.out⟩
      have dA : (J.epoch == 4294967295) = false := by simpa using hA
      have dA2 : decide (J.epoch = 4294967295) = false := decide_eq_false hA
      by_cases hC : 0 < hs.length ∧ halfP D.n < ((K : Int) + 81) / 64 + 1
      · have HP := Lib.hid (show J.check D = (7, J, D) from by
          unfold Jk.check
          rw [if_neg hd, if_pos (.inr ⟨by rw [← HE3.out]; exact hC.1, by rw [HMK.out]; exact hC.2⟩)])
        obtain ⟨hC1, hC2⟩ := hC
        generalize halfP D.n = hf at CH hhf hC2
        have dC1 : decide (0 < (hs.length : Int)) = true := decide_eq_true (by omega)
        have dC2 : decide (hf < ((K : Int) + 81) / 64 + 1) = true := decide_eq_true hC2
        clear hA
        go_wp2_with fail
        refine CH.out.mono ?_
        rintro e w1 ⟨rfl, rfl⟩
        go_wp2_with fail
        go_ret
        exact ⟨by rw [HP.out]; rfl, by rw [HP.out]; exact HJW.out, JMod.nil HM.out⟩
      have HPC := Lib.hid (show J.check D = J.checkB D (J.checkA D) from by
        unfold Jk.check
        rw [if_neg hd, if_neg (fun h => by
          rcases h with h | h
          · exact hA h
          · exact hC ⟨by rw [HE3.out]; exact h.1, by rw [← HMK.out]; exact h.2⟩)])
      have hwe : IntKind.i64.wrap (J.epoch + 1) = J.epoch + 1 := IntWalk.i64_in _ (by omega)
      have hbg := beginP_range (ep := J.epoch + 1) n0 n1
      have CB := Lib.hid (jBegin_at (HJW.out.kept0 (Mod.refl [] wr).drew).disk ⟨by omega, n1⟩ (J.epoch + 1) (by omega) (by omega))
      by_cases hB : hs.length = 0
      · have dC1 : decide (0 < (hs.length : Int)) = false := decide_eq_false (by omega)
        have dB : ((hs.length : Int) == 0) = true := by simpa using hB
        have dB2 : decide ((hs.length : Int) = 0) = true := decide_eq_true (by omega)
        have HPM := Lib.hid (show J.checkM = 0 from by unfold Jk.checkM; rw [if_pos (by rw [← HE3.out]; exact hB)])
        have HPA := Lib.hid (show J.checkA D = J.write D (beginP D.n (J.epoch + 1)) zeros64 from by unfold Jk.checkA; rw [if_pos (by rw [← HE3.out]; exact hB)])
        have HWS := Lib.hid (J.write_same D (beginP D.n (J.epoch + 1)) zeros64)
        clear hC CH hA
        go_wp2_with fail
        refine wp_plan [([0, 4, 1, 5, 2, 6, 3, 7, 8], 9, [])] [10] (by kernel_rfl) (by kernel_rfl) ?_
        simp only [wpSegs, opsOf, List.map_cons, List.map_nil, opN, List.getD_cons_zero, List.getD_cons_succ]
        go_wp2_with fail
        refine ⟨by first | trivial | rfl, ?_⟩
        go_wp2_with fail
        refine CB.out.mono ?_
        rintro e w2 ⟨rfl, rfl⟩
        have CN2 := Lib.hid (jNoughts_at wr.drew)
        clear CB
        go_wp2_with fail
        refine ⟨again_nil, ?_⟩
        go_wp2_with fail
        refine ⟨by first | trivial | rfl, ?_⟩
        go_wp2_with fail
        refine CN2.out.mono ?_
        rintro e w3 ⟨g, rfl, hg, m3⟩
        have hm3 : Mod [] wr w3 := (Mod.refl [] wr).drew.trans m3
        have hj3 := HJW.out.kept0 hm3
        have hlt := HJW.out.lt
        have CW := Lib.hid (jWrite_at hj3 (beginP D.n (J.epoch + 1)) (x := .slice (some ⟨g, 0, none⟩) 64 64) (l := zeros64) hg.row (fun bb o n c e => by
          cases e
          have := (World.ownsRow.lt hg g rfl).1
          have h3 := (Mod.refl [] wr).drew.size
          omega) (by show 64 ≤ _; omega) ⟨w0, by omega⟩)
        have HJ3 := Lib.hid hj3
        have HM3 := Lib.hid (HM.out.trans hm3)
        generalize J.write D (beginP D.n (J.epoch + 1)) zeros64 = r at CW HPA HWS
        obtain ⟨r1, J2, D2⟩ := r
        dsimp only at CW HPA HWS
        clear hg m3 hm3 hj3 hlt CN2
        go_wp2_with fail
        refine CW.out.mono ?_
        rintro e wx ⟨rfl, hjx, mx⟩
        have HJX := Lib.hid hjx
        have HJM := Lib.hid (JMod.trans (JMod.nil HM3.out) (HJ3.out.jmod HGE.out mx))
        have HSM := Lib.hid (show J2.epoch = J.epoch ∧ J2.at_ = J.at_ ∧ J2.l = J.l ∧ D.written ≤ D2.written ∧ D2.written ≤ D.written + 1099511627776 from by
          obtain ⟨a1, a2, a3, a4, a5, a6⟩ := HWS.out
          exact ⟨a4, a5, a6, a2, by omega⟩)
        clear hjx mx CW p0 p1 p3
        have hs2 := HSM.out
        obtain ⟨se, sa, sl, sw1, sw2⟩ := hs2
        have HSE := Lib.hid se
        by_cases hz : r1 = 0
        · subst hz
          obtain ⟨q0, q1, q2, q4⟩ := HJX.out.cells
          rw [se] at q1
          have md := (Mod.refl [] wx).drew
          have CSu := Lib.hid (jSuper_at (J.epoch + 1) (by omega) (by omega) wx.drew)
          have HMD := Lib.hid md
          have htm : (J.epoch + 1).tmod 2 = (J.epoch + 1) % 2 := Int.tmod_eq_emod_of_nonneg (by omega)
          have htm2 : IntKind.i64.wrap ((J.epoch + 1) % 2) = (J.epoch + 1) % 2 := IntWalk.i64_in _ (by omega)
          have hsw : D2.written ≤ 2305843009213693952 ∧ 0 ≤ D2.written := by omega
          have HSW := Lib.hid hsw
          clear md sw1 sw2 se sa sl hsw
          go_wp2_with fail
          refine wp_plan [([0, 1, 7, 2, 8, 3, 9, 4, 10, 5, 11, 6], 12, [2, 3, 4, 5, 6]), ([], 13, [])] [14] (by kernel_rfl) (by kernel_rfl) ?_
          simp only [wpSegs, opsOf, List.map_cons, List.map_nil, opN, List.getD_cons_zero, List.getD_cons_succ]
          go_wp2_with fail
          refine ⟨by first | trivial | rfl, ?_⟩
          go_wp2_with fail
          refine CSu.out.mono ?_
          rintro e wy ⟨sv, rfl, hsv, my⟩
          have hmy : Mod [] wx wy := HMD.out.trans my
          have hjy := HJX.out.kept0 hmy
          have hlt := HJX.out.lt
          have t1 := hmy.cellD q1
          have CW2 := Lib.hid (jWrite_at hjy ((J.epoch + 1) % 2) hsv.row (fun bb o n c e => by
            have h1 : sv.ownBlock = some bb := by rw [e]; rfl
            have h2 := (World.ownsRow.lt hsv bb h1).1
            have h3 := HMD.out.size
            omega) (by rw [superP_len]; omega) ⟨by have := HSW.out; omega, by have := HSW.out; omega⟩)
          have HMY := Lib.hid hmy
          have HJY := Lib.hid hjy
          have HPB := Lib.hid (show J.check D = (if (J2.write D2 ((J.epoch + 1) % 2) (superP (J.epoch + 1))).1 = 0 then (0, { (J2.write D2 ((J.epoch + 1) % 2) (superP (J.epoch + 1))).2.1 with epoch := J.epoch + 1, at_ := beginP D.n (J.epoch + 1) + J.checkM }, (J2.write D2 ((J.epoch + 1) % 2) (superP (J.epoch + 1))).2.2) else J2.write D2 ((J.epoch + 1) % 2) (superP (J.epoch + 1))) from by
            rw [HPC.out, HPA.out]
            unfold Jk.checkB
            rw [if_pos rfl])
          have HS2 := Lib.hid (J2.write_same D2 ((J.epoch + 1) % 2) (superP (J.epoch + 1)))
          generalize J2.write D2 ((J.epoch + 1) % 2) (superP (J.epoch + 1)) = q at CW2 HPB HS2
          obtain ⟨s1, J3, D3⟩ := q
          dsimp only at CW2 HPB HS2
          clear hsv hmy hjy hlt my CSu
          go_wp2_with fail
          refine ⟨?ag20, ?_⟩
          case ag20 =>
            intro i hi hw
            simp only [List.mem_cons, List.not_mem_nil, or_false] at hi
            rcases hi with rfl | rfl | rfl | rfl | rfl
            all_goals (simp only [opN, List.getD_cons_zero, List.getD_cons_succ, slotOf]; go_simp)
          go_wp2_with fail
          refine ⟨by first | trivial | rfl, ?_⟩
          go_wp2_with fail
          refine CW2.out.mono ?_
          rintro e wz ⟨rfl, hjz, mz⟩
          have HJZ := Lib.hid hjz
          have HJM2 := Lib.hid (JMod.trans (JMod.trans HJM.out (JMod.nil HMY.out)) (HJY.out.jmod HGE.out mz))
          clear hjz mz CW2 htm htm2 t1 q0 q1 q2 q4
          by_cases hs1 : s1 = 0
          · subst hs1
            obtain ⟨_, _, _, s3e, s3a, s3l⟩ := HS2.out
            have HP := Lib.hid (show J.check D = (0, { J3 with epoch := J.epoch + 1, at_ := beginP D.n (J.epoch + 1) + J.checkM }, D3) from by rw [HPB.out, if_pos rfl])
            rw [HPM.out] at HP
            obtain ⟨q0, q1, q2, q4⟩ := HJZ.out.cells
            rw [s3e, HSE.out] at q1
            have hjd := HJZ.out
            obtain ⟨v3, hs3, g1, _⟩ := hjd.ex
            have y1 := frozen_blk g1 1
            have y2 := frozen_blk g1 2
            have z1 := cell_blk g1 1
            have z2 := cell_blk g1 2
            simp only [List.getElem?_toArray, List.getElem?_cons_succ, List.getElem?_cons_zero] at z1 z2
            obtain ⟨hN, hM3⟩ := JAt.setNums hjd (J.epoch + 1) (beginP D.n (J.epoch + 1))
            have HN := Lib.hid (show JAt _ base j d m { J3 with epoch := J.epoch + 1, at_ := beginP D.n (J.epoch + 1) } D3 ∧ JMod base w _ from ⟨hN, JMod.trans HJM2.out ⟨[j], hM3, fun k hk => by
              simp at hk; subst hk
              exact ⟨hjd.ge, hjd.jblk.1⟩⟩⟩)
            have hwa : IntKind.i64.wrap (beginP D.n (J.epoch + 1)) = beginP D.n (J.epoch + 1) := IntWalk.i64_in _ (by omega)
            clear hN hM3 g1 hjd s3e s3a s3l hwa hwe
            go_wp2_with fail
            refine ⟨again_nil, ?_⟩
            go_wp2_with fail
            refine ⟨by first | trivial | rfl, ?_⟩
            go_wp2_with fail
            go_ret
            exact ⟨by rw [HP.out]; rfl, by rw [HP.out]; have h := HN.out.1; rw [Int.add_zero]; exact h, HN.out.2⟩
          · have hsf : (s1 == 0) = false := by simpa using hs1
            have hsf2 : decide (s1 = 0) = false := decide_eq_false hs1
            have HP := Lib.hid (show J.check D = (s1, J3, D3) from by rw [HPB.out, if_neg hs1])
            clear hwe
            go_wp2_with fail
            refine ⟨again_nil, ?_⟩
            go_wp2_with fail
            refine ⟨by first | trivial | rfl, ?_⟩
            go_wp2_with fail
            go_ret
            exact ⟨by rw [HP.out]; rfl, by rw [HP.out]; exact HJZ.out, HJM2.out⟩
        · have hzf : (r1 == 0) = false := by simpa using hz
          have hzf2 : decide (r1 = 0) = false := decide_eq_false hz
          have HP := Lib.hid (show J.check D = (r1, J2, D2) from by
            rw [HPC.out, HPA.out]
            unfold Jk.checkB
            rw [if_neg hz])
          clear hwe
          go_wp2_with fail
          go_ret
          exact ⟨by rw [HP.out]; rfl, by rw [HP.out]; exact HJX.out, HJM.out⟩
      · have dC1 : decide (0 < (hs.length : Int)) = true := decide_eq_true (by omega)
        have hC2 : ¬ halfP D.n < ((K : Int) + 81) / 64 + 1 := fun h => hC ⟨by omega, h⟩
        have dB : ((hs.length : Int) == 0) = false := by simpa using hB
        have dB2 : decide ((hs.length : Int) = 0) = false := decide_eq_false (by omega)
        have HPM := Lib.hid (show J.checkM = ((K : Int) + 81) / 64 from by unfold Jk.checkM; rw [if_neg (by rw [← HE3.out]; exact hB), HMK.out])
        have HPA := Lib.hid (show J.checkA D = J.writes D (layPlan (beginP D.n (J.epoch + 1)) (frameP 1 (J.epoch + 1) (hs.length : Int) (ckOwn J.l)) (manyP (ckOwn J.l).length)) from by unfold Jk.checkA; rw [if_neg (by rw [← HE3.out]; exact hB), HE3.out])
        have HWS := Lib.hid (Jk.writes_same (layPlan (beginP D.n (J.epoch + 1)) (frameP 1 (J.epoch + 1) (hs.length : Int) (ckOwn J.l)) (manyP (ckOwn J.l).length)) J D)
        rw [layPlan_len] at HWS
        have CF := Lib.hid (jFrame_at (HO.out.row.kept0 ((Mod.refl [] wr).drew.drew)) (by rw [← HKE.out]; omega) (ckOwn_isB HIB.out) 1 (J.epoch + 1) (hs.length : Int) ⟨by omega, by omega⟩ ⟨by omega, by omega⟩ ⟨by omega, by omega⟩)
        generalize hff : halfP D.n = hf at CH hhf hC2
        have dC2 : decide (hf < ((K : Int) + 81) / 64 + 1) = false := decide_eq_false hC2
        clear hC hA hff
        go_wp2_with fail
        refine CH.out.mono ?_
        rintro e w1 ⟨rfl, rfl⟩
        clear CH
        go_wp2_with fail
        refine wp_plan [([0, 4, 1, 5, 2, 6, 3, 7, 8], 9, [])] [10] (by kernel_rfl) (by kernel_rfl) ?_
        simp only [wpSegs, opsOf, List.map_cons, List.map_nil, opN, List.getD_cons_zero, List.getD_cons_succ]
        go_wp2_with fail
        refine ⟨by first | trivial | rfl, ?_⟩
        go_wp2_with fail
        refine CB.out.mono ?_
        rintro e w2 ⟨rfl, rfl⟩
        clear CB
        go_wp2_with fail
        refine ⟨again_nil, ?_⟩
        go_wp2_with fail
        refine ⟨by first | trivial | rfl, ?_⟩
        go_wp2_with fail
        refine wp_plan [([0, 1, 2, 7, 12, 3, 8, 4, 9, 5, 10, 6, 11], 13, []), ([], 14, [])] [15] (by kernel_rfl) (by kernel_rfl) ?_
        simp only [wpSegs, opsOf, List.map_cons, List.map_nil, opN, List.getD_cons_zero, List.getD_cons_succ]
        go_wp2_with fail
        refine ⟨by first | trivial | rfl, ?_⟩
        go_wp2_with fail
        refine CF.out.mono ?_
        rintro e w3 ⟨fv, rfl, hf3, m3⟩
        have hm3 : Mod [] wr w3 := (Mod.refl [] wr).drew.drew.trans m3
        have hj3 := HJW.out.kept0 hm3
        have hlt := HJW.out.lt
        have hM1 : 1 ≤ manyP (ckOwn J.l).length ∧ manyP (ckOwn J.l).length ≤ 16777216 := by
          have := HKE.out
          unfold manyP
          omega
        have CL := Lib.hid (jLay_at hj3 (beginP D.n (J.epoch + 1)) ⟨by omega, by omega⟩ hf3.row hM1 (frameP_len _ _ _ _) (fun bb o n c e => by
          have h1 : fv.ownBlock = some bb := by rw [e]; rfl
          have h2 := (World.ownsRow.lt hf3 bb h1).1
          have h3 := (Mod.refl [] wr).drew.drew.size
          omega) ⟨w0, by omega⟩)
        have HJ3 := Lib.hid hj3
        have HM3 := Lib.hid (HM.out.trans hm3)
        have HM1 := Lib.hid hM1
        generalize J.writes D (layPlan (beginP D.n (J.epoch + 1)) (frameP 1 (J.epoch + 1) (hs.length : Int) (ckOwn J.l)) (manyP (ckOwn J.l).length)) = r at CL HPA HWS
        obtain ⟨r1, J2, D2⟩ := r
        dsimp only at CL HPA HWS
        clear hf3 m3 hm3 hj3 hlt CF hM1
        go_wp2_with fail
        refine ⟨again_nil, ?_⟩
        go_wp2_with fail
        refine ⟨by first | trivial | rfl, ?_⟩
        go_wp2_with fail
        refine CL.out.mono ?_
        rintro e wx ⟨rfl, hjx, mx⟩
        have HJX := Lib.hid hjx
        have HJM := Lib.hid (JMod.trans (JMod.nil HM3.out) (HJ3.out.jmod HGE.out mx))
        have HSM := Lib.hid (show J2.epoch = J.epoch ∧ J2.at_ = J.at_ ∧ J2.l = J.l ∧ D.written ≤ D2.written ∧ D2.written ≤ D.written + 1099511627776 from by
          obtain ⟨a1, a2, a3, a4, a5, a6⟩ := HWS.out
          have := HM1.out.2
          exact ⟨a4, a5, a6, a2, by omega⟩)
        clear hjx mx CL p0 p1 p3
        have hs2 := HSM.out
        obtain ⟨se, sa, sl, sw1, sw2⟩ := hs2
        have HSE := Lib.hid se
        by_cases hz : r1 = 0
        · subst hz
          obtain ⟨q0, q1, q2, q4⟩ := HJX.out.cells
          rw [se] at q1
          have md := (Mod.refl [] wx).drew
          have CSu := Lib.hid (jSuper_at (J.epoch + 1) (by omega) (by omega) wx.drew)
          have HMD := Lib.hid md
          have htm : (J.epoch + 1).tmod 2 = (J.epoch + 1) % 2 := Int.tmod_eq_emod_of_nonneg (by omega)
          have htm2 : IntKind.i64.wrap ((J.epoch + 1) % 2) = (J.epoch + 1) % 2 := IntWalk.i64_in _ (by omega)
          have hsw : D2.written ≤ 2305843009213693952 ∧ 0 ≤ D2.written := by omega
          have HSW := Lib.hid hsw
          clear md sw1 sw2 se sa sl hsw
          go_wp2_with fail
          refine ⟨again_nil, ?_⟩
          go_wp2_with fail
          refine ⟨by first | trivial | rfl, ?_⟩
          go_wp2_with fail
          refine wp_plan [([0, 1, 7, 2, 8, 3, 9, 4, 10, 5, 11, 6], 12, [2, 3, 4, 5, 6]), ([], 13, [])] [14] (by kernel_rfl) (by kernel_rfl) ?_
          simp only [wpSegs, opsOf, List.map_cons, List.map_nil, opN, List.getD_cons_zero, List.getD_cons_succ]
          go_wp2_with fail
          refine ⟨by first | trivial | rfl, ?_⟩
          go_wp2_with fail
          refine CSu.out.mono ?_
          rintro e wy ⟨sv, rfl, hsv, my⟩
          have hmy : Mod [] wx wy := HMD.out.trans my
          have hjy := HJX.out.kept0 hmy
          have hlt := HJX.out.lt
          have t1 := hmy.cellD q1
          have CW2 := Lib.hid (jWrite_at hjy ((J.epoch + 1) % 2) hsv.row (fun bb o n c e => by
            have h1 : sv.ownBlock = some bb := by rw [e]; rfl
            have h2 := (World.ownsRow.lt hsv bb h1).1
            have h3 := HMD.out.size
            omega) (by rw [superP_len]; omega) ⟨by have := HSW.out; omega, by have := HSW.out; omega⟩)
          have HMY := Lib.hid hmy
          have HJY := Lib.hid hjy
          have HPB := Lib.hid (show J.check D = (if (J2.write D2 ((J.epoch + 1) % 2) (superP (J.epoch + 1))).1 = 0 then (0, { (J2.write D2 ((J.epoch + 1) % 2) (superP (J.epoch + 1))).2.1 with epoch := J.epoch + 1, at_ := beginP D.n (J.epoch + 1) + J.checkM }, (J2.write D2 ((J.epoch + 1) % 2) (superP (J.epoch + 1))).2.2) else J2.write D2 ((J.epoch + 1) % 2) (superP (J.epoch + 1))) from by
            rw [HPC.out, HPA.out]
            unfold Jk.checkB
            rw [if_pos rfl])
          have HS2 := Lib.hid (J2.write_same D2 ((J.epoch + 1) % 2) (superP (J.epoch + 1)))
          generalize J2.write D2 ((J.epoch + 1) % 2) (superP (J.epoch + 1)) = q at CW2 HPB HS2
          obtain ⟨s1, J3, D3⟩ := q
          dsimp only at CW2 HPB HS2
          clear hsv hmy hjy hlt my CSu
          go_wp2_with fail
          refine ⟨?ag20, ?_⟩
          case ag20 =>
            intro i hi hw
            simp only [List.mem_cons, List.not_mem_nil, or_false] at hi
            rcases hi with rfl | rfl | rfl | rfl | rfl
            all_goals (simp only [opN, List.getD_cons_zero, List.getD_cons_succ, slotOf]; go_simp)
          go_wp2_with fail
          refine ⟨by first | trivial | rfl, ?_⟩
          go_wp2_with fail
          refine CW2.out.mono ?_
          rintro e wz ⟨rfl, hjz, mz⟩
          have HJZ := Lib.hid hjz
          have HJM2 := Lib.hid (JMod.trans (JMod.trans HJM.out (JMod.nil HMY.out)) (HJY.out.jmod HGE.out mz))
          clear hjz mz CW2 htm htm2 t1 q0 q1 q2 q4
          by_cases hs1 : s1 = 0
          · subst hs1
            obtain ⟨_, _, _, s3e, s3a, s3l⟩ := HS2.out
            have HP := Lib.hid (show J.check D = (0, { J3 with epoch := J.epoch + 1, at_ := beginP D.n (J.epoch + 1) + J.checkM }, D3) from by rw [HPB.out, if_pos rfl])
            rw [HPM.out] at HP
            obtain ⟨q0, q1, q2, q4⟩ := HJZ.out.cells
            rw [s3e, HSE.out] at q1
            have hjd := HJZ.out
            obtain ⟨v3, hs3, g1, _⟩ := hjd.ex
            have y1 := frozen_blk g1 1
            have y2 := frozen_blk g1 2
            have z1 := cell_blk g1 1
            have z2 := cell_blk g1 2
            simp only [List.getElem?_toArray, List.getElem?_cons_succ, List.getElem?_cons_zero] at z1 z2
            obtain ⟨hN, hM3⟩ := JAt.setNums hjd (J.epoch + 1) (beginP D.n (J.epoch + 1) + ((K : Int) + 81) / 64)
            have HN := Lib.hid (show JAt _ base j d m { J3 with epoch := J.epoch + 1, at_ := beginP D.n (J.epoch + 1) + ((K : Int) + 81) / 64 } D3 ∧ JMod base w _ from ⟨hN, JMod.trans HJM2.out ⟨[j], hM3, fun k hk => by
              simp at hk; subst hk
              exact ⟨hjd.ge, hjd.jblk.1⟩⟩⟩)
            have hwa : IntKind.i64.wrap (beginP D.n (J.epoch + 1) + ((K : Int) + 81) / 64) = beginP D.n (J.epoch + 1) + ((K : Int) + 81) / 64 := IntWalk.i64_in _ (by omega)
            clear hN hM3 g1 hjd s3e s3a s3l hwa hwe
            go_wp2_with fail
            refine ⟨again_nil, ?_⟩
            go_wp2_with fail
            refine ⟨by first | trivial | rfl, ?_⟩
            go_wp2_with fail
            go_ret
            exact ⟨by rw [HP.out]; rfl, by rw [HP.out]; exact HN.out.1, HN.out.2⟩
          · have hsf : (s1 == 0) = false := by simpa using hs1
            have hsf2 : decide (s1 = 0) = false := decide_eq_false hs1
            have HP := Lib.hid (show J.check D = (s1, J3, D3) from by rw [HPB.out, if_neg hs1])
            clear hwe
            go_wp2_with fail
            refine ⟨again_nil, ?_⟩
            go_wp2_with fail
            refine ⟨by first | trivial | rfl, ?_⟩
            go_wp2_with fail
            go_ret
            exact ⟨by rw [HP.out]; rfl, by rw [HP.out]; exact HJZ.out, HJM2.out⟩
        · have hzf : (r1 == 0) = false := by simpa using hz
          have hzf2 : decide (r1 = 0) = false := decide_eq_false hz
          have HP := Lib.hid (show J.check D = (r1, J2, D2) from by
            rw [HPC.out, HPA.out]
            unfold Jk.checkB
            rw [if_neg hz])
          clear hwe
          go_wp2_with fail
          refine ⟨again_nil, ?_⟩
          go_wp2_with fail
          refine ⟨by first | trivial | rfl, ?_⟩
          go_wp2_with fail
          go_ret
          exact ⟨by rw [HP.out]; rfl, by rw [HP.out]; exact HJX.out, HJM.out⟩
end Go.Proofs.Ytnjfgbbdfdoccaa
