/- The page's example, walked. -/
import Derived.Test.YtnjfgbbdfdoccaaJnV
namespace Go.Proofs.Ytnjfgbbdfdoccaa
open Go.RowKit Go.ChangeMaps
set_option linter.unusedSimpArgs false
set_option linter.unusedVariables false
set_option maxRecDepth 20000

structure KnownFacts (F A B C : Int × Jk × Dk) : Prop where
  hF : fmtJ.writes (Dk.new 20) fmtPlan = F
  hA : F.2.1.append F.2.2 [1, 2, 3] = A
  hB : A.2.1.append A.2.2 (List.replicate 100 0) = B
  hC : B.2.1.check B.2.2 = C
  f0 : F.1 = 0
  a0 : A.1 = 0
  b0 : B.1 = 0
  c0 : C.1 = 0
  fi : RoomInv 0 F.2.1 F.2.2
  ai : RoomInv 1 A.2.1 A.2.2
  bi : RoomInv 2 B.2.1 B.2.2
  ci : RoomInv 3 C.2.1 C.2.2
  fl : leftP F.2.1 F.2.2 = 9
  al : leftP A.2.1 A.2.2 = 8
  bl : leftP B.2.1 B.2.2 = 6
  cl : leftP C.2.1 C.2.2 = 6
  ce : C.2.1.epoch = 2
  no : roomB C.2.1 C.2.2 400 = false
  yes : roomB C.2.1 C.2.2 300 = true
  secs : SecsB C.2.2
  ep : epsP C.2.2 = 2
  oe : (openJ C.2.2).epoch = 2
  ol : (openJ C.2.2).l = [[1, 2, 3], List.replicate 100 0]
theorem kFacts : KnownFacts kF kA kB kC :=
  ⟨rfl, rfl, rfl, rfl, kF_ok, kA_ok, kB_ok, kC_ok, kF_inv, kA_inv, kB_inv, kC_inv, kF_left, kA_left, kB_left, kC_left, kC_ep, kC_no, kC_yes, kC_secs, kC_eps, kC_oep, kC_open⟩
set_option maxHeartbeats 4000000 in
theorem known_at (w : World) : Calls Try.prog 6 #[] w fun e w' => e = .returned (.bool true) ∧ Mod [] w w' := by
  obtain ⟨F, A, B, C, K⟩ : ∃ F A B C, KnownFacts F A B C := ⟨_, _, _, _, kFacts⟩
  have HK := Lib.hid K
  clear K
  obtain ⟨base, hbase⟩ : ∃ base, w.heap.size = base := ⟨_, rfl⟩
  have HBS := Lib.hid hbase
  have CN := Lib.hid (new_yes 20 w (by decide) (by decide))
  rw [hbase] at CN
  clear hbase
  go_enter Try.func6, Try.ntmps6
  go_wp2_with fail
  refine CN.out.mono ?_
  rintro e w1 ⟨rfl, m1, hd⟩
  have hs1 : base ≤ w1.heap.size := by have := m1.size; have := HBS.out; omega
  have CF := Lib.hid (jFormat_at hd (base := base) ⟨by decide, by decide⟩ ⟨by omega, Nat.le_refl _, hs1⟩ ⟨by decide, by decide⟩ (by rw [HK.out.hF]; exact HK.out.f0))
  rw [HK.out.hF] at CF
  have HM1 := Lib.hid m1
  clear CN m1 hd
  go_wp2_with fail
  refine CF.out.mono ?_
  rintro e w2 ⟨j, rfl, hj, m2⟩
  have HJ := Lib.hid hj
  have HJM := Lib.hid (show Mod [] w w2 from Mod.into' HM1.out m2 (fun k hk => by
    have := HBS.out
    simp at hk
    rcases hk with rfl | rfl <;> exact .inl (by omega)))
  have CL := Lib.hid (jLeft_at hj HK.out.fi.ok)
  rw [HK.out.fl] at CL
  clear hj m2 CF hs1
  go_wp2_with fail
  refine CL.out.mono ?_
  rintro e w3 ⟨rfl, m3⟩
  have HM := Lib.hid (HJM.out.trans m3)
  have HJ := Lib.hid (HJ.out.kept0 m3)
  clear m3 CL HJM HM1
  obtain ⟨w4, hAl, kA, zA, mA⟩ := alloc_named2 w3 (.cells #[.int .u8 1, .int .u8 2, .int .u8 3] 5)
  have HX := Lib.hid (row_litJ (enc := enc8) (l := [1, 2, 3]) kA rfl rfl)
  have HM4 := Lib.hid (HM.out.trans mA)
  have HJ4 := Lib.hid (HJ.out.kept0 mA)
  have HAl := Lib.hid hAl
  clear hAl kA zA mA
  go_wp2_with fail
  rw [HAl.out]
  have CA := Lib.hid (jAppend_at HJ4.out HK.out.fi.ok (x := .slice (some ⟨w3.heap.size, 0, none⟩) 3 3) (b := [1, 2, 3]) HX.out (by decide) (isB_nums (by decide)) (fun bb o n c e => by
    cases e
    have := HJ.out.lt
    omega) (by have := HM4.out.size; have := HBS.out; omega) ⟨by omega, Nat.le_refl _⟩)
  rw [HK.out.hA, HK.out.a0] at CA
  clear HAl HX HJ HM
  refine CA.out.mono ?_
  rintro e w5 ⟨rfl, hj, hm⟩
  have HM := Lib.hid (JMod.toNil HM4.out (by have := HBS.out; omega) hm)
  have HJ := Lib.hid hj
  have CL := Lib.hid (jLeft_at hj HK.out.ai.ok)
  rw [HK.out.al] at CL
  clear hj hm CA HM4 HJ4
  go_wp2_with fail
  refine CL.out.mono ?_
  rintro e w6 ⟨rfl, m6⟩
  have HM := Lib.hid (HM.out.trans m6)
  have HJ := Lib.hid (HJ.out.kept0 m6)
  clear m6 CL
  obtain ⟨w7, hAl, kA, zA, mA⟩ := alloc_named2 w6 (.cells (Array.replicate 100 (.int .u8 0)) 5)
  have HX := Lib.hid (row_litJ (enc := enc8) (l := List.replicate 100 0) (n := 100) kA (by kernel_rfl) (by kernel_rfl))
  have HM4 := Lib.hid (HM.out.trans mA)
  have HJ4 := Lib.hid (HJ.out.kept0 mA)
  have HAl := Lib.hid hAl
  clear hAl kA zA mA
  have hmk : (Instr.makeSlice 33 (.int .i64 100) (.int .i64 100)).run Try.prog w6 = .ok (.slice (some ⟨w6.heap.size, 0, none⟩) 100 100) w7 := by
    rw [← HAl.out]; kernel_rfl
  go_wp2_with fail
  clear hmk HAl
  have CB := Lib.hid (jAppend_at HJ4.out HK.out.ai.ok (x := .slice (some ⟨w6.heap.size, 0, none⟩) 100 100) (b := List.replicate 100 0) HX.out (by rw [List.length_replicate]; decide) (isB_zeros 100) (fun bb o n c e => by
    cases e
    have := HJ.out.lt
    omega) (by have := HM4.out.size; have := HBS.out; omega) ⟨by omega, Nat.le_refl _⟩)
  rw [HK.out.hB, HK.out.b0] at CB
  clear HX HJ HM
  refine CB.out.mono ?_
  rintro e w8 ⟨rfl, hj, hm⟩
  have HM := Lib.hid (JMod.toNil HM4.out (by have := HBS.out; omega) hm)
  have HJ := Lib.hid hj
  have CL := Lib.hid (jLeft_at hj HK.out.bi.ok)
  rw [HK.out.bl] at CL
  clear hj hm CB HM4 HJ4
  go_wp2_with fail
  refine CL.out.mono ?_
  rintro e w9 ⟨rfl, m9⟩
  have HM4 := Lib.hid (HM.out.trans m9)
  have HJ4 := Lib.hid (HJ.out.kept0 m9)
  clear m9 CL HM HJ
  have CC := Lib.hid (jCheckpoint_at HJ4.out HK.out.bi.ok (by have := HK.out.bi.own (by decide); omega) (by have := HM4.out.size; have := HBS.out; omega) ⟨by omega, Nat.le_refl _⟩)
  rw [HK.out.hC, HK.out.c0] at CC
  go_wp2_with fail
  refine CC.out.mono ?_
  rintro e x1 ⟨rfl, hj, hm⟩
  have HM := Lib.hid (JMod.toNil HM4.out (by have := HBS.out; omega) hm)
  have HJ := Lib.hid hj
  have CO := Lib.hid (jOpen_at hj.disk ⟨HK.out.ci.ok.n0, HK.out.ci.ok.n1⟩ HK.out.ci.calm.down (fun k => HK.out.secs.sec k) ⟨HK.out.ci.ok.w0, HK.out.ci.ok.w1⟩)
  clear hj hm CC HM4 HJ4
  go_wp2_with fail
  refine CO.out.mono ?_
  rintro e x2 ⟨m2, hor⟩
  rcases hor with ⟨h0, _⟩ | ⟨_, j2, rfl, hj2, hk⟩
  · rw [HK.out.ep] at h0
    exact absurd h0 (by decide)
  have HM := Lib.hid (HM.out.trans m2)
  have HJ := Lib.hid (HJ.out.kept0 m2)
  have HOE := Lib.hid HK.out.oe
  have HOL := Lib.hid HK.out.ol
  generalize openJ C.2.2 = K2 at hk HOE HOL
  have HK2 := Lib.hid hk
  have CL := Lib.hid (jLeft_at HJ.out HK.out.ci.ok)
  rw [HK.out.cl] at CL
  clear m2 hj2 hk CO
  go_wp2_with fail
  refine CL.out.mono ?_
  rintro e x3 ⟨rfl, m3⟩
  have HM := Lib.hid (HM.out.trans m3)
  have HJ := Lib.hid (HJ.out.kept0 m3)
  have HK2 := Lib.hid (HK2.out.kept0 m3)
  have CE1 := Lib.hid (jEpoch_at HJ.out)
  rw [HK.out.ce] at CE1
  have CE2 := Lib.hid (jEpoch_at HK2.out)
  rw [HOE.out] at CE2
  have CR1 := Lib.hid (jRecords_at HK2.out (by rw [HOL.out]; decide) (by
    rw [HOL.out]
    intro b hb
    simp only [List.mem_cons, List.not_mem_nil, or_false] at hb
    rcases hb with rfl | rfl
    · decide
    · rw [List.length_replicate]; decide))
  rw [HOL.out] at CR1
  clear m3 CL
  go_wp2_with fail
  refine CE1.out.mono ?_
  rintro e u1 ⟨rfl, rfl⟩
  clear CE1
  go_wp2_with fail
  refine CE2.out.mono ?_
  rintro e u1 ⟨rfl, rfl⟩
  clear CE2
  go_wp2_with fail
  refine CR1.out.mono ?_
  rintro e x4 ⟨v4, hs4, rfl, ho4, m4⟩
  obtain ⟨a4, c4, rfl⟩ := ho4.own.lens
  have hl4 : hs4.length = 2 := ho4.len
  rw [hl4]
  have HM := Lib.hid (HM.out.trans m4)
  have HJ := Lib.hid (HJ.out.kept0 m4)
  have HK2 := Lib.hid (HK2.out.kept0 m4)
  have CR2 := Lib.hid (jRecords_at HK2.out (by rw [HOL.out]; decide) (by
    rw [HOL.out]
    intro b hb
    simp only [List.mem_cons, List.not_mem_nil, or_false] at hb
    rcases hb with rfl | rfl
    · decide
    · rw [List.length_replicate]; decide))
  rw [HOL.out] at CR2
  clear ho4 m4 hl4 CR1
  go_wp2_with fail
  refine CR2.out.mono ?_
  rintro e x5 ⟨v5, hs5, rfl, ho5, m5⟩
  have hl5 : hs5.length = 2 := ho5.len
  obtain ⟨a5, c5, rfl⟩ := ho5.own.lens
  obtain ⟨q, o, heq, hc, hg⟩ := RowAt.get encH_len ho5.own.row (show 1 < hs5.length by omega)
  cases heq
  obtain ⟨y, hy⟩ : ∃ y, hs5[1]? = some y := ⟨_, List.getElem?_eq_getElem (show 1 < hs5.length by omega)⟩
  have p0 := hg 0 y.val (by omega) (by rw [(List.getElem?_eq_some_iff.1 hy).2]; rfl)
  have hyn : y.n = 100 := (ho5.rel 1 y (List.replicate 100 0) hy rfl).2.trans List.length_replicate
  obtain ⟨ya, yn, yc⟩ := y
  simp only [SlH.val, Nat.mul_one, Nat.add_zero] at p0 hyn
  subst hyn
  rw [hl5]
  have HM := Lib.hid (HM.out.trans m5)
  have HJ := Lib.hid (HJ.out.kept0 m5)
  have CM1 := Lib.hid (jRoom_at HJ.out HK.out.ci.ok 400)
  rw [HK.out.no] at CM1
  clear ho5 m5 hl5 CR2 hg hc hy HK2
  go_wp2_with fail
  refine CM1.out.mono ?_
  rintro e x6 ⟨rfl, m6⟩
  have HM := Lib.hid (HM.out.trans m6)
  have HJ := Lib.hid (HJ.out.kept0 m6)
  have CM2 := Lib.hid (jRoom_at HJ.out HK.out.ci.ok 300)
  rw [HK.out.yes] at CM2
  clear m6 CM1 p0
  go_wp2_with fail
  refine CM2.out.mono ?_
  rintro e x7 ⟨rfl, m7⟩
  have HM := Lib.hid (HM.out.trans m7)
  clear m7 CM2
  go_wp2_with fail
  go_ret
  exact ⟨rfl, HM.out⟩
end Go.Proofs.Ytnjfgbbdfdoccaa
