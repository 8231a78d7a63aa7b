/- JournalRoom, walked. -/
import Derived.Test.YtnjfgbbdfdoccaaJnX
namespace Go.Proofs.Ytnjfgbbdfdoccaa
open Go.RowKit Go.ChangeMaps
set_option linter.unusedSimpArgs false
set_option linter.unusedVariables false
set_option maxRecDepth 20000

/-- what holds ahead of each call -/
structure RoomAt (w W : World) (base j : Nat) (n : Int) (L : List OpJ) (i : Nat) (J : Jk) (D : Dk) (kv : Value) (ks : List ByteArray) : Prop where
  inv : RoomInv i J D
  num : D.n = n
  jat : JAt W base j (base + 1) base J D
  own : OwnR encStr 1 9 W base kv ks
  mod : Mod [] w W
  same : J.l.map strOfNums = ks
theorem RoomAt.kept0 {w W W' : World} {base j : Nat} {n : Int} {L : List OpJ} {i : Nat} {J : Jk} {D : Dk} {kv : Value} {ks : List ByteArray} (h : RoomAt w W base j n L i J D kv ks) (m : Mod [] W W') : RoomAt w W' base j n L i J D kv ks :=
  ⟨h.inv, h.num, h.jat.kept0 m, h.own.kept0 m, h.mod.trans m, h.same⟩
/-- the journal's calls between -/
theorem RoomAt.turn {w W W' : World} {base j : Nat} {n : Int} {L : List OpJ} {i i' : Nat} {J J' : Jk} {D D' : Dk} {kv : Value} {ks : List ByteArray} (h : RoomAt w W base j n L i J D kv ks) (hb : w.heap.size ≤ base) (hi : RoomInv i' J' D') (hn : D'.n = D.n) (hj : JAt W' base j (base + 1) base J' D') (hm : JMod base W W') (hl : J'.l = J.l) : RoomAt w W' base j n L i' J' D' kv ks :=
  ⟨hi, hn.trans h.num, hj, hm.own h.own (by decide), JMod.toNil h.mod hb hm, by rw [hl]; exact h.same⟩
theorem i64_w64 (x : Int) (h0 : -65536 * 2 ≤ x) (h1 : x ≤ 65536 * 2) : IntKind.i64.wrap x = wrap64 x := by
  rw [IntWalk.i64_in x (by omega)]
  unfold wrap64
  omega
theorem RoomAt.grown {w W W' : World} {base j : Nat} {n : Int} {L : List OpJ} {i : Nat} {J : Jk} {D : Dk} {kv kv' : Value} {ks ks' : List ByteArray} (hi : RoomInv i J D) (hn : D.n = n) (hj : JAt W base j (base + 1) base J D) (ho : OwnR encStr 1 9 W base kv ks) (hm : Mod [] w W) (hb : w.heap.size ≤ base) (ho' : OwnR encStr 1 9 W' base kv' ks') (gr : Grew W kv W' kv') (hs : J.l.map strOfNums = ks') : RoomAt w W' base j n L i J D kv' ks' := by
  have hty : ∀ k ∈ blk kv, ∃ c, W.heap[k]? = some (.cells c 9 (0, 0)) := fun k hk => by
    rw [mem_blk] at hk
    exact ownsRow_cells ho hk
  have hno : ∀ k, JT W k → k ∉ blk kv := fun k ht hk => by
    obtain ⟨c, h1⟩ := hty k hk
    have := ht _ _ _ h1
    revert this; decide
  refine ⟨hi, hn, hj.kept gr.mod (hno j hj.jblk.1) (hno _ hj.disk.jt.1) (hno _ hj.disk.jt.2) (fun k hk cs E f hc => ?_), ho', Mod.into' hm gr.mod (fun k hk => .inl (by rw [mem_blk] at hk; have := (World.ownsRow.lt ho k hk).1; omega)), hs⟩
  obtain ⟨c, h1⟩ := hty k hk
  rw [h1] at hc
  cases hc
  decide
theorem elemStr : ElemOk Try.prog 32 9 1 16 := .mk' Try.underlying32 (by omega) (by kernel_rfl)
set_option maxHeartbeats 8000000 in
theorem room_walk {w : World} {a : Option Addr} {L : List OpJ} {cap : Nat} (n : Int) (h : OpsJ w a L) (hl : L.length ≤ 140737488355328) :
    Calls Try.prog 3 #[.int .i64 n, .slice a L.length cap] w fun e w' => e = .returned (.bool true) ∧ Mod [] w w' := by
  have H := Lib.hid h
  have CG := Lib.hid (great_at (cap := cap) n h hl)
  clear h
  go_enter Try.func3, Try.ntmps3
  go_wp2_with fail
  refine CG.out.mono ?_
  rintro e w1 ⟨r, rfl, m1, hf⟩
  have HM1 := Lib.hid m1
  have CK := Lib.hid (known_at w1)
  clear CG m1
  by_cases hr : r = true
  · subst hr
    clear hf
    go_wp2_with fail
    refine CK.out.mono ?_
    rintro e w2 ⟨rfl, m2⟩
    have HE := Lib.hid (HM1.out.trans m2)
    clear m2
    go_wp2_with fail
    go_ret
    exact ⟨rfl, HE.out⟩
  obtain rfl : r = false := by simpa using hr
  by_cases h8 : n < 8
  · have d1 : decide (n < 8) = true := decide_eq_true h8
    clear hf
    go_wp2_with fail
    refine CK.out.mono ?_
    rintro e w2 ⟨rfl, m2⟩
    have HE := Lib.hid (HM1.out.trans m2)
    clear m2
    go_wp2_with fail
    go_ret
    exact ⟨rfl, HE.out⟩
  by_cases h300 : 300 < n
  · have d1 : decide (n < 8) = false := decide_eq_false h8
    have d2 : decide (300 < n) = true := decide_eq_true h300
    clear hf
    go_wp2_with fail
    refine CK.out.mono ?_
    rintro e w2 ⟨rfl, m2⟩
    have HE := Lib.hid (HM1.out.trans m2)
    clear m2
    go_wp2_with fail
    go_ret
    exact ⟨rfl, HE.out⟩
  have d1 : decide (n < 8) = false := decide_eq_false h8
  have d2 : decide (300 < n) = false := decide_eq_false h300
  obtain ⟨hL60, hL3⟩ := hf.out rfl
  obtain ⟨base, hbase⟩ : ∃ base, w1.heap.size = base := ⟨_, rfl⟩
  have HBS := Lib.hid hbase
  have CN := Lib.hid (new_yes n w1 (by omega) (by omega))
  rw [hbase] at CN
  obtain ⟨R0, R1, R2, R3⟩ := fmt_room (n := n) (by omega) (by omega)
  have HR := Lib.hid (⟨R0, R1, R2, R3⟩ : _ ∧ _ ∧ _ ∧ _)
  have HL3 := Lib.hid hL3
  clear hf hr hbase CK R0 R1 R2 R3 hL3
  go_wp2_with fail
  refine CN.out.mono ?_
  rintro e w2 ⟨rfl, m2, hd⟩
  have hs2 : base ≤ w2.heap.size := by have := m2.size; have := HBS.out; omega
  have CF := Lib.hid (jFormat_at hd (base := base) ⟨by show 8 ≤ n; omega, by show n ≤ 65536; omega⟩ ⟨by omega, Nat.le_refl _, hs2⟩ ⟨Int.le_refl 0, by show (0 : Int) ≤ _; decide⟩ HR.out.1)
  have HM2 := Lib.hid (HM1.out.trans m2)
  have HBW := Lib.hid (show w.heap.size ≤ base from by have := HM1.out.size; have := HBS.out; omega)
  clear CN m2 hd hs2 HBS
  go_wp2_with fail
  refine CF.out.mono ?_
  rintro e w3 ⟨j, rfl, hj, m3⟩
  have HAT := Lib.hid (show RoomAt w w3 base j n L 0 (fmtJ.writes (Dk.new n) fmtPlan).2.1 (fmtJ.writes (Dk.new n) fmtPlan).2.2 (.slice none 0 0) [] from ⟨HR.out.2.1, HR.out.2.2.2, hj, OwnR.nil_ _ _, Mod.into' HM2.out m3 (fun k hk => by
    have := HBW.out
    simp at hk
    rcases hk with rfl | rfl <;> exact .inl (by omega)), by rw [HR.out.2.2.1]; rfl⟩)
  clear hj m3 CF HR HM2 HM1
  go_wp2_with fail
  go_loopw [9, 47] (fun s9 s47 W => ∃ (i : Nat) (J : Jk) (D : Dk) (ka : Option Addr) (kl kc : Nat) (ks : List ByteArray), i ≤ L.length ∧ s47 = .int .i64 i ∧ s9 = .slice ka kl kc ∧ Hid (kl = ks.length) ∧ Hid (RoomAt w W base j n L i J D (.slice ka kl kc) ks)) (fun _ s47 _ => L.length - (intOf s47).toNat)
  case atStart => exact ⟨0, _, _, none, 0, 0, [], by omega, rfl, rfl, Lib.hid rfl, HAT⟩
  case round =>
    clear HAT
    obtain ⟨i, J, D, ka, kl, kc, ks, hi, rfl, rfl, HKL, HA⟩ := hrel
    by_cases hlt : i < L.length
    · obtain ⟨q, hq⟩ : ∃ q, L[i]? = some q := ⟨L[i], List.getElem?_eq_getElem hlt⟩
      obtain ⟨ba, oa, rfl, hop⟩ := H.out.each i q hq
      obtain ⟨p0, p1, p2, p3⟩ := (hop.kept0 HA.out.mod).cs
      obtain ⟨va, vc, hv⟩ := hop.row.form
      rw [hv] at p3
      have hq3 := HL3.out q (List.mem_of_getElem? hq)
      obtain ⟨ql, hql⟩ : ∃ ql, q.l.length = ql := ⟨_, rfl⟩
      have HOP := Lib.hid hop
      have HV := Lib.hid hv
      rw [hql] at p3 hq3
      have HQL := Lib.hid hql
      obtain ⟨x1, hAl, kA, zA, mA⟩ := alloc_named2 wr (.cells #[.int .i64 q.kind, .int .i64 q.at_, .int .i64 q.after, .slice va ql vc] 35)
      obtain ⟨g, hgE⟩ : ∃ g, wr.heap.size = g := ⟨_, rfl⟩
      rw [hgE] at kA
      obtain ⟨D0, hD0, mD0⟩ : ∃ D, x1.drew = D ∧ Mod [] x1 D := ⟨_, rfl, (Mod.refl [] x1).drew⟩
      have HBX := Lib.hid (mD0.heap kA (by simp))
      have HA1 := Lib.hid (HA.out.kept0 (mA.trans mD0))
      have HAl := Lib.hid hAl
      have HG := Lib.hid hgE
      have HD0 := Lib.hid hD0
      clear hop hv hq hql hAl kA zA mA hgE hD0 mD0 HA
      have CL := Lib.hid (jLeft_at HA1.out.jat HA1.out.inv.ok)
      have b3 := cell_blk HBX.out 3
      simp only [List.getElem?_toArray, List.getElem?_cons_succ, List.getElem?_cons_zero] at b3
      have d1 : decide ((i : Int) < (L.length : Int)) = true := decide_eq_true (by omega)
      go_wp2_with fail
      rw [HAl.out, HG.out]
      clear p0 p1 p2 p3
      refine wp_plan [([0, 2, 3, 4, 5], 1, [3, 4, 5]), ([], 6, [])] [7, 8] (by kernel_rfl) (by kernel_rfl) ?_
      simp only [wpSegs, opsOf, List.map_cons, List.map_nil, opN, List.getD_cons_zero, List.getD_cons_succ]
      rw [HD0.out]
      go_wp2_with fail
      refine ⟨by first | trivial | rfl, ?_⟩
      go_wp2_with fail
      refine CL.out.mono ?_
      rintro e x2 ⟨rfl, m2⟩
      have HBX := Lib.hid (m2.heap HBX.out (by simp))
      have HA := Lib.hid (HA1.out.kept0 m2)
      have CR := Lib.hid (jRoom_at HA.out.jat HA.out.inv.ok ql)
      have b3 := cell_blk HBX.out 3
      simp only [List.getElem?_toArray, List.getElem?_cons_succ, List.getElem?_cons_zero] at b3
      clear m2 CL HA1
      go_wp2_with fail
      refine ⟨?ag1, ?_⟩
      case ag1 =>
        intro i hi hw
        simp only [List.mem_cons, List.not_mem_nil, or_false] at hi
        rcases hi with rfl | rfl | rfl
        all_goals (simp only [opN, List.getD_cons_zero, List.getD_cons_succ, slotOf]; go_simp)
      go_wp2_with fail
      refine ⟨by first | trivial | rfl, ?_⟩
      go_wp2_with fail
      refine CR.out.mono ?_
      rintro e x3 ⟨rfl, m3⟩
      have HBX := Lib.hid (m3.heap HBX.out (by simp))
      have HA := Lib.hid (HA.out.kept0 m3)
      have b0 := cell_blk HBX.out 0
      have b3 := cell_blk HBX.out 3
      simp only [List.getElem?_toArray, List.getElem?_cons_succ, List.getElem?_cons_zero] at b0 b3
      clear m3 CR
      go_wp2_with fail
      refine ⟨again_nil, ?_⟩
      go_wp2_with fail
      refine ⟨by first | trivial | rfl, ?_⟩
      have HMX := Lib.hid (show w.heap.size ≤ base ∧ base < x3.heap.size ∧ base ≤ j from ⟨HBW.out, HA.out.jat.lt.2.2, HA.out.jat.ge⟩)
      have HB60 := Lib.hid (show i < 60 from by omega)
      by_cases hk2 : q.kind = 2
      · have hk3 : (q.kind != 2) = false := by simpa using hk2
        have CE := Lib.hid (jEpoch_at HA.out.jat)
        have CC := Lib.hid (jCheckpoint_at HA.out.jat HA.out.inv.ok (by have := HA.out.inv.own (by omega); omega) (by have := HMX.out; omega) ⟨by omega, Nat.le_refl _⟩)
        have hcr := check_room HA.out.inv HB60.out
        generalize J.check D = r at CC hcr
        obtain ⟨r0, J', D'⟩ := r
        dsimp only at CC hcr
        obtain ⟨ep, hep⟩ : ∃ ep, J.epoch = ep := ⟨_, rfl⟩
        have e0 : 0 ≤ ep := by have := HA.out.inv.ok.e0; omega
        have e1 : ep ≤ 4294967295 := by have := HA.out.inv.ok.e1; omega
        have hwe : (ep + 1 != wrap64 (ep + 1)) = false := by
          have : wrap64 (ep + 1) = ep + 1 := by unfold wrap64; omega
          rw [this]; simp
        rw [hep] at CE hcr
        have HEP := Lib.hid hep
        clear hep
        go_wp2_with fail
        refine CE.out.mono ?_
        rintro e x4 ⟨rfl, rfl⟩
        clear CE
        go_wp2_with fail
        refine CC.out.mono ?_
        rintro e x4 ⟨he4, hj, hm⟩
        rcases hcr with ⟨rfl, hJD⟩ | ⟨rfl, t1, t2, t3, t4⟩
        · obtain ⟨rfl, rfl⟩ := Prod.mk.inj hJD
          have HA4 := Lib.hid (HA.out.turn HBW.out HA.out.inv.more rfl hj hm rfl)
          have CL := Lib.hid (jLeft_at HA4.out.jat HA4.out.inv.ok)
          clear hj hm CC hJD
          subst he4
          go_wp2_with fail
          refine CL.out.mono ?_
          rintro e x5 ⟨rfl, m5⟩
          have HAZ := Lib.hid (HA4.out.kept0 m5)
          have CE := Lib.hid (jEpoch_at HAZ.out.jat)
          rw [HEP.out] at CE
          clear m5 CL HA4
          go_wp2_with fail
          refine CE.out.mono ?_
          rintro e x6 ⟨rfl, rfl⟩
          clear CE
          have CR := Lib.hid (jRecords_at HAZ.out.jat HAZ.out.inv.ok.l0 (fun b hb => by have := (HAZ.out.inv.each b hb).1; omega))
          go_wp2_with fail
          refine CR.out.mono ?_
          rintro e y2 ⟨v, hs, rfl, ho, m2⟩
          have HAZ := Lib.hid (HAZ.out.kept0 m2)
          have CS := Lib.hid (mjSame_at ho HAZ.out.own.row HAZ.out.inv.ok.l0)
          rw [decide_eq_true HAZ.out.same] at CS
          clear ho m2 CR
          go_wp2_with fail
          refine CS.out.mono ?_
          rintro e y3 ⟨rfl, m3⟩
          have HAZ := Lib.hid (HAZ.out.kept0 m3)
          clear m3 CS
          go_wp2_with fail
          go_roundw
          case rel => exact ⟨i + 1, _, _, ka, kl, kc, ks, by omega, by go_num, rfl, HKL, HAZ⟩
          case measure => simp [intOf]; omega
        · have HAZ := Lib.hid (HA.out.turn HBW.out t1 t3 hj hm t2)
          have CE := Lib.hid (jEpoch_at HAZ.out.jat)
          rw [t4] at CE
          clear hj hm CC t1 t2 t3 t4
          subst he4
          go_wp2_with fail
          refine CE.out.mono ?_
          rintro e x6 ⟨rfl, rfl⟩
          clear CE
          have CR := Lib.hid (jRecords_at HAZ.out.jat HAZ.out.inv.ok.l0 (fun b hb => by have := (HAZ.out.inv.each b hb).1; omega))
          go_wp2_with fail
          refine CR.out.mono ?_
          rintro e y2 ⟨v, hs, rfl, ho, m2⟩
          have HAZ := Lib.hid (HAZ.out.kept0 m2)
          have CS := Lib.hid (mjSame_at ho HAZ.out.own.row HAZ.out.inv.ok.l0)
          rw [decide_eq_true HAZ.out.same] at CS
          clear ho m2 CR
          go_wp2_with fail
          refine CS.out.mono ?_
          rintro e y3 ⟨rfl, m3⟩
          have HAZ := Lib.hid (HAZ.out.kept0 m3)
          clear m3 CS
          go_wp2_with fail
          go_roundw
          case rel => exact ⟨i + 1, _, _, ka, kl, kc, ks, by omega, by go_num, rfl, HKL, HAZ⟩
          case measure => simp [intOf]; omega
      · have hk3 : (q.kind != 2) = true := by simpa using hk2
        by_cases hr : roomB J D ql = true
        · have hne : q.l ≠ [] := fun e => by
            have h1 : 1 ≤ (ql : Int) := (of_decide_eq_true (show decide (1 ≤ (ql : Int) ∧ (ql : Int) ≤ 65536 ∧ ((ql : Int) + 81) / 64 + 1 ≤ leftP J D) = true from hr)).1
            have := HQL.out
            rw [e] at this
            simp at this
            omega
          have CA := Lib.hid (jAppend_at HA.out.jat HA.out.inv.ok (x := .slice va ql vc) (b := q.l) (by
            have := HOP.out.row.kept0 HA.out.mod
            rw [HV.out, HQL.out] at this
            exact this) (by have := HQL.out; omega) HOP.out.isb (fun bb o n c e => by
            have h1 := HOP.out.row.below hne bb o n c (by rw [HV.out, HQL.out]; exact e)
            have h2 := HMX.out
            omega) (by have := HMX.out; omega) ⟨by omega, Nat.le_refl _⟩)
          obtain ⟨t0, t1, t2, t3, t4, t5⟩ := append_room HA.out.inv HB60.out ⟨by have := HQL.out; omega, HOP.out.isb⟩ (by rw [HQL.out]; exact hr)
          generalize J.append D q.l = r at CA t0 t1 t2 t3 t4 t5
          obtain ⟨r0, J', D'⟩ := r
          dsimp only at CA t0 t1 t2 t3 t4 t5
          subst t0
          have HT := Lib.hid (⟨t1, t2, t3⟩ : _ ∧ _ ∧ _)
          rw [HQL.out] at t5
          have HLP := Lib.hid t5
          rw [hr]
          clear t1 t2 t3 t4 t5 hne
          go_wp2_with fail
          refine CA.out.mono ?_
          rintro e x4 ⟨rfl, hj, hm⟩
          have HBX := Lib.hid (hm.heap HBX.out (by decide))
          obtain ⟨D4, hD4, mD4⟩ : ∃ D, x4.drew = D ∧ Mod [] x4 D := ⟨_, rfl, (Mod.refl [] x4).drew⟩
          have HO := Lib.hid ((hm.own HA.out.own (by decide)).kept0 mD4)
          have HM4 := Lib.hid ((JMod.toNil HA.out.mod HBW.out hm).trans mD4)
          have HJ4 := Lib.hid (hj.kept0 mD4)
          have HBX4 := Lib.hid (mD4.heap HBX.out (by simp))
          have HD4 := Lib.hid hD4
          have CL := Lib.hid (jLeft_at HJ4.out HT.out.1.ok)
          have b3 := cell_blk HBX4.out 3
          simp only [List.getElem?_toArray, List.getElem?_cons_succ, List.getElem?_cons_zero] at b3
          clear hj hm hD4 mD4 CA
          go_wp2_with fail
          refine wp_plan [([0, 2, 1, 3, 4, 5, 6, 7, 8, 10], 9, []), ([11, 12, 13, 14, 15, 16, 17, 19, 20, 21, 22, 23, 24, 25, 26], 18, [20, 21, 22, 23, 24, 25, 26])] [27, 28, 29] (by kernel_rfl) (by kernel_rfl) ?_
          simp only [wpSegs, opsOf, List.map_cons, List.map_nil, opN, List.getD_cons_zero, List.getD_cons_succ]
          rw [HD4.out]
          go_wp2_with fail
          refine ⟨by first | trivial | rfl, ?_⟩
          go_wp2_with fail
          refine ⟨again_nil, ?_⟩
          go_wp2_with fail
          refine ⟨by first | trivial | rfl, ?_⟩
          go_wp2_with fail
          refine CL.out.mono ?_
          rintro e x5 ⟨rfl, m5⟩
          have HBX5 := Lib.hid (m5.heap HBX4.out (by simp))
          have HO := Lib.hid (HO.out.kept0 m5)
          have HM5 := Lib.hid (HM4.out.trans m5)
          have HJ5 := Lib.hid (HJ4.out.kept0 m5)
          have b3 := cell_blk HBX5.out 3
          simp only [List.getElem?_toArray, List.getElem?_cons_succ, List.getElem?_cons_zero] at b3
          clear m5 CL HJ4 HM4 HBX4
          go_wp2_with fail
          have hlr := leftP_range HA.out.inv.ok
          refine ⟨?ag5, ?_⟩
          case ag5 =>
            intro i hi hw
            simp only [List.mem_cons, List.not_mem_nil, or_false] at hi
            rcases hi with rfl | rfl | rfl | rfl | rfl | rfl | rfl
            all_goals (simp only [opN, List.getD_cons_zero, List.getD_cons_succ, slotOf]; go_simp; first | done | exact IntWalk.i64_in _ (by omega) | exact i64_w64 _ (by omega) (by omega) | (rw [Int.tdiv_eq_ediv_of_nonneg (by omega)]; exact IntWalk.i64_in _ (by omega)))
          clear hlr
          have hwq : (leftP J' D' != wrap64 (leftP J D - ((ql : Int) + 18 + 63) / 64)) = false := by
            have h1 := leftP_range HA.out.inv.ok
            have h2 := HLP.out
            have h3 : wrap64 (leftP J D - ((ql : Int) + 18 + 63) / 64) = leftP J D - ((ql : Int) + 18 + 63) / 64 := by unfold wrap64; omega
            rw [h3, h2]
            simp
            omega
          go_wp2_with fail
          refine ⟨by first | trivial | rfl, ?_⟩
          have hrow5 := HOP.out.row.kept0 HM5.out
          rw [HV.out, HQL.out] at hrow5
          have HCV := Lib.hid (conv_bytes hrow5.bytes)
          have hks : ks.length ≤ 60 := by
            have h1 := HA.out.same
            have h2 := HA.out.inv.len
            have h3 := HB60.out
            rw [← h1, List.length_map]; omega
          rw [HKL.out] at HO
          obtain ⟨v', w', ra, ho', gr⟩ := own_append1 (P := Try.prog) (ty := 32) elemStr encStr_len encStr_one HO.out (by have := HJ5.out.lt; omega) (strOfNums q.l) (by omega) (by omega)
          dsimp only [encStr] at ra
          obtain ⟨a', n', c', rfl⟩ : ∃ a n c, v' = .slice a n c := by obtain ⟨a, c, e⟩ := ho'.lens; exact ⟨a, _, c, e⟩
          have RA := Lib.hid ra
          rw [← HKL.out] at RA
          clear hrow5 ra
          have HN := Lib.hid (RoomAt.grown (L := L) HT.out.1 (HT.out.2.2.trans HA.out.num) HJ5.out HO.out HM5.out HBW.out ho' gr (by rw [HT.out.2.1, List.map_append, HA.out.same]; rfl))
          have HNL := Lib.hid (show n' = (ks ++ [strOfNums q.l]).length from by obtain ⟨a, c, e⟩ := ho'.lens; cases e; rfl)
          clear ho' gr
          go_wp2_with (first | ((with_reducible refine xConvertAt rfl HCV.out ?_ ?_ ?_); exact rfl; exact rfl) | ((with_reducible refine xAppendAt RA.out rfl rfl ?_ ?_ ?_ ?_); exact rfl; exact rfl; exact rfl))
          go_roundw
          case rel => exact ⟨i + 1, J', D', a', n', c', _, by omega, by go_num, rfl, HNL, HN⟩
          case measure => simp [intOf]; omega
        · have hrf : roomB J D ql = false := by simpa using hr
          have CA : Hid (Calls Try.prog 11 #[.pointer (some ⟨j, 0, none⟩), .slice va ql vc] x3 fun e w' => ∃ c : Int, c ≠ 0 ∧ e = .returned (.int .i64 c) ∧ JAt w' base j (base + 1) base J D ∧ JMod base x3 w') := by
            by_cases hne : q.l = []
            · have h0 : ql = 0 := by rw [← HQL.out, hne]; rfl
              rw [h0]
              refine Lib.hid ((jAppend_nil HA.out.jat HA.out.inv.calm.dead va vc).mono ?_)
              rintro e w' ⟨rfl, rfl⟩
              exact ⟨2, by decide, rfl, HA.out.jat, JMod.refl _ _⟩
            · have CA := jAppend_at HA.out.jat HA.out.inv.ok (x := .slice va ql vc) (b := q.l) (by
                have := HOP.out.row.kept0 HA.out.mod
                rw [HV.out, HQL.out] at this
                exact this) (by have := HQL.out; omega) HOP.out.isb (fun bb o n c e => by
                have h1 := HOP.out.row.below hne bb o n c (by rw [HV.out, HQL.out]; exact e)
                have h2 := HMX.out
                omega) (by have := HMX.out; omega) ⟨by omega, Nat.le_refl _⟩
              obtain ⟨t0, t1⟩ := append_none HA.out.inv.calm (b := q.l) (by rw [HQL.out]; exact hrf)
              rw [t1] at CA
              refine Lib.hid (CA.mono ?_)
              rintro e w' ⟨rfl, hj, hm⟩
              exact ⟨_, t0, rfl, hj, hm⟩
          rw [hrf]
          go_wp2_with fail
          refine CA.out.mono ?_
          rintro e x4 ⟨c, hc, rfl, hj, hm⟩
          have HBX := Lib.hid (hm.heap HBX.out (by decide))
          obtain ⟨D4, hD4, mD4⟩ : ∃ D, x4.drew = D ∧ Mod [] x4 D := ⟨_, rfl, (Mod.refl [] x4).drew⟩
          have HA4 := Lib.hid ((HA.out.turn HBW.out HA.out.inv.more rfl hj hm rfl).kept0 mD4)
          have HBX4 := Lib.hid (mD4.heap HBX.out (by simp))
          have HD4 := Lib.hid hD4
          have CL := Lib.hid (jLeft_at HA4.out.jat HA4.out.inv.ok)
          have b3 := cell_blk HBX4.out 3
          simp only [List.getElem?_toArray, List.getElem?_cons_succ, List.getElem?_cons_zero] at b3
          have hc2 : (c == 0) = false := by simpa using hc
          clear hj hm hD4 mD4 CA hc
          go_wp2_with fail
          refine wp_plan [([0, 2, 1, 3, 4, 5, 6, 7, 8, 10], 9, []), ([11, 12, 13, 14, 15, 16, 17, 19, 20, 21, 22, 23, 24, 25, 26], 18, [20, 21, 22, 23, 24, 25, 26])] [27, 28, 29] (by kernel_rfl) (by kernel_rfl) ?_
          simp only [wpSegs, opsOf, List.map_cons, List.map_nil, opN, List.getD_cons_zero, List.getD_cons_succ]
          rw [HD4.out]
          go_wp2_with fail
          refine ⟨by first | trivial | rfl, ?_⟩
          go_wp2_with fail
          refine CL.out.mono ?_
          rintro e x5 ⟨rfl, m5⟩
          have HA5 := Lib.hid (HA4.out.kept0 m5)
          have HBX5 := Lib.hid (m5.heap HBX4.out (by simp))
          have b3 := cell_blk HBX5.out 3
          simp only [List.getElem?_toArray, List.getElem?_cons_succ, List.getElem?_cons_zero] at b3
          clear m5 CL HA4 HBX4
          go_wp2_with fail
          refine ⟨again_nil, ?_⟩
          go_wp2_with fail
          refine ⟨by first | trivial | rfl, ?_⟩
          go_wp2_with fail
          refine ⟨?ag6, ?_⟩
          case ag6 =>
            intro i hi hw
            simp only [List.mem_cons, List.not_mem_nil, or_false] at hi
            rcases hi with rfl | rfl | rfl | rfl | rfl | rfl | rfl
            all_goals (exact absurd (show false = true from hw) (by decide))
          go_wp2_with fail
          refine ⟨by first | trivial | rfl, ?_⟩
          go_wp2_with fail
          go_roundw
          case rel => exact ⟨i + 1, J, D, ka, kl, kc, ks, by omega, by go_num, rfl, HKL, HA5⟩
          case measure => simp [intOf]; omega
    · obtain rfl : i = L.length := by omega
      have d1 : decide ((L.length : Int) < (L.length : Int)) = false := decide_eq_false (by omega)
      have CR := Lib.hid (jRecords_at HA.out.jat HA.out.inv.ok.l0 (fun b hb => by have := (HA.out.inv.each b hb).1; omega))
      go_wp2_with fail
      refine CR.out.mono ?_
      rintro e x2 ⟨v, hs, rfl, ho, m2⟩
      have HA := Lib.hid (HA.out.kept0 m2)
      have CS := Lib.hid (mjSame_at ho HA.out.own.row HA.out.inv.ok.l0)
      rw [decide_eq_true HA.out.same] at CS
      clear ho m2 CR
      go_wp2_with fail
      refine CS.out.mono ?_
      rintro e x3 ⟨rfl, m3⟩
      have HM := Lib.hid (HA.out.mod.trans m3)
      have CK := Lib.hid (known_at x3)
      clear m3 CS HA
      go_wp2_with fail
      refine CK.out.mono ?_
      rintro e x4 ⟨rfl, m4⟩
      have HM := Lib.hid (HM.out.trans m4)
      clear m4 CK
      go_wp2_with fail
      go_ret
      exact ⟨rfl, HM.out⟩
end Go.Proofs.Ytnjfgbbdfdoccaa
