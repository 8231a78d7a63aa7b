/- The journal is opened. -/
import Derived.Test.YtnjfgbbdfdoccaaJnR
import Derived.Deep.LoopGhost
namespace Go.Proofs.Ytnjfgbbdfdoccaa
open Go.RowKit Go.ChangeMaps
set_option linter.unusedSimpArgs false
set_option linter.unusedVariables false
set_option maxRecDepth 20000

theorem partsF_len : ∀ (f : Nat) (b : List Int) (r : List (List Int) × Bool), partsF f b = some r → r.1.length * 5 ≤ b.length
  | 0, b, r, h => by unfold partsF at h; cases h; simp
  | f + 1, b, r, h => by
    unfold partsF at h
    split at h
    · split at h
      · cases h
      · rename_i h4 hn
        cases hq : partsF f ((b.drop 4).drop (numP b).toNat) with
        | none => rw [hq] at h; cases h
        | some q =>
          rw [hq] at h
          simp only [Option.map_some, Option.some.injEq] at h
          subst h
          have := partsF_len f _ q hq
          simp only [List.length_drop] at this
          simp only [List.length_cons]
          omega
    · cases h; simp
theorem partsP_len {b : List Int} {n : Int} {l : List (List Int)} (h : partsP b n = some l) : l.length * 5 ≤ b.length := by
  unfold partsP at h
  split at h
  · rename_i r hr
    split at h
    · cases h; exact partsF_len _ _ r hr
    · cases h
  · cases h
theorem next_cases {J : Jk} {D : Dk} (hB : ∀ k, IsB (D.sec k)) : J.next D = ([], 0) ∨ (1 ≤ (J.next D).2 ∧ (J.next D).2 + 1 ≤ leftP J D ∧ ((J.next D).1.length : Int) ≤ 13 * (J.next D).2) := by
  obtain ⟨z0, z1⟩ := numP_range ((hB J.at_).drop 10)
  unfold Jk.next
  split
  · exact .inl rfl
  · split
    · exact .inl rfl
    · dsimp only
      split
      · split
        · refine .inr ⟨?_, ?_, ?_⟩
          · dsimp only; omega
          · dsimp only; omega
          · simp only [List.length_singleton]; omega
        · split
          · split
            · rename_i l hl
              have h1 := partsP_len hl
              have h2 : ∀ (b : List Int), ((b.drop 14).take (numP ((D.sec J.at_).drop 10)).toNat).length ≤ (numP ((D.sec J.at_).drop 10)).toNat := fun b => by rw [List.length_take]; exact Nat.min_le_left _ _
              have h3 := Nat.le_trans h1 (h2 _)
              refine .inr ⟨?_, ?_, ?_⟩ <;> dsimp only <;> omega
            · exact .inl rfl
          · exact .inl rfl
      · exact .inl rfl
/-- all frames are taken in, at most f -/
def Jk.load : Nat → Jk → Dk → Jk
  | 0, J, _ => J
  | f + 1, J, D => if 0 < (J.next D).2 then (J.take D).load f D else J
def epsP (D : Dk) : Int := max (max 0 (epochOfP (D.sec 0) 0)) (epochOfP (D.sec 1) 1)
def epI (D : Dk) : Nat → Int
  | 0 => 0
  | i + 1 => max (epI D i) (epochOfP (D.sec i) i)
theorem epI_two (D : Dk) : epI D 2 = epsP D := rfl
def openJ0 (D : Dk) : Jk := ⟨epsP D, beginP D.n (epsP D), [], false⟩
def openJ (D : Dk) : Jk := (openJ0 D).load 65537 D
theorem epochOfP_range {b : List Int} (hb : IsB b) (at_ : Int) : 0 ≤ epochOfP b at_ ∧ epochOfP b at_ ≤ 4294967295 := by
  have := numP_range (hb.drop 1)
  unfold epochOfP
  split
  · exact ⟨by decide, by decide⟩
  · exact this
theorem epI_range {D : Dk} (hB : ∀ k, IsB (D.sec k)) : ∀ i : Nat, 0 ≤ epI D i ∧ epI D i ≤ 4294967295
  | 0 => by unfold epI; omega
  | i + 1 => by
    have h0 := epochOfP_range (hB i) i
    have h1 := epI_range hB i
    unfold epI
    omega
theorem epsP_range {D : Dk} (hB : ∀ k, IsB (D.sec k)) : 0 ≤ epsP D ∧ epsP D ≤ 4294967295 := by
  have h0 := epochOfP_range (hB 0) 0
  have h1 := epochOfP_range (hB 1) 1
  unfold epsP
  omega
/-- what holds while the frames are taken in -/
structure Loads (J : Jk) (D : Dk) (f : Nat) : Prop where
  ok : JOk J D
  ep : J.epoch = epsP D
  lo : beginP D.n (epsP D) ≤ J.at_
  hi : J.at_ ≤ beginP D.n (epsP D) + halfP D.n
  len : (J.l.length : Int) ≤ 13 * (J.at_ - beginP D.n (epsP D))
  res : J.load f D = openJ D
  fuel : beginP D.n (epsP D) + halfP D.n - J.at_ < f
theorem begin_half {D : Dk} (n0 : 8 ≤ D.n) (n1 : D.n ≤ 65536) (e : Int) : 2 ≤ beginP D.n e ∧ beginP D.n e + halfP D.n ≤ D.n ∧ 0 ≤ halfP D.n ∧ halfP D.n ≤ 32767 := by
  have hh : 0 ≤ halfP D.n ∧ halfP D.n ≤ 32767 ∧ 2 + 2 * halfP D.n ≤ D.n := by unfold halfP; omega
  unfold beginP
  have : e % 2 = 0 ∨ e % 2 = 1 := by omega
  rcases this with h | h <;> rw [h] <;> omega
theorem Loads.start {D : Dk} (hn : 8 ≤ D.n ∧ D.n ≤ 65536) (hw : 0 ≤ D.written ∧ D.written ≤ 1152921504606846976) (hB : ∀ k, IsB (D.sec k)) : Loads (openJ0 D) D 65537 := by
  obtain ⟨e0, e1⟩ := epsP_range hB
  obtain ⟨b0, b1, b2, b3⟩ := begin_half hn.1 hn.2 (epsP D)
  refine ⟨⟨hn.1, hn.2, e0, e1, b0, ?_, hw.1, hw.2, ?_⟩, rfl, Int.le_refl _, ?_, ?_, rfl, ?_⟩
  · show beginP D.n (epsP D) ≤ 65536; omega
  · show 0 ≤ 1048576; omega
  · show beginP D.n (epsP D) ≤ _; omega
  · show (0 : Int) ≤ 13 * (beginP D.n (epsP D) - beginP D.n (epsP D)); omega
  · show beginP D.n (epsP D) + halfP D.n - beginP D.n (epsP D) < _; omega
theorem Loads.step {J : Jk} {D : Dk} {f : Nat} (h : Loads J D (f + 1)) (hB : ∀ k, IsB (D.sec k)) (hm : 0 < (J.next D).2) : Loads (J.take D) D f := by
  obtain ⟨ok, ep, lo, hi, len, res, fuel⟩ := h
  obtain ⟨b0, b1, b2, b3⟩ := begin_half ok.n0 ok.n1 (epsP D)
  rcases next_cases (J := J) hB with h0 | ⟨m1, m2, m3⟩
  · rw [h0] at hm; exact absurd hm (by decide)
  unfold leftP at m2
  rw [ep] at m2
  have hat : (J.take D).at_ = J.at_ + (J.next D).2 := rfl
  have hl : ((J.take D).l.length : Int) = J.l.length + (J.next D).1.length := by
    show (((J.l ++ (J.next D).1).length : Nat) : Int) = _
    rw [List.length_append]; omega
  have hep : (J.take D).epoch = J.epoch := rfl
  have n1 := ok.n1
  refine ⟨⟨ok.n0, ok.n1, by rw [hep]; exact ok.e0, by rw [hep]; exact ok.e1, ?_, ?_, ok.w0, ok.w1, ?_⟩, by rw [hep]; exact ep, ?_, ?_, ?_, ?_, ?_⟩
  · rw [hat]; omega
  · rw [hat]; omega
  · omega
  · rw [hat]; omega
  · rw [hat]; omega
  · rw [hat]; omega
  · rw [← res]
    conv => rhs; unfold Jk.load
    rw [if_pos hm]
  · rw [hat]; omega
theorem Loads.done {J : Jk} {D : Dk} {f : Nat} (h : Loads J D f) (hB : ∀ k, IsB (D.sec k)) (hm : ¬ 0 < (J.next D).2) : J.take D = openJ D := by
  have hr := h.res
  have h1 : J.load f D = J := by
    cases f with
    | zero => rfl
    | succ f => unfold Jk.load; rw [if_neg hm]
  rw [← hr, h1]
  rcases next_cases (J := J) hB with h0 | ⟨m1, _, _⟩
  · unfold Jk.take
    rw [h0]
    simp
  · omega
def OpenRet (w : World) (d m : Nat) (D : Dk) (e : Ending) (w' : World) : Prop :=
  Mod [] w w' ∧ ((epsP D = 0 ∧ e = .returned (.tuple #[.pointer none, .int .i64 5])) ∨ (0 < epsP D ∧ ∃ j, e = .returned (.tuple #[.pointer (some ⟨j, 0, none⟩), .int .i64 0]) ∧ w.heap.size ≤ j ∧ JAt w' w.heap.size j d m (openJ D) D))
/-- a journal that is about to be opened -/
structure Opens (w W : World) (base B j d m : Nat) (J : Jk) (D : Dk) : Prop where
  at_ : JAt W base j d m J D
  box : BoxJ W B j
  mod : JMod base w W
theorem Opens.kept0 {w W W' : World} {base B j d m : Nat} {J : Jk} {D : Dk} (h : Opens w W base B j d m J D) (hm : Mod [] W W') : Opens w W' base B j d m J D :=
  ⟨h.at_.kept0 hm, hm.heap h.box (by simp), h.mod.trans (JMod.nil hm)⟩
theorem Opens.ne {w W : World} {base B j d m : Nat} {J : Jk} {D : Dk} (h : Opens w W base B j d m J D) : ¬ B = j ∧ ¬ j = B := by
  obtain ⟨v, hs, f1, _⟩ := h.at_.ex
  have : ¬ B = j := fun e => by
    subst e
    have hb : W.heap[B]? = _ := h.box
    rw [hb] at f1
    simp only [Option.some.injEq, Obj.cells.injEq] at f1
    exact absurd f1.2.1 (by decide)
  exact ⟨this, fun e => this e.symm⟩
theorem Opens.turn {w W W' : World} {base B j d m : Nat} {J J' : Jk} {D : Dk} (h : Opens w W base B j d m J D) (ms : Mod [j] W W') (hl : J'.l = J.l) (hJ : ∀ v, W.heap[j]? = some (.cells #[.pointer (some ⟨d, 0, none⟩), .int .i64 J.epoch, .int .i64 J.at_, v, .bool J.dead] 67 (0, 0)) → W'.heap[j]? = some (.cells #[.pointer (some ⟨d, 0, none⟩), .int .i64 J'.epoch, .int .i64 J'.at_, v, .bool J'.dead] 67 (0, 0))) : Opens w W' base B j d m J' D := by
  have hne := h.ne
  obtain ⟨hA, hb, hm⟩ := h
  obtain ⟨tj, nd, nm⟩ := hA.jblk
  obtain ⟨⟨v, hs, e1, e2, e3, e4⟩, hD, hg⟩ := hA
  have hty : ∀ k ∈ [j], ∀ cs E f, W.heap[k]? = some (.cells cs E f) → E = 67 := fun k hk cs E f hc => by
    simp at hk; subst hk; rw [e1] at hc; cases hc; rfl
  refine ⟨⟨⟨v, hs, hJ v e1, e2.kept ms (fun k hk hkm => ?_), by rw [hl]; exact e3, fun i x l hx hll => (e4 i x l hx (by rw [← hl]; exact hll)).kept ms (fun k hk cs f hc => ?_)⟩, hD.kept ms (by simp; exact fun e => nd e.symm) (by simp; exact fun e => nm e.symm), hg⟩, ms.heap hb (by simp; exact hne.1), hm.trans ⟨[j], ms, fun k hk => ?_⟩⟩
  · obtain ⟨c, hc⟩ := ownsRow_cells e2 hk
    have := hty k hkm c _ _ hc
    revert this; decide
  · have := hty k hk cs _ f hc
    revert this; decide
  · simp at hk; subst hk
    exact ⟨hg, tj⟩
theorem Opens.setE {w W : World} {base B j d m : Nat} {J : Jk} {D : Dk} (h : Opens w W base B j d m J D) (ep : Int) : Opens w (W.setCell ⟨j, 1, none⟩ (.int .i64 ep)) base B j d m { J with epoch := ep } D :=
  h.turn ((Mod.refl _ _).setCell (by simp) _) rfl (fun v e1 => by simpa using heap_setCell_blk e1 1 (.int .i64 ep))
theorem Opens.setA {w W : World} {base B j d m : Nat} {J : Jk} {D : Dk} (h : Opens w W base B j d m J D) (at' : Int) : Opens w (W.setCell ⟨j, 2, none⟩ (.int .i64 at')) base B j d m { J with at_ := at' } D :=
  h.turn ((Mod.refl _ _).setCell (by simp) _) rfl (fun v e1 => by simpa using heap_setCell_blk e1 2 (.int .i64 at'))
set_option maxHeartbeats 4000000 in
theorem jOpen_at {w : World} {d m : Nat} {D : Dk} (h : DiskAt w d m D) (hn : 8 ≤ D.n ∧ D.n ≤ 65536) (hd : D.down = false) (hB : ∀ k, IsB (D.sec k)) (hw : 0 ≤ D.written ∧ D.written ≤ 1152921504606846976) :
    Calls Try.prog 26 #[.pointer (some ⟨d, 0, none⟩)] w (OpenRet w d m D) := by
  have CS := Lib.hid (sectors_any h)
  obtain ⟨n0, n1⟩ := hn
  obtain ⟨base, hbase⟩ : ∃ base, w.heap.size = base := ⟨_, rfl⟩
  obtain ⟨w1, hAl, kA, zA, mA⟩ := alloc_named2 w (.cells #[.pointer (some ⟨d, 0, none⟩), .int .i64 0, .int .i64 0, .slice none 0 0, .bool false] 67)
  obtain ⟨j, hj⟩ : ∃ j, w.heap.size = j := ⟨_, rfl⟩
  rw [hj] at kA
  obtain ⟨w2, hAl2, kA2, zA2, mA2⟩ := alloc_named2 w1 (.cells #[.pointer (some ⟨j, 0, none⟩)] 29)
  obtain ⟨B, hB2⟩ : ∃ B, w1.heap.size = B := ⟨_, rfl⟩
  rw [hB2] at kA2
  have HJ0 := Lib.hid (show Opens w w2 base B j d m ⟨0, 0, [], false⟩ D from ⟨(JAt.kept0 (⟨⟨.slice none 0 0, [], kA, OwnR.nil_ _ _, rfl, by simp⟩, h.kept mA (by simp) (by simp), by omega⟩ : JAt w1 base j d m ⟨0, 0, [], false⟩ D) mA2), kA2, JMod.nil (mA.trans mA2)⟩)
  have HAl := Lib.hid hAl
  have HAl2 := Lib.hid hAl2
  have Hj := Lib.hid hj
  have HB2 := Lib.hid hB2
  have hjw : w1.heap.size = w.heap.size + 1 := zA
  have HL := Lib.hid (Loads.start ⟨n0, n1⟩ hw hB)
  have HB := Lib.hid hB
  have HD := Lib.hid hd
  have HG := Lib.hid hbase
  have HR0 := Lib.hid (epochOfP_range (hB 0) 0)
  have HR1 := Lib.hid (epochOfP_range (hB 1) 1)
  have hmf : ∀ (fn : Fn) (first cap : Array Value) (w : World), (Instr.makeFunc fn first cap).run Try.prog w = .ok (.func fn first cap) w := fun _ _ _ _ => rfl
  have hd8 : decide (D.n < 8) = false := decide_eq_false (by omega)
  clear h hAl kA zA mA hAl2 kA2 zA2 mA2 hd hbase hB hw hj hB2
  go_enter Try.func26, Try.ntmps26
  go_wp2_with fail
  refine CS.out.mono ?_
  rintro e w' ⟨rfl, rfl⟩
  go_wp2_with fail
  have hz : w.heap.size + 1 = B := by have := HB2.out; omega
  rw [HAl.out, hz, Hj.out, HAl2.out]
  clear CS HAl HAl2 Hj HB2 hjw hz HR0 HR1
  go_loopw [5, 6, 7, 17] (fun s5 s6 s7 s17 W => ∃ i : Nat, i ≤ 2 ∧ s17 = .int .i64 i ∧ Hid (Opens w W base B j d m ⟨epI D i, 0, [], false⟩ D)) (fun _ _ _ s17 _ => 2 - (intOf s17).toNat)
  case atStart => exact ⟨0, by omega, rfl, HJ0⟩
  case round =>
    clear HJ0
    obtain ⟨i, hi, rfl, HO⟩ := hrel
    by_cases hlt : i < 2
    · have h1 : decide ((i : Int) < 2) = true := decide_eq_true (by omega)
      have has : D.asked i = 0 := by
        unfold Dk.asked
        rw [HD.out, if_neg (by decide), if_neg (by omega)]
      have CR := Lib.hid (read_own HO.out.at_.disk i has)
      have HSL := Lib.hid (sec_length HO.out.at_.disk i)
      clear has
      go_wp2_with fail
      refine CR.out.mono ?_
      rintro e u1 ⟨rv, rfl, ⟨ra, rfl⟩, hfr⟩
      have hrow := hfr.bytes.row64 HSL.out
      obtain ⟨ab, ao, rfl⟩ : ∃ ab ao, ra = ⟨ab, ao, none⟩ := by
        obtain ⟨b, o, cap, e, hr⟩ := hfr.bytes.form64 HSL.out
        cases e
        exact ⟨b, o, rfl⟩
      have HU := Lib.hid (HO.out.kept0 hfr.mod)
      have HRW := Lib.hid hrow
      clear hrow hfr CR
      obtain ⟨q0, q1, q2, q4⟩ := HU.out.at_.cells
      clear q0 q2 q4
      have qb := cell_blk HU.out.box 0
      simp only [List.getElem?_toArray, List.getElem?_cons_zero] at qb
      obtain ⟨hBj, hjB⟩ := HU.out.ne
      obtain ⟨r0, r1⟩ := epochOfP_range (HB.out i) i
      obtain ⟨p0, p1⟩ := epI_range HB.out i
      obtain ⟨D0, hD0, mD0⟩ : ∃ D, u1.drew = D ∧ Mod [] u1 D := ⟨_, rfl, (Mod.refl [] u1).drew⟩
      have HU2 := Lib.hid (HU.out.kept0 mD0)
      have CE := Lib.hid (jEpochOf_at (HRW.out.kept0 mD0) HSL.out (HB.out i) (Nat.le_refl _) i)
      have HEP := Lib.hid (show epI D (i + 1) = max (epI D i) (epochOfP (D.sec i) i) from rfl)
      generalize epochOfP (D.sec i) i = ev at CE HEP r0 r1
      have b0 := cell_blk HU2.out.box 0
      simp only [List.getElem?_toArray, List.getElem?_cons_zero] at b0
      obtain ⟨c0, c1, c2, c4⟩ := HU2.out.at_.cells
      clear c0 c2 c4 mD0 qb q1
      go_wp2_with fail
      refine wp_plan [([0, 1, 5, 6, 2, 3, 4], 7, [0, 1, 2, 3, 4]), ([], 8, [0]), ([9, 10], 11, [])] [] (by kernel_rfl) (by kernel_rfl) ?_
      simp only [wpSegs, opsOf, List.map_cons, List.map_nil, opN, List.getD_cons_zero, List.getD_cons_succ]
      rw [hD0]
      go_wp2_with fail
      refine ⟨by first | trivial | rfl, ?_⟩
      go_wp2_with fail
      refine CE.out.mono ?_
      rintro e v1 ⟨rfl, m1⟩
      have HV := Lib.hid (HU2.out.kept0 m1)
      have b1 := cell_blk HV.out.box 0
      simp only [List.getElem?_toArray, List.getElem?_cons_zero] at b1
      obtain ⟨c0, c1', c2, c4⟩ := HV.out.at_.cells
      obtain ⟨v, hs, f1, f2, f3, f4⟩ := HV.out.at_.ex
      have z1 := frozen_blk f1 1
      clear c0 c2 c4 m1 f1 f2 f3 f4 CE
      go_wp2_with fail
      refine ⟨?ag1, ?_⟩
      case ag1 =>
        intro i hi hw
        simp only [List.mem_cons, List.not_mem_nil, or_false] at hi
        rcases hi with rfl | rfl | rfl | rfl | rfl
        all_goals (simp only [opN, List.getD_cons_zero, List.getD_cons_succ, slotOf]; go_simp)
      go_wp2_with fail
      refine ⟨by first | trivial | rfl, ?_⟩
      go_wp2_with ((with_reducible apply xMax rfl); exact rfl; exact rfl; exact rfl)
      refine ⟨?ag2, ?_⟩
      case ag2 =>
        intro i hi hw
        simp only [List.mem_cons, List.not_mem_nil, or_false] at hi
        subst hi
        all_goals (simp only [opN, List.getD_cons_zero, List.getD_cons_succ, slotOf]; go_simp)
      go_wp2_with fail
      refine ⟨by first | trivial | rfl, ?_⟩
      go_wp2_with fail
      refine ⟨again_nil, ?_⟩
      go_wp2_with fail
      refine ⟨by first | trivial | rfl, ?_⟩
      go_wp2_with fail
      go_roundw
      case rel =>
        refine ⟨i + 1, by omega, by go_num, Lib.hid ?_⟩
        have := HV.out.setE (max (epI D i) ev)
        rw [HEP.out]
        exact this
      case measure => simp [intOf]; omega
    · obtain rfl : i = 2 := by omega
      have h1 : decide (((2 : Nat) : Int) < 2) = false := by decide
      have HO := Lib.hid (show Opens w wr base B j d m ⟨epsP D, 0, [], false⟩ D from HO.out)
      have b0 := cell_blk HO.out.box 0
      simp only [List.getElem?_toArray, List.getElem?_cons_zero] at b0
      obtain ⟨c0, c1, c2, c4⟩ := HO.out.at_.cells
      obtain ⟨e0, e1⟩ := epsP_range HB.out
      clear c0 c2 c4
      by_cases hz : epsP D = 0
      · have hE := Lib.hid (show OpenRet w d m D (.returned (.tuple #[.pointer none, .int .i64 5])) wr from ⟨JMod.toNil (Mod.refl [] w) (by have := HG.out; omega) HO.out.mod, .inl ⟨hz, rfl⟩⟩)
        rw [hz] at c1
        go_wp2_with fail
        go_ret2
        exact hE.out
      have hz2 : (epsP D == 0) = false := by simpa using hz
      obtain ⟨bb0, bb1, bb2, bb3⟩ := begin_half n0 n1 (epsP D)
      obtain ⟨D0, hD0, mD0⟩ : ∃ D, wr.drew = D ∧ Mod [] wr D := ⟨_, rfl, (Mod.refl [] wr).drew⟩
      have HU2 := Lib.hid (HO.out.kept0 mD0)
      have CB := Lib.hid (jBegin_at HU2.out.at_.disk ⟨by omega, n1⟩ (epsP D) e0 (by omega))
      have bb := cell_blk HU2.out.box 0
      simp only [List.getElem?_toArray, List.getElem?_cons_zero] at bb
      obtain ⟨c0, cc1, cc2, c4⟩ := HU2.out.at_.cells
      obtain ⟨v, hs, f1, f2, f3, f4⟩ := HU2.out.at_.ex
      have z2 := frozen_blk f1 2
      obtain ⟨hBj, hjB⟩ := HO.out.ne
      have HT := Lib.hid (show Opens w (D0.setCell ⟨j, 2, none⟩ (.int .i64 (beginP D.n (epsP D)))) base B j d m (openJ0 D) D from HU2.out.setA _)
      have HEZ := Lib.hid (⟨hz, e0⟩ : _ ∧ _)
      clear c0 c4 f1 f2 f3 f4 mD0 hz
      go_wp2_with fail
      refine wp_plan [([0, 1, 2, 3, 4, 5], 6, [0]), ([7, 8], 9, [])] [] (by kernel_rfl) (by kernel_rfl) ?_
      simp only [wpSegs, opsOf, List.map_cons, List.map_nil, opN, List.getD_cons_zero, List.getD_cons_succ]
      rw [hD0]
      clear hD0 b0 c1
      go_wp2_with fail
      refine ⟨by first | trivial | rfl, ?_⟩
      go_wp2_with fail
      refine CB.out.mono ?_
      rintro e v1 ⟨rfl, rfl⟩
      clear CB
      go_wp2_with fail
      refine ⟨?ag1, ?_⟩
      case ag1 =>
        intro i hi hw
        simp only [List.mem_cons, List.not_mem_nil, or_false] at hi
        subst hi
        all_goals (simp only [opN, List.getD_cons_zero, List.getD_cons_succ, slotOf]; go_simp)
      go_wp2_with fail
      refine ⟨by first | trivial | rfl, ?_⟩
      go_wp2_with fail
      refine ⟨again_nil, ?_⟩
      go_wp2_with fail
      refine ⟨by first | trivial | rfl, ?_⟩
      go_wp2_with fail
      have hl0 := HL
      clear HU2 HO cc1 cc2 bb z2 hz2 h1 hi hlt HL
      go_loopg [9, 10] 65537 (fun gg s9 s10 W => ∃ (J' : Jk) (f : Nat), f ≤ gg ∧ Hid (Loads J' D f) ∧ Hid (Opens w W base B j d m J' D))
      case atStart => exact ⟨openJ0 D, 65537, Nat.le_refl _, hl0, HT⟩
      case round =>
        clear HT hl0
        obtain ⟨J', f, hgg, HLD, HO⟩ := hrel
        have hnl : (J'.next D).1.length ≤ 1048576 := by
          rcases next_cases (J := J') HB.out with h0 | ⟨m1, m2, m3⟩
          · rw [h0]; simp
          · have := leftP_range HLD.out.ok
            omega
        have CT := Lib.hid (jTake_at HO.out.at_ HO.out.box HLD.out.ok HD.out HB.out (by have := HG.out; have := HO.out.mod.size; omega) hnl)
        clear hnl
        have HPS2 := Lib.hid (show ∀ M, M = (J'.next D).2 → TakeRet wr base B j d m J' D = fun e w' => e = .returned (.tuple #[.bool (decide (0 < M)), .int .i64 0]) ∧ JAt w' base j d m (J'.take D) D ∧ JMod base wr w' ∧ BoxJ w' B j from fun M hM => by subst hM; rfl)
        obtain ⟨M, hM⟩ : ∃ M, M = (J'.next D).2 := ⟨_, rfl⟩
        rw [HPS2.out M hM] at CT
        have HM := Lib.hid hM
        clear hM HPS2
        go_wp2_with fail
        refine CT.out.mono ?_
        rintro e x1 ⟨rfl, hA, hm, hbx⟩
        have HX := Lib.hid (show Opens w x1 base B j d m (J'.take D) D from ⟨hA, hbx, HO.out.mod.trans hm⟩)
        clear hA hm hbx CT
        by_cases hmo : 0 < M
        · have d1 : decide (0 < M) = true := decide_eq_true hmo
          obtain ⟨g, rfl⟩ : ∃ g, f = g + 1 := by
            cases f with
            | zero =>
              have h1 := HLD.out.fuel
              have h2 := HLD.out.hi
              omega
            | succ g => exact ⟨g, rfl⟩
          have HLN := Lib.hid (HLD.out.step HB.out (by rw [← HM.out]; exact hmo))
          rw [d1]
          go_wp2_with fail
          go_roundg g
          case rel => exact ⟨J'.take D, g, Nat.le_refl _, HLN, HX⟩
          case measure => omega
        · have d1 : decide (0 < M) = false := decide_eq_false hmo
          have HDN := Lib.hid (HLD.out.done HB.out (by rw [← HM.out]; exact hmo))
          have b1 := cell_blk HX.out.box 0
          simp only [List.getElem?_toArray, List.getElem?_cons_zero] at b1
          have HE := Lib.hid (show OpenRet w d m D (.returned (.tuple #[.pointer (some ⟨j, 0, none⟩), .int .i64 0])) x1 from ⟨JMod.toNil (Mod.refl [] w) (by have := HG.out; omega) HX.out.mod, .inr ⟨by have := HEZ.out; omega, j, rfl, by rw [HG.out]; exact HX.out.at_.ge, by have := HX.out.at_; rw [HDN.out] at this; rw [HG.out]; exact this⟩⟩)
          rw [d1]
          go_wp2_with fail
          go_ret2
          exact HE.out
end Go.Proofs.Ytnjfgbbdfdoccaa
