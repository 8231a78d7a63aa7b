/- Formulas: a call's node. -/
import Derived.Test.YtdaokholmlpfkaaDoorPzM
namespace Go.Proofs.YtdaokholmlpfkaaDoor
open Go.RowKit Go.ChangeMaps Go.Deep
set_option linter.unusedSimpArgs false
set_option linter.unusedVariables false
set_option maxRecDepth 20000

/-- behind the node is laid -/
structure CallA (w wn : World) (p : Nat) (en : Int) (s : Pz) (co : Int) (az : List Az) (mo q : Int) : Prop where
  gl : Gl wn
  at_ : PsAt wn p en s
  up : Up p w wn
  box : wn.heap[w.heap.size]? = some (.cells #[.int .u8 co, .string (azT az), .int .i64 mo] 61 (0, 0))
  boxK : Keep wn p w.heap.size
  node : wn.heap[w.heap.size + 1]? = some (.cells (encNz ⟨co, 0, 0, ByteArray.empty, 0, 0, 0, 0, q⟩).toArray 34 (0, 0))
  nodeK : Keep wn p (w.heap.size + 1)
theorem CallA.start {w wn W : World} {p : Nat} {en : Int} {s st : Pz} {co mo q : Int} {az : List Az} (hp : 9 ≤ p) (h : CallA w wn p en s co az mo q) (u : Up p wn W) (hs : PsAt W p en st) :
    CallF w (W.iter (azT az) 0) p en co az mo W.heap.size 0 ⟨co, 0, 0, ByteArray.empty, 0, 0, 0, 0, q⟩ st (.slice none 0 0) [] := by
  have m : Mod [] W (W.iter (azT az) 0) := iter_mod _ _ _
  have u2 : Up p wn (W.iter (azT az) 0) := u.trans (Up.keep m hs.lt)
  have hb := h.nodeK.2.1
  have hz := u.size
  refine ⟨u2.gl h.at_ h.gl hp, hs.kept m, h.up.trans u2, ?_, h.boxK.up u2, ?_, h.nodeK.up u2, World.iter_heap _ _ _, Keep.new hs m (Nat.le_refl _) ?_, OwnR.nil_ _ _, fun k hk => by simp [Value.ownBlock] at hk, by omega⟩
  · rw [h.boxK.same u2]; exact h.box
  · rw [h.nodeK.same u2]; exact h.node
  · show W.heap.size < (W.heap.push _).size
    simp
def zk (n : Nz) : Nz := { n with k0 := 0, k1 := 0, k2 := 0 }
/-- between rounds -/
structure CallI (w W : World) (p : Nat) (en : Int) (co : Int) (az : List Az) (mo : Int) (IB j : Nat) (n : Nz) (st : Pz) (kv : Value) (ks : List Int) (lev : Pz → Rz Int) (m : Nat) (d : Int) (R : Rz (Nz × List Int)) : Prop where
  f : CallF w W p en co az mo IB j (zk n) st kv ks
  few : ks.length ≤ j
  sum : st.sum ≤ 999999
  len : st.l.length ≤ m - 1
  deep : st.deep = d + 1
  run : argsZ en lev mo (decide (j = 0)) (az.drop j) n ks st = R
theorem az_size (az : List Az) : (azT az).size = az.length := by unfold azT; rw [tx_size, List.length_map]
theorem az_get {az : List Az} {j : Nat} (h : j < az.length) (h2 : j < (azT az).size) : (azT az)[j]'h2 = azB az[j] := by
  have := tx_get (l := az.map azB) (i := j) (by rw [List.length_map]; exact h) h2
  exact this.trans (List.getElem_map azB)
theorem args_step {en mo : Int} {lev : Pz → Rz Int} {az : List Az} {j : Nat} (h : j < az.length) {n : Nz} {ks : List Int} {st : Pz} {f : Bool} : argsZ en lev mo f (az.drop j) n ks st =
    ((if f = true then .ok () st else mustZ en (bz ",") st).bind fun _ s => (argZ en lev mo az[j] n ks s).bind fun x s => argsZ en lev mo false (az.drop (j + 1)) x.1 x.2 s) := by
  rw [List.drop_eq_getElem_cons h]
  rfl
theorem bz_lits : bz "(" = ⟨#[40]⟩ ∧ bz ")" = ⟨#[41]⟩ ∧ bz "," = ⟨#[44]⟩ := by
  refine ⟨?_, ?_, ?_⟩ <;> decide +kernel
set_option maxHeartbeats 8000000 in
theorem psCall_at {w : World} {p : Nat} {en : Int} {s : Pz} (hp : 9 ≤ p) (hg : Gl w) (h : PsAt w p en s) (hs : s.sum ≤ 1000000) {t : Tk} {l : List Tk} (hl : s.l = t :: l) {lev : Pz → Rz Int} (C : LevC p en lev 0 (s.l.length - 1)) (S1 : LevSh lev) (T1 : LevTm lev) (D1 : LevDp lev) (co : Int) (az : List Az) (mo : Int) (h3 : az.length ≤ 3) :
    Calls Tryd.prog 30 #[.pointer (some ⟨p, 0, none⟩), .agg #[.int .u8 co, .string (azT az), .int .i64 mo]] w fun e w' => PsR p en w intV (callRun en lev (co, az, mo) s) e w' := by
  have CA := Lib.hid (fun (W : World) (hW : PsAt W p en s) => psAt_at hW)
  have HV := Lib.hid (show callRun en lev (co, az, mo) s = (if isZ s.next.l (bz "(") = true then openZ en s.next else .ok () s.next).bind fun _ s1 => (mustZ en (bz "(") s1).bind fun _ s2 =>
    (argsZ en lev mo true az (nz0 co (placeZ en s.l)) [] s2).bind fun x s3 => (mustZ en (bz ")") s3).bind fun _ s4 => nodeZ (kidsZ x.1 x.2) s4.close from rfl)
  generalize callRun en lev (co, az, mo) s = RR at HV ⊢
  generalize placeZ en s.l = q at CA HV
  obtain ⟨w1, hw1, n1, z1, m1⟩ := alloc_named2 w (.cells #[.int .u8 co, .string (azT az), .int .i64 mo] 61)
  obtain ⟨wd, hwd, md⟩ : ∃ D, w1.drew = D ∧ Mod [] w1 D := ⟨_, rfl, (Mod.refl [] w1).drew⟩
  have nd := md.heap n1 (by simp)
  have zd : wd.heap.size = w.heap.size + 1 := by rw [← hwd]; exact z1
  obtain ⟨wz, hwz, nz, zz, mz⟩ := alloc_named2 wd (.cells #[.int .u8 0, .int .i64 0, .int .i64 0, .string ⟨#[]⟩, .int .i64 0, .int .i64 0, .int .i64 0, .int .i64 0, .int .i64 0] 34)
  have bz1 := mz.heap nd (by simp)
  obtain ⟨wn, rn, mn, nn⟩ := store_w (P := Tryd.prog) (c := (encNz ⟨co, 0, 0, ByteArray.empty, 0, 0, 0, 0, q⟩).toArray) 34 nz rfl (by rw [sizeNode]; rfl) (by rw [List.all_toArray, List.all_eq_true]; exact encNz_one _)
  have m0z : Mod [] w wz := (m1.trans md).trans mz
  have hatz := h.kept m0z
  have hatd := h.kept (m1.trans md)
  have hkn : Keep wz p (w.heap.size + 1) := Keep.new h m0z (by omega) (by omega)
  have hlt := h.lt
  have HST : CallA w wn p en s co az mo q := by
    have kk : ∀ k ∈ [wd.heap.size], Keep wz p k := by
      intro k hk
      simp only [List.mem_singleton] at hk
      rw [hk, zd]
      exact hkn
    have hp' : p ∉ [wd.heap.size] := by simp; omega
    refine ⟨gl_own (hg.kept0 m0z) mn (by intro k hk; simp only [List.mem_singleton] at hk; have := h.lt; omega), hatz.own_mod mn kk, (Up.keep m0z hlt).own mn (by intro k hk; simp only [List.mem_singleton] at hk; omega) hp' hatz.lt, ?_, ?_, ?_, ?_⟩
    · exact mn.heap bz1 (by simp; omega)
    · exact (Keep.new h m0z (Nat.le_refl _) (by omega)).mod mn hp' hatz.lt
    · rw [← zd]; exact nn
    · exact hkn.mod mn hp' hatz.lt
  have RN := Lib.hid rn
  have HS := Lib.hid HST
  have HZ := Lib.hid (And.intro hatd hatz)
  have b0 := cell_blk nd 0
  have b0z := cell_blk bz1 0
  simp only [List.getElem?_toArray, List.getElem?_cons_succ, List.getElem?_cons_zero] at b0 b0z
  have H0 := Lib.hid (And.intro hs (And.intro hl h3))
  have HL := Lib.hid (And.intro C (And.intro S1 (And.intro T1 D1)))
  clear n1 z1 m1 nd bz1 nz nn rn mn m0z hatz hatd hkn HST hg h hs hl C S1 T1 D1 mz zz
  rw [zd] at RN
  go_enter Tryd.func30, Tryd.ntmps30
  go_wp2_with fail
  go_cut [5] from 9 to 13 (fun s5 wx => s5 = .pointer (some ⟨w.heap.size + 1, 0, none⟩) ∧ wx = wn)
  case first =>
    refine wp_sched (by kernel_rfl) (sched_either 3 5 (by decide) (sched_either 4 5 (by decide) (sched_plan2 [([0, 2, 1], 3, [0, 1]), ([], 4, []), ([], 5, []), ([], 6, [])] [] (by kernel_rfl) ?L1) (sched_plan2 [([0, 2, 1], 3, [0, 1]), ([], 5, [0, 1]), ([], 4, []), ([], 6, [])] [] (by kernel_rfl) ?L2)) (sched_plan1 [([0, 2, 1], 5, [0, 1]), ([], 3, [0, 1]), ([], 4, []), ([], 6, [])] [] (by kernel_rfl) ?L3))
    case L1 =>
      simp only [wpSegs, opsOf, List.map_cons, List.map_nil, opN, List.getD_cons_zero, List.getD_cons_succ]
      go_wp2_with fail
      refine ⟨by first | trivial | rfl | exact hwd.symm, ?_⟩
      go_wp2_with fail
      refine (CA.out wd HZ.out.1).mono ?_
      rintro e w2 ⟨rfl, hw2⟩
      rw [hw2]
      clear hw2
      go_wp2_with fail
      refine ⟨?agA, ?_⟩
      case agA =>
        intro i hi hw
        simp only [List.mem_cons, List.not_mem_nil, or_false] at hi
        rcases hi with rfl | rfl
        all_goals (simp only [opN, List.getD_cons_zero, List.getD_cons_succ, slotOf]; go_simp)
      go_wp2_with fail
      refine ⟨by first | trivial | rfl | exact hwd.symm, ?_⟩
      go_wp2_with fail
      refine ⟨again_nil, ?_⟩
      go_wp2_with fail
      refine ⟨by first | trivial | rfl | exact hwd.symm, ?_⟩
      go_wp2_with fail
      refine ⟨again_nil, ?_⟩
      go_wp2_with fail
      refine ⟨by first | trivial | rfl | exact hwd.symm, ?_⟩
      go_wp2_with ((with_reducible refine xStoreAt rfl RN.out ?_ ?_ ?_ ?_); exact rfl; exact rfl; exact rfl)
      refine ⟨again_nil, ?_⟩
      go_wp2_with fail
      refine ⟨by first | trivial | rfl, ?_⟩
      go_wp2_with fail
      go_meet
      case rel => exact ⟨rfl, rfl⟩
    case L2 =>
      simp only [wpSegs, opsOf, List.map_cons, List.map_nil, opN, List.getD_cons_zero, List.getD_cons_succ]
      go_wp2_with fail
      refine ⟨by first | trivial | rfl | exact hwd.symm, ?_⟩
      go_wp2_with fail
      refine (CA.out wd HZ.out.1).mono ?_
      rintro e w2 ⟨rfl, hw2⟩
      rw [hw2]
      clear hw2
      go_wp2_with fail
      refine ⟨?agB, ?_⟩
      case agB =>
        intro i hi hw
        simp only [List.mem_cons, List.not_mem_nil, or_false] at hi
        rcases hi with rfl | rfl
        all_goals (simp only [opN, List.getD_cons_zero, List.getD_cons_succ, slotOf]; go_simp)
      go_wp2_with fail
      refine ⟨by first | trivial | rfl | exact hwd.symm, ?_⟩
      go_wp2_with fail
      refine ⟨?agC, ?_⟩
      case agC =>
        intro i hi hw
        simp only [List.mem_cons, List.not_mem_nil, or_false] at hi
        rcases hi with rfl | rfl
        all_goals (simp only [opN, List.getD_cons_zero, List.getD_cons_succ, slotOf]; go_simp)
      go_wp2_with fail
      refine ⟨by first | trivial | rfl | exact hwd.symm, ?_⟩
      go_wp2_with fail
      refine ⟨again_nil, ?_⟩
      go_wp2_with fail
      refine ⟨by first | trivial | rfl | exact hwd.symm, ?_⟩
      go_wp2_with ((with_reducible refine xStoreAt rfl RN.out ?_ ?_ ?_ ?_); exact rfl; exact rfl; exact rfl)
      refine ⟨again_nil, ?_⟩
      go_wp2_with fail
      refine ⟨by first | trivial | rfl, ?_⟩
      go_wp2_with fail
      go_meet
      case rel => exact ⟨rfl, rfl⟩
    case L3 =>
      simp only [wpSegs, opsOf, List.map_cons, List.map_nil, opN, List.getD_cons_zero, List.getD_cons_succ]
      go_wp2_with fail
      refine ⟨by first | trivial | rfl | exact hwd.symm, ?_⟩
      go_wp2_with fail
      refine ⟨?agD, ?_⟩
      case agD =>
        intro i hi hw
        simp only [List.mem_cons, List.not_mem_nil, or_false] at hi
        rcases hi with rfl | rfl
        all_goals (simp only [opN, List.getD_cons_zero, List.getD_cons_succ, slotOf]; go_simp)
      go_wp2_with fail
      refine ⟨by first | trivial | rfl | exact hwd.symm, ?_⟩
      go_wp2_with fail
      refine (CA.out wz HZ.out.2).mono ?_
      rintro e w2 ⟨rfl, hw2⟩
      rw [hw2]
      clear hw2
      go_wp2_with fail
      refine ⟨?agE, ?_⟩
      case agE =>
        intro i hi hw
        simp only [List.mem_cons, List.not_mem_nil, or_false] at hi
        rcases hi with rfl | rfl
        all_goals (simp only [opN, List.getD_cons_zero, List.getD_cons_succ, slotOf]; go_simp)
      go_wp2_with fail
      refine ⟨by first | trivial | rfl | exact hwd.symm, ?_⟩
      go_wp2_with fail
      refine ⟨again_nil, ?_⟩
      go_wp2_with fail
      refine ⟨by first | trivial | rfl | exact hwd.symm, ?_⟩
      go_wp2_with ((with_reducible refine xStoreAt rfl RN.out ?_ ?_ ?_ ?_); exact rfl; exact rfl; exact rfl)
      refine ⟨again_nil, ?_⟩
      go_wp2_with fail
      refine ⟨by first | trivial | rfl, ?_⟩
      go_wp2_with fail
      go_meet
      case rel => exact ⟨rfl, rfl⟩
  case rest =>
    obtain ⟨rfl, hw⟩ := hcut
    rw [hw]
    clear hw
    obtain ⟨_, hl, _⟩ := H0.out
    obtain ⟨la, lc, tv, hx⟩ := HS.out.at_
    obtain ⟨b, o, rfl, hb, hc, -, -, -, -, -⟩ := hx.head hl
    have hlen2 := hx.len
    have hlen : 0 < s.l.length := by rw [hl]; simp
    have c0 := cell_blk hx.blk 0
    have f0 := frozen_blk hx.blk 0
    simp only [List.getElem?_toArray, List.getElem?_cons_succ, List.getElem?_cons_zero] at c0
    have HT := Lib.hid (hx.two hl)
    have hsum : s.next.sum ≤ 999999 := by
      have := next_sum1 hl
      have := H0.out.1
      omega
    have hle : s.next.l.length ≤ s.l.length - 1 := by rw [next_len]; exact Nat.le_refl _
    have HSM := Lib.hid (And.intro hsum (And.intro hle (show s.next.deep = s.deep from rfl)))
    clear RN CA HZ b0 b0z hb hx hl hsum hle hwz hwd hw1 md
    generalize hnn : s.l.length = m at *
    have hm0 : ¬ m = 0 := by omega
    clear hnn
    go_upto_region 2 with fail
    go_cut [] from 14 to 21 (fun wx => Hid (PsAt wx p en s.next ∧ Up p wn wx))
    case first =>
      by_cases hl1 : lc = 1
      · subst hl1
        obtain rfl : m = 1 := by omega
        have HH := Lib.hid (HT.out o (.inr (Nat.le_refl _)))
        go_wp2_with fail
        go_meet
        case rel => exact HH
      · have HH := Lib.hid (HT.out (o + 5) (.inl rfl))
        go_wp2_with fail
        go_meet
        case rel => exact HH
    case rest =>
      have HH := hcut
      rename_i W0
      clear hcut HT c0 f0 hc
      rw [bz_lits.1, bz_lits.2.1] at HV
      have CI := Lib.hid (psIs_at HH.out.1 ⟨#[40]⟩)
      have CM := Lib.hid (fun (W : World) (st : Pz) (hW : PsAt W p en st) => psMust_at hW ⟨#[40]⟩)
      cases hz : isZ s.next.l ⟨#[40]⟩ with
      | false =>
        rw [hz] at CI HV
        rw [if_neg (by simp), Rz.bind_ok] at HV
        have HM := Lib.hid (show mustZ en ⟨#[40]⟩ s.next = failZ en 4 s.next by unfold mustZ; rw [if_neg (by simp [hz])])
        rw [HM.out] at HV
        have CMM := Lib.hid (CM.out _ _ HH.out.1)
        rw [HM.out] at CMM
        clear hz
        go_wp2_with fail
        refine CI.out.mono ?_
        rintro e w2 ⟨rfl, hw2⟩
        rw [hw2]
        clear hw2
        go_wp2_with fail
        refine CMM.out.mono ?_
        rintro e w3 ⟨rfl, u3⟩
        have HU := Lib.hid (HS.out.up.trans (HH.out.2.trans u3))
        clear u3
        go_wp2_with fail
        exact ⟨rfl, PsR.mk_bad HV.out rfl HU.out⟩
      | true =>
        rw [hz] at CI HV
        rw [if_pos rfl] at HV
        have CO := Lib.hid (psOpen_at HH.out.1)
        clear hz
        go_wp2_with fail
        refine CI.out.mono ?_
        rintro e w2 ⟨rfl, hw2⟩
        rw [hw2]
        clear hw2
        go_wp2_with fail
        refine CO.out.mono ?_
        intro e w3 hR
        cases ho : openZ en s.next with
        | bad q2 y =>
          rw [ho] at hR HV
          obtain ⟨rfl, h2⟩ := hR
          have HU := Lib.hid (HS.out.up.trans (HH.out.2.trans h2))
          clear ho h2
          go_wp2_with fail
          exact ⟨rfl, PsR.mk_bad HV.out rfl HU.out⟩
        | ok u s1 =>
          rw [ho] at hR HV
          rw [Rz.bind_ok] at HV
          obtain ⟨rfl, h1, h2⟩ := hR
          have e1 : s1.sum = s.next.sum ∧ s1.l = s.next.l ∧ s1.deep = s.next.deep + 1 := by
            unfold openZ at ho
            split at ho
            · cases ho
            · cases ho; exact ⟨rfl, rfl, rfl⟩
          have CMM := Lib.hid (CM.out _ _ h1)
          have HU3 := Lib.hid (HH.out.2.trans h2)
          have HE1 := Lib.hid e1
          clear ho h1 h2 e1
          go_wp2_with fail
          refine CMM.out.mono ?_
          intro e w4 hR
          cases hm : mustZ en ⟨#[40]⟩ s1 with
          | bad q2 y =>
            rw [hm] at hR HV
            obtain ⟨rfl, h2⟩ := hR
            have HU := Lib.hid (HS.out.up.trans (HU3.out.trans h2))
            clear hm h2
            go_wp2_with fail
            exact ⟨rfl, PsR.mk_bad HV.out rfl HU.out⟩
          | ok u s2 =>
            rw [hm] at hR HV
            rw [Rz.bind_ok] at HV
            obtain ⟨rfl, h1, h2⟩ := hR
            have e2 : s2 = s1.next := by
              unfold mustZ at hm
              split at hm
              · cases hm; rfl
              · unfold failZ at hm; cases hm
            have HS2 := Lib.hid (show s2.sum ≤ 999999 ∧ s2.l.length ≤ m - 1 ∧ s2.deep = s.deep + 1 from by
              have h5 := HSM.out
              have h6 := HE1.out
              refine ⟨?_, ?_, ?_⟩
              · rw [e2]; exact Nat.le_trans (next_sum s1) (by omega)
              · rw [e2, next_len, h6.2.1]; omega
              · rw [e2]; show s1.deep = _; omega)
            have HF := Lib.hid (HS.out.start hp (HU3.out.trans h2) h1)
            have HBX : w4.heap[w.heap.size]? = some (.cells #[.int .u8 co, .string (azT az), .int .i64 mo] 61 (0, 0)) := by
              have u9 := HU3.out.trans h2
              rw [HS.out.boxK.same u9]
              exact HS.out.box
            have b1 := cell_blk HBX 1
            simp only [List.getElem?_toArray, List.getElem?_cons_succ, List.getElem?_cons_zero] at b1
            generalize hIB : w4.heap.size = IB at HF
            have hIB := Lib.hid hIB
            clear hm h1 h2 e2 HBX HE1 CMM CO CM CI
            go_wp2_with fail
            have HI := Lib.hid (show CallI w (w4.iter (azT az) 0) p en co az mo IB 0 (nz0 co q) s2 (.slice none 0 0) [] lev m s.deep (argsZ en lev mo true az (nz0 co q) [] s2) from
              ⟨HF.out, Nat.le_refl _, HS2.out.1, HS2.out.2.1, HS2.out.2.2, rfl⟩)
            generalize argsZ en lev mo true az (nz0 co q) [] s2 = R0 at HV HI
            go_loopg [6, 7, 8] az.length (fun gg s6 s7 s8 W => ∃ (j : Nat) (n : Nz) (st : Pz) (ks : List Int), j + gg = az.length ∧ Hid (CallI w W p en co az mo IB j n st s6 ks lev m s.deep R0))
            case atStart => exact ⟨0, _, _, _, by omega, HI⟩
            case round =>
              obtain ⟨j, n, st, ks, hj, hS⟩ := hrel
              clear HI HF HS2 b1 hIB
              cases gk with
              | zero =>
                have hnx := fun ty => Lib.run_next_end_at (P := Tryd.prog) wr IB (azT az) j ty hS.out.f.iter (by rw [az_size]; omega)
                have hrun := hS.out.run
                rw [List.drop_of_length_le (by omega)] at hrun
                rw [← hrun, show argsZ en lev mo (decide (j = 0)) [] n ks st = .ok (n, ks) st from by unfold argsZ; rfl, Rz.bind_ok] at HV
                have CMM := Lib.hid (psMust_at hS.out.f.at_ ⟨#[41]⟩)
                clear hrun
                go_wp2_with fail
                refine CMM.out.mono ?_
                intro e w5 hR
                cases hm : mustZ en ⟨#[41]⟩ st with
                | bad q2 y =>
                  rw [hm] at hR HV
                  obtain ⟨rfl, h2⟩ := hR
                  have HU := Lib.hid (hS.out.f.up.trans h2)
                  clear hm h2
                  go_wp2_with fail
                  exact ⟨rfl, PsR.mk_bad HV.out rfl HU.out⟩
                | ok u s4 =>
                  rw [hm] at hR HV
                  rw [Rz.bind_ok] at HV
                  obtain ⟨rfl, h1, h2⟩ := hR
                  have hd4 : s4.deep = s.deep + 1 := mustZ_dp (s := st) hS.out.deep _ _ hm
                  have hs4 : s4.tree.length ≤ 1000000 := (sum_parts (Nat.le_trans (mustZ_tm (s := st) hS.out.sum _ _ hm) (by omega))).2
                  have hd := h1.deep
                  have hd0 := HS.out.at_.deep
                  obtain ⟨h6, hup6⟩ := h1.shut (by omega)
                  obtain ⟨c2, f2⟩ := h1.cells
                  obtain ⟨w6, hw6⟩ : ∃ w6, w5.setCell ⟨p, 2, none⟩ (.int .i64 (s4.deep - 1)) = w6 := ⟨_, rfl⟩
                  rw [hw6] at h6 hup6
                  have hF6 := (hS.out.f.go hp h2 h1).go hp hup6 h6
                  have hld := load_w (P := Tryd.prog) 34 hF6.node (by rw [sizeNode]; rfl) Tryd.underlying34 rfl
                  have LD := Lib.hid hld
                  have CN := Lib.hid (show Calls Tryd.prog 34 #[.pointer (some ⟨p, 0, none⟩), .agg (encNz (zk n)).toArray, u6] w6 (fun e w' => PsR p en w6 intV (nodeZ (kidsZ n ks) s4.close) e w') from
                    psNode_at h6 hs4 (zk n) hF6.kids.row (by have := hS.out.few; have := H0.out.2.2; omega))
                  have HUP := Lib.hid hF6.up
                  have hwr : IntKind.i64.wrap (s4.deep - 1) = s4.deep - 1 := by rw [IntKind.wrap_i64]; omega
                  generalize s4.deep = d4 at *
                  clear hm h1 h2 hd4 hs4 hd hd0 h6 hup6 hF6 hld
                  go_wp2_with ((with_reducible refine xLoadAt rfl LD.out ?_ ?_ ?_); exact rfl; exact rfl)
                  refine CN.out.mono ?_
                  rintro e w8 ⟨rfl, h8, u8⟩
                  have HH8 := Lib.hid (And.intro h8 (HUP.out.trans u8))
                  clear h8 u8
                  go_wp2_with fail
                  first | go_ret3 | go_ret2 | go_ret
                  exact PsR.mk_ok HV.out rfl HH8.out.1 HH8.out.2
              | succ g =>
                have hlt : j < az.length := by omega
                have hsz := az_size az
                have hgt := az_get hlt (by omega)
                have hb128 : (azB az[j]).toNat < 128 := by cases az[j] <;> decide
                have hnx := fun ty => Lib.run_next_ascii_at (P := Tryd.prog) wr IB (azT az) j ty hS.out.f.iter (by omega) (by rw [hgt]; exact hb128)
                rw [hgt] at hnx
                have hF1 := hS.out.f.iterate hp (j + 1)
                obtain ⟨W1, hW1⟩ : ∃ W1, wr.iterAt IB (azT az) (j + 1) = W1 := ⟨_, rfl⟩
                rw [hW1] at hF1 hnx
                have hrun := hS.out.run
                rw [args_step hlt, bz_lits.2.2] at hrun
                generalize az[j] = ak at hnx hrun hb128
                have HF1 := Lib.hid hF1
                have HRUN := Lib.hid hrun.symm
                have HQ := Lib.hid (And.intro hS.out.few (And.intro hS.out.sum (And.intro hS.out.len hS.out.deep)))
                have HLT := Lib.hid hlt
                clear hF1 hrun hS hb128 hgt hW1 hlt
                cases ak with
                | e =>
                  rw [show ((azB .e).toNat : Int) = 101 from rfl] at hnx
                  by_cases hj0 : j = 0
                  · skip
                    have d0 : ¬ 0 < j := by omega
                    have HR2 := Lib.hid (show R0 = (argZ en lev mo .e n ks st).bind fun x s => argsZ en lev mo false (az.drop (j + 1)) x.1 x.2 s by rw [HRUN.out, decide_eq_true hj0, if_pos rfl, Rz.bind_ok])
                    have HF2 := HF1
                    clear HRUN hj0
                    have HQ2 := HQ
                    go_wp2_with fail
                    refine (HL.out.1 W1 st HF2.out.gl HF2.out.at_ (by have := HQ2.out.2.1; omega) HQ2.out.2.2.1).mono ?_
                    intro e w6 hR
                    cases hu : lev st with
                    | bad q2 y =>
                      rw [hu] at hR
                      obtain ⟨rfl, h2⟩ := hR
                      have HU := Lib.hid (HF2.out.up.trans h2)
                      have HVB := Lib.hid (show RR = .bad q2 y by rw [HV.out, HR2.out]; unfold argZ; dsimp only; rw [hu]; rfl)
                      clear hu h2
                      go_wp2_with fail
                      exact ⟨rfl, PsR.mk_bad HVB.out rfl HU.out⟩
                    | ok x s6 =>
                      rw [hu] at hR
                      obtain ⟨rfl, h1, h2⟩ := hR
                      have hF6 := HF2.out.go hp h2 h1
                      have HR3 := Lib.hid (show argsZ en lev mo false (az.drop (j + 1)) n (ks ++ [x]) s6 = R0 by rw [HR2.out]; unfold argZ; dsimp only; rw [hu]; rfl)
                      have HQ3 := Lib.hid (show s6.sum ≤ 999999 ∧ s6.l.length ≤ m - 1 ∧ s6.deep = s.deep + 1 from ⟨Nat.le_trans (HL.out.2.2.1 st x s6 hu) HQ2.out.2.1, Nat.le_trans (HL.out.2.1 st x s6 hu) HQ2.out.2.2.1, (HL.out.2.2.2 st x s6 hu).trans HQ2.out.2.2.2⟩)
                      obtain ⟨ka, kc, rfl⟩ := hF6.kids.lens
                      have hfew := HQ2.out.1
                      have h33 := H0.out.2.2
                      have hlt3 := HLT.out
                      obtain ⟨kv2, w7, ra, ho, gr⟩ := own_append1 (P := Tryd.prog) (ty := 29) elemInt encI_len encI_one hF6.kids (by have := hF6.iterK.2.1; omega) x (by omega) (by omega)
                      dsimp only [encI] at ra
                      have HI2 := Lib.hid (show CallI w w7 p en co az mo IB (j + 1) n s6 kv2 (ks ++ [x]) lev m s.deep R0 from
                        ⟨hF6.push hp gr ho, by rw [List.length_append, List.length_singleton]; omega, HQ3.out.1, HQ3.out.2.1, HQ3.out.2.2, by rw [decide_eq_false (by omega)]; exact HR3.out⟩)
                      have RA := Lib.hid ra
                      clear hu h1 h2 hF6 hfew h33 hlt3 ra ho gr
                      unfold intV
                      go_wp2_with ((with_reducible refine xAppendAt RA.out rfl rfl ?_ ?_ ?_ ?_); exact rfl; exact rfl; exact rfl)
                      go_roundg g
                      case measure => exact Nat.lt_succ_self _
                      case rel => exact ⟨j + 1, n, s6, _, by omega, HI2⟩
                  · skip
                    have d0 : 0 < j := by omega
                    have HR1 := Lib.hid (show R0 = (mustZ en ⟨#[44]⟩ st).bind fun _ s => (argZ en lev mo .e n ks s).bind fun x s => argsZ en lev mo false (az.drop (j + 1)) x.1 x.2 s by rw [HRUN.out, decide_eq_false hj0, if_neg (by simp)])
                    have CMM := Lib.hid (psMust_at HF1.out.at_ ⟨#[44]⟩)
                    clear HRUN hj0
                    go_wp2_with fail
                    refine CMM.out.mono ?_
                    intro e w5 hR
                    cases hm : mustZ en ⟨#[44]⟩ st with
                    | bad q2 y =>
                      rw [hm] at hR HR1
                      obtain ⟨rfl, h2⟩ := hR
                      have HU := Lib.hid (HF1.out.up.trans h2)
                      have HVB := Lib.hid (show RR = .bad q2 y by rw [HV.out, HR1.out]; rfl)
                      clear hm h2
                      go_wp2_with fail
                      exact ⟨rfl, PsR.mk_bad HVB.out rfl HU.out⟩
                    | ok u st1 =>
                      rw [hm] at hR HR1
                      rw [Rz.bind_ok] at HR1
                      obtain ⟨rfl, h1, h2⟩ := hR
                      have HR2 := HR1
                      have HF2 := Lib.hid (HF1.out.go hp h2 h1)
                      have HQ2 := Lib.hid (show ks.length ≤ j ∧ st1.sum ≤ 999999 ∧ st1.l.length ≤ m - 1 ∧ st1.deep = s.deep + 1 from
                        ⟨HQ.out.1, mustZ_tm HQ.out.2.1 _ _ hm, mustZ_sh HQ.out.2.2.1 _ _ hm, mustZ_dp HQ.out.2.2.2 _ _ hm⟩)
                      clear hm h1 h2 HQ HR1 HF1 CMM
                      go_wp2_with fail
                      refine (HL.out.1 w5 st1 HF2.out.gl HF2.out.at_ (by have := HQ2.out.2.1; omega) HQ2.out.2.2.1).mono ?_
                      intro e w6 hR
                      cases hu : lev st1 with
                      | bad q2 y =>
                        rw [hu] at hR
                        obtain ⟨rfl, h2⟩ := hR
                        have HU := Lib.hid (HF2.out.up.trans h2)
                        have HVB := Lib.hid (show RR = .bad q2 y by rw [HV.out, HR2.out]; unfold argZ; dsimp only; rw [hu]; rfl)
                        clear hu h2
                        go_wp2_with fail
                        exact ⟨rfl, PsR.mk_bad HVB.out rfl HU.out⟩
                      | ok x s6 =>
                        rw [hu] at hR
                        obtain ⟨rfl, h1, h2⟩ := hR
                        have hF6 := HF2.out.go hp h2 h1
                        have HR3 := Lib.hid (show argsZ en lev mo false (az.drop (j + 1)) n (ks ++ [x]) s6 = R0 by rw [HR2.out]; unfold argZ; dsimp only; rw [hu]; rfl)
                        have HQ3 := Lib.hid (show s6.sum ≤ 999999 ∧ s6.l.length ≤ m - 1 ∧ s6.deep = s.deep + 1 from ⟨Nat.le_trans (HL.out.2.2.1 st1 x s6 hu) HQ2.out.2.1, Nat.le_trans (HL.out.2.1 st1 x s6 hu) HQ2.out.2.2.1, (HL.out.2.2.2 st1 x s6 hu).trans HQ2.out.2.2.2⟩)
                        obtain ⟨ka, kc, rfl⟩ := hF6.kids.lens
                        have hfew := HQ2.out.1
                        have h33 := H0.out.2.2
                        have hlt3 := HLT.out
                        obtain ⟨kv2, w7, ra, ho, gr⟩ := own_append1 (P := Tryd.prog) (ty := 29) elemInt encI_len encI_one hF6.kids (by have := hF6.iterK.2.1; omega) x (by omega) (by omega)
                        dsimp only [encI] at ra
                        have HI2 := Lib.hid (show CallI w w7 p en co az mo IB (j + 1) n s6 kv2 (ks ++ [x]) lev m s.deep R0 from
                          ⟨hF6.push hp gr ho, by rw [List.length_append, List.length_singleton]; omega, HQ3.out.1, HQ3.out.2.1, HQ3.out.2.2, by rw [decide_eq_false (by omega)]; exact HR3.out⟩)
                        have RA := Lib.hid ra
                        clear hu h1 h2 hF6 hfew h33 hlt3 ra ho gr
                        unfold intV
                        go_wp2_with ((with_reducible refine xAppendAt RA.out rfl rfl ?_ ?_ ?_ ?_); exact rfl; exact rfl; exact rfl)
                        go_roundg g
                        case measure => exact Nat.lt_succ_self _
                        case rel => exact ⟨j + 1, n, s6, _, by omega, HI2⟩
                | f =>
                  rw [show ((azB .f).toNat : Int) = 102 from rfl] at hnx
                  by_cases hj0 : j = 0
                  · skip
                    have d0 : ¬ 0 < j := by omega
                    have HR2 := Lib.hid (show R0 = (argZ en lev mo .f n ks st).bind fun x s => argsZ en lev mo false (az.drop (j + 1)) x.1 x.2 s by rw [HRUN.out, decide_eq_true hj0, if_pos rfl, Rz.bind_ok])
                    have HF2 := HF1
                    clear HRUN hj0
                    have HQ2 := HQ
                    go_wp2_with fail
                    refine (psField_at HF2.out.gl HF2.out.at_).mono ?_
                    intro e w6 hR
                    cases hu : fieldZ en st with
                    | bad q2 y =>
                      rw [hu] at hR
                      obtain ⟨rfl, h2⟩ := hR
                      have HU := Lib.hid (HF2.out.up.trans h2)
                      have HVB := Lib.hid (show RR = .bad q2 y by rw [HV.out, HR2.out]; unfold argZ; dsimp only; rw [hu]; rfl)
                      clear hu h2
                      go_wp2_with fail
                      exact ⟨rfl, PsR.mk_bad HVB.out rfl HU.out⟩
                    | ok x s6 =>
                      rw [hu] at hR
                      obtain ⟨rfl, h1, h2⟩ := hR
                      have hF6 := HF2.out.go hp h2 h1
                      have HR3 := Lib.hid (show argsZ en lev mo false (az.drop (j + 1)) { n with name := x } (ks) s6 = R0 by rw [HR2.out]; unfold argZ; dsimp only; rw [hu]; rfl)
                      have HQ3 := Lib.hid (show s6.sum ≤ 999999 ∧ s6.l.length ≤ m - 1 ∧ s6.deep = s.deep + 1 from ⟨by have := fieldZ_tm HQ2.out.2.1 _ _ hu; omega, fieldZ_sh HQ2.out.2.2.1 _ _ hu, fieldZ_dp HQ2.out.2.2.2 _ _ hu⟩)
                      have hF7 := hF6.write (n2 := zk { n with name := x }) hp 3 (.string x) rfl
                      have cn := cell_blk hF6.node 3
                      have fn := frozen_blk hF6.node 3
                      dsimp only [encNz] at cn
                      simp only [List.getElem?_toArray, List.getElem?_cons_succ, List.getElem?_cons_zero] at cn
                      obtain ⟨w7, hw7⟩ : ∃ w7, w6.setCell ⟨w.heap.size + 1, 3, none⟩ (.string x) = w7 := ⟨_, rfl⟩
                      rw [hw7] at hF7
                      have HLT2 := HLT
                      have HI2 := Lib.hid (show CallI w w7 p en co az mo IB (j + 1) { n with name := x } s6 u6 ks lev m s.deep R0 from
                        ⟨hF7, by have := HQ2.out.1; omega, HQ3.out.1, HQ3.out.2.1, HQ3.out.2.2, by rw [decide_eq_false (by omega)]; exact HR3.out⟩)
                      clear hu h1 h2 hF6 hF7
                      unfold strV
                      go_wp2_with fail
                      go_roundg g
                      case measure => exact Nat.lt_succ_self _
                      case rel => exact ⟨j + 1, { n with name := x }, s6, ks, by omega, HI2⟩
                  · skip
                    have d0 : 0 < j := by omega
                    have HR1 := Lib.hid (show R0 = (mustZ en ⟨#[44]⟩ st).bind fun _ s => (argZ en lev mo .f n ks s).bind fun x s => argsZ en lev mo false (az.drop (j + 1)) x.1 x.2 s by rw [HRUN.out, decide_eq_false hj0, if_neg (by simp)])
                    have CMM := Lib.hid (psMust_at HF1.out.at_ ⟨#[44]⟩)
                    clear HRUN hj0
                    go_wp2_with fail
                    refine CMM.out.mono ?_
                    intro e w5 hR
                    cases hm : mustZ en ⟨#[44]⟩ st with
                    | bad q2 y =>
                      rw [hm] at hR HR1
                      obtain ⟨rfl, h2⟩ := hR
                      have HU := Lib.hid (HF1.out.up.trans h2)
                      have HVB := Lib.hid (show RR = .bad q2 y by rw [HV.out, HR1.out]; rfl)
                      clear hm h2
                      go_wp2_with fail
                      exact ⟨rfl, PsR.mk_bad HVB.out rfl HU.out⟩
                    | ok u st1 =>
                      rw [hm] at hR HR1
                      rw [Rz.bind_ok] at HR1
                      obtain ⟨rfl, h1, h2⟩ := hR
                      have HR2 := HR1
                      have HF2 := Lib.hid (HF1.out.go hp h2 h1)
                      have HQ2 := Lib.hid (show ks.length ≤ j ∧ st1.sum ≤ 999999 ∧ st1.l.length ≤ m - 1 ∧ st1.deep = s.deep + 1 from
                        ⟨HQ.out.1, mustZ_tm HQ.out.2.1 _ _ hm, mustZ_sh HQ.out.2.2.1 _ _ hm, mustZ_dp HQ.out.2.2.2 _ _ hm⟩)
                      clear hm h1 h2 HQ HR1 HF1 CMM
                      go_wp2_with fail
                      refine (psField_at HF2.out.gl HF2.out.at_).mono ?_
                      intro e w6 hR
                      cases hu : fieldZ en st1 with
                      | bad q2 y =>
                        rw [hu] at hR
                        obtain ⟨rfl, h2⟩ := hR
                        have HU := Lib.hid (HF2.out.up.trans h2)
                        have HVB := Lib.hid (show RR = .bad q2 y by rw [HV.out, HR2.out]; unfold argZ; dsimp only; rw [hu]; rfl)
                        clear hu h2
                        go_wp2_with fail
                        exact ⟨rfl, PsR.mk_bad HVB.out rfl HU.out⟩
                      | ok x s6 =>
                        rw [hu] at hR
                        obtain ⟨rfl, h1, h2⟩ := hR
                        have hF6 := HF2.out.go hp h2 h1
                        have HR3 := Lib.hid (show argsZ en lev mo false (az.drop (j + 1)) { n with name := x } (ks) s6 = R0 by rw [HR2.out]; unfold argZ; dsimp only; rw [hu]; rfl)
                        have HQ3 := Lib.hid (show s6.sum ≤ 999999 ∧ s6.l.length ≤ m - 1 ∧ s6.deep = s.deep + 1 from ⟨by have := fieldZ_tm HQ2.out.2.1 _ _ hu; omega, fieldZ_sh HQ2.out.2.2.1 _ _ hu, fieldZ_dp HQ2.out.2.2.2 _ _ hu⟩)
                        have hF7 := hF6.write (n2 := zk { n with name := x }) hp 3 (.string x) rfl
                        have cn := cell_blk hF6.node 3
                        have fn := frozen_blk hF6.node 3
                        dsimp only [encNz] at cn
                        simp only [List.getElem?_toArray, List.getElem?_cons_succ, List.getElem?_cons_zero] at cn
                        obtain ⟨w7, hw7⟩ : ∃ w7, w6.setCell ⟨w.heap.size + 1, 3, none⟩ (.string x) = w7 := ⟨_, rfl⟩
                        rw [hw7] at hF7
                        have HLT2 := HLT
                        have HI2 := Lib.hid (show CallI w w7 p en co az mo IB (j + 1) { n with name := x } s6 u6 ks lev m s.deep R0 from
                          ⟨hF7, by have := HQ2.out.1; omega, HQ3.out.1, HQ3.out.2.1, HQ3.out.2.2, by rw [decide_eq_false (by omega)]; exact HR3.out⟩)
                        clear hu h1 h2 hF6 hF7
                        unfold strV
                        go_wp2_with fail
                        go_roundg g
                        case measure => exact Nat.lt_succ_self _
                        case rel => exact ⟨j + 1, { n with name := x }, s6, ks, by omega, HI2⟩
                | w =>
                  rw [show ((azB .w).toNat : Int) = 119 from rfl] at hnx
                  by_cases hj0 : j = 0
                  · skip
                    have d0 : ¬ 0 < j := by omega
                    have HR2 := Lib.hid (show R0 = (argZ en lev mo .w n ks st).bind fun x s => argsZ en lev mo false (az.drop (j + 1)) x.1 x.2 s by rw [HRUN.out, decide_eq_true hj0, if_pos rfl, Rz.bind_ok])
                    have HF2 := HF1
                    clear HRUN hj0
                    have b2 := cell_blk HF2.out.box 2
                    simp only [List.getElem?_toArray, List.getElem?_cons_succ, List.getElem?_cons_zero] at b2
                    have HQ2 := HQ
                    go_wp2_with fail
                    refine (psWhole_at HF2.out.at_ mo).mono ?_
                    intro e w6 hR
                    cases hu : wholeZ en mo st with
                    | bad q2 y =>
                      rw [hu] at hR
                      obtain ⟨rfl, h2⟩ := hR
                      have HU := Lib.hid (HF2.out.up.trans h2)
                      have HVB := Lib.hid (show RR = .bad q2 y by rw [HV.out, HR2.out]; unfold argZ; dsimp only; rw [hu]; rfl)
                      clear hu h2
                      go_wp2_with fail
                      exact ⟨rfl, PsR.mk_bad HVB.out rfl HU.out⟩
                    | ok x s6 =>
                      rw [hu] at hR
                      obtain ⟨rfl, h1, h2⟩ := hR
                      have hF6 := HF2.out.go hp h2 h1
                      have HR3 := Lib.hid (show argsZ en lev mo false (az.drop (j + 1)) { n with k := x } (ks) s6 = R0 by rw [HR2.out]; unfold argZ; dsimp only; rw [hu]; rfl)
                      have HQ3 := Lib.hid (show s6.sum ≤ 999999 ∧ s6.l.length ≤ m - 1 ∧ s6.deep = s.deep + 1 from ⟨wholeZ_tm HQ2.out.2.1 _ _ hu, wholeZ_sh HQ2.out.2.2.1 _ _ hu, wholeZ_dp HQ2.out.2.2.2 _ _ hu⟩)
                      have hF7 := hF6.write (n2 := zk { n with k := x }) hp 4 (.int .i64 x) rfl
                      have cn := cell_blk hF6.node 4
                      have fn := frozen_blk hF6.node 4
                      dsimp only [encNz] at cn
                      simp only [List.getElem?_toArray, List.getElem?_cons_succ, List.getElem?_cons_zero] at cn
                      obtain ⟨w7, hw7⟩ : ∃ w7, w6.setCell ⟨w.heap.size + 1, 4, none⟩ (.int .i64 x) = w7 := ⟨_, rfl⟩
                      rw [hw7] at hF7
                      have HLT2 := HLT
                      have HI2 := Lib.hid (show CallI w w7 p en co az mo IB (j + 1) { n with k := x } s6 u6 ks lev m s.deep R0 from
                        ⟨hF7, by have := HQ2.out.1; omega, HQ3.out.1, HQ3.out.2.1, HQ3.out.2.2, by rw [decide_eq_false (by omega)]; exact HR3.out⟩)
                      clear hu h1 h2 hF6 hF7
                      unfold intV
                      go_wp2_with fail
                      go_roundg g
                      case measure => exact Nat.lt_succ_self _
                      case rel => exact ⟨j + 1, { n with k := x }, s6, ks, by omega, HI2⟩
                  · skip
                    have d0 : 0 < j := by omega
                    have HR1 := Lib.hid (show R0 = (mustZ en ⟨#[44]⟩ st).bind fun _ s => (argZ en lev mo .w n ks s).bind fun x s => argsZ en lev mo false (az.drop (j + 1)) x.1 x.2 s by rw [HRUN.out, decide_eq_false hj0, if_neg (by simp)])
                    have CMM := Lib.hid (psMust_at HF1.out.at_ ⟨#[44]⟩)
                    clear HRUN hj0
                    go_wp2_with fail
                    refine CMM.out.mono ?_
                    intro e w5 hR
                    cases hm : mustZ en ⟨#[44]⟩ st with
                    | bad q2 y =>
                      rw [hm] at hR HR1
                      obtain ⟨rfl, h2⟩ := hR
                      have HU := Lib.hid (HF1.out.up.trans h2)
                      have HVB := Lib.hid (show RR = .bad q2 y by rw [HV.out, HR1.out]; rfl)
                      clear hm h2
                      go_wp2_with fail
                      exact ⟨rfl, PsR.mk_bad HVB.out rfl HU.out⟩
                    | ok u st1 =>
                      rw [hm] at hR HR1
                      rw [Rz.bind_ok] at HR1
                      obtain ⟨rfl, h1, h2⟩ := hR
                      have HR2 := HR1
                      have HF2 := Lib.hid (HF1.out.go hp h2 h1)
                      have HQ2 := Lib.hid (show ks.length ≤ j ∧ st1.sum ≤ 999999 ∧ st1.l.length ≤ m - 1 ∧ st1.deep = s.deep + 1 from
                        ⟨HQ.out.1, mustZ_tm HQ.out.2.1 _ _ hm, mustZ_sh HQ.out.2.2.1 _ _ hm, mustZ_dp HQ.out.2.2.2 _ _ hm⟩)
                      clear hm h1 h2 HQ HR1 HF1 CMM
                      have b2 := cell_blk HF2.out.box 2
                      simp only [List.getElem?_toArray, List.getElem?_cons_succ, List.getElem?_cons_zero] at b2
                      go_wp2_with fail
                      refine (psWhole_at HF2.out.at_ mo).mono ?_
                      intro e w6 hR
                      cases hu : wholeZ en mo st1 with
                      | bad q2 y =>
                        rw [hu] at hR
                        obtain ⟨rfl, h2⟩ := hR
                        have HU := Lib.hid (HF2.out.up.trans h2)
                        have HVB := Lib.hid (show RR = .bad q2 y by rw [HV.out, HR2.out]; unfold argZ; dsimp only; rw [hu]; rfl)
                        clear hu h2
                        go_wp2_with fail
                        exact ⟨rfl, PsR.mk_bad HVB.out rfl HU.out⟩
                      | ok x s6 =>
                        rw [hu] at hR
                        obtain ⟨rfl, h1, h2⟩ := hR
                        have hF6 := HF2.out.go hp h2 h1
                        have HR3 := Lib.hid (show argsZ en lev mo false (az.drop (j + 1)) { n with k := x } (ks) s6 = R0 by rw [HR2.out]; unfold argZ; dsimp only; rw [hu]; rfl)
                        have HQ3 := Lib.hid (show s6.sum ≤ 999999 ∧ s6.l.length ≤ m - 1 ∧ s6.deep = s.deep + 1 from ⟨wholeZ_tm HQ2.out.2.1 _ _ hu, wholeZ_sh HQ2.out.2.2.1 _ _ hu, wholeZ_dp HQ2.out.2.2.2 _ _ hu⟩)
                        have hF7 := hF6.write (n2 := zk { n with k := x }) hp 4 (.int .i64 x) rfl
                        have cn := cell_blk hF6.node 4
                        have fn := frozen_blk hF6.node 4
                        dsimp only [encNz] at cn
                        simp only [List.getElem?_toArray, List.getElem?_cons_succ, List.getElem?_cons_zero] at cn
                        obtain ⟨w7, hw7⟩ : ∃ w7, w6.setCell ⟨w.heap.size + 1, 4, none⟩ (.int .i64 x) = w7 := ⟨_, rfl⟩
                        rw [hw7] at hF7
                        have HLT2 := HLT
                        have HI2 := Lib.hid (show CallI w w7 p en co az mo IB (j + 1) { n with k := x } s6 u6 ks lev m s.deep R0 from
                          ⟨hF7, by have := HQ2.out.1; omega, HQ3.out.1, HQ3.out.2.1, HQ3.out.2.2, by rw [decide_eq_false (by omega)]; exact HR3.out⟩)
                        clear hu h1 h2 hF6 hF7
                        unfold intV
                        go_wp2_with fail
                        go_roundg g
                        case measure => exact Nat.lt_succ_self _
                        case rel => exact ⟨j + 1, { n with k := x }, s6, ks, by omega, HI2⟩
end Go.Proofs.YtdaokholmlpfkaaDoor
