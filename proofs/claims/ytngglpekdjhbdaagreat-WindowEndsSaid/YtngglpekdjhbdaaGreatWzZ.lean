/- Layer 11 at values: Put. -/
import Derived.Test.YtngglpekdjhbdaaGreatWzX
import Derived.Test.YtngglpekdjhbdaaGreatWzY
namespace Go.Proofs.YtngglpekdjhbdaaGreat
open Go.RowKit Go.ChangeMaps Go.Deep Tr
set_option linter.unusedSimpArgs false
set_option linter.unusedVariables false
set_option maxRecDepth 20000

theorem LvPost.kept {w W W' : World} {g : Nat} {B : List Nat} {M : Nat} {E : List (It × Int)} (h : LvPost w g B M E W) (m : Mod [] W W') : LvPost w g B M E W' := by
  obtain ⟨B', h1, h2, h3⟩ := h
  exact ⟨B', h1.kept0 m, h2.trans m.nil, h3⟩
theorem LvPost.refl {w : World} {g : Nat} {B : List Nat} {M : Nat} {E : List (It × Int)} (h : Lv w g B M E) : LvPost w g B M E w := ⟨B, h, Mod.refl _ _, fun k hk => .inl hk⟩
theorem LvPost.perm {w W : World} {g : Nat} {B : List Nat} {M : Nat} {E E' : List (It × Int)} (h : LvPost w g B M E W) (p : E.Perm E') : LvPost w g B M E' W := by
  obtain ⟨B', h1, h2, h3⟩ := h
  exact ⟨B', h1.perm p, h2, h3⟩
theorem LvPost.mono {w W : World} {g : Nat} {B : List Nat} {M M' : Nat} {E : List (It × Int)} (h : LvPost w g B M E W) (p : M ≤ M') : LvPost w g B M' E W := by
  obtain ⟨B', h1, h2, h3⟩ := h
  exact ⟨B', h1.mono p, h2, h3⟩
theorem LvPost.mod {w W : World} {g : Nat} {B : List Nat} {M : Nat} {E : List (It × Int)} (h : LvPost w g B M E W) : Mod B w W := by
  obtain ⟨B', h1, h2, h3⟩ := h
  exact h2
/-- a step on the blocks as they are now -/
theorem LvPost.step {w W W' : World} {g : Nat} {B B' : List Nat} {M : Nat} {E : List (It × Int)} (m : Mod B w W) (hB : ∀ k ∈ B', k ∈ B ∨ w.heap.size ≤ k) (h : LvPost W g B' M E W') : LvPost w g B M E W' := h.into m hB
/-- where Put stands in its loop -/
def PutZ (W0 : World) (g : Nat) (B : List Nat) (M : Nat) (a b v : Int) (XE Z : List (It × Int)) (XS : List Sg) (j : Nat) (W : World) : Prop :=
  ∃ P, (P.map sg).Perm ((XS.take j).flatMap (pieces a b v)) ∧ LvPost W0 g B M (P ++ (XE.drop j ++ Z)) W
set_option maxHeartbeats 16000000 in
theorem putZ_may {w : World} {g : Nat} {B : List Nat} {M : Nat} {E : List (It × Int)} {a b v : Int} (h : Lv w g B M E) (hok : SgOk (E.map sg)) (hM : M ≤ 90000) (hab : mayS a b) :
    Calls Tryz.prog 15 #[.pointer (some ⟨g, 0, none⟩), .agg #[.int .i64 a, .int .i64 b], valZ v] w fun e w' => e = .returned (.int .i64 0) ∧ ∃ E', LvPost w g B (max M (E.length + 3)) E' w' ∧
      ∃ X Z, (E.map sg).Perm (X ++ Z) ∧ (∀ e ∈ X, a ≤ e.t ∧ e.f ≤ b) ∧ (∀ e ∈ Z, ¬ (a ≤ e.t ∧ e.f ≤ b)) ∧ (E'.map sg).Perm (midC a b v X ++ (X.flatMap (pieces a b v) ++ Z)) := by
  have h' := h
  obtain ⟨tb, vv, gv, nv, fv, ns, fr, T, vs, fs, S, rfl, hp, hn, hvs⟩ := h'
  have hTs : T.size ≤ 100000 := by have := S.full; omega
  -- the items that are touched
  obtain ⟨X, hX⟩ : ∃ X, X = overI (a - 1) (b + 1) T := ⟨_, rfl⟩
  have hXf : X = T.items.filter (fun x => decide (a - 1 < x.t) && decide (x.f < b + 1)) := by
    rw [hX]; unfold overI; rw [if_pos (by have := hab.2.1; omega)]; rfl
  obtain ⟨Z, hZ⟩ : ∃ Z, Z = (T.items.filter (fun x => !(decide (a - 1 < x.t) && decide (x.f < b + 1)))).map (valOf vs) := ⟨_, rfl⟩
  have hEXZ : E.Perm (X.map (valOf vs) ++ Z) := by
    rw [hXf, hZ, ← List.map_append]
    exact hp.symm.trans ((List.filter_append_perm _ T.items).symm.map _)
  have hX1 : ∀ e ∈ (X.map (valOf vs)).map sg, a ≤ e.t ∧ e.f ≤ b := fun e he => by
    rw [List.map_map] at he
    obtain ⟨x, hx, rfl⟩ := List.mem_map.1 he
    rw [hXf, List.mem_filter] at hx
    have := hx.2
    simp only [Bool.and_eq_true, decide_eq_true_eq] at this
    show a ≤ x.t ∧ x.f ≤ b
    omega
  have hZ1 : ∀ e ∈ Z.map sg, ¬ (a ≤ e.t ∧ e.f ≤ b) := fun e he => by
    rw [hZ, List.map_map] at he
    obtain ⟨x, hx, rfl⟩ := List.mem_map.1 he
    rw [List.mem_filter] at hx
    have := hx.2
    simp only [Bool.not_eq_true', Bool.and_eq_false_iff, decide_eq_false_iff_not] at this
    show ¬ (a ≤ x.t ∧ x.f ≤ b)
    omega
  have hXE := hEXZ.map sg
  rw [List.map_append] at hXE
  have hdX : ((X.map (valOf vs)).map sg).Pairwise dis := (List.pairwise_append.1 (hok.perm hXE).pair).1
  have hElen := hEXZ.length_eq
  have hX0 : ∀ e ∈ (X.map (valOf vs)).map sg, e.v ≠ 0 := fun e he => ((hok.perm hXE).one e (List.mem_append.2 (.inl he))).2.2.2
  have HX0 := Lib.hid hX0
  have HPX := Lib.hid (⟨hXE, hX1, hZ1, hdX, hElen⟩ : _ ∧ _ ∧ _ ∧ _ ∧ _)
  have hEM := h.len
  have HEX := Lib.hid hEXZ
  -- the walk
  obtain ⟨kv, cv, sv, ev, hvl⟩ := valZ_form v
  have hvz : valZ v = .agg #[.int .u8 kv, .int .i64 cv, .int .i64 sv, .int .i64 ev] := by unfold valZ; rw [hvl]
  have HVZ := Lib.hid hvz
  have HVL := Lib.hid hvl
  rw [hvz]
  clear hvz hvl
  obtain ⟨A1, hA1, n1, z1, ma1⟩ := alloc_named2 w (.cells #[.int .i64 a, .int .i64 b] 39)
  obtain ⟨A2, hA2, n2, z2, ma2⟩ := alloc_named2 A1 (.cells #[.int .u8 kv, .int .i64 cv, .int .i64 sv, .int .i64 ev] 35)
  rw [z1] at n2
  have mA := ma1.trans ma2
  have bA := ma2.heap n1 (by simp)
  have CN := Lib.hid (tvNone_at (h.kept0 mA))
  have CM := Lib.hid (tlMay_at A2 a b)
  rw [decide_eq_true hab] at CM
  have s0 := cell_blk bA 0
  have s1 := cell_blk bA 1
  simp only [List.getElem?_toArray, List.getElem?_cons_succ, List.getElem?_cons_zero] at s0 s1
  have HS := Lib.hid S
  have HL := Lib.hid h
  have HMA := Lib.hid mA
  have HBA := Lib.hid bA
  have HVA := Lib.hid n2
  have HXX := Lib.hid hX
  obtain ⟨ha1, ha2, ha3⟩ := hab
  clear hX0 S h mA bA ma1 ma2 n1 n2 hX hXf hZ hEXZ hX1 hZ1 hXE hdX hElen hp hok
  go_enter Tryz.func15, Tryz.ntmps15
  go_wp2_with fail
  refine CN.out.mono ?_
  rintro e w1 ⟨rfl, rfl⟩
  go_wp2_with fail
  refine CM.out.mono ?_
  rintro e w2 ⟨rfl, m2⟩
  have hb2 := m2.heap HBA.out (by simp)
  have hv2 := m2.heap HVA.out (by simp)
  have S2 := HS.out.kept (HMA.out.trans m2) (by simp)
  have t0 := cell_blk hb2 0
  have t1 := cell_blk hb2 1
  have g0 := cell_blk S2.blk 0
  simp only [List.getElem?_toArray, List.getElem?_cons_succ, List.getElem?_cons_zero] at t0 t1 g0
  have CO := Lib.hid (overlap_at (S2.kept (((Mod.refl [] w2).drew).drew) (by simp)).tree hTs (a - 1) (b + 1))
  have HM2 := Lib.hid ((HMA.out.trans m2).trans (((Mod.refl [] w2).drew).drew))
  have HB2 := Lib.hid hb2
  have HV2 := Lib.hid hv2
  rw [← HXX.out] at CO
  clear hb2 hv2 S2 CN CM m2 s0 s1 HBA HVA HMA
  go_wp2_with fail
  refine wp_plan [] [0, 2, 1, 3, 4, 5] (by kernel_rfl) (by kernel_rfl) ?_
  simp only [wpSegs, opsOf, List.map_cons, List.map_nil, opN, List.getD_cons_zero, List.getD_cons_succ]
  go_wp2_with fail
  refine ⟨by first | trivial | rfl, ?_⟩
  go_wp2_with fail
  refine wp_plan [([0, 4, 7, 13, 1, 5, 8, 2, 6, 9, 3], 10, [1, 2, 3]), ([], 11, [])] [12] (by kernel_rfl) (by kernel_rfl) ?_
  simp only [wpSegs, opsOf, List.map_cons, List.map_nil, opN, List.getD_cons_zero, List.getD_cons_succ]
  go_wp2_with fail
  refine ⟨by first | trivial | rfl, ?_⟩
  go_wp2_with fail
  refine ⟨?ag1, ?_⟩
  case ag1 =>
    intro i hi hw
    simp only [List.mem_cons, List.not_mem_nil, or_false] at hi
    rcases hi with rfl | rfl | rfl
    all_goals (simp only [opN, List.getD_cons_zero, List.getD_cons_succ, slotOf]; go_simp)
  go_wp2_with fail
  refine ⟨by first | trivial | rfl, ?_⟩
  go_wp2_with fail
  refine CO.out.mono ?_
  rintro e w3 ⟨ov, rfl, oO, mO⟩
  obtain ⟨oa, oc, rfl⟩ := oO.lens
  have L3 := Lib.hid (HL.out.kept0 (HM2.out.trans mO))
  have HSW := Lib.hid HM2.out.size
  have HB3 := Lib.hid (mO.heap (show w2.drew.drew.heap[w.heap.size]? = _ from HB2.out) (by simp))
  have HV3 := Lib.hid (mO.heap (show w2.drew.drew.heap[w.heap.size + 1]? = _ from HV2.out) (by simp))
  have HO3 := Lib.hid oO
  have HM3 := Lib.hid (HM2.out.trans mO)
  have HBW := Lib.hid HL.out.lt
  have hXl : X.length ≤ 90000 := by have := HPX.out.2.2.2.2; rw [List.length_append, List.length_map] at this; omega
  have HPP := Lib.hid (show PutZ w3 g (lnB g tb vv gv nv fv) (max M (E.length + 3)) a b v (X.map (valOf vs)) Z ((X.map (valOf vs)).map sg) 0 w3 from by
    exact ⟨[], by simp, LvPost.refl ((L3.out.perm HEX.out).mono (by omega))⟩)
  clear oO mO CO t0 t1 g0 HL HM2 HB2 HV2 HS
  go_wp2_with fail
  refine ⟨again_nil, ?_⟩
  go_wp2_with fail
  refine ⟨by first | trivial | rfl, ?_⟩
  go_wp2_with fail
  obtain ⟨XE, hXE⟩ : ∃ XE, XE = X.map (valOf vs) := ⟨_, rfl⟩
  rw [← hXE] at HPP HPX HEX HX0
  obtain ⟨XS, hXS⟩ : ∃ XS, XS = XE.map sg := ⟨_, rfl⟩
  rw [← hXS] at HPP HPX HX0
  have HXS := Lib.hid hXS
  have HXE := Lib.hid hXE
  clear hXS
  have hlXE : XE.length = X.length := by rw [hXE, List.length_map]
  clear hXE
  go_loopw [7, 8, 36] (fun s7 s8 s36 W => ∃ j : Nat, j ≤ X.length ∧ s36 = .int .i64 j ∧ s7 = .int .i64 (frm a v (XS.take j)) ∧ s8 = .int .i64 (too b v (XS.take j)) ∧ Hid (PutZ w3 g (lnB g tb vv gv nv fv) (max M (E.length + 3)) a b v XE Z XS j W)) (fun _ _ s36 _ => X.length - (intOf s36).toNat)
  case atStart => exact ⟨0, by omega, rfl, rfl, rfl, HPP⟩
  case round =>
    obtain ⟨j, hj, rfl, rfl, rfl, hP⟩ := hrel
    obtain ⟨P, hPp, hPl⟩ := hP.out
    have hmW := hPl.mod
    have hBs : w.heap.size ∉ lnB g tb vv gv nv fv := fun hm => by have := HBW.out _ hm; omega
    have hbW := hmW.heap HB3.out hBs
    have hVs : w.heap.size + 1 ∉ lnB g tb vv gv nv fv := fun hm => by have := HBW.out _ hm; omega
    have hvW := hmW.heap HV3.out hVs
    have oW := HO3.out.kept hmW (fun k hk hm => by
      have h1 := (World.ownsRow.lt HO3.out k hk).1
      have h2 := HBW.out k hm
      have h3 := HM3.out.size
      have h4 : w.heap.size ≤ w2.drew.drew.heap.size := HSW.out
      omega)
    by_cases hlt : j < X.length
    · obtain ⟨x, hx⟩ : ∃ x, X[j]? = some x := ⟨X[j], List.getElem?_eq_getElem hlt⟩
      obtain ⟨xv, hxv⟩ : ∃ xv, valOf vs x = (x, xv) := ⟨_, rfl⟩
      have hXV : xv ≠ 0 := HX0.out (sg (x, xv)) (by rw [HXS.out, HXE.out, ← hxv]; exact List.mem_map_of_mem (List.mem_map_of_mem (List.mem_of_getElem? hx)))
      have HXV := Lib.hid hXV
      clear hXV
      have hXEj : XE[j]? = some (x, xv) := by rw [HXE.out, List.getElem?_map, hx, ← hxv]; rfl
      have hdr : XE.drop j = (x, xv) :: XE.drop (j + 1) := by
        obtain ⟨h1, h2⟩ := List.getElem?_eq_some_iff.1 hXEj
        rw [List.drop_eq_getElem_cons h1, h2]
      have htk : XS.take (j + 1) = XS.take j ++ [sg (x, xv)] := by
        have hXSj : XS[j]? = some (sg (x, xv)) := by rw [HXS.out, List.getElem?_map, hXEj]; rfl
        obtain ⟨h1, h2⟩ := List.getElem?_eq_some_iff.1 hXSj
        rw [List.take_succ_eq_append_getElem h1, h2]
      obtain ⟨q, cap, heq, hq, hcap⟩ := oW.at_ hx
      simp only [Value.slice.injEq] at heq
      obtain ⟨rfl, _, rfl⟩ := heq
      obtain ⟨f, t, id⟩ := x
      have hxg : X[j] = ⟨f, t, id⟩ := by rw [List.getElem?_eq_getElem hlt] at hx; simpa using hx
      have hrow : wr.rangeAt q (j * 3) [.int .i64 f, .int .i64 t, .int .i64 id] := fun jj u hu => (oW.cell encIt_len hlt (j := jj) (by have := (List.getElem?_eq_some_iff.1 hu).1; simpa using this) (u := u) (by rw [hxg]; exact hu)).1
      have HLI := Lib.hid (run_loadAt_mid (P := Tryz.prog) _ q (j * 3) 70 _ _ hrow Tryz.underlying70 rfl (by kernel_rfl))
      have mI := (Mod.refl [] wr).alloc (.cells #[.int .i64 f, .int .i64 t, .int .i64 id] 70)
      have bI := heap_alloc_new wr (.cells #[.int .i64 f, .int .i64 t, .int .i64 id] 70)
      have i0 := cell_blk bI 0
      have i1 := cell_blk bI 1
      have i2 := cell_blk bI 2
      simp only [List.getElem?_toArray, List.getElem?_cons_succ, List.getElem?_cons_zero] at i0 i1 i2
      obtain ⟨B1, L1, M1, F1⟩ := hPl
      have L1I := (L1.kept0 mI).perm (show (P ++ (XE.drop j ++ Z)).Perm ((⟨f, t, id⟩, xv) :: (P ++ (XE.drop (j + 1) ++ Z))) by rw [hdr]; exact List.perm_middle)
      have CD := Lib.hid (dropZ_at L1I (by omega))
      simp only [itV] at CD
      have hj0 : decide ((j : Int) < 0) = false := decide_eq_false (by omega)
      have hj1 : decide ((X.length : Int) ≤ (j : Int)) = false := decide_eq_false (by omega)
      have hj2 : decide ((j : Int) < (X.length : Int)) = true := decide_eq_true (by omega)
      have HSI := Lib.hid (show wr.heap.size < (wr.alloc (.cells #[.int .i64 f, .int .i64 t, .int .i64 id] 70)).heap.size by simp)
      have HBI := Lib.hid bI
      have HM1 := Lib.hid (Mod.into' M1 mI (by simp))
      have HF1 := Lib.hid F1
      have HLT := Lib.hid L1.lt
      have HPp := Lib.hid hPp
      have HTK := Lib.hid htk
      clear oW hrow mI bI L1 M1 F1 L1I hPp htk hdr hXEj hx hxv hmW hq hcap hxg hbW hvW
      go_wp2_with ((with_reducible refine xLoadAt rfl HLI.out ?_ ?_ ?_); exact rfl; exact rfl)
      refine CD.out.mono ?_
      rintro e w4 ⟨rfl, B4, L4, M4, F4⟩
      obtain ⟨kx, cx, sx, ex, hvx⟩ := valZ_form xv
      rw [show valZ xv = .agg #[.int .u8 kx, .int .i64 cx, .int .i64 sx, .int .i64 ex] by unfold valZ; rw [hvx]]
      obtain ⟨W4, hW4, n4, z4, m4⟩ := alloc_named2 w4 (.cells #[.int .u8 kx, .int .i64 cx, .int .i64 sx, .int .i64 ex] 35)
      have L4' := L4.kept0 m4
      have PF := Lib.hid (LvPost.step HM1.out HF1.out ⟨B4, L4', M4.trans m4.nil, F4⟩)
      have hne4 : ∀ k ∈ B4, k ≠ wr.heap.size ∧ k ≠ w4.heap.size ∧ (k ∈ lnB g tb vv gv nv fv ∨ w3.heap.size ≤ k) := fun k hk => by
        have h3 := HM1.out.size
        have h5 := HSI.out
        have h6 := L4.lt k hk
        rcases F4 k hk with h | h
        · have h4 := HLT.out _ h
          exact ⟨by omega, by omega, HF1.out k h⟩
        · exact ⟨by omega, by omega, .inr (by omega)⟩
      have HNE4 := Lib.hid hne4
      have hi4 := m4.heap (M4.heap HBI.out (fun hm => by have := HLT.out _ hm; omega)) (by simp)
      have hb4 := PF.out.mod.heap HB3.out hBs
      have hv4 := PF.out.mod.heap HV3.out hVs
      have k0 := cell_blk hi4 0
      have k1 := cell_blk hi4 1
      have s0 := cell_blk hb4 0
      have s1 := cell_blk hb4 1
      have y0 := cell_blk n4 0
      have y1 := cell_blk n4 1
      have y2 := cell_blk n4 2
      have y3 := cell_blk n4 3
      have v0 := cell_blk hv4 0
      have v1 := cell_blk hv4 1
      have v2 := cell_blk hv4 2
      have v3 := cell_blk hv4 3
      simp only [List.getElem?_toArray, List.getElem?_cons_succ, List.getElem?_cons_zero] at k0 k1 s0 s1 y0 y1 y2 y3 v0 v1 v2 v3
      have HI4 := Lib.hid hi4
      have HY4 := Lib.hid n4
      have HL4 := Lib.hid L4'
      have HZ4 := Lib.hid z4
      have HVX := Lib.hid hvx
      have HZX := Lib.hid (show valZ xv = .agg #[.int .u8 kx, .int .i64 cx, .int .i64 sx, .int .i64 ex] by unfold valZ; rw [hvx])
      have HWW := Lib.hid (show wr.heap.size < w4.heap.size from by have h3 := M4.size; have h4 := HSI.out; omega)
      have HW4 := Lib.hid hW4
      clear CD hne4 L4 L4' M4 F4 hi4 hb4 hv4 n4 m4 z4 hvx i0 i1 i2 HM1 HF1 HBI HLT HSI
      by_cases hvv : xv = v
      · have he : (⟨kx, cx, sx, ex⟩ : Vl) = ⟨kv, cv, sv, ev⟩ := by rw [← HVX.out, ← HVL.out, hvv]
        obtain ⟨rfl, rfl, rfl, rfl⟩ : kx = kv ∧ cx = cv ∧ sx = sv ∧ ex = ev := by simpa using he
        have HF := Lib.hid (show frm a v (XS.take (j + 1)) = min (frm a v (XS.take j)) f from by
          rw [HTK.out, frm_snoc, if_pos (show (sg (⟨f, t, id⟩, xv)).v = v from hvv)]; rfl)
        have HT := Lib.hid (show too b v (XS.take (j + 1)) = max (too b v (XS.take j)) t from by
          rw [HTK.out, too_snoc, if_pos (show (sg (⟨f, t, id⟩, xv)).v = v from hvv)]; rfl)
        have HN := Lib.hid (show PutZ w3 g (lnB g tb vv gv nv fv) (max M (E.length + 3)) a b v XE Z XS (j + 1) W4.drew from ⟨P, by
          rw [HTK.out, List.flatMap_append]
          simp only [List.flatMap_singleton]
          rw [show pieces a b v (sg (⟨f, t, id⟩, xv)) = [] from if_pos hvv, List.append_nil]
          exact HPp.out, PF.out.kept ((Mod.refl [] W4).drew)⟩)
        clear PF HI4 HY4
        generalize frm a v (XS.take j) = fj at HF ⊢
        generalize too b v (XS.take j) = tj at HT ⊢
        go_wp2_with fail
        refine wp_sched (by kernel_rfl) (sched_either 3 7 (by decide) (sched_either 7 8 (by decide) (sched_plan2 [([0, 1, 4, 5, 2, 6], 3, [5, 6]), ([], 7, []), ([], 8, []), ([], 9, [])] [] (by kernel_rfl) ?L1) (sched_plan2 [([0, 1, 4, 5, 2, 6], 3, [5, 6]), ([], 8, [5, 6]), ([], 7, []), ([], 9, [])] [] (by kernel_rfl) ?L2)) (sched_plan1 [([0, 1, 4, 5, 2, 6], 7, [1, 2]), ([], 3, [5, 6]), ([], 8, [5, 6]), ([], 9, [])] [] (by kernel_rfl) ?L3))
        case L1 =>
          simp only [wpSegs, opsOf, List.map_cons, List.map_nil, opN, List.getD_cons_zero, List.getD_cons_succ]
          go_wp2_with fail
          refine ⟨by first | trivial | rfl, ?_⟩
          go_wp2_with ((with_reducible apply xMin rfl); exact rfl; exact rfl; exact rfl)
          refine ⟨?aL11, ?_⟩
          case aL11 =>
            intro i hi hw
            simp only [List.mem_cons, List.not_mem_nil, or_false] at hi
            rcases hi with rfl | rfl
            all_goals (simp only [opN, List.getD_cons_zero, List.getD_cons_succ, slotOf]; go_simp)
          go_wp2_with fail
          refine ⟨by first | trivial | rfl, ?_⟩
          go_wp2_with ((with_reducible apply xMax rfl); exact rfl; exact rfl; exact rfl)
          refine ⟨again_nil, ?_⟩
          go_wp2_with fail
          refine ⟨by first | trivial | rfl, ?_⟩
          go_wp2_with fail
          refine ⟨again_nil, ?_⟩
          go_wp2_with fail
          refine ⟨by first | trivial | rfl, ?_⟩
          go_wp2_with fail
          refine ⟨again_nil, ?_⟩
          go_wp2_with fail
          refine ⟨by first | trivial | rfl, ?_⟩
          go_wp2_with fail
          go_roundw
          case rel => exact ⟨j + 1, by omega, by go_num, by rw [HF.out], by rw [HT.out], HN⟩
          case measure => simp [intOf]; omega
        case L2 =>
          simp only [wpSegs, opsOf, List.map_cons, List.map_nil, opN, List.getD_cons_zero, List.getD_cons_succ]
          go_wp2_with fail
          refine ⟨by first | trivial | rfl, ?_⟩
          go_wp2_with ((with_reducible apply xMin rfl); exact rfl; exact rfl; exact rfl)
          refine ⟨?aL21, ?_⟩
          case aL21 =>
            intro i hi hw
            simp only [List.mem_cons, List.not_mem_nil, or_false] at hi
            rcases hi with rfl | rfl
            all_goals (simp only [opN, List.getD_cons_zero, List.getD_cons_succ, slotOf]; go_simp)
          go_wp2_with fail
          refine ⟨by first | trivial | rfl, ?_⟩
          go_wp2_with fail
          refine ⟨?aL22, ?_⟩
          case aL22 =>
            intro i hi hw
            simp only [List.mem_cons, List.not_mem_nil, or_false] at hi
            rcases hi with rfl | rfl
            all_goals (simp only [opN, List.getD_cons_zero, List.getD_cons_succ, slotOf]; go_simp)
          go_wp2_with fail
          refine ⟨by first | trivial | rfl, ?_⟩
          go_wp2_with ((with_reducible apply xMax rfl); exact rfl; exact rfl; exact rfl)
          refine ⟨again_nil, ?_⟩
          go_wp2_with fail
          refine ⟨by first | trivial | rfl, ?_⟩
          go_wp2_with fail
          refine ⟨again_nil, ?_⟩
          go_wp2_with fail
          refine ⟨by first | trivial | rfl, ?_⟩
          go_wp2_with fail
          go_roundw
          case rel => exact ⟨j + 1, by omega, by go_num, by rw [HF.out], by rw [HT.out], HN⟩
          case measure => simp [intOf]; omega
        case L3 =>
          simp only [wpSegs, opsOf, List.map_cons, List.map_nil, opN, List.getD_cons_zero, List.getD_cons_succ]
          go_wp2_with fail
          refine ⟨by first | trivial | rfl, ?_⟩
          go_wp2_with ((with_reducible apply xMax rfl); exact rfl; exact rfl; exact rfl)
          refine ⟨?aL31, ?_⟩
          case aL31 =>
            intro i hi hw
            simp only [List.mem_cons, List.not_mem_nil, or_false] at hi
            rcases hi with rfl | rfl
            all_goals (simp only [opN, List.getD_cons_zero, List.getD_cons_succ, slotOf]; go_simp)
          go_wp2_with fail
          refine ⟨by first | trivial | rfl, ?_⟩
          go_wp2_with ((with_reducible apply xMin rfl); exact rfl; exact rfl; exact rfl)
          refine ⟨?aL32, ?_⟩
          case aL32 =>
            intro i hi hw
            simp only [List.mem_cons, List.not_mem_nil, or_false] at hi
            rcases hi with rfl | rfl
            all_goals (simp only [opN, List.getD_cons_zero, List.getD_cons_succ, slotOf]; go_simp)
          go_wp2_with fail
          refine ⟨by first | trivial | rfl, ?_⟩
          go_wp2_with fail
          refine ⟨?aL33, ?_⟩
          case aL33 =>
            intro i hi hw
            simp only [List.mem_cons, List.not_mem_nil, or_false] at hi
            rcases hi with rfl | rfl
            all_goals (simp only [opN, List.getD_cons_zero, List.getD_cons_succ, slotOf]; go_simp)
          go_wp2_with fail
          refine ⟨by first | trivial | rfl, ?_⟩
          go_wp2_with fail
          refine ⟨again_nil, ?_⟩
          go_wp2_with fail
          refine ⟨by first | trivial | rfl, ?_⟩
          go_wp2_with fail
          go_roundw
          case rel => exact ⟨j + 1, by omega, by go_num, by rw [HF.out], by rw [HT.out], HN⟩
          case measure => simp [intOf]; omega
      · have hnn : ¬ (kx = kv ∧ cx = cv ∧ sx = sv ∧ ex = ev) := by
          rintro ⟨h1, h2, h3, h4⟩
          exact hvv (vl_inj.1 (by rw [HVX.out, HVL.out, h1, h2, h3, h4]))
        have h4 : ¬ kx = kv ∨ (kx = kv ∧ ¬ cx = cv) ∨ (kx = kv ∧ cx = cv ∧ ¬ sx = sv) ∨ (kx = kv ∧ cx = cv ∧ sx = sv ∧ ¬ ex = ev) := by omega
        clear hnn
        have hv0 : xv ≠ 0 := HXV.out
        have hPlen : P.length ≤ 2 := by
          have := HPp.out.length_eq
          rw [List.length_map] at this
          rw [this]
          exact take_pieces_len HPX.out.2.1 HPX.out.2.2.2.1 j
        have hFlen : (P ++ (XE.drop (j + 1) ++ Z)).length ≤ E.length + 1 := by
          have := HPX.out.2.2.2.2
          simp only [List.length_append, List.length_drop] at this ⊢
          omega
        have HFL := Lib.hid hFlen
        have cl := layZ_any (f := f) (t := min t a) (v := xv) HL4.out (by omega)
        rw [HZX.out] at cl
        have CL := Lib.hid cl
        clear cl HL4 hFlen hPlen
        rcases h4 with h4 | ⟨rfl, h4⟩ | ⟨rfl, rfl, h4⟩ | ⟨rfl, rfl, rfl, h4⟩
        all_goals
          go_wp2_with ((with_reducible apply xMin rfl); exact rfl; exact rfl; exact rfl)
          refine CL.out.mono ?_
          rintro e w5 ⟨rfl, F1, hF1, B5, L5, M5, F5⟩
          have hl1 := hF1.len
          have hmx : max (max M (E.length + 3)) F1.length = max M (E.length + 3) := by have := HFL.out; omega
          rw [hmx] at L5
          have hi5 := M5.heap HI4.out (fun hm => (HNE4.out _ hm).1 rfl)
          have hy5 := M5.heap HY4.out (fun hm => (HNE4.out _ hm).2.1 rfl)
          have h45 := M5.size
          have hw4 := lt_of_heap HI4.out
          have PF5 := Lib.hid (LvPost.step PF.out.mod (fun k hk => (HNE4.out k hk).2.2) ⟨B5, L5, M5, F5⟩)
          have hne5 : ∀ k ∈ B5, k ∈ lnB g tb vv gv nv fv ∨ w3.heap.size ≤ k := fun k hk => by
            have h3 := PF.out.mod.size
            rcases F5 k hk with h | h
            · exact (HNE4.out k h).2.2
            · exact .inr (by omega)
          have HNE5 := Lib.hid hne5
          have hb5 := PF5.out.mod.heap HB3.out hBs
          have e0 := cell_blk hy5 0
          have e1 := cell_blk hy5 1
          have e2 := cell_blk hy5 2
          have e3 := cell_blk hy5 3
          have n0 := cell_blk hi5 0
          have n1 := cell_blk hi5 1
          have r0 := cell_blk hb5 0
          have r1 := cell_blk hb5 1
          simp only [List.getElem?_toArray, List.getElem?_cons_succ, List.getElem?_cons_zero] at n0 n1 r0 r1 e0 e1 e2 e3
          have cl2 := layZ_any (f := max f b) (t := t) (v := xv) L5 (by omega)
          rw [HZX.out] at cl2
          have CL2 := Lib.hid cl2
          have HF1' := Lib.hid hF1
          have HL1 := Lib.hid hl1
          clear cl2 CL hF1 L5 M5 F5 hi5 hy5 hb5 hne5 hl1 hmx h45 hw4
          go_wp2_with ((with_reducible apply xMax rfl); exact rfl; exact rfl; exact rfl)
          refine CL2.out.mono ?_
          rintro e w6 ⟨rfl, F2, hF2, P6⟩
          have HN := Lib.hid (show PutZ w3 g (lnB g tb vv gv nv fv) (max M (E.length + 3)) a b v XE Z XS (j + 1) w6 from by
            have hl2 := hF2.len
            have hl1 := HL1.out
            have hfl := HFL.out
            have hmx : max (max M (E.length + 3)) F2.length = max M (E.length + 3) := by omega
            rw [hmx] at P6
            obtain ⟨Q, hQ, hQp⟩ := laid_two hv0 hvv HF1'.out hF2
            refine ⟨Q ++ P, ?_, ?_⟩
            · rw [HTK.out, List.flatMap_append]
              simp only [List.flatMap_singleton]
              rw [List.map_append]
              exact (List.perm_append_comm).trans (HPp.out.append hQp)
            · rw [hQ, ← List.append_assoc] at P6
              exact LvPost.step PF5.out.mod (fun k hk => HNE5.out k hk) P6)
          have HF := Lib.hid (show frm a v (XS.take (j + 1)) = frm a v (XS.take j) from by
            rw [HTK.out, frm_snoc, if_neg (show ¬ (sg (⟨f, t, id⟩, xv)).v = v from hvv)])
          have HT := Lib.hid (show too b v (XS.take (j + 1)) = too b v (XS.take j) from by
            rw [HTK.out, too_snoc, if_neg (show ¬ (sg (⟨f, t, id⟩, xv)).v = v from hvv)])
          clear PF5 hF2 P6 CL2 PF HI4 HY4 HNE5 HNE4
          go_wp2_with fail
          go_roundw
          case rel => exact ⟨j + 1, by omega, by go_num, by rw [HF.out], by rw [HT.out], HN⟩
          case measure => simp [intOf]; omega
    · have hje : j = X.length := by omega
      have hj2 : decide ((j : Int) < (X.length : Int)) = false := decide_eq_false (by omega)
      have htE : XS.take j = XS := List.take_of_length_le (by rw [HXS.out, List.length_map]; omega)
      have hdE : XE.drop j = [] := List.drop_of_length_le (by omega)
      rw [htE] at hPp ⊢
      rw [hdE, List.nil_append] at hPl
      obtain ⟨B1, L1, M1, F1⟩ := hPl
      have cl := layZ_any (f := frm a v XS) (t := too b v XS) (v := v) L1 (by omega)
      rw [HVZ.out] at cl
      have CL := Lib.hid cl
      have v0 := cell_blk hvW 0
      have v1 := cell_blk hvW 1
      have v2 := cell_blk hvW 2
      have v3 := cell_blk hvW 3
      simp only [List.getElem?_toArray, List.getElem?_cons_succ, List.getElem?_cons_zero] at v0 v1 v2 v3
      have hPlen : P.length ≤ 2 := by
        have := hPp.length_eq
        rw [List.length_map] at this
        rw [this]
        exact pieces_len HPX.out.2.1 HPX.out.2.2.2.1
      have HPL := Lib.hid hPlen
      have HM1 := Lib.hid M1
      have HF1 := Lib.hid F1
      have HPp := Lib.hid hPp
      clear cl L1 M1 F1 hPp oW hbW hvW hmW hPlen htE hdE hP
      subst hje
      go_wp2_with fail
      refine CL.out.mono ?_
      rintro e w5 ⟨rfl, F2, hF2, P5⟩
      have HEND := Lib.hid (show ∃ E', LvPost w g (lnB g tb vv gv nv fv) (max M (E.length + 3)) E' w5 ∧ ∃ X Z, (E.map sg).Perm (X ++ Z) ∧ (∀ e ∈ X, a ≤ e.t ∧ e.f ≤ b) ∧ (∀ e ∈ Z, ¬ (a ≤ e.t ∧ e.f ≤ b)) ∧ (E'.map sg).Perm (midC a b v X ++ (X.flatMap (pieces a b v) ++ Z)) from by
        have hl2 := hF2.len
        have hpl := HPL.out
        have hel := HPX.out.2.2.2.2
        simp only [List.length_append] at hl2 hel
        have hmx : max (max M (E.length + 3)) F2.length = max M (E.length + 3) := by omega
        rw [hmx] at P5
        refine ⟨F2, (LvPost.step HM1.out HF1.out P5).into HM3.out.nil (fun k hk => .inl hk), XS, Z.map sg, HPX.out.1, HPX.out.2.1, HPX.out.2.2.1, ?_⟩
        rcases hF2 with ⟨c1, c2, id, rfl⟩ | ⟨c, rfl⟩
        · unfold midC
          rw [if_pos ⟨c1, c2⟩, List.map_cons, List.map_append]
          exact (HPp.out.append (List.Perm.refl _)).cons _
        · unfold midC
          rw [if_neg c, List.map_append]
          exact HPp.out.append (List.Perm.refl _))
      clear CL hF2 P5 HM1 HF1
      go_wp2_with fail
      go_ret
      exact ⟨rfl, HEND.out⟩
end Go.Proofs.YtngglpekdjhbdaaGreat
