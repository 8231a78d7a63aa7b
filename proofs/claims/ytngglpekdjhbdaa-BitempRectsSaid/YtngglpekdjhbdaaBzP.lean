/- Layer 11: a timeline by the value that it has on each day: Put, At. -/
import Derived.Test.YtngglpekdjhbdaaMinMax
import Derived.Test.YtngglpekdjhbdaaBzO
import Derived.Test.YtngglpekdjhbdaaBzB
namespace Go.Proofs.Ytngglpekdjhbdaa
open Go.RowKit Go.ChangeMaps Go.Deep Tr
set_option linter.unusedSimpArgs false
set_option linter.unusedVariables false
set_option maxRecDepth 20000

theorem tlNone_at {w : World} {g : Nat} {B : List Nat} {M : Nat} {E : List (It × Int)} (h : Ln w g B M E) : Calls Try.prog 41 #[.pointer (some ⟨g, 0, none⟩)] w fun e w' => e = .returned (.bool false) ∧ w' = w := by
  obtain ⟨b, vv, gv, nv, fv, ns, fr, T, vs, fs, S, rfl, hp, hn, hv⟩ := h
  have c0 := cell_blk S.blk 0
  simp only [List.getElem?_toArray, List.getElem?_cons_zero] at c0
  clear S hp
  go_enter Try.func41, Try.ntmps41
  go_wp2_with fail
  go_ret
  exact ⟨rfl, rfl⟩
/-- the days of a span that may be -/
def mayS (a b : Int) : Prop := 1 ≤ a ∧ a < b ∧ b ≤ 3652060
instance (a b : Int) : Decidable (mayS a b) := by unfold mayS; exact inferInstance
theorem tlMay_at (w : World) (a b : Int) : Calls Try.prog 58 #[.agg #[.int .i64 a, .int .i64 b]] w fun e w' => e = .returned (.bool (decide (mayS a b))) ∧ Mod [] w w' := by
  have hm := Lib.hid ((Mod.refl [] w).alloc (.cells #[.int .i64 a, .int .i64 b] 24))
  by_cases h1 : 1 ≤ a
  · by_cases h2 : a < b
    · by_cases h3 : b ≤ 3652060
      · have HD := Lib.hid (show decide (mayS a b) = true from decide_eq_true ⟨h1, h2, h3⟩)
        go_enter Try.func58, Try.ntmps58
        go_wp2_with fail
        go_ret
        exact ⟨by rw [HD.out]; rfl, hm.out⟩
      · have HD := Lib.hid (show decide (mayS a b) = false from decide_eq_false fun h => h3 h.2.2)
        go_enter Try.func58, Try.ntmps58
        go_wp2_with fail
        go_ret
        exact ⟨by rw [HD.out]; rfl, hm.out⟩
    · have HD := Lib.hid (show decide (mayS a b) = false from decide_eq_false fun h => h2 h.2.1)
      go_enter Try.func58, Try.ntmps58
      go_wp2_with fail
      go_ret
      exact ⟨by rw [HD.out]; rfl, hm.out⟩
  · have HD := Lib.hid (show decide (mayS a b) = false from decide_eq_false fun h => h1 h.1)
    go_enter Try.func58, Try.ntmps58
    go_wp2_with fail
    go_ret
    exact ⟨by rw [HD.out]; rfl, hm.out⟩
theorem ln_new {w : World} {b : Nat} (S : AvlSt w b (.slice none 0 0) (.slice none 0 0) [] [] .nil) (hb : b < w.heap.size) : Ln (w.alloc (.cells #[.pointer (some ⟨b, 0, none⟩), .slice none 0 0, .slice none 0 0] 90)) w.heap.size [w.heap.size, b] 0 [] := by
  have m := (Mod.refl [] w).alloc (.cells #[.pointer (some ⟨b, 0, none⟩), .slice none 0 0, .slice none 0 0] 90)
  refine ⟨b, .slice none 0 0, .slice none 0 0, .slice none 0 0, .slice none 0 0, [], [], .nil, [], [], ⟨heap_alloc_new w _, OwnR.nil_ _ _, OwnR.nil_ _ _, ⟨S.tree.kept0 m, S.rep, S.avl, S.srt, S.nodup, S.free, S.fnd, S.full⟩, ?_, ?_, ?_, ?_, ?_, ?_, ?_⟩, ?_, ?_, ?_, ?_⟩
  · simp [lnB, blk, Value.ownBlock]; omega
  all_goals simp [items, Tr.size, lnB, blk, Value.ownBlock]
theorem tlNew_at (w : World) : Calls Try.prog 28 #[] w fun e w' => e = .returned (.pointer (some ⟨w.heap.size + 1, 0, none⟩)) ∧ Ln w' (w.heap.size + 1) [w.heap.size + 1, w.heap.size] 0 [] ∧ Mod [] w w' := by
  have HA := Lib.hid (avNew_at w)
  have m1 := (Mod.refl [] w).alloc (.cells #[.int .i64 1000000, .slice none 0 0, .slice none 0 0, .int .i64 (-1), .int .i64 0] 126)
  have h1 := ln_new (avNew_st w) (by simp)
  have HM := Lib.hid (m1.alloc (.cells #[.pointer (some ⟨w.heap.size, 0, none⟩), .slice none 0 0, .slice none 0 0] 90))
  simp only [World.size_alloc] at h1
  have HL := Lib.hid h1
  clear h1 m1
  go_enter Try.func28, Try.ntmps28
  go_wp2_with fail
  refine HA.out.mono ?_
  rintro e w1 ⟨rfl, rfl⟩
  go_wp2_with fail
  go_ret
  exact ⟨rfl, HL.out, HM.out⟩
end Go.Proofs.Ytngglpekdjhbdaa
namespace Go.Proofs.Ytngglpekdjhbdaa
open Go.RowKit Go.ChangeMaps Go.Deep Tr
set_option linter.unusedSimpArgs false
set_option linter.unusedVariables false
set_option maxRecDepth 20000

def sg (e : It × Int) : Sg := ⟨e.1.f, e.1.t, e.2⟩
theorem LnPost.kept {w W W' : World} {g : Nat} {B : List Nat} {M : Nat} {E : List (It × Int)} (h : LnPost w g B M E W) (m : Mod [] W W') : LnPost w g B M E W' := by
  obtain ⟨B', h1, h2, h3⟩ := h
  exact ⟨B', h1.kept0 m, h2.trans m.nil, h3⟩
theorem LnPost.refl {w : World} {g : Nat} {B : List Nat} {M : Nat} {E : List (It × Int)} (h : Ln w g B M E) : LnPost w g B M E w := ⟨B, h, Mod.refl _ _, fun k hk => .inl hk⟩
theorem LnPost.perm {w W : World} {g : Nat} {B : List Nat} {M : Nat} {E E' : List (It × Int)} (h : LnPost w g B M E W) (p : E.Perm E') : LnPost w g B M E' W := by
  obtain ⟨B', h1, h2, h3⟩ := h
  exact ⟨B', h1.perm p, h2, h3⟩
theorem LnPost.mono {w W : World} {g : Nat} {B : List Nat} {M M' : Nat} {E : List (It × Int)} (h : LnPost w g B M E W) (p : M ≤ M') : LnPost w g B M' E W := by
  obtain ⟨B', h1, h2, h3⟩ := h
  exact ⟨B', h1.mono p, h2, h3⟩
theorem LnPost.mod {w W : World} {g : Nat} {B : List Nat} {M : Nat} {E : List (It × Int)} (h : LnPost w g B M E W) : Mod B w W := by
  obtain ⟨B', h1, h2, h3⟩ := h
  exact h2
/-- a step on the blocks as they are now -/
theorem LnPost.step {w W W' : World} {g : Nat} {B B' : List Nat} {M : Nat} {E : List (It × Int)} (m : Mod B w W) (hB : ∀ k ∈ B', k ∈ B ∨ w.heap.size ≤ k) (h : LnPost W g B' M E W') : LnPost w g B M E W' := h.into m hB
/-- where Put stands in its loop -/
def PutSt (W0 : World) (g : Nat) (B : List Nat) (M : Nat) (a b v : Int) (XE Z : List (It × Int)) (XS : List Sg) (j : Nat) (W : World) : Prop :=
  ∃ P, (P.map sg).Perm ((XS.take j).flatMap (pieces a b v)) ∧ LnPost W0 g B M (P ++ (XE.drop j ++ Z)) W
theorem frm_snoc (a v : Int) (X : List Sg) (e : Sg) : frm a v (X ++ [e]) = if e.v = v then min (frm a v X) e.f else frm a v X := by simp [frm]
theorem too_snoc (a v : Int) (X : List Sg) (e : Sg) : too a v (X ++ [e]) = if e.v = v then max (too a v X) e.t else too a v X := by simp [too]
theorem take_pieces_len {a b v : Int} {XS : List Sg} (hX : ∀ e ∈ XS, a ≤ e.t ∧ e.f ≤ b) (hd : XS.Pairwise dis) (j : Nat) : ((XS.take j).flatMap (pieces a b v)).length ≤ 2 := by
  exact pieces_len (fun e he => hX e (List.mem_of_mem_take he)) (List.Pairwise.sublist (List.take_sublist _ _) hd)
theorem laidE.len {E E' : List (It × Int)} {f t v : Int} (h : laidE E f t v E') : E'.length ≤ E.length + 1 := by
  rcases h with ⟨_, _, id, rfl⟩ | ⟨_, rfl⟩
  · simp
  · omega
theorem laid_two {F F1 F2 : List (It × Int)} {f t a b v xv : Int} (hv0 : xv ≠ 0) (hvv : xv ≠ v) (h1 : laidE F f (min t a) xv F1) (h2 : laidE F1 (max f b) t xv F2) : ∃ Q, F2 = Q ++ F ∧ (Q.map sg).Perm (pieces a b v ⟨f, t, xv⟩) := by
  unfold pieces
  rw [if_neg (show ¬ xv = v from hvv)]
  dsimp only
  rcases h1 with ⟨c1, _, i1, rfl⟩ | ⟨c1, rfl⟩ <;> rcases h2 with ⟨c2, _, i2, rfl⟩ | ⟨c2, rfl⟩
  · refine ⟨[(⟨max f b, t, i2⟩, xv), (⟨f, min t a, i1⟩, xv)], rfl, ?_⟩
    rw [if_pos c1, if_pos c2]
    exact List.Perm.swap _ _ _
  · refine ⟨[(⟨f, min t a, i1⟩, xv)], rfl, ?_⟩
    rw [if_pos c1, if_neg (fun h => c2 ⟨h, hv0⟩)]
    exact List.Perm.refl _
  · refine ⟨[(⟨max f b, t, i2⟩, xv)], rfl, ?_⟩
    rw [if_neg (fun h => c1 ⟨h, hv0⟩), if_pos c2]
    exact List.Perm.refl _
  · refine ⟨[], rfl, ?_⟩
    rw [if_neg (fun h => c1 ⟨h, hv0⟩), if_neg (fun h => c2 ⟨h, hv0⟩)]
    exact List.Perm.refl _
set_option maxHeartbeats 4000000 in
theorem put_may {w : World} {g : Nat} {B : List Nat} {M : Nat} {E : List (It × Int)} {a b v : Int} (h : Ln w g B M E) (hok : SgOk (E.map sg)) (hM : M ≤ 90000) (hab : mayS a b) :
    Calls Try.prog 29 #[.pointer (some ⟨g, 0, none⟩), .agg #[.int .i64 a, .int .i64 b], .int .i64 v] w fun e w' => e = .returned (.int .i64 0) ∧ ∃ E', LnPost w g B (max M (E.length + 3)) E' w' ∧
      ∃ X Z, (E.map sg).Perm (X ++ Z) ∧ (∀ e ∈ X, a ≤ e.t ∧ e.f ≤ b) ∧ (∀ e ∈ Z, ¬ (a ≤ e.t ∧ e.f ≤ b)) ∧ (E'.map sg).Perm (midC a b v X ++ (X.flatMap (pieces a b v) ++ Z)) := by
  have h' := h
  obtain ⟨tb, vv, gv, nv, fv, ns, fr, T, vs, fs, S, rfl, hp, hn, hvs⟩ := h'
  have hTs : T.size ≤ 100000 := by have := S.full; omega
  -- the items that are touched
  obtain ⟨X, hX⟩ : ∃ X, X = overI (a - 1) (b + 1) T := ⟨_, rfl⟩
  have hXf : X = T.items.filter (fun x => decide (a - 1 < x.t) && decide (x.f < b + 1)) := by
    rw [hX]; unfold overI; rw [if_pos (by have := hab.2.1; omega)]; rfl
  obtain ⟨Z, hZ⟩ : ∃ Z, Z = (T.items.filter (fun x => !(decide (a - 1 < x.t) && decide (x.f < b + 1)))).map (valOf vs) := ⟨_, rfl⟩
  have hEXZ : E.Perm (X.map (valOf vs) ++ Z) := by
    rw [hXf, hZ, ← List.map_append]
    exact hp.symm.trans ((List.filter_append_perm _ T.items).symm.map _)
  have hX1 : ∀ e ∈ (X.map (valOf vs)).map sg, a ≤ e.t ∧ e.f ≤ b := fun e he => by
    rw [List.map_map] at he
    obtain ⟨x, hx, rfl⟩ := List.mem_map.1 he
    rw [hXf, List.mem_filter] at hx
    have := hx.2
    simp only [Bool.and_eq_true, decide_eq_true_eq] at this
    show a ≤ x.t ∧ x.f ≤ b
    omega
  have hZ1 : ∀ e ∈ Z.map sg, ¬ (a ≤ e.t ∧ e.f ≤ b) := fun e he => by
    rw [hZ, List.map_map] at he
    obtain ⟨x, hx, rfl⟩ := List.mem_map.1 he
    rw [List.mem_filter] at hx
    have := hx.2
    simp only [Bool.not_eq_true', Bool.and_eq_false_iff, decide_eq_false_iff_not] at this
    show ¬ (a ≤ x.t ∧ x.f ≤ b)
    omega
  have hXE := hEXZ.map sg
  rw [List.map_append] at hXE
  have hdX : ((X.map (valOf vs)).map sg).Pairwise dis := (List.pairwise_append.1 (hok.perm hXE).pair).1
  have hElen := hEXZ.length_eq
  have hX0 : ∀ e ∈ (X.map (valOf vs)).map sg, e.v ≠ 0 := fun e he => ((hok.perm hXE).one e (List.mem_append.2 (.inl he))).2.2.2
  have HX0 := Lib.hid hX0
  have HPX := Lib.hid (⟨hXE, hX1, hZ1, hdX, hElen⟩ : _ ∧ _ ∧ _ ∧ _ ∧ _)
  have hEM := h.len
  have HEX := Lib.hid hEXZ
  -- the walk
  have mA := (Mod.refl [] w).alloc (.cells #[.int .i64 a, .int .i64 b] 24)
  have bA := heap_alloc_new w (.cells #[.int .i64 a, .int .i64 b] 24)
  have CN := Lib.hid (tlNone_at (h.kept0 mA))
  have CM := Lib.hid (tlMay_at (w.alloc (.cells #[.int .i64 a, .int .i64 b] 24)) a b)
  rw [decide_eq_true hab] at CM
  have s0 := cell_blk bA 0
  have s1 := cell_blk bA 1
  simp only [List.getElem?_toArray, List.getElem?_cons_succ, List.getElem?_cons_zero] at s0 s1
  have HS := Lib.hid S
  have HL := Lib.hid h
  have HMA := Lib.hid mA
  have HBA := Lib.hid bA
  have HXX := Lib.hid hX
  obtain ⟨ha1, ha2, ha3⟩ := hab
  clear hX0 S h mA bA hX hXf hZ hEXZ hX1 hZ1 hXE hdX hElen hp hok
  go_enter Try.func29, Try.ntmps29
  go_wp2_with fail
  refine CN.out.mono ?_
  rintro e w1 ⟨rfl, rfl⟩
  go_wp2_with fail
  refine CM.out.mono ?_
  rintro e w2 ⟨rfl, m2⟩
  have hb2 := m2.heap HBA.out (by simp)
  have S2 := HS.out.kept (HMA.out.trans m2) (by simp)
  have t0 := cell_blk hb2 0
  have t1 := cell_blk hb2 1
  have g0 := cell_blk S2.blk 0
  simp only [List.getElem?_toArray, List.getElem?_cons_succ, List.getElem?_cons_zero] at t0 t1 g0
  have CO := Lib.hid (overlap_at (S2.kept (((Mod.refl [] w2).drew).drew) (by simp)).tree hTs (a - 1) (b + 1))
  have HM2 := Lib.hid ((HMA.out.trans m2).trans (((Mod.refl [] w2).drew).drew))
  have HB2 := Lib.hid hb2
  rw [← HXX.out] at CO
  clear hb2 S2 CN CM m2 s0 s1 HBA HMA
  go_wp2_with fail
  refine wp_plan [] [0, 2, 1, 3, 4, 5] (by kernel_rfl) (by kernel_rfl) ?_
  simp only [wpSegs, opsOf, List.map_cons, List.map_nil, opN, List.getD_cons_zero, List.getD_cons_succ]
  go_wp2_with fail
  refine ⟨by first | trivial | rfl, ?_⟩
  go_wp2_with fail
  refine wp_plan [([0, 4, 7, 13, 1, 5, 8, 2, 6, 9, 3], 10, [1, 2, 3]), ([], 11, [])] [12] (by kernel_rfl) (by kernel_rfl) ?_
  simp only [wpSegs, opsOf, List.map_cons, List.map_nil, opN, List.getD_cons_zero, List.getD_cons_succ]
  go_wp2_with fail
  refine ⟨by first | trivial | rfl, ?_⟩
  go_wp2_with fail
  refine ⟨?ag1, ?_⟩
  case ag1 =>
    intro i hi hw
    simp only [List.mem_cons, List.not_mem_nil, or_false] at hi
    rcases hi with rfl | rfl | rfl
    all_goals (simp only [opN, List.getD_cons_zero, List.getD_cons_succ, slotOf]; go_simp)
  go_wp2_with fail
  refine ⟨by first | trivial | rfl, ?_⟩
  go_wp2_with fail
  refine CO.out.mono ?_
  rintro e w3 ⟨ov, rfl, oO, mO⟩
  obtain ⟨oa, oc, rfl⟩ := oO.lens
  have L3 := Lib.hid (HL.out.kept0 (HM2.out.trans mO))
  have HSW := Lib.hid HM2.out.size
  have HB3 := Lib.hid (mO.heap (show w2.drew.drew.heap[w.heap.size]? = _ from HB2.out) (by simp))
  have HO3 := Lib.hid oO
  have HM3 := Lib.hid (HM2.out.trans mO)
  have HBW := Lib.hid HL.out.lt
  have hXl : X.length ≤ 90000 := by have := HPX.out.2.2.2.2; rw [List.length_append, List.length_map] at this; omega
  have HPP := Lib.hid (show PutSt w3 g (lnB g tb vv gv nv fv) (max M (E.length + 3)) a b v (X.map (valOf vs)) Z ((X.map (valOf vs)).map sg) 0 w3 from by
    exact ⟨[], by simp, LnPost.refl ((L3.out.perm HEX.out).mono (by omega))⟩)
  clear oO mO CO t0 t1 g0 HL HM2 HB2 HS
  go_wp2_with fail
  refine ⟨again_nil, ?_⟩
  go_wp2_with fail
  refine ⟨by first | trivial | rfl, ?_⟩
  go_wp2_with fail
  obtain ⟨XE, hXE⟩ : ∃ XE, XE = X.map (valOf vs) := ⟨_, rfl⟩
  rw [← hXE] at HPP HPX HEX HX0
  obtain ⟨XS, hXS⟩ : ∃ XS, XS = XE.map sg := ⟨_, rfl⟩
  rw [← hXS] at HPP HPX HX0
  have HXS := Lib.hid hXS
  have HXE := Lib.hid hXE
  clear hXS
  have hlXE : XE.length = X.length := by rw [hXE, List.length_map]
  clear hXE
  go_loopw [7, 8, 36] (fun s7 s8 s36 W => ∃ j : Nat, j ≤ X.length ∧ s36 = .int .i64 j ∧ s7 = .int .i64 (frm a v (XS.take j)) ∧ s8 = .int .i64 (too b v (XS.take j)) ∧ Hid (PutSt w3 g (lnB g tb vv gv nv fv) (max M (E.length + 3)) a b v XE Z XS j W)) (fun _ _ s36 _ => X.length - (intOf s36).toNat)
  case atStart => exact ⟨0, by omega, rfl, rfl, rfl, HPP⟩
  case round =>
    obtain ⟨j, hj, rfl, rfl, rfl, hP⟩ := hrel
    obtain ⟨P, hPp, hPl⟩ := hP.out
    have hmW := hPl.mod
    have hBs : w.heap.size ∉ lnB g tb vv gv nv fv := fun hm => by have := HBW.out _ hm; omega
    have hbW := hmW.heap HB3.out hBs
    have oW := HO3.out.kept hmW (fun k hk hm => by
      have h1 := (World.ownsRow.lt HO3.out k hk).1
      have h2 := HBW.out k hm
      have h3 := HM3.out.size
      have h4 : w.heap.size ≤ w2.drew.drew.heap.size := HSW.out
      omega)
    by_cases hlt : j < X.length
    · obtain ⟨x, hx⟩ : ∃ x, X[j]? = some x := ⟨X[j], List.getElem?_eq_getElem hlt⟩
      obtain ⟨xv, hxv⟩ : ∃ xv, valOf vs x = (x, xv) := ⟨_, rfl⟩
      have hXV : xv ≠ 0 := HX0.out (sg (x, xv)) (by rw [HXS.out, HXE.out, ← hxv]; exact List.mem_map_of_mem (List.mem_map_of_mem (List.mem_of_getElem? hx)))
      have HXV := Lib.hid hXV
      clear hXV
      have hXEj : XE[j]? = some (x, xv) := by rw [HXE.out, List.getElem?_map, hx, ← hxv]; rfl
      have hdr : XE.drop j = (x, xv) :: XE.drop (j + 1) := by
        obtain ⟨h1, h2⟩ := List.getElem?_eq_some_iff.1 hXEj
        rw [List.drop_eq_getElem_cons h1, h2]
      have htk : XS.take (j + 1) = XS.take j ++ [sg (x, xv)] := by
        have hXSj : XS[j]? = some (sg (x, xv)) := by rw [HXS.out, List.getElem?_map, hXEj]; rfl
        obtain ⟨h1, h2⟩ := List.getElem?_eq_some_iff.1 hXSj
        rw [List.take_succ_eq_append_getElem h1, h2]
      obtain ⟨q, cap, heq, hq, hcap⟩ := oW.at_ hx
      simp only [Value.slice.injEq] at heq
      obtain ⟨rfl, _, rfl⟩ := heq
      obtain ⟨f, t, id⟩ := x
      have hxg : X[j] = ⟨f, t, id⟩ := by rw [List.getElem?_eq_getElem hlt] at hx; simpa using hx
      have hrow : wr.rangeAt q (j * 3) [.int .i64 f, .int .i64 t, .int .i64 id] := fun jj u hu => (oW.cell encIt_len hlt (j := jj) (by have := (List.getElem?_eq_some_iff.1 hu).1; simpa using this) (u := u) (by rw [hxg]; exact hu)).1
      have HLI := Lib.hid (run_loadAt_mid (P := Try.prog) _ q (j * 3) 92 _ _ hrow Try.underlying92 rfl (by kernel_rfl))
      have mI := (Mod.refl [] wr).alloc (.cells #[.int .i64 f, .int .i64 t, .int .i64 id] 92)
      have bI := heap_alloc_new wr (.cells #[.int .i64 f, .int .i64 t, .int .i64 id] 92)
      have i0 := cell_blk bI 0
      have i1 := cell_blk bI 1
      have i2 := cell_blk bI 2
      simp only [List.getElem?_toArray, List.getElem?_cons_succ, List.getElem?_cons_zero] at i0 i1 i2
      obtain ⟨B1, L1, M1, F1⟩ := hPl
      have L1I := (L1.kept0 mI).perm (show (P ++ (XE.drop j ++ Z)).Perm ((⟨f, t, id⟩, xv) :: (P ++ (XE.drop (j + 1) ++ Z))) by rw [hdr]; exact List.perm_middle)
      have CD := Lib.hid (drop_at L1I (by omega))
      simp only [itV] at CD
      have hj0 : decide ((j : Int) < 0) = false := decide_eq_false (by omega)
      have hj1 : decide ((X.length : Int) ≤ (j : Int)) = false := decide_eq_false (by omega)
      have hj2 : decide ((j : Int) < (X.length : Int)) = true := decide_eq_true (by omega)
      have HSI := Lib.hid (show wr.heap.size < (wr.alloc (.cells #[.int .i64 f, .int .i64 t, .int .i64 id] 92)).heap.size by simp)
      have HBI := Lib.hid bI
      have HM1 := Lib.hid (Mod.into' M1 mI (by simp))
      have HF1 := Lib.hid F1
      have HLT := Lib.hid L1.lt
      have HPp := Lib.hid hPp
      have HTK := Lib.hid htk
      clear oW hrow mI bI L1 M1 F1 L1I hPp htk hdr hXEj hx hxv hmW hq hcap hxg hbW
      go_wp2_with ((with_reducible refine xLoadAt rfl HLI.out ?_ ?_ ?_); exact rfl; exact rfl)
      refine CD.out.mono ?_
      rintro e w4 ⟨rfl, B4, L4, M4, F4⟩
      have PF := Lib.hid (LnPost.step HM1.out HF1.out ⟨B4, L4, M4, F4⟩)
      have hne4 : ∀ k ∈ B4, k ≠ wr.heap.size ∧ (k ∈ lnB g tb vv gv nv fv ∨ w3.heap.size ≤ k) := fun k hk => by
        have h3 := HM1.out.size
        have h5 := HSI.out
        rcases F4 k hk with h | h
        · have h4 := HLT.out _ h
          exact ⟨by omega, HF1.out k h⟩
        · exact ⟨by omega, .inr (by omega)⟩
      have HNE4 := Lib.hid hne4
      have hi4 := M4.heap HBI.out (fun hm => by have := HLT.out _ hm; omega)
      have hb4 := PF.out.mod.heap HB3.out hBs
      have k0 := cell_blk hi4 0
      have k1 := cell_blk hi4 1
      have s0 := cell_blk hb4 0
      have s1 := cell_blk hb4 1
      simp only [List.getElem?_toArray, List.getElem?_cons_succ, List.getElem?_cons_zero] at k0 k1 s0 s1
      have HI4 := Lib.hid hi4
      have HL4 := Lib.hid L4
      clear CD hne4 L4 M4 F4 hi4 hb4 i0 i1 i2 HM1 HF1 HBI HLT HSI
      by_cases hvv : xv = v
      · have hd1 : decide (xv = v) = true := decide_eq_true hvv
        have hd2 : (xv == v) = true := by simpa using hvv
        have HF := Lib.hid (show frm a v (XS.take (j + 1)) = min (frm a v (XS.take j)) f from by
          rw [HTK.out, frm_snoc, if_pos (show (sg (⟨f, t, id⟩, xv)).v = v from hvv)]; rfl)
        have HT := Lib.hid (show too b v (XS.take (j + 1)) = max (too b v (XS.take j)) t from by
          rw [HTK.out, too_snoc, if_pos (show (sg (⟨f, t, id⟩, xv)).v = v from hvv)]; rfl)
        have HN := Lib.hid (show PutSt w3 g (lnB g tb vv gv nv fv) (max M (E.length + 3)) a b v XE Z XS (j + 1) w4.drew from ⟨P, by
          rw [HTK.out, List.flatMap_append]
          simp only [List.flatMap_singleton]
          rw [show pieces a b v (sg (⟨f, t, id⟩, xv)) = [] from if_pos hvv, List.append_nil]
          exact HPp.out, PF.out.kept ((Mod.refl [] w4).drew)⟩)
        clear PF HI4
        generalize frm a v (XS.take j) = fj at HF ⊢
        generalize too b v (XS.take j) = tj at HT ⊢
        go_wp2_with fail
        refine wp_sched (by kernel_rfl) (sched_either 3 7 (by decide) (sched_either 7 8 (by decide) (sched_plan2 [([0, 1, 4, 5, 2, 6], 3, [5, 6]), ([], 7, []), ([], 8, []), ([], 9, [])] [] (by kernel_rfl) ?L1) (sched_plan2 [([0, 1, 4, 5, 2, 6], 3, [5, 6]), ([], 8, [5, 6]), ([], 7, []), ([], 9, [])] [] (by kernel_rfl) ?L2)) (sched_plan1 [([0, 1, 4, 5, 2, 6], 7, [1, 2]), ([], 3, [5, 6]), ([], 8, [5, 6]), ([], 9, [])] [] (by kernel_rfl) ?L3))
        case L1 =>
          simp only [wpSegs, opsOf, List.map_cons, List.map_nil, opN, List.getD_cons_zero, List.getD_cons_succ]
          go_wp2_with fail
          refine ⟨by first | trivial | rfl, ?_⟩
          go_wp2_with ((with_reducible apply xMin rfl); exact rfl; exact rfl; exact rfl)
          refine ⟨?aL11, ?_⟩
          case aL11 =>
            intro i hi hw
            simp only [List.mem_cons, List.not_mem_nil, or_false] at hi
            rcases hi with rfl | rfl
            all_goals (simp only [opN, List.getD_cons_zero, List.getD_cons_succ, slotOf]; go_simp)
          go_wp2_with fail
          refine ⟨by first | trivial | rfl, ?_⟩
          go_wp2_with ((with_reducible apply xMax rfl); exact rfl; exact rfl; exact rfl)
          refine ⟨again_nil, ?_⟩
          go_wp2_with fail
          refine ⟨by first | trivial | rfl, ?_⟩
          go_wp2_with fail
          refine ⟨again_nil, ?_⟩
          go_wp2_with fail
          refine ⟨by first | trivial | rfl, ?_⟩
          go_wp2_with fail
          refine ⟨again_nil, ?_⟩
          go_wp2_with fail
          refine ⟨by first | trivial | rfl, ?_⟩
          go_wp2_with fail
          go_roundw
          case rel => exact ⟨j + 1, by omega, by go_num, by rw [HF.out], by rw [HT.out], HN⟩
          case measure => simp [intOf]; omega
        case L2 =>
          simp only [wpSegs, opsOf, List.map_cons, List.map_nil, opN, List.getD_cons_zero, List.getD_cons_succ]
          go_wp2_with fail
          refine ⟨by first | trivial | rfl, ?_⟩
          go_wp2_with ((with_reducible apply xMin rfl); exact rfl; exact rfl; exact rfl)
          refine ⟨?aL21, ?_⟩
          case aL21 =>
            intro i hi hw
            simp only [List.mem_cons, List.not_mem_nil, or_false] at hi
            rcases hi with rfl | rfl
            all_goals (simp only [opN, List.getD_cons_zero, List.getD_cons_succ, slotOf]; go_simp)
          go_wp2_with fail
          refine ⟨by first | trivial | rfl, ?_⟩
          go_wp2_with fail
          refine ⟨?aL22, ?_⟩
          case aL22 =>
            intro i hi hw
            simp only [List.mem_cons, List.not_mem_nil, or_false] at hi
            rcases hi with rfl | rfl
            all_goals (simp only [opN, List.getD_cons_zero, List.getD_cons_succ, slotOf]; go_simp)
          go_wp2_with fail
          refine ⟨by first | trivial | rfl, ?_⟩
          go_wp2_with ((with_reducible apply xMax rfl); exact rfl; exact rfl; exact rfl)
          refine ⟨again_nil, ?_⟩
          go_wp2_with fail
          refine ⟨by first | trivial | rfl, ?_⟩
          go_wp2_with fail
          refine ⟨again_nil, ?_⟩
          go_wp2_with fail
          refine ⟨by first | trivial | rfl, ?_⟩
          go_wp2_with fail
          go_roundw
          case rel => exact ⟨j + 1, by omega, by go_num, by rw [HF.out], by rw [HT.out], HN⟩
          case measure => simp [intOf]; omega
        case L3 =>
          simp only [wpSegs, opsOf, List.map_cons, List.map_nil, opN, List.getD_cons_zero, List.getD_cons_succ]
          go_wp2_with fail
          refine ⟨by first | trivial | rfl, ?_⟩
          go_wp2_with ((with_reducible apply xMax rfl); exact rfl; exact rfl; exact rfl)
          refine ⟨?aL31, ?_⟩
          case aL31 =>
            intro i hi hw
            simp only [List.mem_cons, List.not_mem_nil, or_false] at hi
            rcases hi with rfl | rfl
            all_goals (simp only [opN, List.getD_cons_zero, List.getD_cons_succ, slotOf]; go_simp)
          go_wp2_with fail
          refine ⟨by first | trivial | rfl, ?_⟩
          go_wp2_with ((with_reducible apply xMin rfl); exact rfl; exact rfl; exact rfl)
          refine ⟨?aL32, ?_⟩
          case aL32 =>
            intro i hi hw
            simp only [List.mem_cons, List.not_mem_nil, or_false] at hi
            rcases hi with rfl | rfl
            all_goals (simp only [opN, List.getD_cons_zero, List.getD_cons_succ, slotOf]; go_simp)
          go_wp2_with fail
          refine ⟨by first | trivial | rfl, ?_⟩
          go_wp2_with fail
          refine ⟨?aL33, ?_⟩
          case aL33 =>
            intro i hi hw
            simp only [List.mem_cons, List.not_mem_nil, or_false] at hi
            rcases hi with rfl | rfl
            all_goals (simp only [opN, List.getD_cons_zero, List.getD_cons_succ, slotOf]; go_simp)
          go_wp2_with fail
          refine ⟨by first | trivial | rfl, ?_⟩
          go_wp2_with fail
          refine ⟨again_nil, ?_⟩
          go_wp2_with fail
          refine ⟨by first | trivial | rfl, ?_⟩
          go_wp2_with fail
          go_roundw
          case rel => exact ⟨j + 1, by omega, by go_num, by rw [HF.out], by rw [HT.out], HN⟩
          case measure => simp [intOf]; omega
      · have hd1 : decide (xv = v) = false := decide_eq_false hvv
        have hd2 : (xv == v) = false := by simpa using hvv
        have hv0 : xv ≠ 0 := HXV.out
        have hPlen : P.length ≤ 2 := by
          have := HPp.out.length_eq
          rw [List.length_map] at this
          rw [this]
          exact take_pieces_len HPX.out.2.1 HPX.out.2.2.2.1 j
        have hFlen : (P ++ (XE.drop (j + 1) ++ Z)).length ≤ E.length + 1 := by
          have := HPX.out.2.2.2.2
          simp only [List.length_append, List.length_drop] at this ⊢
          omega
        have HFL := Lib.hid hFlen
        have CL := Lib.hid (lay_any (f := f) (t := min t a) (v := xv) HL4.out (by omega))
        clear HL4 hFlen hPlen
        go_wp2_with ((with_reducible apply xMin rfl); exact rfl; exact rfl; exact rfl)
        refine CL.out.mono ?_
        rintro e w5 ⟨rfl, F1, hF1, B5, L5, M5, F5⟩
        have hl1 := hF1.len
        have hmx : max (max M (E.length + 3)) F1.length = max M (E.length + 3) := by have := HFL.out; omega
        rw [hmx] at L5
        have hi5 := M5.heap HI4.out (fun hm => (HNE4.out _ hm).1 rfl)
        have h45 := M5.size
        have hw4 := lt_of_heap HI4.out
        have PF5 := Lib.hid (LnPost.step PF.out.mod (fun k hk => (HNE4.out k hk).2) ⟨B5, L5, M5, F5⟩)
        have hne5 : ∀ k ∈ B5, k ≠ wr.heap.size ∧ (k ∈ lnB g tb vv gv nv fv ∨ w3.heap.size ≤ k) := fun k hk => by
          have h3 := PF.out.mod.size
          rcases F5 k hk with h | h
          · exact HNE4.out k h
          · exact ⟨by omega, .inr (by omega)⟩
        have HNE5 := Lib.hid hne5
        have hb5 := PF5.out.mod.heap HB3.out hBs
        have n0 := cell_blk hi5 0
        have n1 := cell_blk hi5 1
        have r0 := cell_blk hb5 0
        have r1 := cell_blk hb5 1
        simp only [List.getElem?_toArray, List.getElem?_cons_succ, List.getElem?_cons_zero] at n0 n1 r0 r1
        have CL2 := Lib.hid (lay_any (f := max f b) (t := t) (v := xv) L5 (by omega))
        have HF1' := Lib.hid hF1
        have HL1 := Lib.hid hl1
        clear CL hF1 L5 M5 F5 hi5 hb5 hne5 hl1 hmx h45 hw4
        go_wp2_with ((with_reducible apply xMax rfl); exact rfl; exact rfl; exact rfl)
        refine CL2.out.mono ?_
        rintro e w6 ⟨rfl, F2, hF2, P6⟩
        have HN := Lib.hid (show PutSt w3 g (lnB g tb vv gv nv fv) (max M (E.length + 3)) a b v XE Z XS (j + 1) w6 from by
          have hl2 := hF2.len
          have hl1 := HL1.out
          have hfl := HFL.out
          have hmx : max (max M (E.length + 3)) F2.length = max M (E.length + 3) := by omega
          rw [hmx] at P6
          obtain ⟨Q, hQ, hQp⟩ := laid_two hv0 hvv HF1'.out hF2
          refine ⟨Q ++ P, ?_, ?_⟩
          · rw [HTK.out, List.flatMap_append]
            simp only [List.flatMap_singleton]
            rw [List.map_append]
            exact (List.perm_append_comm).trans (HPp.out.append hQp)
          · rw [hQ, ← List.append_assoc] at P6
            exact LnPost.step PF5.out.mod (fun k hk => (HNE5.out k hk).2) P6)
        have HF := Lib.hid (show frm a v (XS.take (j + 1)) = frm a v (XS.take j) from by
          rw [HTK.out, frm_snoc, if_neg (show ¬ (sg (⟨f, t, id⟩, xv)).v = v from hvv)])
        have HT := Lib.hid (show too b v (XS.take (j + 1)) = too b v (XS.take j) from by
          rw [HTK.out, too_snoc, if_neg (show ¬ (sg (⟨f, t, id⟩, xv)).v = v from hvv)])
        clear PF5 hF2 P6 CL2 PF HI4 HNE5 HNE4
        go_wp2_with fail
        go_roundw
        case rel => exact ⟨j + 1, by omega, by go_num, by rw [HF.out], by rw [HT.out], HN⟩
        case measure => simp [intOf]; omega
    · have hje : j = X.length := by omega
      have hj2 : decide ((j : Int) < (X.length : Int)) = false := decide_eq_false (by omega)
      have htE : XS.take j = XS := List.take_of_length_le (by rw [HXS.out, List.length_map]; omega)
      have hdE : XE.drop j = [] := List.drop_of_length_le (by omega)
      rw [htE] at hPp ⊢
      rw [hdE, List.nil_append] at hPl
      obtain ⟨B1, L1, M1, F1⟩ := hPl
      have CL := Lib.hid (lay_any (f := frm a v XS) (t := too b v XS) (v := v) L1 (by omega))
      have hPlen : P.length ≤ 2 := by
        have := hPp.length_eq
        rw [List.length_map] at this
        rw [this]
        exact pieces_len HPX.out.2.1 HPX.out.2.2.2.1
      have HPL := Lib.hid hPlen
      have HM1 := Lib.hid M1
      have HF1 := Lib.hid F1
      have HPp := Lib.hid hPp
      clear L1 M1 F1 hPp oW hbW hmW hPlen htE hdE hP
      subst hje
      go_wp2_with fail
      refine CL.out.mono ?_
      rintro e w5 ⟨rfl, F2, hF2, P5⟩
      have HEND := Lib.hid (show ∃ E', LnPost w g (lnB g tb vv gv nv fv) (max M (E.length + 3)) E' w5 ∧ ∃ X Z, (E.map sg).Perm (X ++ Z) ∧ (∀ e ∈ X, a ≤ e.t ∧ e.f ≤ b) ∧ (∀ e ∈ Z, ¬ (a ≤ e.t ∧ e.f ≤ b)) ∧ (E'.map sg).Perm (midC a b v X ++ (X.flatMap (pieces a b v) ++ Z)) from by
        have hl2 := hF2.len
        have hpl := HPL.out
        have hel := HPX.out.2.2.2.2
        simp only [List.length_append] at hl2 hel
        have hmx : max (max M (E.length + 3)) F2.length = max M (E.length + 3) := by omega
        rw [hmx] at P5
        refine ⟨F2, (LnPost.step HM1.out HF1.out P5).into HM3.out.nil (fun k hk => .inl hk), XS, Z.map sg, HPX.out.1, HPX.out.2.1, HPX.out.2.2.1, ?_⟩
        rcases hF2 with ⟨c1, c2, id, rfl⟩ | ⟨c, rfl⟩
        · unfold midC
          rw [if_pos ⟨c1, c2⟩, List.map_cons, List.map_append]
          exact (HPp.out.append (List.Perm.refl _)).cons _
        · unfold midC
          rw [if_neg c, List.map_append]
          exact HPp.out.append (List.Perm.refl _))
      clear CL hF2 P5 HM1 HF1
      go_wp2_with fail
      go_ret
      exact ⟨rfl, HEND.out⟩
end Go.Proofs.Ytngglpekdjhbdaa
namespace Go.Proofs.Ytngglpekdjhbdaa
open Go.RowKit Go.ChangeMaps Go.Deep Tr
set_option linter.unusedSimpArgs false
set_option linter.unusedVariables false
set_option maxRecDepth 20000
attribute [local go_sem] Oper.semAt_some

/-- a variable that a closure appends items to -/
structure OutAt (W : World) (Bo base : Nat) (v : Value) (l : List It) : Prop where
  cell : W.heap[Bo]? = some (.cells #[v] 86 (0, 0))
  own : OwnR encIt 3 92 W base v l
  lt : Bo < base
theorem OutAt.kept {ks : List Nat} {W W' : World} {Bo base : Nat} {v : Value} {l : List It} (h : OutAt W Bo base v l) (m : Mod ks W W') (h1 : Bo ∉ ks) (h2 : ∀ k, v.ownBlock = some k → k ∉ ks) : OutAt W' Bo base v l :=
  ⟨m.heap h.cell h1, h.own.kept m h2, h.lt⟩
/-- what an append through the variable leaves -/
def OutPost (W : World) (Bo base : Nat) (v : Value) (l : List It) (W' : World) : Prop :=
  ∃ v', OutAt W' Bo base v' l ∧ Mod (Bo :: blk v) W W'
theorem stab1_at {W : World} {Bo base : Nat} {v : Value} {l : List It} (h : OutAt W Bo base v l) (x : It) (hl : l.length < 1073741824) (hbs : base ≤ W.heap.size) :
    Calls Try.prog 67 #[itV x, .pointer (some ⟨Bo, 0, none⟩)] W fun e W' => e = .returned (.tuple #[]) ∧ OutPost W Bo base v (l ++ [x]) W' := by
  have hob : ∀ k, v.ownBlock = some k → base ≤ k := fun k hk => (World.ownsRow.lt h.own k hk).1
  have m0 := (Mod.refl [] W).alloc (.cells #[.int .i64 x.f, .int .i64 x.t, .int .i64 x.i] 92)
  have b0 := heap_alloc_new W (.cells #[.int .i64 x.f, .int .i64 x.t, .int .i64 x.i] 92)
  have h0 := h.kept m0 (by simp) (by simp)
  have c0 := cell_blk h0.cell 0
  have e0 := cell_blk b0 0
  have e1 := cell_blk b0 1
  have e2 := cell_blk b0 2
  simp only [List.getElem?_toArray, List.getElem?_cons_succ, List.getElem?_cons_zero] at c0 e0 e1 e2
  obtain ⟨v', w', ra, ho', gr⟩ := own_append1 (P := Try.prog) (ty := 86) elemItem encIt_len encIt_one h0.own (Nat.le_trans hbs m0.size) x hl (by omega)
  dsimp only [encIt] at ra
  simp only [World.size_alloc] at ra
  obtain ⟨a', n', c', rfl⟩ : ∃ a n c, v' = .slice a n c := by obtain ⟨a, c, e⟩ := ho'.lens; exact ⟨a, _, c, e⟩
  have hv' := gr.mod.heap h0.cell (by rw [mem_blk]; intro hm; have := hob _ hm; have := h.lt; omega)
  have g0 := cell_blk hv' 0
  have g1 := frozen_blk hv' 0
  simp only [List.getElem?_toArray, List.getElem?_cons_zero] at g0
  have hob' : ∀ k, (Value.slice a' n' c').ownBlock = some k → base ≤ k := fun k hk => (World.ownsRow.lt ho' k hk).1
  have hm1 : Mod [Bo] w' (w'.setCell ⟨Bo, 0, none⟩ (.slice a' n' c')) := (Mod.refl _ _).setCell (by simp) _
  have hv2 := heap_setCell_blk hv' 0 (.slice a' n' c')
  have HE := Lib.hid (show OutPost W Bo base v (l ++ [x]) (w'.setCell ⟨Bo, 0, none⟩ (.slice a' n' c')) from ⟨_, ⟨by simpa using hv2, ho'.kept hm1 (fun k hk => by have := hob' k hk; have := h.lt; simp; omega), h.lt⟩, (m0.nil.trans (gr.mod.mono fun k hk => by simp [hk])).trans (hm1.mono fun k hk => by simp at hk; simp [hk])⟩)
  have RA := Lib.hid ra
  clear hm1 hv2 hob' hv' ho' gr ra h0 b0 m0 h hob
  simp only [itV]
  go_enter Try.func67, Try.ntmps67
  go_wp2_with ((with_reducible refine xAppendAt RA.out rfl rfl ?_ ?_ ?_ ?_); exact rfl; exact rfl; exact rfl)
  first | go_ret | go_end0
  exact ⟨rfl, HE.out⟩
/-- where Stab stands in its loop -/
def StSt (Bo N : Nat) (wS : World) (pre : List It) (W : World) : Prop := ∃ v, OutAt W Bo (N + 3) v pre ∧ Mod [Bo] wS W
theorem StSt.kept {Bo N : Nat} {wS : World} {pre : List It} {A B : World} (h : StSt Bo N wS pre A) (hN : wS.heap.size = N) (hBo : Bo < N) (m : Mod [N, N + 1, N + 2] A B) : StSt Bo N wS pre B := by
  obtain ⟨v, h1, h3⟩ := h
  refine ⟨v, h1.kept m (by simp; omega) (fun k hk => ?_), Mod.into' h3 m (fun k hk => .inl (by simp at hk; omega))⟩
  have := (World.ownsRow.lt h1.own k hk).1
  simp; omega
set_option maxHeartbeats 4000000 in
theorem stab_at {w : World} {tb : Nat} {nv fv : Value} {ns : List Nd} {fr : List Int} {T : Tr} (S : AvlSt w tb nv fv ns fr T) (hsz : T.size ≤ 100000) (day : Int) (hd : -9223372036854775808 ≤ day ∧ day < 9223372036854775807) :
    Calls Try.prog 42 #[.pointer (some ⟨tb, 0, none⟩), .int .i64 day] w fun e w' => ∃ v, e = .returned v ∧ OwnR encIt 3 92 w' w.heap.size v (over day (day + 1) T) ∧ Mod [] w w' := by
  have hd2 : (day == 9223372036854775807) = false := by simpa using (show ¬ day = 9223372036854775807 by omega)
  have hwr : wrap64 (day + 1) = day + 1 := by unfold wrap64; omega
  obtain ⟨w1, hw1, n1, s1, m1⟩ := alloc_named2 w (.cells #[.slice none 0 0] 86)
  obtain ⟨w2, hw2, n2, s2, m2⟩ := alloc_named2 w1 (.cells #[.func (.func 67) #[] #[.pointer (some ⟨w.heap.size, 0, none⟩)]] 120)
  have HA := Lib.hid (itAll_at w2 tb day (day + 1))
  have HW1 := Lib.hid hw1
  have HW2 := Lib.hid hw2
  refine (callsIn_wide (n := 5)).1 ?_
  refine callsIn_of_wp_marks Try.func42 rfl trivial ?_ rfl
  simp only [Try.ntmps42, List.size_toArray, List.length_cons, List.length_nil, Nat.reduceAdd, Nat.reduceSub, Array.replicate_succ, Array.replicate_zero, List.push_toArray, List.append_toArray, List.nil_append, List.cons_append]
  gi_wp2_with fail
  refine ⟨trivial, (callsIn_wide.2 HA.out).mono ?_⟩
  rintro e w3 ⟨rfl, rfl⟩
  obtain ⟨f1, f2, f3, f4⟩ := allW_facts w2 tb day (day + 1)
  generalize allW w2 tb day (day + 1) = w4 at f1 f2 f3 f4 ⊢
  rw [s2, s1] at f2 f3 f4 ⊢
  have hN : w4.heap.size = w.heap.size + 4 := f4
  obtain ⟨q1, q2⟩ := S.seq hsz day (day + 1) (m1.trans (m2.trans f1)) f2 f3
  have hov : overI day (day + 1) T = over day (day + 1) T := by unfold overI; rw [if_pos (by omega)]
  rw [hov] at q1
  have hSl : (over day (day + 1) T).length ≤ 100000 := Nat.le_trans (over_len _ _ T) hsz
  obtain ⟨SS, hSS0⟩ : ∃ SS, SS = over day (day + 1) T := ⟨_, rfl⟩
  rw [← hSS0] at q1 hSl
  have HSS := Lib.hid hSS0
  clear hSS0
  have hpT : ∀ k, treeP tb nv fv k → k < w.heap.size := fun k hk => by
    rcases hk with rfl | hk | hk
    · exact lt_of_heap S.tree.blk
    · exact (World.ownsRow.lt S.tree.row _ hk).2
    · exact (World.ownsRow.lt S.tree.free _ hk).2
  have hB0 : w4.heap[w.heap.size]? = some (.cells #[.slice none 0 0] 86 (0, 0)) := (m2.trans f1).heap n1 (by simp)
  have hB1 : w4.heap[w.heap.size + 1]? = some (.cells #[.func (.func 67) #[] #[.pointer (some ⟨w.heap.size, 0, none⟩)]] 120 (0, 0)) := by rw [← s1]; exact f1.heap n2 (by simp)
  have HB1 := Lib.hid hB1
  have HPT := Lib.hid hpT
  have HW := Lib.hid (m1.trans (m2.trans f1))
  have h0 : StSt w.heap.size (w.heap.size + 4) w4 [] w4 := ⟨_, ⟨hB0, OwnR.nil_ _ _, by omega⟩, Mod.refl _ _⟩
  clear n1 n2 m1 m2 f1 f2 f3 f4 hB0 hB1 hpT HA HW1 HW2 S s1 s2 hw1 hw2
  gi_wp2_with fail
  refine wpIn_rangeFunc_M rfl (by omega) (gf := 82) (lb := #[.pointer (some ⟨w.heap.size + 1 + 1 + 1, 0, none⟩), .pointer (some ⟨w.heap.size + 1 + 1, 0, none⟩)]) rfl trivial (enters_of Try.func82 (by kernel_rfl) rfl) (q1 4 (by omega)) (ModP.refl _ _) q2 (fun _ => rfl)
    (fun pre W => StSt w.heap.size (w.heap.size + 4) w4 pre W)
    (fun pre x a' W => StSt w.heap.size (w.heap.size + 4) w4 pre W ∧ ∃ Bx, w.heap.size + 6 < Bx ∧ W.heap[Bx]? = some (.cells #[.int .i64 x.f, .int .i64 x.t, .int .i64 x.i] 92 (0, 0)) ∧ a' = { tmps := #[.pointer (some ⟨tb, 0, none⟩), .int .i64 day, undef, undef, .pointer (some ⟨w.heap.size, 0, none⟩), .pointer (some ⟨w.heap.size + 1, 0, none⟩), .pointer (some ⟨Bx, 0, none⟩), .int .i64 day, .bool false, .func (.func 67) #[] #[.pointer (some ⟨w.heap.size, 0, none⟩)], .pointer (some ⟨tb, 0, none⟩), .int .i64 day, .int .i64 day, .int .i64 (day + 1), .agg #[.int .i64 day, .int .i64 (day + 1)], .func (.func 82) #[] #[.pointer (some ⟨w.heap.size + 1 + 1 + 1, 0, none⟩), .pointer (some ⟨w.heap.size + 1 + 1, 0, none⟩)], itV x, undef, undef, undef, undef], defers := [] })
    (fun s A B h m => by rw [hN] at m; exact h.kept hN (by omega) m)
    (fun s x a' A B h m => by
      rw [hN] at m
      obtain ⟨h1, Bx, h2, h3, h4⟩ := h
      exact ⟨h1.kept hN (by omega) m, Bx, h2, m.heap h3 (by simp; omega), h4⟩)
    h0 ?assign ?body ?done
  case assign =>
    intro l pre x post W K hSS hI hgt hK
    dsimp only [itV]
    have hma := (Mod.refl [] W).alloc (.cells #[.int .i64 x.f, .int .i64 x.t, .int .i64 x.i] 92)
    have HI2 := Lib.hid (hI.kept hN (by omega) hma.nil)
    have HB2 := Lib.hid (heap_alloc_new W (.cells #[.int .i64 x.f, .int .i64 x.t, .int .i64 x.i] 92))
    have HM2 := Lib.hid hma
    have HG2 := Lib.hid (show w.heap.size + 6 < W.heap.size by omega)
    clear hma hI hN hgt q1 q2 h0
    gi_wp2
    exact hK _ _ (ModP.of HM2.out (by simp)) ⟨HI2.out, W.heap.size, HG2.out, HB2.out, rfl⟩
  case body =>
    rintro l pre x post a' W hSS ⟨⟨v, hO, hm⟩, Bx, hBx, hx, rfl⟩ hgt
    have hc := hm.heap HB1.out (by simp)
    have b0 := cell_blk hc 0
    have e0 := cell_blk hx 0
    have e1 := cell_blk hx 1
    have e2 := cell_blk hx 2
    simp only [List.getElem?_toArray, List.getElem?_cons_succ, List.getElem?_cons_zero] at b0 e0 e1 e2
    have hl1 : pre.length < 1073741824 := by
      have := congrArg List.length hSS
      simp at this; omega
    have CS := Lib.hid (stab1_at hO x hl1 (by omega))
    simp only [itV] at CS
    have HOB := Lib.hid (show ∀ k, v.ownBlock = some k → w.heap.size + 7 ≤ k from fun k hk => (World.ownsRow.lt hO.own k hk).1)
    have HMM := Lib.hid hm
    clear hO hx hm hgt hSS q1 q2 h0 hc
    gi_wp2_with fail
    refine ⟨trivial, (CallsIn.inRound l (callsIn_wide.2 CS.out)).mono ?_⟩
    rintro e W' ⟨rfl, v', hO', hm'⟩
    have HE := Lib.hid (show StSt w.heap.size (w.heap.size + 4) w4 (pre ++ [x]) W' from ⟨v', hO', Mod.into' HMM.out hm' (fun k hk => by
      rcases List.mem_cons.1 hk with rfl | hk
      · exact .inr (by simp)
      · rw [mem_blk] at hk
        have := HOB.out k hk
        exact .inl (by omega))⟩)
    have HPP := Lib.hid (show ModP (fun k => allP tb nv fv (w.heap.size + 1 + 1 + 1) (w.heap.size + 1 + 1) k ∨ k = w4.heap.size ∨ k = w4.heap.size + 1 ∨ k = w4.heap.size + 2) W W' from ModP.of hm' (fun k hk h => by
      rcases List.mem_cons.1 hk with rfl | hk
      · rcases h with (h | h | h) | h | h | h
        · have := HPT.out _ h; omega
        all_goals omega
      · rw [mem_blk] at hk
        have := HOB.out k hk
        rcases h with (h | h | h) | h | h | h
        · have := HPT.out _ h; omega
        all_goals omega))
    clear hO' hm' CS
    gi_wp2_with fail
    exact ⟨HPP.out, HE.out⟩
  case done =>
    rintro D W hD ⟨v, hO, hm⟩ hK
    obtain ⟨va, vn, vc, rfl⟩ : ∃ a n c, v = .slice a n c := by obtain ⟨a, c, e⟩ := hO.own.lens; exact ⟨a, _, c, e⟩
    have b0 := cell_blk hO.cell 0
    have f0 := frozen_blk hO.cell 0
    have hDB : w.heap.size ≠ D := by omega
    have hc2 := heap_setCell_blk hO.cell 0 (.slice va vn vc)
    have hd : (W.setCell ⟨w.heap.size, 0, none⟩ (.slice va vn vc)).heap[D]? = some (.deferred (some [])) := by
      rw [heap_setCell_ne _ _ _ (by exact fun e => hDB e.symm)]; exact hK
    have hc3 : ((W.setCell ⟨w.heap.size, 0, none⟩ (.slice va vn vc)).putObj D (.deferred none)).heap[w.heap.size]? = some (.cells #[.slice va vn vc] 86 (0, 0)) := by
      rw [World.putObj_heap_other hDB]
      simpa using hc2
    have q0 := cell_blk hc3 0
    simp only [List.getElem?_toArray, List.getElem?_cons_zero] at b0 q0
    have ms : Mod [w.heap.size] W (W.setCell ⟨w.heap.size, 0, none⟩ (.slice va vn vc)) := (Mod.refl _ _).setCell (by simp) _
    have mp : Mod [D] (W.setCell ⟨w.heap.size, 0, none⟩ (.slice va vn vc)) ((W.setCell ⟨w.heap.size, 0, none⟩ (.slice va vn vc)).putObj D (.deferred none)) := Mod.putObj _ _ _
    have HO := Lib.hid (show OwnR encIt 3 92 ((W.setCell ⟨w.heap.size, 0, none⟩ (.slice va vn vc)).putObj D (.deferred none)) w.heap.size (.slice va vn vc) SS from ((hO.own.kept ms (fun k hk => by
      have := (World.ownsRow.lt hO.own k hk).1
      simp; omega)).kept mp (fun k hk => by
      obtain ⟨o, h1⟩ := ownsRow_cells hO.own hk
      rw [List.mem_singleton]
      intro e
      subst e
      rw [hK] at h1
      cases h1)).mono (by omega))
    have HMP := Lib.hid (show Mod [] w ((W.setCell ⟨w.heap.size, 0, none⟩ (.slice va vn vc)).putObj D (.deferred none)) from Mod.into' (Mod.into' (Mod.into' HW.out hm (fun k hk => .inl (by simp at hk; omega))) ms (fun k hk => .inl (by simp at hk; omega))) mp (fun k hk => .inl (by simp at hk; have := HW.out.size; omega)))
    have HD := Lib.hid hd
    clear hd hc2 hc3 ms mp hO hm hK q1 q2 h0 hN
    gi_wp2_with fail
    refine ⟨by simp, .inl ⟨_, _, rfl, run_takeDeferred HD.out, ?_⟩⟩
    exact ⟨.slice va vn vc, by simp [results, Try.results42, go_sem, q0], _, rfl, by rw [← HSS.out]; exact HO.out, HMP.out⟩
theorem stab_max {w : World} {tb : Nat} : Calls Try.prog 42 #[.pointer (some ⟨tb, 0, none⟩), .int .i64 9223372036854775807] w fun e w' => e = .returned (.slice none 0 0) ∧ Mod [] w w' := by
  have hd2 : ((9223372036854775807 : Int) == 9223372036854775807) = true := by decide
  have m1 := (Mod.refl [] w).alloc (.cells #[.slice none 0 0] 86)
  have n1 := heap_alloc_new w (.cells #[.slice none 0 0] 86)
  have q0 := cell_blk n1 0
  have f0 := frozen_blk n1 0
  simp only [List.getElem?_toArray, List.getElem?_cons_zero] at q0
  have HM := Lib.hid m1
  clear m1 n1
  go_enter Try.func42, Try.ntmps42
  go_wp2_with fail
  refine bodyPost_ret (v := .slice none 0 0) ?_ rfl ⟨rfl, HM.out⟩
  simp [results, Try.results42, go_sem, q0]
end Go.Proofs.Ytngglpekdjhbdaa
namespace Go.Proofs.Ytngglpekdjhbdaa
open Go.RowKit Go.ChangeMaps Go.Deep Tr
set_option linter.unusedSimpArgs false
set_option linter.unusedVariables false
set_option maxRecDepth 20000

/-- a timeline at block g, of the blocks B, behind at most n puts: gf: its value on each day -/
structure LineAt (w : World) (g : Nat) (B : List Nat) (n : Nat) (gf : Int → Int) : Prop where
  ex : ∃ M E, Ln w g B M E ∧ SgOk (E.map sg) ∧ Rep (E.map sg) gf ∧ E.length ≤ 2 * n ∧ M ≤ 2 * n + 1
theorem LineAt.kept {l : List Nat} {w w' : World} {g : Nat} {B : List Nat} {n : Nat} {gf : Int → Int} (h : LineAt w g B n gf) (m : Mod l w w') (hl : ∀ k ∈ B, k ∉ l) : LineAt w' g B n gf := by
  obtain ⟨M, E, h1, h2⟩ := h.ex
  exact ⟨M, E, h1.kept m hl, h2⟩
theorem LineAt.kept0 {w w' : World} {g : Nat} {B : List Nat} {n : Nat} {gf : Int → Int} (h : LineAt w g B n gf) (m : Mod [] w w') : LineAt w' g B n gf := h.kept m (by simp)
theorem LineAt.lt {w : World} {g : Nat} {B : List Nat} {n : Nat} {gf : Int → Int} (h : LineAt w g B n gf) : ∀ k ∈ B, k < w.heap.size := by
  obtain ⟨M, E, h1, h2⟩ := h.ex
  exact h1.lt
theorem LineAt.mem {w : World} {g : Nat} {B : List Nat} {n : Nat} {gf : Int → Int} (h : LineAt w g B n gf) : g ∈ B := by
  obtain ⟨M, E, h1, h2⟩ := h.ex
  exact h1.mem
/-- what may have become of a timeline -/
def LinePost (w : World) (g : Nat) (B : List Nat) (n : Nat) (gf : Int → Int) (w' : World) : Prop :=
  ∃ B', LineAt w' g B' n gf ∧ Mod B w w' ∧ ∀ k ∈ B', k ∈ B ∨ w.heap.size ≤ k
theorem tlNew_line (w : World) : Calls Try.prog 28 #[] w fun e w' => e = .returned (.pointer (some ⟨w.heap.size + 1, 0, none⟩)) ∧ LineAt w' (w.heap.size + 1) [w.heap.size + 1, w.heap.size] 0 (fun _ => 0) ∧ Mod [] w w' := by
  refine (tlNew_at w).mono ?_
  rintro e w' ⟨rfl, h1, h2⟩
  exact ⟨rfl, ⟨0, [], h1, ⟨by simp, by simp, by simp⟩, fun d => ⟨by simp, fun _ => rfl⟩, by simp, by omega⟩, h2⟩
theorem put_line {w : World} {g : Nat} {B : List Nat} {n : Nat} {gf : Int → Int} (h : LineAt w g B n gf) (hn : n ≤ 40000) {a b v : Int} (hab : mayS a b) :
    Calls Try.prog 29 #[.pointer (some ⟨g, 0, none⟩), .agg #[.int .i64 a, .int .i64 b], .int .i64 v] w fun e w' => e = .returned (.int .i64 0) ∧ LinePost w g B (n + 1) (upd gf a b v) w' := by
  obtain ⟨M, E, h1, h2, h3, h4, h5⟩ := h.ex
  refine (put_may h1 h2 (by omega) hab).mono ?_
  rintro e w' ⟨rfl, E', ⟨B', q1, q2, q3⟩, X, Z, p1, p2, p3, p4⟩
  refine ⟨rfl, B', ⟨_, E', q1, (put_ok hab.1 hab.2.1 hab.2.2 (h2.perm p1) p2 p3).perm p4.symm, (put_rep hab.2.1 (h2.perm p1) (h3.perm p1) p2 p3).perm p4.symm, ?_, by omega⟩, q2, q3⟩
  have hl := p4.length_eq
  have hl1 := p1.length_eq
  simp only [List.length_map, List.length_append] at hl hl1
  have hm : (midC a b v X).length ≤ 1 := by unfold midC; split <;> simp
  have hpl : (X.flatMap (pieces a b v)).length ≤ X.length + 1 := by
    have h6 := pieces_len (v := v) p2 (List.pairwise_append.1 (h2.perm p1).pair).1
    cases X with
    | nil => simp
    | cons x X => simp only [List.length_cons] at h6 ⊢; omega
  omega
theorem put_not {w : World} {g : Nat} {B : List Nat} {n : Nat} {gf : Int → Int} (h : LineAt w g B n gf) {a b v : Int} (hab : ¬ mayS a b) :
    Calls Try.prog 29 #[.pointer (some ⟨g, 0, none⟩), .agg #[.int .i64 a, .int .i64 b], .int .i64 v] w fun e w' => e = .returned (.int .i64 15) ∧ Mod [] w w' := by
  obtain ⟨M, E, h1, _⟩ := h.ex
  have mA := (Mod.refl [] w).alloc (.cells #[.int .i64 a, .int .i64 b] 24)
  have bA := heap_alloc_new w (.cells #[.int .i64 a, .int .i64 b] 24)
  have CN := Lib.hid (tlNone_at (h1.kept0 mA))
  have CM := Lib.hid (tlMay_at (w.alloc (.cells #[.int .i64 a, .int .i64 b] 24)) a b)
  rw [decide_eq_false hab] at CM
  have s0 := cell_blk bA 0
  have s1 := cell_blk bA 1
  simp only [List.getElem?_toArray, List.getElem?_cons_succ, List.getElem?_cons_zero] at s0 s1
  have HMA := Lib.hid mA
  clear h h1 mA bA
  go_enter Try.func29, Try.ntmps29
  go_wp2_with fail
  refine CN.out.mono ?_
  rintro e w1 ⟨rfl, rfl⟩
  go_wp2_with fail
  refine CM.out.mono ?_
  rintro e w2 ⟨rfl, m2⟩
  have HM2 := Lib.hid (HMA.out.trans m2)
  go_wp2_with fail
  go_ret
  exact ⟨rfl, HM2.out⟩
end Go.Proofs.Ytngglpekdjhbdaa
