/- Layer 11 at values: Ends. -/
import Derived.Test.YtngglpekdjhbdaaGreatWzAh
import Derived.Test.YtngglpekdjhbdaaGreatWzAc
import Derived.Test.YtngglpekdjhbdaaGreatWzAd
namespace Go.Proofs.YtngglpekdjhbdaaGreat
open Go.RowKit Go.ChangeMaps Go.Deep Tr
set_option linter.unusedSimpArgs false
set_option linter.unusedVariables false
set_option maxRecDepth 20000
attribute [local go_sem] Oper.semAt_some

theorem valZ_zero : valZ 0 = .agg #[.int .u8 0, .int .i64 0, .int .i64 0, .int .i64 0] := by unfold valZ; rw [vl_zero]
set_option maxHeartbeats 8000000 in
theorem segsZ_line {w : World} {g : Nat} {B : List Nat} {n : Nat} {gf : Int → Int} (h : ValAt w g B n gf) (hn : n ≤ 40000) {a b : Int} (hab : mayS a b) :
    Calls Tryz.prog 22 #[.pointer (some ⟨g, 0, none⟩), .agg #[.int .i64 a, .int .i64 b]] w fun e w' => ∃ v L, e = .returned v ∧ OwnR encSgZ 6 62 w' w.heap.size v L ∧ SegsTo gf a b L ∧ L.length ≤ 4 * n + 1 ∧ Mod [] w w' := by
  obtain ⟨M, E, hL, hok, hrep, hE, hM⟩ := h.ex
  have m0 := (((Mod.refl [] w).alloc (.cells #[.pointer (some ⟨g, 0, none⟩)] 27)).alloc (.cells #[.int .i64 a, .int .i64 b] 39)).alloc (.cells #[.slice none 0 0] 59)
  obtain ⟨X1, hX1, x1, z1, y1⟩ := alloc_named2 w (.cells #[.pointer (some ⟨g, 0, none⟩)] 27)
  obtain ⟨X2, hX2, x2, z2, y2⟩ := alloc_named2 X1 (.cells #[.int .i64 a, .int .i64 b] 39)
  obtain ⟨X3, hX3, x3, z3, y3⟩ := alloc_named2 X2 (.cells #[.slice none 0 0] 59)
  rw [z1] at x2 z2
  rw [z2] at x3 z3
  have CN := Lib.hid (tvNone_at (hL.kept0 (y1.trans (y2.trans y3))))
  have CM := Lib.hid (tlMay_at X3 a b)
  rw [decide_eq_true hab] at CM
  have HX1 := Lib.hid ((y2.trans y3).heap x1 (by simp))
  have HX2 := Lib.hid (y3.heap x2 (by simp))
  have HX3 := Lib.hid x3
  have HMX := Lib.hid (y1.trans (y2.trans y3))
  have HZ3 := Lib.hid z3
  have p0 := cell_blk HX1.out 0
  have p1 := cell_blk HX2.out 0
  have p2 := cell_blk HX2.out 1
  simp only [List.getElem?_toArray, List.getElem?_cons_succ, List.getElem?_cons_zero] at p0 p1 p2
  have HL := Lib.hid hL
  have HLT0 := Lib.hid hL.lt
  have HOK := Lib.hid hok
  have HREP := Lib.hid hrep
  clear m0 x1 x2 x3 y1 y2 y3 hL hok hrep h
  refine (callsIn_wide (n := 5)).1 ?_
  refine callsIn_of_wp_marks Tryz.func22 rfl trivial ?_ rfl
  simp only [Tryz.ntmps22, List.size_toArray, List.length_cons, List.length_nil, Nat.reduceAdd, Nat.reduceSub, Array.replicate_succ, Array.replicate_zero, List.push_toArray, List.append_toArray, List.nil_append, List.cons_append]
  gi_wp2_with fail
  refine ⟨trivial, (callsIn_wide.2 CN.out).mono ?_⟩
  rintro e w1 ⟨rfl, rfl⟩
  gi_wp2_with fail
  refine ⟨trivial, (callsIn_wide.2 CM.out).mono ?_⟩
  rintro e w1 ⟨rfl, m1⟩
  have HB0 := Lib.hid (m1.heap HX1.out (by simp))
  have HB1 := Lib.hid (m1.heap HX2.out (by simp))
  have HB2 := Lib.hid (m1.heap HX3.out (by simp))
  have HM1 := Lib.hid (HMX.out.trans m1)
  have HSZ := Lib.hid (show w.heap.size + 2 < w1.heap.size by have := m1.size; have := HZ3.out; omega)
  obtain ⟨A1, hA1, a1, s1, m2⟩ := alloc_named2 w1 (.cells #[.int .u8 0, .int .i64 0, .int .i64 0, .int .i64 0] 35)
  obtain ⟨A2, hA2, a2, s2, m3⟩ := alloc_named2 A1 (.cells #[.int .i64 a] 3)
  obtain ⟨A3, hA3, a3, s3, m4⟩ := alloc_named2 A2 (.cells #[.func (.func 35) #[] #[.pointer (some ⟨w1.heap.size + 1, 0, none⟩), .pointer (some ⟨w.heap.size + 1 + 1, 0, none⟩)]] 81)
  have b1 := cell_blk HB1.out 0
  simp only [List.getElem?_toArray, List.getElem?_cons_zero] at b1
  have b1' := m2.heap HB1.out (by simp)
  have d1 := cell_blk b1' 0
  simp only [List.getElem?_toArray, List.getElem?_cons_zero] at d1
  clear CN CM p0 p1 p2 m1
  gi_wp2_with fail
  rw [s1] at a2 s2
  rw [s2] at a3 s3
  have mA := m2.trans (m3.trans m4)
  have S := HL.out
  have c1 := mA.heap HB0.out (by simp)
  have c2 := mA.heap HB1.out (by simp)
  have c3 := mA.heap HB2.out (by simp)
  have e0 := cell_blk c1 0
  have e1 := cell_blk c2 0
  have e2 := cell_blk c2 1
  obtain ⟨tb, vv, gv, nv, fv, ns, fr, T, vs, fs, S0, rfl, hp, hns, hvs⟩ := HL.out
  have S3 := S0.kept (HM1.out.trans mA) (by simp)
  have g0 := cell_blk S3.blk 0
  simp only [List.getElem?_toArray, List.getElem?_cons_succ, List.getElem?_cons_zero] at e0 e1 e2 g0
  have HA := Lib.hid (itAll_at A3.drew tb a b)
  have HS3 := Lib.hid S3
  have HMA := Lib.hid (HM1.out.trans mA)
  have H1 := Lib.hid c1
  have H2 := Lib.hid c2
  have H3 := Lib.hid c3
  have HA1 := Lib.hid ((m3.trans m4).heap a1 (by simp))
  have HA2 := Lib.hid (m4.heap a2 (by simp))
  have HA3 := Lib.hid a3
  have HSA := Lib.hid s3
  have HP := Lib.hid hp
  have HLT := Lib.hid S0.lt
  have hTs : T.size ≤ 100000 := by have := S0.full; omega
  clear c1 c2 c3 S0 S3 mA a1 a2 a3 m2 m3 m4 b1 b1' d1 S HL HB0 HB1 HB2
  refine wpIn_wide.2 ?_
  refine wp_plan [([0, 4, 1, 2, 3], 5, [])] [] (by kernel_rfl) (by kernel_rfl) ?_
  simp only [wpSegs, opsOf, List.map_cons, List.map_nil, opN, List.getD_cons_zero, List.getD_cons_succ]
  go_wp2_with fail
  refine ⟨by first | trivial | rfl, ?_⟩
  go_wp2_with fail
  refine HA.out.mono ?_
  rintro e w3 ⟨rfl, rfl⟩
  obtain ⟨f1, f2, f3, f4⟩ := allW_facts A3.drew tb a b
  generalize allW A3.drew tb a b = w4 at f1 f2 f3 f4 ⊢
  have hsd : A3.drew.heap.size = w1.heap.size + 1 + 1 + 1 := HSA.out
  rw [hsd] at f2 f3 f4 ⊢
  have hN : w4.heap.size = w1.heap.size + 5 := f4
  have hf1 : Mod [] A3 w4 := ((Mod.refl [] A3).drew).trans f1
  obtain ⟨q1, q2⟩ := (HS3.out.kept ((Mod.refl [] A3).drew) (by simp)).tree.seq hTs a b f1 f2 f3
  have hov : overI a b T = over a b T := by unfold overI; rw [if_pos hab.2.1]
  rw [hov] at q1
  have hSl : (over a b T).length ≤ 100000 := Nat.le_trans (over_len _ _ T) hTs
  have hSl2 : (over a b T).length ≤ 2 * n := by
    have h1 := over_len a b T
    have h2 := HP.out.length_eq
    rw [List.length_map, items_len] at h2
    omega
  have hsub : ∀ x ∈ over a b T, x ∈ T.items := fun x hx => (List.mem_filter.1 hx).1
  obtain ⟨SS, hSS0⟩ : ∃ SS, SS = over a b T := ⟨_, rfl⟩
  rw [← hSS0] at q1 hSl hsub hSl2
  have HSL := Lib.hid hSl2
  have HSS := Lib.hid hSS0
  have HSUB := Lib.hid hsub
  have S4 := HS3.out.kept hf1 (by simp)
  have HS4 := Lib.hid S4
  have hltB : ∀ k ∈ lnB g tb vv gv nv fv, k < w.heap.size := fun k hk => HLT.out k hk
  have HB1 := Lib.hid (hf1.heap H1.out (by simp))
  have HB2 := Lib.hid (hf1.heap H2.out (by simp))
  have HB3 := Lib.hid (hf1.heap H3.out (by simp))
  have HC1 := Lib.hid (hf1.heap HA1.out (by simp))
  have HC2 := Lib.hid (hf1.heap HA2.out (by simp))
  have HC3 := Lib.hid (hf1.heap HA3.out (by simp))
  have HMW := Lib.hid (HMA.out.trans hf1)
  have h0 : SeZ (w1.heap.size + 1) (w.heap.size + 1 + 1) (w1.heap.size + 5) w4 ([], a) w4 := ⟨_, ⟨HC2.out, HB3.out, OwnR.nil_ _ _, by have := HSZ.out; omega⟩, Mod.refl _ _⟩
  have hsz := HSZ.out
  clear f1 f2 f3 f4 H1 H2 H3 HA1 HA2 HA3 hf1 S4 hsub hSS0 hsd HA HMA HS3 HM1
  go_wp2_with fail
  refine ⟨again_nil, ?_⟩
  go_wp2_with fail
  refine ⟨by first | trivial | rfl, ?_⟩
  go_wp2_with fail
  gi_wp2_with fail
  refine wpIn_rangeFunc_M rfl (by omega) (gf := 58) (lb := #[.pointer (some ⟨w1.heap.size + 1 + 1 + 1 + 1, 0, none⟩), .pointer (some ⟨w1.heap.size + 1 + 1 + 1, 0, none⟩)]) rfl trivial (enters_of Tryz.func58 (by kernel_rfl) rfl) (q1 4 (by omega)) (ModP.refl _ _) q2 (fun _ => rfl)
    (fun pre W => SeZ (w1.heap.size + 1) (w.heap.size + 1 + 1) (w1.heap.size + 5) w4 ((pre.map (fun x => sg (valOf vs x))).foldl (stepS b) ([], a)) W)
    (fun pre x a' W => SeZ (w1.heap.size + 1) (w.heap.size + 1 + 1) (w1.heap.size + 5) w4 ((pre.map (fun x => sg (valOf vs x))).foldl (stepS b) ([], a)) W ∧ ∃ Bx, w1.heap.size + 7 < Bx ∧ W.heap[Bx]? = some (.cells #[.int .i64 x.f, .int .i64 x.t, .int .i64 x.i] 70 (0, 0)) ∧ a' = { tmps := #[.pointer (some ⟨g, 0, none⟩), .agg #[.int .i64 a, .int .i64 b], .pointer (some ⟨w.heap.size, 0, none⟩), .pointer (some ⟨w.heap.size + 1, 0, none⟩), .pointer (some ⟨w.heap.size + 1 + 1, 0, none⟩), .pointer (some ⟨w1.heap.size, 0, none⟩), .pointer (some ⟨w1.heap.size + 1, 0, none⟩), .pointer (some ⟨w1.heap.size + 1 + 1, 0, none⟩), .pointer (some ⟨Bx, 0, none⟩), .pointer (some ⟨g, 0, none⟩), .bool false, .bool false, .agg #[.int .i64 a, .int .i64 b], .bool true, .bool false, .bool false, .pointer (some ⟨w.heap.size + 1, 0, none⟩), .int .i64 a, .func (.func 35) #[] #[.pointer (some ⟨w1.heap.size + 1, 0, none⟩), .pointer (some ⟨w.heap.size + 1 + 1, 0, none⟩)], .pointer (some ⟨g, 0, none⟩), .pointer (some ⟨g, 0, none⟩), .pointer (some ⟨g, 0, none⟩), .pointer (some ⟨tb, 0, none⟩), .agg #[.int .i64 a, .int .i64 b], .func (.func 58) #[] #[.pointer (some ⟨w1.heap.size + 1 + 1 + 1 + 1, 0, none⟩), .pointer (some ⟨w1.heap.size + 1 + 1 + 1, 0, none⟩)], itV x, undef, undef, undef, undef, undef, undef, undef, undef, undef, undef, undef, undef, undef, undef, undef, undef, undef, undef, undef, undef, undef, undef, undef, undef, undef, undef], defers := [] })
    (fun s A B h m => by rw [hN] at m; exact h.kept hN (by omega) (by omega) m)
    (fun s x a' A B h m => by
      rw [hN] at m
      obtain ⟨h1, Bx, h2, h3, h4⟩ := h
      exact ⟨h1.kept hN (by omega) (by omega) m, Bx, h2, m.heap h3 (by simp; omega), h4⟩)
    h0 ?assign ?body ?done
  case assign =>
    intro l pre x post W K hSS hI hgt hK
    dsimp only [itV]
    have hma := (Mod.refl [] W).alloc (.cells #[.int .i64 x.f, .int .i64 x.t, .int .i64 x.i] 70)
    have HI2 := Lib.hid (hI.kept0 hma)
    have HB2 := Lib.hid (heap_alloc_new W (.cells #[.int .i64 x.f, .int .i64 x.t, .int .i64 x.i] 70))
    have HM2 := Lib.hid hma
    have HG2 := Lib.hid (show w1.heap.size + 7 < W.heap.size by omega)
    clear hma hI hN hgt q1 q2 h0
    gi_wp2
    exact hK _ _ (ModP.of HM2.out (by simp)) ⟨HI2.out, W.heap.size, HG2.out, HB2.out, rfl⟩
  case body =>
    rintro l pre x post a' W hSS ⟨⟨v, hO, hm⟩, Bx, hBx, hx, rfl⟩ hgt
    have hfold : ((pre ++ [x]).map (fun x => sg (valOf vs x))).foldl (stepS b) ([], a) = stepS b ((pre.map (fun x => sg (valOf vs x))).foldl (stepS b) ([], a)) (sg (valOf vs x)) := by simp [List.foldl_append]
    have hpl : (((pre.map (fun x => sg (valOf vs x))).foldl (stepS b) ([], a)).1).length ≤ 2 * pre.length := by
      have := stepS_len b (pre.map (fun x => sg (valOf vs x))) ([], a)
      simpa using this
    have hprl : pre.length ≤ 100000 := by
      have := congrArg List.length hSS
      simp at this; omega
    have hxT := HSUB.out x (by rw [hSS]; simp)
    have hlm : ∀ k ∈ lnB g tb vv gv nv fv, k ∉ [w1.heap.size + 1, w.heap.size + 1 + 1] := fun k hk hm => by
      have := hltB k hk
      simp at hm; omega
    have HFO := Lib.hid hfold
    generalize (pre.map (fun x => sg (valOf vs x))).foldl (stepS b) ([], a) = o at hO HFO hpl
    have hcB1 := hm.heap HB1.out (by simp; omega)
    have hcC1 := hm.heap HC1.out (by simp; omega)
    have hcC3 := hm.heap HC3.out (by simp; omega)
    have k0 := cell_blk hcC1 0
    have k01 := cell_blk hcC1 1
    have k02 := cell_blk hcC1 2
    have k03 := cell_blk hcC1 3
    have k1 := cell_blk hcC3 0
    have e0 := cell_blk hx 0
    simp only [List.getElem?_toArray, List.getElem?_cons_succ, List.getElem?_cons_zero] at k0 k01 k02 k03 k1 e0
    have cs := seg1Z_at hO x.f 0 (by omega) (by omega)
    rw [valZ_zero] at cs
    have CS := Lib.hid cs
    clear cs
    have hneB : ∀ k, v.ownBlock = some k → w1.heap.size + 8 ≤ k ∧ k ≠ Bx := fun k hk => by
      refine ⟨by have := (World.ownsRow.lt hO.own k hk).1; omega, fun e => ?_⟩
      subst e
      obtain ⟨o', h1⟩ := ownsRow_cells hO.own hk
      rw [h1] at hx
      cases hx
    have HX := Lib.hid hx
    have HO := Lib.hid hO
    have HM := Lib.hid hm
    clear hcB1 hcC1 hcC3 hx hO hm hfold q1 q2 h0
    gi_wp2_with fail
    refine ⟨trivial, (CallsIn.inRound l (callsIn_wide.2 CS.out)).mono ?_⟩
    rintro e W1 ⟨rfl, v1, hO1, hm1⟩
    obtain ⟨⟨v2, hO2, hM1⟩, hpp1⟩ := SeZ.tell hN HO.out HM.out ⟨v1, hO1, hm1⟩ (by omega)
    have hx1 := hm1.heap HX.out (by
      simp only [List.mem_cons, mem_blk, not_or]
      exact ⟨by omega, by omega, fun h => (hneB _ h).2 rfl⟩)
    have hcB0 := hM1.heap HB1.out (by simp; omega)
    have hcB1 := hM1.heap HB2.out (by simp; omega)
    have hcC3 := hM1.heap HC3.out (by simp; omega)
    have SW := HS4.out.kept hM1 hlm
    obtain ⟨k, hk, hkl, hkf⟩ := SW.ids x hxT
    obtain ⟨f, t, id⟩ := x
    dsimp only at hk
    subst hk
    obtain ⟨y, yc, hvv, hy, hyc⟩ := SW.vals.at_ (show vs[k]? = some vs[k] from List.getElem?_eq_getElem hkl)
    have SV := SW.vals
    have SB := SW.blk
    rw [hvv] at SV SB
    have vk : ∀ (j : Nat) (u : Value), (encZ vs[k])[j]? = some u → W1.cell? ⟨y, k * 4 + j, none⟩ = some u := fun j u hu => (SV.cell encZ_len hkl (j := j) (by have := (List.getElem?_eq_some_iff.1 hu).1; rw [encZ_len] at this; exact this) hu).1
    obtain ⟨kv, cv, sv, ev, hvl⟩ := valZ_form vs[k]
    have hez : encZ vs[k] = [.int .u8 kv, .int .i64 cv, .int .i64 sv, .int .i64 ev] := by unfold encZ; rw [hvl]
    have hvz : valZ vs[k] = .agg #[.int .u8 kv, .int .i64 cv, .int .i64 sv, .int .i64 ev] := by unfold valZ; rw [hvl]
    rw [hez] at vk
    have vk0 := vk 0 _ rfl
    have vk1 := vk 1 _ rfl
    have vk2 := vk 2 _ rfl
    have vk3 := vk 3 _ rfl
    simp only [Nat.add_zero] at vk0
    have c1 := cell_blk SB 1
    have f1 := cell_blk hx1 1
    have f2 := cell_blk hx1 2
    have k2 := cell_blk hcC3 0
    have k3 := cell_blk hcB0 0
    have k4 := cell_blk hcB1 1
    simp only [List.getElem?_toArray, List.getElem?_cons_succ, List.getElem?_cons_zero] at c1 f1 f2 k2 k3 k4
    have hk0 : decide ((k : Int) < 0) = false := decide_eq_false (by omega)
    have hk1 : decide ((vs.length : Int) ≤ (k : Int)) = false := decide_eq_false (by omega)
    have hV : (sg (valOf vs ⟨f, t, k⟩)) = ⟨f, t, vs[k]⟩ := by simp [sg, valOf, hkl]
    rw [hV] at HFO
    have hl1 : (addS o f 0).1.length ≤ o.1.length + 1 := addS_len o f 0
    have hW1 := hm1.size
    have cs2 := (seg1Z_at (hO1.kept ((Mod.refl [] W1).drew) (by simp) (by simp) (by simp)) (min t b) vs[k] (show (addS o f 0).1.length < 1073741824 by omega) (show w1.heap.size + 5 + 3 ≤ W1.drew.heap.size by show _ ≤ W1.heap.size; omega))
    rw [hvz] at cs2
    have CS2 := Lib.hid cs2
    have HPP := Lib.hid (show ModP (fun k => allP tb nv fv (w1.heap.size + 1 + 1 + 1 + 1) (w1.heap.size + 1 + 1 + 1) k ∨ k = w4.heap.size ∨ k = w4.heap.size + 1 ∨ k = w4.heap.size + 2) W W1 ∧ ¬ (fun k => allP tb nv fv (w1.heap.size + 1 + 1 + 1 + 1) (w1.heap.size + 1 + 1 + 1) k ∨ k = w4.heap.size ∨ k = w4.heap.size + 1 ∨ k = w4.heap.size + 2) (w1.heap.size + 1) ∧ ¬ (fun k => allP tb nv fv (w1.heap.size + 1 + 1 + 1 + 1) (w1.heap.size + 1 + 1 + 1) k ∨ k = w4.heap.size ∨ k = w4.heap.size + 1 ∨ k = w4.heap.size + 2) (w.heap.size + 1 + 1) ∧ (∀ k, (fun k => allP tb nv fv (w1.heap.size + 1 + 1 + 1 + 1) (w1.heap.size + 1 + 1 + 1) k ∨ k = w4.heap.size ∨ k = w4.heap.size + 1 ∨ k = w4.heap.size + 2) k → k < w1.heap.size + 5 + 3) from by
      have hT : ∀ k, treeP tb nv fv k → k < w.heap.size := fun k hk => hltB k (by
        rcases hk with rfl | hk | hk
        · simp [lnB]
        · simp [lnB, mem_blk, hk]
        · simp [lnB, mem_blk, hk])
      have n1 : ¬ (fun k => allP tb nv fv (w1.heap.size + 1 + 1 + 1 + 1) (w1.heap.size + 1 + 1 + 1) k ∨ k = w4.heap.size ∨ k = w4.heap.size + 1 ∨ k = w4.heap.size + 2) (w1.heap.size + 1) := by
        rintro ((h | h | h) | h | h | h)
        · have := hT _ h; omega
        all_goals omega
      have n2 : ¬ (fun k => allP tb nv fv (w1.heap.size + 1 + 1 + 1 + 1) (w1.heap.size + 1 + 1 + 1) k ∨ k = w4.heap.size ∨ k = w4.heap.size + 1 ∨ k = w4.heap.size + 2) (w.heap.size + 1 + 1) := by
        rintro ((h | h | h) | h | h | h)
        · have := hT _ h; omega
        all_goals omega
      have n3 : ∀ k, (fun k => allP tb nv fv (w1.heap.size + 1 + 1 + 1 + 1) (w1.heap.size + 1 + 1 + 1) k ∨ k = w4.heap.size ∨ k = w4.heap.size + 1 ∨ k = w4.heap.size + 2) k → k < w1.heap.size + 5 + 3 := by
        rintro k ((h | h | h) | h | h | h)
        · have := hT _ h; omega
        all_goals omega
      exact ⟨hpp1 _ n1 n2 n3, n1, n2, n3⟩)
    have HO1 := Lib.hid hO1
    have HM1 := Lib.hid (show Mod [w1.heap.size + 1, w.heap.size + 1 + 1] w4 W1 from hM1)
    clear cs2 hvz hez hvl vk SW SV SB hvv hcB0 hcB1 hcC3 hx1 hO2 hM1 hpp1 hO1 hm1 CS HX hneB HS4
    gi_wp2_with fail
    refine wp_planR [([0, 1, 3, 6, 10, 2, 4, 7, 11, 8, 9, 12, 13], 5, [0, 6, 10, 7, 11, 8, 9, 12, 13]), ([], 14, [])] [] (by kernel_rfl) (by kernel_rfl) (by kernel_rfl) (by rintro ⟨_, _, h⟩; first | exact h.elim | (exact absurd h.1 (by simp)) | cases h) ?_
    simp only [wpSegs, opsOf, List.map_cons, List.map_nil, opN, List.getD_cons_zero, List.getD_cons_succ]
    go_wp2_with fail
    refine ⟨by first | trivial | rfl, ?_⟩
    go_wp2_with ((with_reducible apply xMin rfl); exact rfl; exact rfl; exact rfl)
    refine ⟨?ag9, ?_⟩
    case ag9 =>
      intro i hi hw
      simp only [List.mem_cons, List.not_mem_nil, or_false] at hi
      rcases hi with rfl | rfl | rfl | rfl | rfl | rfl | rfl | rfl | rfl
      all_goals (simp only [opN, List.getD_cons_zero, List.getD_cons_succ, slotOf]; go_simp)
    go_wp2_with fail
    refine ⟨by first | trivial | rfl, ?_⟩
    go_wp2_with fail
    refine CS2.out.mono ?_
    rintro e W2 ⟨rfl, P2⟩
    obtain ⟨hS2, hpp2⟩ := SeZ.tell hN (HO1.out.kept ((Mod.refl [] W1).drew) (by simp) (by simp) (by simp)) (HM1.out.drew) P2 (by show _ < W1.heap.size; omega)
    have HS2 := Lib.hid hS2
    have HPP2 := Lib.hid (hpp2 _ HPP.out.2.1 HPP.out.2.2.1 HPP.out.2.2.2)
    have HFIN := Lib.hid (show SeZ (w1.heap.size + 1) (w.heap.size + 1 + 1) (w1.heap.size + 5) w4 (((pre ++ [(⟨f, t, k⟩ : It)]).map (fun x => sg (valOf vs x))).foldl (stepS b) ([], a)) W2 from by
      rw [HFO.out]
      exact hS2)
    clear P2 hS2 hpp2
    go_wp2_with fail
    refine ⟨again_nil, ?_⟩
    go_wp2_with fail
    refine ⟨by first | trivial | rfl, ?_⟩
    go_wp2_with fail
    exact ⟨(HPP.out.1.trans (ModP.of ((Mod.refl [] W1).drew) (by simp))).trans HPP2.out, HFIN.out⟩
  case done =>
    rintro D W hD ⟨v, hO, hm⟩ hK
    have HRES := Lib.hid (over_told HS4.out.tree.srt HP.out HOK.out HREP.out hab.2.1)
    rw [← HSS.out] at HRES
    have hpl : (((SS.map (fun x => sg (valOf vs x))).foldl (stepS b) ([], a)).1).length ≤ 2 * SS.length := by
      have := stepS_len b (SS.map (fun x => sg (valOf vs x))) ([], a)
      simpa using this
    generalize (SS.map (fun x => sg (valOf vs x))).foldl (stepS b) ([], a) = o at hO HRES hpl
    have hcB1 := hm.heap HB2.out (by simp; omega)
    have hcC1 := hm.heap HC1.out (by simp; omega)
    have hcC3 := hm.heap HC3.out (by simp; omega)
    have k0 := cell_blk hcC1 0
    have k01 := cell_blk hcC1 1
    have k02 := cell_blk hcC1 2
    have k03 := cell_blk hcC1 3
    have k1 := cell_blk hcC3 0
    have k2 := cell_blk hcB1 1
    simp only [List.getElem?_toArray, List.getElem?_cons_succ, List.getElem?_cons_zero] at k0 k01 k02 k03 k1 k2
    have hDW := lt_of_heap hK
    have HLEN := Lib.hid (show (addS o b 0).1.length ≤ 4 * n + 1 from by
      have h1 := addS_len o b 0
      have h2 := HSL.out
      omega)
    have hO' : TellZ W (w1.heap.size + 1) (w.heap.size + 1 + 1) (w1.heap.size + 5) v o := ⟨hO.day, hO.cell, hO.own.mono (by omega), by omega, by omega, by omega⟩
    have cs := seg1Z_at hO' b 0 (by omega) (by omega)
    rw [valZ_zero] at cs
    have CS := Lib.hid cs
    clear cs
    have hvD : ∀ k, v.ownBlock = some k → k ≠ D ∧ w1.heap.size + 5 ≤ k := fun k hk => by
      refine ⟨fun e => ?_, (World.ownsRow.lt hO'.own k hk).1⟩
      subst e
      obtain ⟨o', h1⟩ := ownsRow_cells hO'.own hk
      rw [hK] at h1
      cases h1
    have HK := Lib.hid hK
    have HM := Lib.hid (show Mod [] w W from Mod.into' HMW.out hm (fun k hk => .inl (by simp at hk; omega)))
    clear hcB1 hcC1 hcC3 hO hO' hm hK q1 q2 h0
    gi_wp2_with fail
    refine ⟨trivial, (callsIn_wide.2 CS.out).mono ?_⟩
    rintro e W1 ⟨rfl, v1, hO1, hm1⟩
    obtain ⟨va, vn, vc, rfl⟩ : ∃ a n c, v1 = .slice a n c := by obtain ⟨a, c, e⟩ := hO1.own.lens; exact ⟨a, _, c, e⟩
    have hD1 := hm1.heap HK.out (by
      simp only [List.mem_cons, mem_blk, not_or]
      exact ⟨by omega, by omega, fun h => (hvD _ h).1 rfl⟩)
    have b0 := cell_blk hO1.cell 0
    have f0 := frozen_blk hO1.cell 0
    have hDB : w.heap.size + 1 + 1 ≠ D := by omega
    have hc2 := heap_setCell_blk hO1.cell 0 (.slice va vn vc)
    have hd : (W1.setCell ⟨w.heap.size + 1 + 1, 0, none⟩ (.slice va vn vc)).heap[D]? = some (.deferred (some [])) := by
      rw [heap_setCell_ne _ _ _ (by exact fun e => hDB e.symm)]; exact hD1
    have hc3 : ((W1.setCell ⟨w.heap.size + 1 + 1, 0, none⟩ (.slice va vn vc)).putObj D (.deferred none)).heap[w.heap.size + 1 + 1]? = some (.cells #[.slice va vn vc] 59 (0, 0)) := by
      rw [World.putObj_heap_other hDB]
      simpa using hc2
    have q0 := cell_blk hc3 0
    simp only [List.getElem?_toArray, List.getElem?_cons_zero] at b0 q0
    have ms : Mod [w.heap.size + 1 + 1] W1 (W1.setCell ⟨w.heap.size + 1 + 1, 0, none⟩ (.slice va vn vc)) := (Mod.refl _ _).setCell (by simp) _
    have mp : Mod [D] (W1.setCell ⟨w.heap.size + 1 + 1, 0, none⟩ (.slice va vn vc)) ((W1.setCell ⟨w.heap.size + 1 + 1, 0, none⟩ (.slice va vn vc)).putObj D (.deferred none)) := Mod.putObj _ _ _
    have HO := Lib.hid (show OwnR encSgZ 6 62 ((W1.setCell ⟨w.heap.size + 1 + 1, 0, none⟩ (.slice va vn vc)).putObj D (.deferred none)) w.heap.size (.slice va vn vc) (addS o b 0).1 from ((hO1.own.kept ms (fun k hk => by
      have := (World.ownsRow.lt hO1.own k hk).1
      simp; omega)).kept mp (fun k hk => by
      obtain ⟨o', h1⟩ := ownsRow_cells hO1.own hk
      rw [List.mem_singleton]
      intro e
      subst e
      rw [hD1] at h1
      cases h1)).mono (by omega))
    have hwW := HM.out.size
    have HMP := Lib.hid (show Mod [] w ((W1.setCell ⟨w.heap.size + 1 + 1, 0, none⟩ (.slice va vn vc)).putObj D (.deferred none)) from Mod.into' (Mod.into' (Mod.into' HM.out hm1 (fun k hk => .inl (by
      simp only [List.mem_cons, mem_blk] at hk
      rcases hk with rfl | rfl | hk
      · omega
      · omega
      · have := (hvD k hk).2; omega))) ms (fun k hk => .inl (by simp at hk; omega))) mp (fun k hk => .inl (by simp at hk; omega)))
    have HD := Lib.hid hd
    clear hd hc2 hc3 ms mp hO1 hm1 hD1 CS hN
    gi_wp2_with fail
    refine ⟨by simp, .inl ⟨_, _, rfl, run_takeDeferred HD.out, ?_⟩⟩
    exact ⟨.slice va vn vc, by simp [results, Tryz.results22, go_sem, q0], _, _, rfl, HO.out, HRES.out, HLEN.out, HMP.out⟩
theorem segsZ_not {w : World} {g : Nat} {B : List Nat} {n : Nat} {gf : Int → Int} (h : ValAt w g B n gf) {a b : Int} (hab : ¬ mayS a b) :
    Calls Tryz.prog 22 #[.pointer (some ⟨g, 0, none⟩), .agg #[.int .i64 a, .int .i64 b]] w fun e w' => e = .returned (.slice none 0 0) ∧ Mod [] w w' := by
  obtain ⟨M, E, hL, hok, hrep, hE, hM⟩ := h.ex
  obtain ⟨X1, hX1, x1, z1, y1⟩ := alloc_named2 w (.cells #[.pointer (some ⟨g, 0, none⟩)] 27)
  obtain ⟨X2, hX2, x2, z2, y2⟩ := alloc_named2 X1 (.cells #[.int .i64 a, .int .i64 b] 39)
  obtain ⟨X3, hX3, x3, z3, y3⟩ := alloc_named2 X2 (.cells #[.slice none 0 0] 59)
  rw [z1] at x2 z2
  rw [z2] at x3 z3
  have CN := Lib.hid (tvNone_at (hL.kept0 (y1.trans (y2.trans y3))))
  have CM := Lib.hid (tlMay_at X3 a b)
  rw [decide_eq_false hab] at CM
  have HX1 := Lib.hid ((y2.trans y3).heap x1 (by simp))
  have HX2 := Lib.hid (y3.heap x2 (by simp))
  have HX3 := Lib.hid x3
  have HMX := Lib.hid (y1.trans (y2.trans y3))
  have p0 := cell_blk HX1.out 0
  have p1 := cell_blk HX2.out 0
  have p2 := cell_blk HX2.out 1
  simp only [List.getElem?_toArray, List.getElem?_cons_succ, List.getElem?_cons_zero] at p0 p1 p2
  clear x1 x2 x3 y1 y2 y3 hL hok hrep h
  go_enter Tryz.func22, Tryz.ntmps22
  go_wp2_with fail
  refine CN.out.mono ?_
  rintro e w1 ⟨rfl, rfl⟩
  go_wp2_with fail
  refine CM.out.mono ?_
  rintro e w1 ⟨rfl, m1⟩
  have hB2 := m1.heap HX3.out (by simp)
  have q0 := cell_blk hB2 0
  have f0 := frozen_blk hB2 0
  simp only [List.getElem?_toArray, List.getElem?_cons_zero] at q0
  have q1 := cell_blk (heap_setCell_blk hB2 0 (.slice none 0 0)) 0
  simp at q1
  have HM := Lib.hid (Mod.into' (HMX.out.trans m1) ((Mod.refl [w.heap.size + 1 + 1] w1).setCell (by simp) (.slice none 0 0) : Mod [w.heap.size + 1 + 1] w1 (w1.setCell ⟨w.heap.size + 1 + 1, 0, none⟩ (.slice none 0 0))) (fun k hk => .inl (by simp at hk; omega)))
  clear hB2 m1 CN CM
  go_wp2_with fail
  refine bodyPost_ret (v := .slice none 0 0) ?_ rfl ⟨rfl, HM.out⟩
  simp [results, Tryz.results22, go_sem, q1]
end Go.Proofs.YtngglpekdjhbdaaGreat
namespace Go.Proofs.YtngglpekdjhbdaaGreat
open Go.RowKit Go.ChangeMaps Go.Deep Tr
set_option linter.unusedSimpArgs false
set_option linter.unusedVariables false
set_option maxRecDepth 20000

set_option maxHeartbeats 4000000 in
theorem endsZ_of {w : World} {g : Nat} {a b : Int} {Q : List Sg → Prop} (hlen : ∀ L, Q L → L.length ≤ 1000000)
    (HSEG : ∀ W, Mod [] w W → Calls Tryz.prog 22 #[.pointer (some ⟨g, 0, none⟩), .agg #[.int .i64 a, .int .i64 b]] W fun e w' => ∃ v L, e = .returned v ∧ OwnR encSgZ 6 62 w' W.heap.size v L ∧ Q L ∧ Mod [] W w') :
    Calls Tryz.prog 10 #[.pointer (some ⟨g, 0, none⟩), .agg #[.int .i64 a, .int .i64 b]] w fun e w' => ∃ v L, e = .returned v ∧ OwnR encI 1 3 w' w.heap.size v (endsL L) ∧ Q L ∧ Mod [] w w' := by
  have mA := (Mod.refl [] w).alloc (.cells #[.int .i64 a, .int .i64 b] 39)
  have bA := heap_alloc_new w (.cells #[.int .i64 a, .int .i64 b] 39)
  have s0 := cell_blk bA 0
  have s1 := cell_blk bA 1
  simp only [List.getElem?_toArray, List.getElem?_cons_succ, List.getElem?_cons_zero] at s0 s1
  have CS := Lib.hid (HSEG _ mA)
  have HMA := Lib.hid mA
  clear mA bA HSEG
  go_enter Tryz.func10, Tryz.ntmps10
  go_wp2_with fail
  refine CS.out.mono ?_
  rintro e w1 ⟨lv, L, rfl, oL, hQ, m1⟩
  obtain ⟨la, lc, rfl⟩ := oL.lens
  have HO := Lib.hid oL
  have HM1 := Lib.hid (HMA.out.trans m1)
  have hw1 := Nat.le_trans HMA.out.size m1.size
  have HSZ := Lib.hid hw1
  have hl := hlen L hQ
  have HQ := Lib.hid hQ
  clear oL m1 CS HMA hw1 hQ
  go_wp2_with fail
  go_loopw [4, 11] (fun s4 s11 W => ∃ j : Nat, j ≤ L.length ∧ s11 = .int .i64 j ∧ Hid (OwnR encI 1 3 W w.heap.size s4 (endsL (L.take j)) ∧ Mod [] w W ∧ OwnR encSgZ 6 62 W w.heap.size (.slice la L.length lc) L ∧ ∀ k, s4.ownBlock = some k → (Value.slice la L.length lc).ownBlock ≠ some k)) (fun _ s11 _ => L.length - (intOf s11).toNat)
  case atStart => exact ⟨0, by omega, rfl, Lib.hid ⟨OwnR.nil_ _ _, HM1.out, HO.out.mono (by simp), by simp [Value.ownBlock]⟩⟩
  case round =>
    obtain ⟨j, hj, rfl, hS⟩ := hrel
    obtain ⟨h1, h2, h3, h4⟩ := hS.out
    by_cases hlt : j < L.length
    · obtain ⟨q, cap, heq, hq, hcap⟩ := h3.at_ (show L[j]? = some L[j] from List.getElem?_eq_getElem hlt)
      simp only [Value.slice.injEq] at heq
      obtain ⟨rfl, _, rfl⟩ := heq
      have hET := endsL_take L j hlt
      obtain ⟨kv, cv, sv, ev, hvl⟩ := valZ_form (L[j]).v
      have hez : encSgZ L[j] = [.int .i64 (L[j]).f, .int .i64 (L[j]).t, .int .u8 kv, .int .i64 cv, .int .i64 sv, .int .i64 ev] := by unfold encSgZ encZ; rw [hvl]
      have hrow : wr.rangeAt q (j * 6) [.int .i64 (L[j]).f, .int .i64 (L[j]).t, .int .u8 kv, .int .i64 cv, .int .i64 sv, .int .i64 ev] := fun jj u hu => (h3.cell encSgZ_len hlt (j := jj) (by have := (List.getElem?_eq_some_iff.1 hu).1; simpa using this) (u := u) (by rw [hez]; exact hu)).1
      clear hez hvl
      generalize L[j] = s at hrow hET
      obtain ⟨f, t, v⟩ := s
      dsimp only at hrow hET
      have HLI := Lib.hid (run_loadAt_mid (P := Tryz.prog) _ q (j * 6) 62 _ _ hrow Tryz.underlying62 rfl (by kernel_rfl))
      have mI := (Mod.refl [] wr).alloc (.cells #[.int .i64 f, .int .i64 t, .int .u8 kv, .int .i64 cv, .int .i64 sv, .int .i64 ev] 62)
      have bI := heap_alloc_new wr (.cells #[.int .i64 f, .int .i64 t, .int .u8 kv, .int .i64 cv, .int .i64 sv, .int .i64 ev] 62)
      have i0 := cell_blk bI 0
      simp only [List.getElem?_toArray, List.getElem?_cons_succ, List.getElem?_cons_zero] at i0
      have hj0 : decide ((j : Int) < 0) = false := decide_eq_false (by omega)
      have hj1 : decide ((L.length : Int) ≤ (j : Int)) = false := decide_eq_false (by omega)
      have hj2 : decide ((j : Int) < (L.length : Int)) = true := decide_eq_true (by omega)
      have hel : (endsL (L.take j)).length < 1073741824 := by unfold endsL; simp; omega
      by_cases hz : 0 < j
      · have hzd : decide ((0 : Int) < (j : Int)) = true := decide_eq_true (by omega)
        rw [if_pos hz] at hET
        obtain ⟨v', w', ra, ho', gr⟩ := own_append1 (P := Tryz.prog) (ty := 41) elemInt encI_len encI_one (h1.kept0 mI) (Nat.le_trans h2.size mI.size) f hel (by omega)
        dsimp only [encI] at ra
        simp only [World.size_alloc] at ra
        obtain ⟨a', n', c', rfl⟩ : ∃ a n c, v' = .slice a n c := by obtain ⟨a, c, e⟩ := ho'.lens; exact ⟨a, _, c, e⟩
        have HN := Lib.hid (show OwnR encI 1 3 w' w.heap.size (.slice a' n' c') (endsL (L.take (j + 1))) ∧ Mod [] w w' ∧ OwnR encSgZ 6 62 w' w.heap.size (.slice (some ⟨q, 0, none⟩) L.length lc) L ∧ ∀ k, (Value.slice a' n' c').ownBlock = some k → (Value.slice (some ⟨q, 0, none⟩) L.length lc).ownBlock ≠ some k from by
          refine ⟨by rw [hET]; exact ho', Mod.into' (h2.trans mI) gr.mod (fun k hk => .inl ?_), (h3.kept0 mI).kept gr.mod (fun k hk hm => ?_), fun k hk hk2 => ?_⟩
          · rw [mem_blk] at hk
            exact (World.ownsRow.lt h1 k hk).1
          · rw [mem_blk] at hm
            exact h4 k hm hk
          · rcases gr.heir with e | e
            · exact h4 k (e ▸ hk) hk2
            · have := e k hk
              have := (World.ownsRow.lt (h3.kept0 mI) k hk2).2
              omega)
        have RA := Lib.hid ra
        clear h1 h2 h3 h4 hrow mI bI ho' gr ra hET hel
        go_wp2_with (first | ((with_reducible refine xLoadAt rfl HLI.out ?_ ?_ ?_); exact rfl; exact rfl) | ((with_reducible refine xAppendAt RA.out rfl rfl ?_ ?_ ?_ ?_); exact rfl; exact rfl; exact rfl))
        go_roundw
        case rel => exact ⟨j + 1, by omega, by go_num, HN⟩
        case measure => simp [intOf]; omega
      · have hzd : decide ((0 : Int) < (j : Int)) = false := decide_eq_false (by omega)
        rw [if_neg hz, List.append_nil] at hET
        have HN := Lib.hid (show OwnR encI 1 3 (wr.alloc (.cells #[.int .i64 f, .int .i64 t, .int .u8 kv, .int .i64 cv, .int .i64 sv, .int .i64 ev] 62)) w.heap.size u4 (endsL (L.take (j + 1))) ∧ Mod [] w (wr.alloc (.cells #[.int .i64 f, .int .i64 t, .int .u8 kv, .int .i64 cv, .int .i64 sv, .int .i64 ev] 62)) ∧ OwnR encSgZ 6 62 (wr.alloc (.cells #[.int .i64 f, .int .i64 t, .int .u8 kv, .int .i64 cv, .int .i64 sv, .int .i64 ev] 62)) w.heap.size (.slice (some ⟨q, 0, none⟩) L.length lc) L ∧ ∀ k, u4.ownBlock = some k → (Value.slice (some ⟨q, 0, none⟩) L.length lc).ownBlock ≠ some k from ⟨by rw [hET]; exact h1.kept0 mI, h2.trans mI, h3.kept0 mI, h4⟩)
        clear h1 h2 h3 h4 hrow mI bI hET hel
        go_wp2_with ((with_reducible refine xLoadAt rfl HLI.out ?_ ?_ ?_); exact rfl; exact rfl)
        go_roundw
        case rel => exact ⟨j + 1, by omega, by go_num, HN⟩
        case measure => simp [intOf]; omega
    · have hje : j = L.length := by omega
      have hj2 : decide ((j : Int) < (L.length : Int)) = false := decide_eq_false (by omega)
      have HE := Lib.hid (show OwnR encI 1 3 wr w.heap.size u4 (endsL L) ∧ Mod [] w wr from ⟨by rw [List.take_of_length_le (by omega)] at h1; exact h1, h2⟩)
      clear h1 h2 h3 h4
      subst hje
      go_wp2_with fail
      go_ret
      exact ⟨_, L, rfl, HE.out.1, HQ.out, HE.out.2⟩
theorem segsZ_at {w W : World} {g : Nat} {B : List Nat} {n : Nat} {gf : Int → Int} (h : ValAt w g B n gf) (hn : n ≤ 40000) {a b : Int} (hab : mayS a b) (m : Mod [] w W) :
    Calls Tryz.prog 22 #[.pointer (some ⟨g, 0, none⟩), .agg #[.int .i64 a, .int .i64 b]] W fun e w' => ∃ v L, e = .returned v ∧ OwnR encSgZ 6 62 w' W.heap.size v L ∧ (SegsTo gf a b L ∧ L.length ≤ 4 * n + 1) ∧ Mod [] W w' := by
  refine (segsZ_line (h.kept0 m) hn hab).mono ?_
  rintro e w' ⟨v, L, h1, h2, h3, h4, h5⟩
  exact ⟨v, L, h1, h2, ⟨h3, h4⟩, h5⟩
theorem endsZ_line {w : World} {g : Nat} {B : List Nat} {n : Nat} {gf : Int → Int} (h : ValAt w g B n gf) (hn : n ≤ 40000) {a b : Int} (hab : mayS a b) :
    Calls Tryz.prog 10 #[.pointer (some ⟨g, 0, none⟩), .agg #[.int .i64 a, .int .i64 b]] w fun e w' => ∃ v L, e = .returned v ∧ OwnR encI 1 3 w' w.heap.size v (endsL L) ∧ (SegsTo gf a b L ∧ L.length ≤ 4 * n + 1) ∧ Mod [] w w' :=
  endsZ_of (Q := fun L => SegsTo gf a b L ∧ L.length ≤ 4 * n + 1) (fun L h => by have := h.2; omega) (fun W m => segsZ_at h hn hab m)
theorem endsZ_not {w : World} {g : Nat} {B : List Nat} {n : Nat} {gf : Int → Int} (h : ValAt w g B n gf) {a b : Int} (hab : ¬ mayS a b) :
    Calls Tryz.prog 10 #[.pointer (some ⟨g, 0, none⟩), .agg #[.int .i64 a, .int .i64 b]] w fun e w' => ∃ v, e = .returned v ∧ OwnR encI 1 3 w' w.heap.size v [] ∧ Mod [] w w' := by
  refine (endsZ_of (Q := fun L => L = []) (fun L h => by rw [h]; simp) (fun W m => (segsZ_not (h.kept0 m) hab).mono ?_)).mono ?_
  · rintro e w' ⟨rfl, hm⟩
    exact ⟨_, [], rfl, OwnR.nil_ _ _, rfl, hm⟩
  · rintro e w' ⟨v, L, rfl, h1, rfl, h2⟩
    exact ⟨v, rfl, h1, h2⟩
end Go.Proofs.YtngglpekdjhbdaaGreat
