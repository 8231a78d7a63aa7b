/- Layer 11: lay, at values, where there is something to lay. -/
import Derived.Test.YtngglpekdjhbdaaGreatWzV
import Derived.Test.YtngglpekdjhbdaaGreatWzT
import Derived.Laws.Rows
import Derived.Test.YtngglpekdjhbdaaGreatWzO
namespace Go.Proofs.YtngglpekdjhbdaaGreat
open Go.RowKit Go.ChangeMaps Go.Deep Tr
set_option linter.unusedSimpArgs false
set_option linter.unusedVariables false
set_option maxRecDepth 20000

/-- what may have become of a timeline's blocks -/
def LvPost (w : World) (g : Nat) (B : List Nat) (M : Nat) (E : List (It × Int)) (w' : World) : Prop :=
  ∃ B', Lv w' g B' M E ∧ Mod B w w' ∧ ∀ k ∈ B', k ∈ B ∨ w.heap.size ≤ k
theorem valZ_form (z : Int) : ∃ k c s e : Int, vl z = ⟨k, c, s, e⟩ := ⟨(vl z).k, (vl z).c, (vl z).s, (vl z).e, rfl⟩
theorem mod_over {w a b : World} {ks js : List Nat} (h : Mod ks w a) (k : Mod js a b) (hk : ∀ x ∈ js, w.heap.size ≤ x) : Mod ks w b :=
  ⟨k.os.trans h.os, k.tape.trans h.tape, k.output.trans h.output, Nat.le_trans h.size k.size, fun i hi hn =>
    (k.block i (Nat.lt_of_lt_of_le hi h.size) (fun hm => by have := hk i hm; omega)).trans (h.block i hi hn)⟩
theorem sizeVal : (Tryz.prog.info? 35).map (·.size) = some 4 := by kernel_rfl
theorem eqV (w : World) (k c s e k' c' s' e' : Int) : (binOp .eql 35 (.agg #[.int .u8 k, .int .i64 c, .int .i64 s, .int .i64 e]) (.agg #[.int .u8 k', .int .i64 c', .int .i64 s', .int .i64 e'])).run Tryz.prog w = .ok (.bool (decide (k = k' ∧ c = c' ∧ s = s' ∧ e = e'))) w := by
  simp only [binOp, Op.equal, Op.maxDepth]
  go_simp
  repeat' split
  all_goals simp [*]
set_option maxHeartbeats 8000000 in
theorem dropZ_at {w : World} {g : Nat} {B : List Nat} {M : Nat} {x : It} {v : Int} {E : List (It × Int)} (h : Lv w g B M ((x, v) :: E)) (hM : M ≤ 100000) :
    Calls Tryz.prog 28 #[.pointer (some ⟨g, 0, none⟩), itV x] w fun e w' => e = .returned (valZ v) ∧ LvPost w g B M E w' := by
  obtain ⟨b, vv, gv, nv, fv, ns, fr, T, vs, fs, S, rfl, hp, hn, hv⟩ := h
  have hm : (x, v) ∈ T.items.map (valOf vs) := hp.mem_iff.2 (by simp)
  obtain ⟨y, hy, e⟩ := List.mem_map.1 hm
  obtain ⟨rfl, e2⟩ : y = x ∧ vs.getD y.i.toNat 0 = v := by simpa [valOf] using e
  obtain ⟨k, hk, hkl, hkf⟩ := S.ids y hy
  obtain ⟨f, t, i⟩ := y
  dsimp only at hk hkf e2
  subst hk
  have hvk : vs[k] = v := by rw [← e2]; simp [hkl]
  have HE2 := Lib.hid e
  obtain ⟨vk, vc, vS, ve, hvl⟩ := valZ_form v
  have HVL := Lib.hid hvl
  have hvz : valZ v = .agg #[.int .u8 vk, .int .i64 vc, .int .i64 vS, .int .i64 ve] := by unfold valZ; rw [hvl]
  have hez : encZ v = [.int .u8 vk, .int .i64 vc, .int .i64 vS, .int .i64 ve] := by unfold encZ; rw [hvl]
  obtain ⟨q, cap, rfl, hq, hcap⟩ := S.vals.at_ (show vs[k]? = some v by rw [List.getElem?_eq_getElem hkl, hvk])
  obtain ⟨A1, hA1, n1, s1, m1⟩ := alloc_named2 w (.cells #[.int .i64 f, .int .i64 t, .int .i64 k] 70)
  obtain ⟨A2, hA2, n2, s2, m2⟩ := alloc_named2 A1 (.cells #[.int .u8 0, .int .i64 0, .int .i64 0, .int .i64 0] 35)
  obtain ⟨A3, hA3, n3, s3, m3⟩ := alloc_named2 A2 (.cells #[.int .u8 vk, .int .i64 vc, .int .i64 vS, .int .i64 ve] 35)
  rw [s1] at n2
  rw [s2, s1] at n3
  have SA2 := S.kept (m1.trans m2) (by simp)
  have mz := (Mod.refl [] A2).alloc (.cells #[.int .u8 0, .int .i64 0, .int .i64 0, .int .i64 0] 35)
  have c1 := cell_blk SA2.blk 1
  have i2 := cell_blk (m2.heap n1 (by simp)) 2
  have c1z := cell_blk (mz.heap SA2.blk (by simp)) 1
  have i2z := cell_blk ((m2.trans mz).heap n1 (by simp)) 2
  simp only [List.getElem?_toArray, List.getElem?_cons_succ, List.getElem?_cons_zero] at c1 i2 c1z i2z
  have hvals : ∀ W, Mod [] A2 W → W.rangeAt q (k * 4) [.int .u8 vk, .int .i64 vc, .int .i64 vS, .int .i64 ve] := fun W m jj u hu => by
    rw [← hez] at hu
    exact ((SA2.vals.kept0 m).cell encZ_len hkl (j := jj) (by have := (List.getElem?_eq_some_iff.1 hu).1; rw [encZ_len] at this; exact this) (u := u) (by rw [hvk]; exact hu)).1
  have LV := Lib.hid (run_loadAt_mid (P := Tryz.prog) A2.drew q (k * 4) 35 _ _ (hvals _ ((Mod.refl [] A2).drew)) Tryz.underlying35 rfl (by kernel_rfl))
  have hz := hvals _ (Mod.refl [] A2)
  have p0 := hz 0 _ rfl
  have p1 := hz 1 _ rfl
  have p2 := hz 2 _ rfl
  have p3 := hz 3 _ rfl
  have hzz := hvals _ mz
  have q0 := hzz 0 _ rfl
  have q1 := hzz 1 _ rfl
  have q2 := hzz 2 _ rfl
  have q3 := hzz 3 _ rfl
  simp only [Nat.add_zero] at p0 q0
  have hk0 : decide ((k : Int) < 0) = false := decide_eq_false (by omega)
  have hk1 : decide ((vs.length : Int) ≤ (k : Int)) = false := decide_eq_false (by omega)
  have hsz : T.size ≤ 100000 := by have := S.full; omega
  have hkb : k < 100000 := by omega
  have SA3 := S.kept (m1.trans (m2.trans m3)) (by simp)
  have bA3 := (m2.trans m3).heap n1 (by simp)
  have rA3 := m3.heap n2 (by simp)
  have tA3 : A3.heap[w.heap.size + 1 + 1]? = _ := n3
  have c0 := cell_blk SA3.blk 0
  have j0 := cell_blk bA3 0
  have j1 := cell_blk bA3 1
  have j2 := cell_blk bA3 2
  simp only [List.getElem?_toArray, List.getElem?_cons_succ, List.getElem?_cons_zero] at c0 j0 j1 j2
  have M0 := ((m1.trans (m2.trans m3)).drew).drew
  have SD := S.kept M0 (by simp)
  have CD := Lib.hid (delete_at SD.tree ⟨f, t, k⟩ hy hsz (by omega))
  have HBA := Lib.hid (((Mod.refl [] _).drew).drew.heap bA3 (by simp))
  have HRA := Lib.hid (((Mod.refl [] _).drew).drew.heap rA3 (by simp))
  have HTA := Lib.hid (((Mod.refl [] _).drew).drew.heap tA3 (by simp))
  have HS := Lib.hid S
  have HSD := Lib.hid SD
  have HM0 := Lib.hid M0
  have HP := Lib.hid hp
  have HV := Lib.hid hv
  have HSI := Lib.hid hsz
  clear hp hm e hv S SD M0 SA3 bA3 rA3 tA3 n3 m3
  simp only [itV] at CD ⊢
  go_enter Tryz.func28, Tryz.ntmps28
  go_wp2_with fail
  simp only [← hA1, ← hA2]
  go_wp2_with fail
  refine wp_plan [([0, 4, 1, 5, 2, 3, 6, 7], 8, [4, 1, 5, 2, 3, 6, 7]), ([], 9, [])] [] (by kernel_rfl) (by kernel_rfl) ?_
  simp only [wpSegs, opsOf, List.map_cons, List.map_nil, opN, List.getD_cons_zero, List.getD_cons_succ]
  go_wp2_with fail
  refine ⟨by first | trivial | rfl | (rw [hA1, hA2]), ?_⟩
  go_wp2_with fail
  refine ⟨?ag1, ?_⟩
  case ag1 =>
    intro i hi hw
    simp only [List.mem_cons, List.not_mem_nil, or_false] at hi
    rcases hi with rfl | rfl | rfl | rfl | rfl | rfl | rfl
    all_goals (simp only [opN, List.getD_cons_zero, List.getD_cons_succ, slotOf]; go_simp)
  go_wp2_with fail
  refine ⟨by first | trivial | rfl, ?_⟩
  go_wp2_with fail
  refine ⟨again_nil, ?_⟩
  go_wp2_with fail
  refine ⟨by first | trivial | rfl, ?_⟩
  clear q0 q1 q2 q3 p0 p1 p2 p3 c1 i2 c1z i2z
  go_wp2_with fail
  refine wp_plan [([0, 4, 1, 2, 3], 5, [])] [] (by kernel_rfl) (by kernel_rfl) ?_
  simp only [wpSegs, opsOf, List.map_cons, List.map_nil, opN, List.getD_cons_zero, List.getD_cons_succ]
  go_wp2_with fail
  refine ⟨by first | trivial | rfl, ?_⟩
  go_wp2_with fail
  refine CD.out.mono ?_
  rintro e w3 ⟨rfl, p, T', fv', ns', hd, S', hl, mm, hf⟩
  have HT := apart_of lnB_T HSD.out.apart
  have b3 := mm.heap HSD.out.blk (HT g (by simp))
  have hi3 := mm.heap HBA.out (fun hm => by
    have := HS.out.lt w.heap.size (lnB_T.mem_iff.2 (List.mem_append.2 (.inl hm)))
    omega)
  have hr3 := mm.heap HRA.out (fun hm => by
    have := HS.out.lt (w.heap.size + 1) (lnB_T.mem_iff.2 (List.mem_append.2 (.inl hm)))
    omega)
  have ht3 := mm.heap HTA.out (fun hm => by
    have := HS.out.lt (w.heap.size + 1 + 1) (lnB_T.mem_iff.2 (List.mem_append.2 (.inl hm)))
    omega)
  have v3 := HSD.out.vals.kept mm (fun k hk => HT k (by simp [mem_blk, hk]))
  have g3 := HSD.out.free.kept mm (fun k hk => HT k (by simp [mem_blk, hk]))
  have hfl : fs.length < 1073741824 := by have := HS.out.full; have := HV.out; omega
  obtain ⟨gw, w5, ra, og, gr⟩ := own_append1 (P := Tryz.prog) (ty := 41) elemInt encI_len encI_one (g3.kept0 ((Mod.refl [] w3).drew)) (Nat.zero_le _) (k : Int) hfl (by omega)
  dsimp only [encI] at ra
  obtain ⟨a', n', c', rfl⟩ : ∃ a n c, gw = .slice a n c := by obtain ⟨a, c, e⟩ := og.lens; exact ⟨a, _, c, e⟩
  have c32 := cell_blk b3 2
  have j2 := cell_blk hi3 2
  have HGA := apart_of lnB_G HSD.out.apart
  have b5 := gr.mod.heap (((Mod.refl [] w3).drew).heap b3 (by simp)) (HGA g (by simp))
  have hgvl : ∀ k, w.heap.size ≤ k → k ∉ blk gv := fun k hk hm => by
    have := HS.out.lt k (lnB_G.mem_iff.2 (List.mem_append.2 (.inl hm)))
    omega
  have hr5 := gr.mod.heap (((Mod.refl [] w3).drew).heap hr3 (by simp)) (hgvl _ (by omega))
  have ht5 := gr.mod.heap (((Mod.refl [] w3).drew).heap ht3 (by simp)) (hgvl _ (by omega))
  have t50 := cell_blk ht5 0
  have t51 := cell_blk ht5 1
  have t52 := cell_blk ht5 2
  have t53 := cell_blk ht5 3
  have c52 := cell_blk b5 2
  have f52 := frozen_blk b5 2
  have ca := cell_blk (((Mod.refl [] w3).alloc (.cells #[.int .i64 (k : Int)] 3)).heap b3 (by simp)) 2
  simp only [List.getElem?_toArray, List.getElem?_cons_succ, List.getElem?_cons_zero] at c32 j2 c52 ca t50 t51 t52 t53
  have b6 := heap_setCell_blk b5 2 (.slice a' n' c')
  have m6 : Mod [g] w5 (w5.setCell ⟨g, 2, none⟩ (.slice a' n' c')) := (Mod.refl _ _).setCell (by simp) _
  obtain ⟨nd1, mb1⟩ := swap_both (lnB_F (g := g) (b := b) (vv := .slice (some ⟨q, 0, none⟩) vs.length cap) (gv := gv) (nv := nv) (fv := fv)) (lnB_F (g := g) (b := b) (vv := .slice (some ⟨q, 0, none⟩) vs.length cap) (gv := gv) (nv := nv) (fv := fv')) HSD.out.apart HSD.out.lt hf
  have hw3 := mm.size
  have hl3 : ∀ k ∈ lnB g b (.slice (some ⟨q, 0, none⟩) vs.length cap) gv nv fv', k < w3.heap.size := fun k hk => by
    rw [lnB_F.mem_iff, List.mem_append, mem_blk] at hk
    rcases hk with hk | hk
    · exact (World.ownsRow.lt S'.tree.free _ hk).2
    · exact Nat.lt_of_lt_of_le (HSD.out.lt k (lnB_F.mem_iff.2 (List.mem_append.2 (.inr hk)))) hw3
  obtain ⟨nd2, mb2⟩ := swap_both (lnB_G (g := g) (b := b) (vv := .slice (some ⟨q, 0, none⟩) vs.length cap) (gv := gv) (nv := nv) (fv := fv')) (lnB_G (g := g) (b := b) (vv := .slice (some ⟨q, 0, none⟩) vs.length cap) (gv := .slice a' n' c') (nv := nv) (fv := fv')) nd1 hl3 gr.heir
  have hG1 := apart_of lnB_G nd1
  have hg2 := (List.nodup_cons.1 nd2).1
  have hg6 : ∀ k ∈ b :: (blk (.slice (some ⟨q, 0, none⟩) vs.length cap) ++ (blk (.slice a' n' c') ++ (blk nv ++ blk fv'))), k ∉ [g] := fun k hk hm => by
    rw [List.mem_singleton] at hm
    subst hm
    exact hg2 hk
  obtain ⟨p', T'', ed, D⟩ := del_some _ T HS.out.tree.srt hy
  rw [hd] at ed
  cases ed
  have hmem : ∀ y, y ∈ T'.items ↔ y ∈ T.items ∧ y ≠ ⟨f, t, k⟩ := fun y => by
    rw [D.items, List.mem_filter]
    simp [ordI_zero]
  have hdp := del_perm HS.out.tree.srt hy hd
  have hsz' : T.size = T'.size + 1 := by
    have := hdp.length_eq
    rw [List.length_cons, items_len, items_len] at this
    exact this
  have F6 : LvSt (w5.setCell ⟨g, 2, none⟩ (.slice a' n' c')) g b (.slice (some ⟨q, 0, none⟩) vs.length cap) (.slice a' n' c') nv fv' ns' (fr ++ [(p : Int)]) T' vs (fs ++ [(k : Int)]) := by
    refine ⟨by simpa using b6, ?_, ?_, ⟨?_, S'.rep, S'.avl, S'.srt, S'.nodup, S'.free, S'.fnd, S'.full⟩, nd2, fun y hy' => ?_, fun y hy1 z hz1 => HS.out.inj y ((hmem y).1 hy1).1 z ((hmem z).1 hz1).1, fun i hi => ?_, ?_, ?_, fun y hy' => HS.out.pos y ((hmem y).1 hy').1⟩
    · exact ((v3.kept0 ((Mod.refl [] w3).drew)).kept gr.mod (fun k hk => hG1 k (by simp [mem_blk, hk]))).kept m6 (fun k hk => hg6 k (by simp [mem_blk, hk]))
    · exact og.kept m6 (fun k hk => hg6 k (by simp [mem_blk, hk]))
    · exact ((S'.tree.kept0 ((Mod.refl [] w3).drew)).keptL gr.mod (hG1 b (by simp)) (fun k hk => hG1 k (by simp [mem_blk, hk])) (fun k hk => hG1 k (by simp [mem_blk, hk]))).keptL m6 (hg6 b (by simp)) (fun k hk => hg6 k (by simp [mem_blk, hk])) (fun k hk => hg6 k (by simp [mem_blk, hk]))
    · obtain ⟨h1, h2⟩ := (hmem y).1 hy'
      obtain ⟨j, e1, e2, e3⟩ := HS.out.ids y h1
      refine ⟨j, e1, e2, fun hm => ?_⟩
      rcases List.mem_append.1 hm with hm | hm
      · exact e3 hm
      · exact h2 (HS.out.inj y h1 _ hy (by simpa using hm))
    · rcases List.mem_append.1 hi with hi | hi
      · exact HS.out.frs i hi
      · exact ⟨k, by simpa using hi, hkl⟩
    · refine List.nodup_append.2 ⟨HS.out.fnd, by simp, fun a ha c hc => ?_⟩
      rw [List.mem_singleton] at hc
      subst hc
      intro e
      exact hkf (e ▸ ha)
    · rw [List.length_append, List.length_singleton, HS.out.full]
      omega
  have hglt : g < w.heap.size := HS.out.lt g (by simp [lnB])
  have hr6 := m6.heap hr5 (by simp; omega)
  have r60 := cell_blk hr5 0
  have r61 := cell_blk hr5 1
  have r62 := cell_blk hr5 2
  have r63 := cell_blk hr5 3
  have fr0 := frozen_blk hr5 0
  have fr1 := frozen_blk hr5 1
  have fr2 := frozen_blk hr5 2
  have fr3 := frozen_blk hr5 3
  simp only [List.getElem?_toArray, List.getElem?_cons_succ, List.getElem?_cons_zero] at r60 r61 r62 r63
  obtain ⟨w7, hw7, m7, r7⟩ : ∃ W, ((((w5.setCell ⟨g, 2, none⟩ (.slice a' n' c')).setCell ⟨w.heap.size + 1, 0, none⟩ (.int .u8 vk)).setCell ⟨w.heap.size + 1, 1, none⟩ (.int .i64 vc)).setCell ⟨w.heap.size + 1, 2, none⟩ (.int .i64 vS)).setCell ⟨w.heap.size + 1, 3, none⟩ (.int .i64 ve) = W ∧ Mod [w.heap.size + 1] (w5.setCell ⟨g, 2, none⟩ (.slice a' n' c')) W ∧ W.heap[w.heap.size + 1]? = some (.cells #[.int .u8 vk, .int .i64 vc, .int .i64 vS, .int .i64 ve] 35 (0, 0)) :=
    ⟨_, rfl, ((((Mod.refl _ _).setCell (by simp) _).setCell (by simp) _).setCell (by simp) _).setCell (by simp) _, by
      have a0 := heap_setCell_blk hr6 0 (.int .u8 vk)
      have a1 := heap_setCell_blk a0 1 (.int .i64 vc)
      have a2 := heap_setCell_blk a1 2 (.int .i64 vS)
      have a3 := heap_setCell_blk a2 3 (.int .i64 ve)
      simpa using a3⟩
  have hs3 : w.heap.size + 3 ≤ A3.drew.drew.heap.size := by have h1 : A3.drew.drew.heap.size = A3.heap.size := rfl; rw [h1, s3, s2, s1]; omega
  have hnew : ∀ k ∈ lnB g b (.slice (some ⟨q, 0, none⟩) vs.length cap) (.slice a' n' c') nv fv', k ∈ lnB g b (.slice (some ⟨q, 0, none⟩) vs.length cap) gv nv fv ∨ w.heap.size + 3 ≤ k := fun k hk => by
    rcases mb2 k hk with h1 | h1
    · rcases mb1 k h1 with h2 | h2
      · exact .inl h2
      · exact .inr (Nat.le_trans hs3 h2)
    · exact .inr (Nat.le_trans hs3 (Nat.le_trans hw3 h1))
  have F7 := F6.kept m7 (fun k hk => by
    rcases hnew k hk with h1 | h1
    · have := HS.out.lt k h1
      simp; omega
    · simp; omega)
  have HW7 := Lib.hid hw7
  have HR7 := Lib.hid r7
  have HPOST := Lib.hid (show LvPost w g (lnB g b (.slice (some ⟨q, 0, none⟩) vs.length cap) gv nv fv) M E w7 from by
    refine ⟨_, ⟨_, _, _, _, _, _, _, _, _, _, F7, rfl, ?_, by omega, by have := HV.out; omega⟩, ?_, fun k hk => ?_⟩
    · have h1 := (hdp.map (valOf vs)).symm.trans HP.out
      rw [List.map_cons, HE2.out] at h1
      exact h1.cons_inv
    · refine mod_over ((((HM0.out.nil.trans (mm.mono fun k hk => ?_)).trans ((Mod.refl _ w3).drew)).trans (gr.mod.mono fun k hk => ?_)).trans (m6.mono fun k hk => ?_)) m7 (fun k hk => by rw [List.mem_singleton] at hk; omega)
      · exact lnB_T.mem_iff.2 (List.mem_append.2 (.inl hk))
      · exact lnB_G.mem_iff.2 (List.mem_append.2 (.inl hk))
      · rw [List.mem_singleton] at hk; subst hk; simp [lnB]
    · rcases hnew k hk with h1 | h1
      · exact .inl h1
      · exact .inr (by omega))
  have RA := Lib.hid ra
  clear F7 hnew hw7 r7 m7 hr6 hr5 ht5 hr3 ht3 hgvl F6 hdp D hmem hg6 hg2 hG1 nd2 mb2 hl3 nd1 mb1 m6 b6 b5 og gr ra HGA g3 v3 hi3 b3 HT mm hf S' hd hl hy hkf hn
  go_wp2_with fail
  refine ⟨again_nil, ?_⟩
  go_wp2_with fail
  refine ⟨by first | trivial | rfl, ?_⟩
  go_wp2_with fail
  refine wp_plan [([0, 1, 5, 2, 6, 3, 4], 7, [2, 3, 4]), ([], 8, []), ([9, 10], 11, [])] [] (by kernel_rfl) (by kernel_rfl) ?_
  simp only [wpSegs, opsOf, List.map_cons, List.map_nil, opN, List.getD_cons_zero, List.getD_cons_succ]
  go_wp2_with fail
  refine ⟨by first | trivial | rfl, ?_⟩
  go_wp2_with fail
  refine ⟨?ag1, ?_⟩
  case ag1 =>
    intro i hi hw
    simp only [List.mem_cons, List.not_mem_nil, or_false] at hi
    rcases hi with rfl | rfl | rfl
    all_goals (simp only [opN, List.getD_cons_zero, List.getD_cons_succ, slotOf]; go_simp)
  go_wp2_with fail
  refine ⟨by first | trivial | rfl, ?_⟩
  go_wp2_with ((with_reducible refine xAppendAt RA.out rfl rfl ?_ ?_ ?_ ?_); exact rfl; exact rfl; exact rfl)
  refine ⟨again_nil, ?_⟩
  go_wp2_with fail
  refine ⟨by first | trivial | rfl, ?_⟩
  go_wp2_with fail
  refine ⟨again_nil, ?_⟩
  go_wp2_with fail
  refine ⟨by first | trivial | rfl, ?_⟩
  go_wp2_with fail
  simp only [HW7.out]
  refine bodyPost_ret (results_cell_row (P := Tryz.prog) (t := 35) (cs := #[.int .u8 vk, .int .i64 vc, .int .i64 vS, .int .i64 ve]) (fr := (0, 0)) (g := w.heap.size + 1) (h := rfl) (hp := rfl) (hg := HR7.out) (hu := Tryz.underlying35) (hd := rfl) (hi := by rw [sizeVal]; rfl) ..) rfl ⟨by rw [hvz], HPOST.out⟩
end Go.Proofs.YtngglpekdjhbdaaGreat
namespace Go.Proofs.YtngglpekdjhbdaaGreat
open Go.RowKit Go.ChangeMaps Go.Deep Tr
set_option linter.unusedSimpArgs false
set_option linter.unusedVariables false
set_option maxRecDepth 20000

/-- the last step of lay: the tree has taken the item in -/
theorem layZ_fin {w1 w2 : World} {g b k M : Nat} {vv gv nv fv : Value} {ns : List Nd} {fr : List Int} {T : Tr} {vs vs0 fs : List Int} {E : List (It × Int)} {f t v : Int}
    (hblk : w1.heap[g]? = some (.cells #[.pointer (some ⟨b, 0, none⟩), vv, gv] 68 (0, 0))) (hvals : OwnR encZ 4 35 w1 0 vv vs) (hfree : OwnR encI 1 3 w1 0 gv fs) (S : AvlSt w1 b nv fv ns fr T) (hap : (lnB g b vv gv nv fv).Nodup)
    (hk : k < vs.length) (hkf : (k : Int) ∉ fs) (hkT : ∀ x ∈ T.items, x.i ≠ k) (hids : ∀ x ∈ T.items, ∃ j : Nat, x.i = j ∧ j < vs.length ∧ x.i ∉ fs) (hval : ∀ x ∈ T.items, valOf vs x = valOf vs0 x) (hinj : ∀ x ∈ T.items, ∀ y ∈ T.items, x.i = y.i → x = y)
    (hfrs : ∀ i ∈ fs, ∃ j : Nat, i = j ∧ j < vs.length) (hfnd : fs.Nodup) (hfull : vs.length = T.size + 1 + fs.length) (hpos : ∀ x ∈ T.items, x.f < x.t) (hft : f < t) (hv : vs.getD k 0 = v) (hE : (T.items.map (valOf vs0)).Perm E) (hns : ns.length ≤ M) (hvs : vs.length ≤ max M (E.length + 1))
    (hI : InsPost w1 b nv fv ns ⟨f, t, k⟩ T w2) : LvPost w1 g (lnB g b vv gv nv fv) (max M (E.length + 1)) ((⟨f, t, k⟩, v) :: E) w2 := by
  obtain ⟨q, nv', fv', ns', fr', S', hn', mm, hnv, hfv⟩ := hI
  have hlt : ∀ j ∈ lnB g b vv gv nv fv, j < w1.heap.size := fun j hj => by
    simp only [lnB, List.mem_cons, List.mem_append, mem_blk] at hj
    rcases hj with rfl | rfl | hj | hj | hj | hj
    · exact lt_of_heap hblk
    · exact lt_of_heap S.tree.blk
    · exact (World.ownsRow.lt hvals _ hj).2
    · exact (World.ownsRow.lt hfree _ hj).2
    · exact (World.ownsRow.lt S.tree.row _ hj).2
    · exact (World.ownsRow.lt S.tree.free _ hj).2
  obtain ⟨nd1, mb1⟩ := swap_both (lnB_N (g := g) (b := b) (vv := vv) (gv := gv) (nv := nv) (fv := fv)) (lnB_N (g := g) (b := b) (vv := vv) (gv := gv) (nv := nv') (fv := fv)) hap hlt hnv
  have heq : lnB g b vv gv nv' fv' = lnB g b vv gv nv' fv := by unfold lnB blk; rw [hfv]
  have hx : (⟨f, t, k⟩ : It) ∉ T.items := fun h => hkT _ h rfl
  have hp := ins_perm (q := q) S.srt hx
  have hsz := ins_size q ⟨f, t, k⟩ T
  have hT := apart_of lnB_N hap
  have hB : ∀ j ∈ g :: (blk vv ++ blk gv), j ∉ b :: blk nv := fun j hj hm => by
    rcases List.mem_cons.1 hm with rfl | hm
    · have h1 := apart_of (a := [j]) (c := g :: (blk vv ++ (blk gv ++ (blk nv ++ blk fv)))) (List.perm_iff_count.2 fun a => by simp only [lnB, List.count_append, List.count_cons, List.count_nil]; omega) hap j (by
        simp only [List.mem_cons, List.mem_append] at hj ⊢
        rcases hj with h | h | h
        · exact .inl h
        · exact .inr (.inl h)
        · exact .inr (.inr (.inl h)))
      exact h1 (by simp)
    · refine hT j ?_ hm
      simp only [List.mem_cons, List.mem_append] at hj ⊢
      rcases hj with h | h | h
      · exact .inl h
      · exact .inr (.inr (.inl h))
      · exact .inr (.inr (.inr (.inl h)))
  have hmem : ∀ y, y ∈ (ins q ⟨f, t, k⟩ T).items ↔ y = ⟨f, t, k⟩ ∨ y ∈ T.items := fun y => by rw [hp.mem_iff, List.mem_cons]
  have F : LvSt w2 g b vv gv nv' fv' ns' fr' (ins q ⟨f, t, k⟩ T) vs fs := by
    refine ⟨mm.heap hblk (hB g (by simp)), hvals.kept mm (fun j hj => hB j (by simp [mem_blk, hj])), hfree.kept mm (fun j hj => hB j (by simp [mem_blk, hj])), S', by rw [heq]; exact nd1, fun y hy => ?_, fun y hy z hz e => ?_, hfrs, hfnd, by rw [hsz]; exact hfull, fun y hy => ?_⟩
    · rcases (hmem y).1 hy with rfl | hy
      · exact ⟨k, rfl, hk, hkf⟩
      · exact hids y hy
    · rcases (hmem y).1 hy with rfl | hy <;> rcases (hmem z).1 hz with rfl | hz
      · rfl
      · exact absurd e.symm (hkT z hz)
      · exact absurd e (hkT y hy)
      · exact hinj y hy z hz e
    · rcases (hmem y).1 hy with rfl | hy
      · exact hft
      · exact hpos y hy
  have hTE : T.size = E.length := by rw [← hE.length_eq, List.length_map, items_len]
  refine ⟨_, ⟨_, _, _, _, _, _, _, _, _, _, F, rfl, ?_, by omega, hvs⟩, mm.mono fun j hj => ?_, fun j hj => ?_⟩
  · refine (hp.map (valOf vs)).trans ?_
    rw [List.map_cons]
    have e1 : valOf vs ⟨f, t, k⟩ = (⟨f, t, k⟩, v) := by unfold valOf; simp only [Int.toNat_natCast]; rw [hv]
    rw [e1, List.map_congr_left (g := valOf vs0) hval]
    exact hE.cons _
  · rcases List.mem_cons.1 hj with rfl | hj
    · simp [lnB]
    · exact lnB_N.mem_iff.2 (List.mem_append.2 (.inl hj))
  · rw [heq] at hj
    exact mb1 j hj
set_option maxHeartbeats 4000000 in
theorem layZ_none {w : World} {g : Nat} {f t v : Int} (h : t ≤ f ∨ v = 0) : Calls Tryz.prog 29 #[.pointer (some ⟨g, 0, none⟩), .int .i64 f, .int .i64 t, valZ v] w fun e w' => e = .returned (.tuple #[]) ∧ Mod [] w w' := by
  by_cases h1 : t ≤ f
  · have hd : decide (t ≤ f) = true := decide_eq_true h1
    clear h
    unfold valZ
    go_enter Tryz.func29, Tryz.ntmps29
    go_wp2_with fail
    refine bodyPost_ret (results_none rfl _ _ _) rfl ⟨rfl, ?_⟩
    exact (((Mod.refl [] w).alloc _).alloc _)
  · have hd : decide (t ≤ f) = false := decide_eq_false h1
    obtain rfl : v = 0 := by rcases h with h | h; exact absurd h h1; exact h
    unfold valZ
    rw [vl_zero]
    dsimp only
    go_enter Tryz.func29, Tryz.ntmps29
    go_wp2_with fail
    refine bodyPost_ret (results_none rfl _ _ _) rfl ⟨rfl, ?_⟩
    exact (((Mod.refl [] w).alloc _).alloc _)
end Go.Proofs.YtngglpekdjhbdaaGreat
namespace Go.Proofs.YtngglpekdjhbdaaGreat
open Go.RowKit Go.ChangeMaps Go.Deep Tr
set_option linter.unusedSimpArgs false
set_option linter.unusedVariables false
set_option maxRecDepth 20000

theorem elemVal : ElemOk Tryz.prog 66 35 4 32 := .mk' Tryz.underlying66 (by omega) (by kernel_rfl)
theorem LvPost.into {w w1 w2 : World} {g : Nat} {B B1 : List Nat} {M : Nat} {E : List (It × Int)} (h : LvPost w1 g B1 M E w2) (m : Mod B w w1) (hB : ∀ k ∈ B1, k ∈ B ∨ w.heap.size ≤ k) : LvPost w g B M E w2 := by
  obtain ⟨B', h1, h2, h3⟩ := h
  refine ⟨B', h1, Mod.into' m h2 (fun k hk => (hB k hk).symm), fun k hk => ?_⟩
  rcases h3 k hk with h4 | h4
  · exact hB k h4
  · exact .inr (Nat.le_trans m.size h4)
set_option maxHeartbeats 8000000 in
theorem layZ_new {w : World} {g b M : Nat} {vv gv nv fv : Value} {ns : List Nd} {fr : List Int} {T : Tr} {vs : List Int} {E : List (It × Int)} {f t v : Int} (S0 : LvSt w g b vv gv nv fv ns fr T vs []) (hp : (T.items.map (valOf vs)).Perm E) (hn : ns.length ≤ M) (hvM : vs.length ≤ M) (hM : M ≤ 99999) (hft : f < t) (hv : v ≠ 0) :
    Calls Tryz.prog 29 #[.pointer (some ⟨g, 0, none⟩), .int .i64 f, .int .i64 t, valZ v] w fun e w' => e = .returned (.tuple #[]) ∧ ∃ id, LvPost w g (lnB g b vv gv nv fv) (max M (E.length + 1)) ((⟨f, t, id⟩, v) :: E) w' := by
  obtain ⟨kv, cv, sv, ev, hvl⟩ := valZ_form v
  have hvz : valZ v = .agg #[.int .u8 kv, .int .i64 cv, .int .i64 sv, .int .i64 ev] := by unfold valZ; rw [hvl]
  have hez : encZ v = [.int .u8 kv, .int .i64 cv, .int .i64 sv, .int .i64 ev] := by unfold encZ; rw [hvl]
  have hnz : ¬ (kv = 0 ∧ cv = 0 ∧ sv = 0 ∧ ev = 0) := by
    rintro ⟨rfl, rfl, rfl, rfl⟩
    exact hv (vl_inj.1 (by rw [hvl, vl_zero]))
  have h4 : ¬ kv = 0 ∨ (kv = 0 ∧ ¬ cv = 0) ∨ (kv = 0 ∧ cv = 0 ∧ ¬ sv = 0) ∨ (kv = 0 ∧ cv = 0 ∧ sv = 0 ∧ ¬ ev = 0) := by omega
  clear hnz
  obtain ⟨A1, hA1, n1, s1, m1⟩ := alloc_named2 w (.cells #[.int .u8 kv, .int .i64 cv, .int .i64 sv, .int .i64 ev] 35)
  obtain ⟨A2, hA2, n2, s2, m2⟩ := alloc_named2 A1 (.cells #[.int .u8 0, .int .i64 0, .int .i64 0, .int .i64 0] 35)
  rw [s1] at n2
  have SA := S0.kept (m1.trans m2) (by simp)
  have S := S0.kept ((m1.trans m2).drew) (by simp)
  have hlt0 := S0.lt
  have bX := m2.heap n1 (by simp)
  have x0 := cell_blk bX 0
  have x1 := cell_blk bX 1
  have x2 := cell_blk bX 2
  have x3 := cell_blk bX 3
  have z0 := cell_blk n2 0
  have z1 := cell_blk n2 1
  have z2 := cell_blk n2 2
  have z3 := cell_blk n2 3
  simp only [List.getElem?_toArray, List.getElem?_cons_succ, List.getElem?_cons_zero] at x0 x1 x2 x3 z0 z1 z2 z3
  have HM12 := Lib.hid ((m1.trans m2).drew)
  rw [hvz]
  clear S0
  obtain ⟨ga, gc, rfl⟩ := S.free.lens
  simp only [List.length_nil] at S SA ⊢
  obtain ⟨va, vc, rfl⟩ := S.vals.lens
  have hd : decide (t ≤ f) = false := decide_eq_false (by omega)
  have c0 := cell_blk SA.blk 0
  have c1 := cell_blk SA.blk 1
  have c2 := cell_blk SA.blk 2
  simp only [List.getElem?_toArray, List.getElem?_cons_succ, List.getElem?_cons_zero, List.length_nil] at c0 c1 c2
  obtain ⟨gw, w5, ra, og, gr⟩ := own_append1 (P := Tryz.prog) (ty := 66) elemVal encZ_len encZ_one S.vals (Nat.zero_le _) v (by omega) (by omega)
  rw [hez, show A2.drew.heap.size = w.heap.size + 1 + 1 by rw [show A2.drew.heap.size = A2.heap.size from rfl, s2, s1]] at ra
  obtain ⟨a', n', c', rfl⟩ : ∃ a n c, gw = .slice a n c := by obtain ⟨a, c, e⟩ := og.lens; exact ⟨a, _, c, e⟩
  have ma := (Mod.refl [] A2).alloc (.cells #[.int .u8 kv, .int .i64 cv, .int .i64 sv, .int .i64 ev] 35)
  have ca := cell_blk (ma.heap SA.blk (by simp)) 1
  have HVA := apart_of lnB_V S.apart
  have b5 := gr.mod.heap S.blk (HVA g (by simp))
  have c51 := cell_blk b5 1
  have f51 := frozen_blk b5 1
  have b6 := heap_setCell_blk b5 1 (.slice a' n' c')
  have m6 : Mod [g] w5 (w5.setCell ⟨g, 1, none⟩ (.slice a' n' c')) := (Mod.refl _ _).setCell (by simp) _
  have c60 := cell_blk b6 0
  simp at c60
  simp only [List.getElem?_toArray, List.getElem?_cons_succ, List.getElem?_cons_zero] at ca c51
  obtain ⟨nd2, mb2⟩ := swap_both (lnB_V (g := g) (b := b) (vv := .slice va vs.length vc) (gv := .slice ga 0 gc) (nv := nv) (fv := fv)) (lnB_V (g := g) (b := b) (vv := .slice a' n' c') (gv := .slice ga 0 gc) (nv := nv) (fv := fv)) S.apart S.lt gr.heir
  have hg2 := (List.nodup_cons.1 nd2).1
  have hg6 : ∀ k ∈ b :: (blk (.slice a' n' c') ++ (blk (.slice ga 0 gc) ++ (blk nv ++ blk fv))), k ∉ [g] := fun k hk hm => by
    rw [List.mem_singleton] at hm
    subst hm
    exact hg2 hk
  have T6 : AvlSt (w5.setCell ⟨g, 1, none⟩ (.slice a' n' c')) b nv fv ns fr T := ⟨(S.tree.tree.keptL gr.mod (HVA b (by simp)) (fun k hk => HVA k (by simp [mem_blk, hk])) (fun k hk => HVA k (by simp [mem_blk, hk]))).keptL m6 (hg6 b (by simp)) (fun k hk => hg6 k (by simp [mem_blk, hk])) (fun k hk => hg6 k (by simp [mem_blk, hk])), S.tree.rep, S.tree.avl, S.tree.srt, S.tree.nodup, S.tree.free, S.tree.fnd, S.tree.full⟩
  have hkT : ∀ x ∈ T.items, x.i ≠ (vs.length : Int) := fun x hx e => by
    obtain ⟨j, e1, e2, _⟩ := S.ids x hx
    omega
  have hful := S.full
  simp only [List.length_nil, Nat.add_zero] at hful
  have CI := Lib.hid (insert_at T6 ⟨f, t, vs.length⟩ (fun h => hkT _ h rfl) hft (by omega) (by omega))
  have HF := Lib.hid (fun w2 (hI : InsPost (w5.setCell ⟨g, 1, none⟩ (.slice a' n' c')) b nv fv ns ⟨f, t, vs.length⟩ T w2) => layZ_fin (g := g) (k := vs.length) (vv := .slice a' n' c') (gv := .slice ga 0 gc) (vs := vs ++ [v]) (vs0 := vs) (fs := []) (E := E) (v := v) (M := M)
    (by simpa using b6) (og.kept m6 (fun k hk => hg6 k (by simp [mem_blk, hk]))) ((S.free.kept gr.mod (fun k hk => HVA k (by simp [mem_blk, hk]))).kept m6 (fun k hk => hg6 k (by simp [mem_blk, hk]))) T6 nd2 (by simp) (by simp) hkT
    (fun x hx => by obtain ⟨j, e1, e2, e3⟩ := S.ids x hx; exact ⟨j, e1, by simp; omega, e3⟩)
    (fun x hx => by
      obtain ⟨j, e1, e2, e3⟩ := S.ids x hx
      unfold valOf
      rw [e1, Int.toNat_natCast, List.getD_eq_getElem?_getD, List.getD_eq_getElem?_getD, List.getElem?_append_left e2]) S.inj (by simp) (by simp) (by simp [hful]) S.pos hft (by simp) hp hn (by
      have : T.size = E.length := by rw [← hp.length_eq, List.length_map, items_len]
      simp; omega) hI)
  have HM := Lib.hid (show Mod (lnB g b (.slice va vs.length vc) (.slice ga 0 gc) nv fv) A2.drew (w5.setCell ⟨g, 1, none⟩ (.slice a' n' c')) from (gr.mod.mono fun k hk => lnB_V.mem_iff.2 (List.mem_append.2 (.inl hk))).trans (m6.mono fun k hk => by rw [List.mem_singleton] at hk; subst hk; simp [lnB]))
  have HMB := Lib.hid mb2
  have RA := Lib.hid ra
  simp only [itV] at CI
  clear T6 hg6 hg2 nd2 mb2 m6 b6 b5 HVA ma og gr ra S hkT hp hful
  clear hez hvz hvl hv
  rcases h4 with h4 | ⟨rfl, h4⟩ | ⟨rfl, rfl, h4⟩ | ⟨rfl, rfl, rfl, h4⟩
  all_goals
    go_enter Tryz.func29, Tryz.ntmps29
    go_wp2_with fail
    simp only [← hA1, ← hA2]
    go_wp2_with fail
    refine wp_plan [([0, 1, 5, 2, 3, 4], 6, [2, 3, 4]), ([], 7, []), ([8, 9], 10, [])] [] (by kernel_rfl) (by kernel_rfl) ?_
    simp only [wpSegs, opsOf, List.map_cons, List.map_nil, opN, List.getD_cons_zero, List.getD_cons_succ]
    go_wp2_with fail
    refine ⟨by first | trivial | rfl | (rw [hA1, hA2]), ?_⟩
    go_wp2_with fail
    refine ⟨?ag1, ?_⟩
    case ag1 =>
      intro i hi hw
      simp only [List.mem_cons, List.not_mem_nil, or_false] at hi
      rcases hi with rfl | rfl | rfl
      all_goals (simp only [opN, List.getD_cons_zero, List.getD_cons_succ, slotOf]; go_simp)
    go_wp2_with ((with_reducible refine xAppendAt RA.out rfl rfl ?_ ?_ ?_ ?_); exact rfl; exact rfl; exact rfl)
    refine ⟨by first | trivial | rfl, ?_⟩
    go_wp2_with ((with_reducible refine xAppendAt RA.out rfl rfl ?_ ?_ ?_ ?_); exact rfl; exact rfl; exact rfl)
    refine ⟨again_nil, ?_⟩
    go_wp2_with fail
    refine ⟨by first | trivial | rfl, ?_⟩
    go_wp2_with fail
    refine ⟨again_nil, ?_⟩
    go_wp2_with fail
    refine ⟨by first | trivial | rfl, ?_⟩
    go_wp2_with fail
    refine CI.out.mono ?_
    rintro e w2 ⟨rfl, hI⟩
    have HP := Lib.hid ((HF.out w2 hI).into HM.out HMB.out)
    clear hI CI HF
    go_wp2_with fail
    go_end0
    exact ⟨rfl, _, HP.out.into HM12.out.nil (fun k hk => .inl hk)⟩
end Go.Proofs.YtngglpekdjhbdaaGreat
