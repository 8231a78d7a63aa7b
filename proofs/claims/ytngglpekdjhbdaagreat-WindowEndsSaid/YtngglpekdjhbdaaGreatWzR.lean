/- Layer 9: push. -/
import Derived.Test.YtngglpekdjhbdaaGreatWzQ
import Derived.Test.YtngglpekdjhbdaaGreatWzP
namespace Go.Proofs.YtngglpekdjhbdaaGreat
open Go.RowKit Go.ChangeMaps Go.Deep Tr
set_option linter.unusedSimpArgs false
set_option linter.unusedVariables false
set_option maxRecDepth 20000

set_option maxHeartbeats 8000000 in
theorem delete_b {w : World} {b : Nat} {nv fv : Value} {ns : List Nd} {fr : List Int} {T : Tr} (S : AvlSt w b nv fv ns fr T) (x : It) (hx : x ∈ T.items) (hsz : T.size ≤ 100000) (hns : ns.length ≤ 100000) {p : Nat} {p1 : Nat} {l1 : Tr} {y1 : It} {r1 : Tr} {q : Nat} {a : Tr} {z : It} {bb : Tr} (hf : (downT x T []).2 = .node p (.node p1 l1 y1 r1) x (.node q a z bb)) :
    Calls Tryz.prog 39 #[.pointer (some ⟨b, 0, none⟩), itV x] w fun e w' => e = .returned (.int .i64 0) ∧ DelPost w b nv fv ns fr x T w' := by
  have HS := Lib.hid S
  have HX := Lib.hid hx
  have hT34 := ht_small S.avl (by omega)
  have hT0 := ht_nonneg T
  have m0 := (Mod.refl [] w).alloc (.cells #[.int .i64 x.f, .int .i64 x.t, .int .i64 x.i] 70)
  have C1 := Lib.hid (none_at (S.tree.kept0 m0))
  have C2 := Lib.hid (down_at (S.tree.kept0 m0) rfl S.rep (by omega) x)
  have M0 := Lib.hid m0
  unfold itV at C2 ⊢
  clear S hx m0
  go_enter Tryz.func39, Tryz.ntmps39
  go_wp2_with fail
  refine C1.out.mono ?_
  rintro e w1 ⟨rfl, rfl⟩
  go_wp2_with fail
  refine C2.out.mono ?_
  rintro e w2 ⟨m2, C, hC⟩
  rw [hf] at hC
  obtain ⟨rfl, hP⟩ := hC
  have ma := (Mod.refl [] w2).alloc (.cells Tryz.zeroCells124 124)
  obtain ⟨w3, hst, mst, gst⟩ := store_blk2 (P := Tryz.prog) 124 (heap_alloc_new w2 (.cells Tryz.zeroCells124 124)) (by rw [hP.size]; rfl) (by rw [sizePath, hP.size]) hP.one
  have m3 : Mod [] w w3 := Mod.into' ((M0.out.trans m2).trans ma) mst (fun k hk => .inl (by
    simp only [List.mem_singleton] at hk
    subst hk
    have := (M0.out.trans m2).size
    exact this))
  have T3 := HS.out.tree.kept0 m3
  have HPC := Lib.hid hP
  have HGST := Lib.hid gst
  have HST := Lib.hid hst
  have HM3 := Lib.hid m3
  have HT3 := Lib.hid T3
  have hszw : w.heap.size < w2.heap.size := by
    have := m2.size
    simp only [World.size_alloc] at this
    omega
  obtain ⟨q1, q2, q3⟩ := (downT_rest x T [] HS.out.rep (fun f hf => by cases hf)).2 |> (fun h => by rw [hf] at h; exact h)
  obtain ⟨g, cap, hnv, _, hcap⟩ := T3.row.at_ q1
  have hplt := (List.getElem?_eq_some_iff.1 q1).1
  obtain ⟨fa, fc, hfv⟩ := T3.free.lens
  subst hnv hfv
  have hpi : ((p : Nat) : Int) < (ns.length : Int) := by omega
  have hfl : fr.length ≤ 100000 := by have := HS.out.full; omega
  have c1 := cell_blk T3.blk 1
  simp only [List.getElem?_toArray, List.getElem?_cons_succ, List.getElem?_cons_zero] at c1
  have hn80 := cell_blk gst 80
  rw [hP.n] at hn80
  simp only [List.length_append, List.length_singleton, pth_len] at hn80
  have hFl := downT_len x T []
  rw [hf] at hFl
  simp only [List.length_nil] at hFl
  have hnn := ht_nonneg (Tr.node p (.node p1 l1 y1 r1) x (.node q a z bb))
  have hl0 := ht_nonneg (.node p1 l1 y1 r1)
  have hr0 := ht_nonneg (.node q a z bb)
  have hF40 : (downT x T []).1.length < 40 := by omega
  have hat := (hP.get (downT x T []).1.length (p, false) (by rw [List.getElem?_append_right (by rw [pth_len]; exact Nat.le_refl _), pth_len]; simp)).1
  have hcat := cell_blk gst (downT x T []).1.length
  rw [hat] at hcat
  dsimp only at hcat
  have hy : w3.rangeAt g (p * 8) (encNd (nd (.node p1 l1 y1 r1) x (.node q a z bb))) := fun j u hu => (nd_cells T3.row q1 j u hu).1
  have HLN := Lib.hid (run_loadAt_mid (P := Tryz.prog) _ g (p * 8) 128 (encNd (nd (.node p1 l1 y1 r1) x (.node q a z bb))) _ hy Tryz.underlying128 rfl (by kernel_rfl))
  simp only [encNd, nd, at_] at HLN
  have HPN : Hid (w2.heap.size ≠ b ∧ (Value.slice (some ⟨g, 0, none⟩) ns.length cap).ownBlock ≠ some w2.heap.size ∧ (Value.slice fa fr.length fc).ownBlock ≠ some w2.heap.size) := Lib.hid (by
    have h1 := lt_of_heap HS.out.tree.blk
    refine ⟨by omega, fun e => ?_, fun e => ?_⟩
    · have := (World.ownsRow.lt HS.out.tree.row _ e).2; omega
    · have := (World.ownsRow.lt HS.out.tree.free _ e).2; omega)
  have HSZW := Lib.hid hszw
  clear m3 mst hst ma m2 hszw C1 C2 hat hy hFl gst
  obtain ⟨m, hm⟩ : ∃ m, m = minF q a z bb (⟨p, true, (delMin q a z bb).2.1, .node p1 l1 y1 r1⟩ :: (downT x T []).1) := ⟨_, rfl⟩
  have HHM := Lib.hid hm
  obtain ⟨T', hdel, hmz, hmnd, hmp, OK⟩ := del_two HS.out.rep HS.out.nodup hf hm
  have hplen := minF_len a q z bb (⟨p, true, (delMin q a z bb).2.1, .node p1 l1 y1 r1⟩ :: (downT x T []).1)
  rw [← hm] at hplen
  have hT' := downT_len x T []
  rw [hf] at hT'
  have hqr := q3
  obtain ⟨m1, mz, mb, mF⟩ := m
  dsimp only at hdel hmz hmnd hmp OK hplen
  have HMND := Lib.hid hmnd
  have HOK0 := Lib.hid OK
  have HDEL := Lib.hid hdel
  have HMP := Lib.hid hmp
  have HQ1 := Lib.hid q1
  clear OK hdel hmnd hmp hmz
  go_upto_region 9 with (first | ((with_reducible refine xStoreAt rfl HST.out ?_ ?_ ?_ ?_); exact rfl; exact rfl; exact rfl) | ((with_reducible refine xLoadAt rfl HLN.out ?_ ?_ ?_); exact rfl; exact rfl))
  generalize hw4 : w3.alloc _ = wq
  have mq : Mod [] w3 wq := by rw [← hw4]; exact (Mod.refl [] w3).alloc _
  have hbx : wq.heap[w3.heap.size]? = some (.cells #[.int .i64 x.f, .int .i64 x.t, .int .i64 x.i, .int .i64 p1, .int .i64 q, .int .i64 (node 0 (node p1 l1 y1 r1) x (node q a z bb)).ht, .int .i64 (node 0 (node p1 l1 y1 r1) x (node q a z bb)).top, .bool true] 128 (0, 0)) := by rw [← hw4]; exact heap_alloc_new w3 _
  have T4 := HT3.out.kept0 mq
  have g4 := mq.heap HGST.out (by simp)
  have hPL : (pth (downT x T []).1).reverse.length = (downT x T []).1.length := pth_len _
  have HPT := Lib.hid HPC.out.turn
  rw [hPL] at HPT
  have b5 := heap_setCell_blk g4 (40 + (downT x T []).1.length) (.bool true)
  have m5 : Mod [w2.heap.size] wq (wq.setCell ⟨w2.heap.size, 40 + (downT x T []).1.length, none⟩ (.bool true)) := (Mod.refl _ _).setCell (by simp) _
  have n80 := cell_blk g4 80
  rw [show C[80]? = some (.int .i64 (((downT x T []).1.length : Int) + 1)) from by have := HPC.out.n; simp only [List.length_append, List.length_singleton, hPL] at this; rw [this]; congr 2] at n80
  have n40 := cell_blk g4 (40 + (downT x T []).1.length)
  rw [show C[40 + (downT x T []).1.length]? = some (.bool false) from (HPC.out.get (downT x T []).1.length (p, false) (by rw [List.getElem?_append_right (by rw [hPL]; exact Nat.le_refl _), hPL]; simp)).2] at n40
  have f40 := frozen_blk g4 (40 + (downT x T []).1.length)
  have hne3 : w3.heap.size ≠ w2.heap.size := by
    have := lt_of_heap HGST.out
    omega
  have hbx5 := m5.heap hbx (by simpa using hne3)
  have k4 := cell_blk hbx5 4
  simp only [List.getElem?_toArray, List.getElem?_cons_succ, List.getElem?_cons_zero] at k4
  have HMQ5 := Lib.hid (HM3.out.trans mq)
  have HB5 := Lib.hid b5
  have HT4 := Lib.hid T4
  have M5 := Lib.hid m5
  clear hw4 mq hbx T4 b5 m5 hbx5 g4 hcat hn80 c1 HLN HST
  go_upto_region 11 with fail
  generalize hw5 : wq.setCell _ _ = w5 at *
  go_loopw [9] (fun s9 W => ∃ (PS : List (Nat × Bool)) (C' : Array Value), Hid (W.heap[w2.heap.size]? = some (.cells C' 124 (0, 0)) ∧ PathC C' PS ∧ Mod [w2.heap.size] wq W) ∧ ((∃ (fs : List Fr) (q' : Nat) (a' : Tr) (z' : It) (b' : Tr), s9 = .int .i64 q' ∧ Hid (PS = (pth fs).reverse ∧ Tr.rep ns (.node q' a' z' b') ∧ minF q' a' z' b' fs = (m1, mz, mb, mF) ∧ (fs.length : Int) + (Tr.node q' a' z' b').ht ≤ T.ht)) ∨ (s9 = .int .i64 (-1) ∧ Hid (PS = (pth mF).reverse ++ [(m1, false)])))) (fun _ W => 41 - (intOf ((W.cell? ⟨w2.heap.size, 80, none⟩).getD undef)).toNat)
  case atStart =>
    refine ⟨_, _, Lib.hid ⟨HB5.out, HPT.out, M5.out⟩, .inl ⟨(⟨p, true, (delMin q a z bb).2.1, .node p1 l1 y1 r1⟩ :: (downT x T []).1), q, a, z, bb, rfl, Lib.hid ⟨by simp [pth], hqr, hm.symm, ?_⟩⟩⟩
    simp only [List.length_cons, List.length_nil, ht] at hT' ⊢
    omega
  case round =>
    obtain ⟨PS, C', hB, hcase⟩ := hrel
    rcases hcase with ⟨fs, q', a', z', b', rfl, hI⟩ | ⟨rfl, hI⟩
    · obtain ⟨hPS, hrep', hmin, hhi⟩ := hI.out
      have hl' := ht_nonneg a'
      have hb'0 := ht_nonneg b'
      have hhi2 := hhi
      simp only [ht] at hhi2
      have hfs40 : fs.length < 40 := by omega
      have hPSl : PS.length = fs.length := by rw [hPS]; exact pth_len _
      have TW := HT4.out.off hB.out.2.2 (Ne.symm HPN.out.1) HPN.out.2.1 HPN.out.2.2
      obtain ⟨c', hc'⟩ : ∃ u, C'[fs.length]? = some u := ⟨C'[fs.length]'(by rw [hB.out.2.1.size]; omega), by simp⟩
      have e80 := cell_blk hB.out.1 80
      rw [hB.out.2.1.n, hPSl] at e80
      have en := cell_blk hB.out.1 fs.length
      rw [hc'] at en
      have fnn := frozen_blk hB.out.1 fs.length
      have b6 := heap_setCell_blk hB.out.1 fs.length (.int .i64 (q' : Int))
      have m6 : Mod [w2.heap.size] wr (wr.setCell ⟨w2.heap.size, fs.length, none⟩ (.int .i64 (q' : Int))) := (Mod.refl _ _).setCell (by simp) _
      have d80 := cell_blk b6 80
      rw [show (C'.setIfInBounds fs.length (.int .i64 (q' : Int)))[80]? = some (.int .i64 fs.length) from by
        simp only [Array.getElem?_setIfInBounds]
        rw [if_neg (by omega), hB.out.2.1.n, hPSl]] at d80
      have fd80 := frozen_blk b6 80
      have b7 := heap_setCell_blk b6 80 (.int .i64 ((fs.length : Int) + 1))
      have m7 : Mod [w2.heap.size] wr ((wr.setCell ⟨w2.heap.size, fs.length, none⟩ (.int .i64 (q' : Int))).setCell ⟨w2.heap.size, 80, none⟩ (.int .i64 ((fs.length : Int) + 1))) := m6.setCell (by simp) _
      have TW7 := TW.off m7 (Ne.symm HPN.out.1) HPN.out.2.1 HPN.out.2.2
      have k1 := cell_blk TW7.blk 1
      simp only [List.getElem?_toArray, List.getElem?_cons_succ, List.getElem?_cons_zero] at k1
      have k3 := (nd_cells TW7.row hrep'.1 3 _ rfl).1
      have hqlt' := (List.getElem?_eq_some_iff.1 hrep'.1).1
      have hqi' : ((q' : Nat) : Int) < (ns.length : Int) := by omega
      have P7 := hB.out.2.1.found (by omega) q'
      rw [hPSl] at P7
      have HN80 := Lib.hid (show ((wr.setCell ⟨w2.heap.size, fs.length, none⟩ (.int .i64 (q' : Int))).setCell ⟨w2.heap.size, 80, none⟩ (.int .i64 ((fs.length : Int) + 1))).cell? ⟨w2.heap.size, 80, none⟩ = some (.int .i64 ((fs.length : Int) + 1)) from by
        rw [cell_blk b7]
        have := P7.n
        simp only [List.length_append, List.length_singleton, hPSl] at this
        rw [this]; congr 2)
      have HB7 := Lib.hid (And.intro b7 (And.intro P7 (hB.out.2.2.trans m7)))
      have E80 := Lib.hid e80
      dsimp only [nd] at k3
      clear TW TW7 b6 m6 b7 m7 P7 hc'
      go_wp2_with fail
      go_roundw
      case rel =>
        refine ⟨_, _, HB7, ?_⟩
        cases a' with
        | nil =>
          refine .inr ⟨rfl, Lib.hid ?_⟩
          simp only [minF, Prod.mk.injEq] at hmin
          obtain ⟨rfl, rfl, rfl, rfl⟩ := hmin
          rw [hPS]
        | node s c u d =>
          refine .inl ⟨⟨q', false, z', b'⟩ :: fs, s, c, u, d, rfl, Lib.hid ⟨?_, hrep'.2.1, ?_, ?_⟩⟩
          · rw [hPS]; simp [pth]
          · simpa only [minF] using hmin
          · simp only [List.length_cons, ht] at hhi ⊢; omega
      case measure => rw [HN80.out, E80.out]; simp [intOf]; omega
    · have hPS := hI.out
      have hPF : (pth mF).reverse.length = mF.length := pth_len _
      have hnq := ht_nonneg (Tr.node q a z bb)
      have hmF : mF.length < 40 := by simp only [List.length_cons] at hplen; simp only [ht] at hT' hplen; simp only [List.length_nil] at hT'; omega
      have TW := HT4.out.off hB.out.2.2 (Ne.symm HPN.out.1) HPN.out.2.1 HPN.out.2.2
      have e80 := cell_blk hB.out.1 80
      rw [hB.out.2.1.n, hPS] at e80
      simp only [List.length_append, List.length_singleton, hPF] at e80
      have en := cell_blk hB.out.1 mF.length
      rw [(hB.out.2.1.get mF.length (m1, false) (by rw [hPS, List.getElem?_append_right (by rw [hPF]; exact Nat.le_refl _), hPF]; simp)).1] at en
      dsimp only at en
      have TWd := TW.kept0 ((Mod.refl [] wr).drew)
      obtain ⟨w7, rst, mst, TI⟩ := TWd.item HQ1.out mz
      simp only [List.length_set] at TI
      have hy : (wr.drew).rangeAt g (m1 * 8) [.int .i64 mz.f, .int .i64 mz.t, .int .i64 mz.i] := fun j u hu => by
        have hj : j < 3 := (List.getElem?_eq_some_iff.1 hu).1
        refine (nd_cells TWd.row HMND.out j u ?_).1
        rw [← hu]
        rcases (show j = 0 ∨ j = 1 ∨ j = 2 by omega) with rfl | rfl | rfl <;> rfl
      have HLI := Lib.hid (run_loadAt_mid (P := Tryz.prog) _ g (m1 * 8) 70 [.int .i64 mz.f, .int .i64 mz.t, .int .i64 mz.i] _ hy Tryz.underlying70 rfl (by kernel_rfl))
      have hm1lt := (List.getElem?_eq_some_iff.1 HMND.out).1
      have hm1i : ((m1 : Nat) : Int) < (ns.length : Int) := by omega
      have k1 := cell_blk TW.blk 1
      simp only [List.getElem?_toArray, List.getElem?_cons_succ, List.getElem?_cons_zero] at k1
      have RST := Lib.hid rst
      have hgp : g ≠ w2.heap.size := fun e => HPN.out.2.1 (by simp [Value.ownBlock, e])
      have hm7 : Mod [w2.heap.size, g] wq w7 := Mod.into' (Mod.into' (Mod.into' (Mod.refl _ wq) hB.out.2.2 (fun k hk => .inr (by simp at hk; simp [hk]))) ((Mod.refl [] wr).drew) (fun k hk => by cases hk)) mst (fun k hk => .inr (by simp at hk; simp [hk]))
      have HPAQ : Hid (PathAt w7 w2.heap.size ((pth mF).reverse ++ [(m1, false)])) := Lib.hid ⟨by rw [← hPS]; exact hB.out.2.1.len, C', mst.heap (show (wr.drew).heap[w2.heap.size]? = _ from hB.out.1) (by simpa using Ne.symm hgp), hB.out.2.1.size, by rw [← hPS]; exact hB.out.2.1.get, by rw [← hPS]; exact hB.out.2.1.n⟩
      have HMQ := Lib.hid (Mod.into' (HMQ5.out.nil (l := b :: (blk (.slice (some ⟨g, 0, none⟩) ns.length cap) ++ blk (.slice fa fr.length fc)))) hm7 (fun k hk => by
        simp only [List.mem_cons, List.not_mem_nil, or_false] at hk
        rcases hk with rfl | rfl
        · exact .inl (Nat.le_of_lt HSZW.out)
        · exact .inr (by simp [blk, Value.ownBlock])))
      have TP := TI
      have hdel := HDEL.out
      have OK := HOK0.out
      clear TW TWd rst mst TI hy hm7 hB hI hPS
      go_upto_region 16 with fail
      refine wp_plan [([0, 4, 5, 9, 1, 6, 2, 7, 3, 8, 10, 11, 12, 13, 14, 15, 16], 17, [])] [] (by kernel_rfl) (by kernel_rfl) ?_
      simp only [wpSegs, opsOf, List.map_cons, List.map_nil, opN, List.getD_cons_zero, List.getD_cons_succ]
      go_wp2_with ((with_reducible refine xLoadAt rfl HLI.out ?_ ?_ ?_); exact rfl; exact rfl)
      refine ⟨by first | trivial | rfl, ?_⟩
      go_wp2_with ((with_reducible refine xStoreAt rfl RST.out ?_ ?_ ?_ ?_); exact rfl; exact rfl; exact rfl)
      refine ⟨again_nil, ?_⟩
      go_wp2_with fail
      refine ⟨by first | trivial | rfl, ?_⟩
      go_upto_region 18 with fail
      have hdn := Lib.hid hdel
      have hqn := OK.node
      obtain ⟨xq, li, ri, hh, tt, hq, hmx⟩ := hqn
      obtain ⟨P1, mP, z80, f80⟩ := HPAQ.out.drop
      rw [pth_len] at P1 mP z80
      have TP1 := (TP.off mP (Ne.symm HPN.out.1) HPN.out.2.1 HPN.out.2.2).kept0 ((Mod.refl [] _).drew)
      have CA := Lib.hid (above_any TP1 (P1.kept ((Mod.refl [] _).drew) (by simp)) OK.rest mb.at_)
      have HP1 := Lib.hid (P1.kept ((Mod.refl [] _).drew) (by simp))
      have MP1 := Lib.hid (mP.drew)
      have a1 := cell_blk TP1.blk 1
      simp only [List.getElem?_toArray, List.getElem?_cons_succ, List.getElem?_cons_zero] at a1
      have hlx : ((ns.set p (ndx (.node p1 l1 y1 r1) x (.node q a z bb) mz))).length = ns.length := by first | rfl | exact List.length_set
      have hrowx : OwnR encNd 8 128 ((w7.setCell ⟨w2.heap.size, 80, none⟩ (.int .i64 (mF.length : Int))).drew) 0 (.slice (some ⟨g, 0, none⟩) ((ns.set p (ndx (.node p1 l1 y1 r1) x (.node q a z bb) mz))).length cap) (ns.set p (ndx (.node p1 l1 y1 r1) x (.node q a z bb) mz)) := by rw [hlx]; exact TP1.row
      have a3 := (nd_cells hrowx hq 3 _ rfl).1
      have a4 := (nd_cells hrowx hq 4 _ rfl).1
      have a80 := P1.n
      rw [pth_len] at a80
      have hqlt := (List.getElem?_eq_some_iff.1 hq).1
      have hqi : ((m1 : Nat) : Int) < (ns.length : Int) := by first | omega | (have := hqlt; simp only [List.length_set] at this; omega)
      have HOK := Lib.hid OK
      have hFlen := OK.len
      unfold RPost at CA
      rw [← hmx] at CA
      dsimp only at a3 a4
      have hmxc : (li < ri ∧ max li ri = ri) ∨ (ri ≤ li ∧ max li ri = li) := by omega
      have HMX := Lib.hid hmx
      clear TP TP1 P1 OK hq hmx hrowx hlx
      generalize hM : max li ri = M at *
      rcases hmxc with ⟨hlr, hM2⟩ | ⟨hlr, hM2⟩
      all_goals
        subst hM2
        go_wp2_with fail
        refine wp_plan [([0, 1, 3, 7, 12, 16, 2, 4, 13, 5, 14, 6, 15, 8, 17, 9, 18, 10, 19, 11, 20], 21, [1, 2]), ([], 22, [])] [] (by kernel_rfl) (by kernel_rfl) ?_
        simp only [wpSegs, opsOf, List.map_cons, List.map_nil, opN, List.getD_cons_zero, List.getD_cons_succ]
        go_wp2_with fail
        refine ⟨by first | trivial | rfl, ?_⟩
        go_wp2_with fail
        refine ⟨?agX, ?_⟩
        case agX =>
          intro i hi hw
          simp only [List.mem_cons, List.not_mem_nil, or_false] at hi
          rcases hi with rfl | rfl
          all_goals (simp only [opN, List.getD_cons_zero, List.getD_cons_succ, slotOf]; go_simp)
        go_wp2_with fail
        refine ⟨by first | trivial | rfl, ?_⟩
        go_wp2_with fail
        refine CA.out.mono ?_
        rintro e w5 ⟨rfl, T5, m5⟩
        have hqF : m1 ∉ mF.flatMap Fr.places := fun e => (List.nodup_cons.1 HOK.out.nodup).1 (List.mem_append_right _ e)
        have hz := hang_set (ns := (ns.set p (ndx (.node p1 l1 y1 r1) x (.node q a z bb) mz))) (root := T.at_) (F := mF) (below := M) Nd.zero hqF
        have hhl := hangTop_len (ns.set p (ndx (.node p1 l1 y1 r1) x (.node q a z bb) mz)) T.at_ mF M
        have c51 := cell_blk T5.blk 1
        have T5' : TreeAt w5 b (.slice (some ⟨g, 0, none⟩) (hangTop (ns.set p (ndx (.node p1 l1 y1 r1) x (.node q a z bb) mz)) T.at_ (pth mF) M).1.length cap) (.slice fa fr.length fc) (hangTop (ns.set p (ndx (.node p1 l1 y1 r1) x (.node q a z bb) mz)) T.at_ (pth mF) M).1 fr (hangTop (ns.set p (ndx (.node p1 l1 y1 r1) x (.node q a z bb) mz)) T.at_ (pth mF) M).2 T.size := by first | (rw [hhl]; exact T5) | (rw [hhl, List.length_set]; exact T5)
        obtain ⟨w6, rput, mput, T6⟩ := T5'.put (by rw [hhl]; exact hqlt) Nd.zero
        rw [hz.1, hz.2] at T6
        simp only [hangTop_len, List.length_set] at T6
        obtain ⟨fv', wa, wb, ra, rs, T7, m7, hheir⟩ := tree_free T6 (m1 : Int) (by omega)
        obtain ⟨T8, m8⟩ := T7.many ((T.size : Int) - 1)
        have c62 := cell_blk T6.blk 2
        have c74 := cell_blk T7.blk 4
        have f74 := frozen_blk T7.blk 4
        simp only [List.getElem?_toArray, List.getElem?_cons_succ, List.getElem?_cons_zero] at c51 c62 c74
        have hgn : w2.heap.size ≠ g := fun e => HPN.out.2.1 (by simp [Value.ownBlock, e])
        have hpA : w2.heap.size ∉ b :: blk (.slice (some ⟨g, 0, none⟩) ns.length cap) := by
          simp only [List.mem_cons, not_or]
          exact ⟨HPN.out.1, fun e => HPN.out.2.1 (mem_blk.1 e)⟩
        have hpB : w2.heap.size ∉ b :: blk (.slice fa fr.length fc) := by
          simp only [List.mem_cons, not_or]
          exact ⟨HPN.out.1, fun e => HPN.out.2.2 (mem_blk.1 e)⟩
        have HP8 := Lib.hid ((((HP1.out.kept m5 hpA).kept mput (by simpa using hgn)).kept m7 hpB).kept m8 (by simpa using HPN.out.1))
        have hcl := HOK.out.clear Nd.zero
        have hnd2 := (List.nodup_cons.1 HOK.out.nodup).2
        rw [HMX.out] at T8
        have HW8 := Lib.hid (Mod.into' (Mod.into' (Mod.into' (Mod.into' (Mod.into' (HMQ.out) (MP1.out) (fun k hk => .inl (by simp at hk; subst hk; exact Nat.le_of_lt HSZW.out))) m5 (fun k hk => .inr (by simp only [List.mem_cons, List.mem_append] at hk ⊢; rcases hk with h | h; exact .inl h; exact .inr (.inl h)))) mput (fun k hk => .inr (by simp at hk; simp [hk, blk, Value.ownBlock]))) m7 (fun k hk => .inr (by simp only [List.mem_cons, List.mem_append] at hk ⊢; rcases hk with h | h; exact .inl h; exact .inr (.inr h)))) m8 (fun k hk => .inr (by simp at hk; simp [hk])))
        have CM := Lib.hid (mend_at (T := mb) (ns := (ns.set p (ndx (.node p1 l1 y1 r1) x (.node q a z bb) mz)).set m1 Nd.zero) (root := T.at_) T8 HP8.out HPN.out.1 HPN.out.2.1 hcl.1 hcl.2 hnd2 (by have := HOK.out.hc; omega) (fun f hf => by have := HOK.out.high f hf; omega) (by omega))
        have HHEIR := Lib.hid (show fv'.ownBlock = (Value.slice fa fr.length fc).ownBlock ∨ ∀ k, fv'.ownBlock = some k → w.heap.size ≤ k from hheir.imp id (fun h k hk => by
          have h1 := h k hk
          have h2 := m5.size
          have h3 := mput.size
          have h4 := MP1.out.size
          have h5 := HMQ.out.size
          omega))
        have RPUT := Lib.hid rput
        have RA := Lib.hid ra
        have RS := Lib.hid rs
        simp only [encNd, Nd.zero] at RPUT
        clear T5 T5' T6 T7 T8 m5 mput m7 m8 rput ra rs hz hhl hcl hnd2 hheir CA
        go_wp2_with fail
        refine ⟨again_nil, ?_⟩
        go_wp2_with fail
        refine ⟨by first | trivial | rfl, ?_⟩
        go_wp2_with (first | ((with_reducible refine xStoreAt rfl RPUT.out ?_ ?_ ?_ ?_); exact rfl; exact rfl; exact rfl) | ((with_reducible refine xAppendAt RA.out rfl rfl ?_ ?_ ?_ ?_); exact rfl; exact rfl; exact rfl) | ((with_reducible refine xStoreAt rfl RS.out ?_ ?_ ?_ ?_); exact rfl; exact rfl; exact rfl))
        refine CM.out.mono ?_
        rintro e w8 ⟨rfl, ns8, T9, r9, l9, _, m9⟩
        rw [HOK.out.plug] at T9 r9
        have HE := Lib.hid (del_end HS.out HX.out hdn.out T9 r9 (by rw [l9]; simp) (Mod.into' HW8.out m9 (fun k hk => .inr (by simp only [List.mem_cons, List.mem_append] at hk ⊢; rcases hk with h | h; exact .inl h; exact .inr (.inl h)))) HHEIR.out)
        clear T9 r9 m9 CM
        go_wp2_with fail
        go_ret
        exact ⟨rfl, HE.out⟩
theorem delete_at {w : World} {b : Nat} {nv fv : Value} {ns : List Nd} {fr : List Int} {T : Tr} (S : AvlSt w b nv fv ns fr T) (x : It) (hx : x ∈ T.items) (hsz : T.size ≤ 100000) (hns : ns.length ≤ 100000) :
    Calls Tryz.prog 39 #[.pointer (some ⟨b, 0, none⟩), itV x] w fun e w' => e = .returned (.int .i64 0) ∧ DelPost w b nv fv ns fr x T w' := by
  obtain ⟨p, l, r, hf⟩ := downT_found x T [] S.srt hx
  cases l with
  | nil => exact delete_l S x hx hsz hns hf
  | node p1 l1 y1 r1 =>
    cases r with
    | nil => exact delete_r S x hx hsz hns hf
    | node q a z bb => exact delete_b S x hx hsz hns hf
end Go.Proofs.YtngglpekdjhbdaaGreat
namespace Go.Proofs.YtngglpekdjhbdaaGreat
open Go.RowKit Go.ChangeMaps Go.Deep Tr
set_option linter.unusedSimpArgs false
set_option linter.unusedVariables false
set_option maxRecDepth 20000

/-- where push stands -/
structure PuSt (w : World) (wb tb : Nat) (a z : Int) (ns : List Nd) (R : List Tr) (W : World) (S : Tr) (st : List Tr) (C : Array Value) : Prop where
  box : W.heap[wb]? = some (.cells C 116 (0, 0))
  wk : Wk C tb a z st
  mod : Mod [wb] w W
  rep : S.rep ns
  res : pushS a S st = R
  low : (st.length : Int) + S.ht ≤ 39
theorem PuSt.kept {w : World} {wb tb : Nat} {a z : Int} {ns : List Nd} {R : List Tr} {W W' : World} {S : Tr} {st : List Tr} {C : Array Value} (h : PuSt w wb tb a z ns R W S st C) (m : Mod [] W W') : PuSt w wb tb a z ns R W' S st C :=
  ⟨m.heap h.box (by simp), h.wk, Mod.into' h.mod m (fun k hk => by cases hk), h.rep, h.res, h.low⟩
def PuPost (w : World) (wb tb : Nat) (a z : Int) (R : List Tr) (e : Ending) (w' : World) : Prop := e = .returned (.tuple #[]) ∧ ∃ C, w'.heap[wb]? = some (.cells C 116 (0, 0)) ∧ Wk C tb a z R ∧ Mod [wb] w w'
set_option maxHeartbeats 4000000 in
theorem push_at {w : World} {wb tb : Nat} {a z : Int} {nv fv : Value} {ns : List Nd} {fr : List Int} {root many i : Int} {S : Tr} {st : List Tr} {C : Array Value} (h0 : TreeAt w tb nv fv ns fr root many) (h1 : tb ≠ wb) (h2 : nv.ownBlock ≠ some wb) (h3 : fv.ownBlock ≠ some wb) (hb : w.heap[wb]? = some (.cells C 116 (0, 0))) (hW : Wk C tb a z st) (hS : S.rep ns) (hi : i = S.at_) (hlow : (st.length : Int) + S.ht ≤ 39) :
    Calls Tryz.prog 59 #[.pointer (some ⟨wb, 0, none⟩), .int .i64 i] w (PuPost w wb tb a z (pushS a S st)) := by
  have HT := Lib.hid (fun (W : World) (hm : Mod [wb] w W) => h0.off hm h1 h2 h3)
  have S0 := Lib.hid (show PuSt w wb tb a z ns (pushS a S st) w S st C from ⟨hb, hW, Mod.refl _ _, hS, rfl, hlow⟩)
  have HI := Lib.hid hi
  have hwlt := lt_of_heap hb
  clear h0 hb hW hS hi hlow
  generalize pushS a S st = R at *
  go_enter Tryz.func59, Tryz.ntmps59
  go_wp2_with fail
  go_loopw [1] (fun s1 W => ∃ (S' : Tr) (st' : List Tr) (C' : Array Value), s1 = .int .i64 S'.at_ ∧ Hid (PuSt w wb tb a z ns R W S' st' C')) (fun _ W => 41 - (intOf ((W.cell? ⟨wb, 283, none⟩).getD undef)).toNat)
  case atStart => exact ⟨S, st, C, by rw [HI.out], S0⟩
  case round =>
    obtain ⟨S', st', C', rfl, hP⟩ := hrel
    clear S0
    have c0 := cell_blk hP.out.box 0
    rw [hP.out.wk.c0] at c0
    have TW := HT.out _ hP.out.mod
    cases S' with
    | nil =>
      have CN := Lib.hid (node_none TW)
      unfold knV Nd.zero at CN
      dsimp only at CN
      clear TW
      simp only [at_]
      go_wp2_with fail
      refine CN.out.mono ?_
      rintro e w2 ⟨rfl, m2⟩
      have HP2 := Lib.hid (hP.out.kept (m2.trans (((Mod.refl [] w2).alloc (.cells #[.int .i64 0, .int .i64 0, .int .i64 0, .int .i64 0, .int .i64 0, .int .i64 0, .int .i64 0] 113)).drew)))
      clear m2
      go_wp2_with fail
      refine wp_plan [] [0, 1, 2, 3, 5, 4, 6, 7, 8, 9, 10] (by kernel_rfl) (by kernel_rfl) ?_
      simp only [wpSegs, opsOf, List.map_cons, List.map_nil, opN, List.getD_cons_zero, List.getD_cons_succ]
      have HE := Lib.hid (show PuPost w wb tb a z R (.returned (.tuple #[])) _ from ⟨rfl, C', HP2.out.box, by rw [← HP2.out.res]; exact HP2.out.wk, HP2.out.mod⟩)
      go_wp2_with fail
      refine ⟨by first | trivial | rfl, ?_⟩
      go_wp2_with fail
      refine bodyPost_ret (results_none rfl _ _ _) rfl HE.out
    | node p l x r =>
      have CN := Lib.hid (node_at TW hP.out.rep.1)
      unfold knV nd at CN
      dsimp only at CN
      clear TW
      simp only [at_]
      go_wp2_with fail
      refine CN.out.mono ?_
      rintro e w2 ⟨rfl, m2⟩
      have ma := (Mod.refl [] w2).alloc (.cells #[.int .i64 x.f, .int .i64 x.t, .int .i64 x.i, .int .i64 l.at_, .int .i64 r.at_, .int .i64 (Tr.node 0 l x r).ht, .int .i64 (Tr.node 0 l x r).top] 113)
      have hk2 := heap_alloc_new w2 (.cells #[.int .i64 x.f, .int .i64 x.t, .int .i64 x.i, .int .i64 l.at_, .int .i64 r.at_, .int .i64 (Tr.node 0 l x r).ht, .int .i64 (Tr.node 0 l x r).top] 113)
      have HPa := Lib.hid (hP.out.kept (m2.trans ma))
      have HPd := Lib.hid (HPa.out.kept ((Mod.refl [] _).drew))
      have HPdd := Lib.hid (HPd.out.kept ((Mod.refl [] _).drew))
      have cf := cell_blk HPa.out.box 1
      rw [HPa.out.wk.c1] at cf
      have hl40 : st'.length < 40 := by
        have := hP.out.low
        have h4 := ht_nonneg l
        have h5 := ht_nonneg r
        simp only [ht] at this
        omega
      by_cases htop : (Tr.node 0 l x r).top ≤ a
      · have htd : decide ((Tr.node 0 l x r).top ≤ a) = true := decide_eq_true htop
        have hres : pushS a (.node p l x r) st' = st' := by
          unfold pushS
          rw [if_pos (show (Tr.node p l x r).top ≤ a from htop)]
        have HE := Lib.hid (show PuPost w wb tb a z R (.returned (.tuple #[])) _ from ⟨rfl, C', HPd.out.box, by rw [← HPd.out.res, hres]; exact HPd.out.wk, HPd.out.mod⟩)
        clear ma hk2 m2
        generalize (Tr.node 0 l x r).top = top at *
        go_wp2_with fail
        refine wp_plan [] [0, 1, 2, 3, 5, 4, 6, 7, 8, 9, 10] (by kernel_rfl) (by kernel_rfl) ?_
        simp only [wpSegs, opsOf, List.map_cons, List.map_nil, opN, List.getD_cons_zero, List.getD_cons_succ]
        go_wp2_with fail
        refine ⟨by first | trivial | rfl, ?_⟩
        go_wp2_with fail
        refine bodyPost_ret (results_none rfl _ _ _) rfl HE.out
      · have htd : decide ((Tr.node 0 l x r).top ≤ a) = false := decide_eq_false htop
        have hres : pushS a (.node p l x r) st' = pushS a l (.node p l x r :: st') := by
          conv => lhs; unfold pushS
          rw [if_neg (show ¬ (Tr.node p l x r).top ≤ a from htop)]
        obtain ⟨w5, C5, hst, mst, g5, n5, _, _, wk5⟩ := wk_push (p := p) (l := l) (r := r) (x := x) HPdd.out.box HPdd.out.wk hl40
        simp only [knC] at hst
        have HST := Lib.hid hst
        have b6 := heap_setCell_blk g5 283 (.int .i64 ((st'.length : Int) + 1))
        have m6 : Mod [wb] w5 (w5.setCell ⟨wb, 283, none⟩ (.int .i64 ((st'.length : Int) + 1))) := (Mod.refl _ _).setCell (by simp) _
        have cn := cell_blk HPd.out.box 283
        rw [HPd.out.wk.n] at cn
        have cn5 := cell_blk g5 283
        rw [n5] at cn5
        have fn5 := frozen_blk g5 283
        have hne : w2.heap.size ≠ wb := by
          have h1 := hP.out.mod.size
          have h2 := m2.size
          omega
        have hk6 := m6.heap (mst.heap (show (((w2.alloc (.cells #[.int .i64 x.f, .int .i64 x.t, .int .i64 x.i, .int .i64 l.at_, .int .i64 r.at_, .int .i64 (Tr.node 0 l x r).ht, .int .i64 (Tr.node 0 l x r).top] 113)).drew).drew).heap[w2.heap.size]? = _ from hk2) (by simpa using hne)) (by simpa using hne)
        have k3 := cell_blk hk6 3
        simp only [List.getElem?_toArray, List.getElem?_cons_succ, List.getElem?_cons_zero] at k3
        have hlow := hP.out.low
        simp only [ht] at hlow
        have HN := Lib.hid (show PuSt w wb tb a z ns R (w5.setCell ⟨wb, 283, none⟩ (.int .i64 ((st'.length : Int) + 1))) l (.node p l x r :: st') _ from ⟨b6, wk5, (HPdd.out.mod.trans mst).trans m6, hP.out.rep.2.1, by rw [← hres]; exact hP.out.res, by
          have h5 := ht_nonneg r
          simp only [List.length_cons]
          omega⟩)
        have E1 := Lib.hid (show (w5.setCell ⟨wb, 283, none⟩ (.int .i64 ((st'.length : Int) + 1))).cell? ⟨wb, 283, none⟩ = some (.int .i64 ((st'.length : Int) + 1)) from by
          rw [cell_blk b6]
          have := wk5.n
          simp only [List.length_cons] at this
          rw [this]; congr 2)
        have E0 := Lib.hid (show wr.cell? ⟨wb, 283, none⟩ = some (.int .i64 st'.length) from by rw [cell_blk hP.out.box]; exact hP.out.wk.n)
        clear ma hk2 m2 hst mst g5 wk5 b6 m6 hk6
        generalize (Tr.node 0 l x r).top = top at *
        go_wp2_with fail
        refine wp_plan [] [0, 1, 2, 3, 5, 4, 6, 7, 8, 9, 10] (by kernel_rfl) (by kernel_rfl) ?_
        simp only [wpSegs, opsOf, List.map_cons, List.map_nil, opN, List.getD_cons_zero, List.getD_cons_succ]
        go_wp2_with fail
        refine ⟨by first | trivial | rfl, ?_⟩
        go_wp2_with fail
        refine wp_plan [([0, 1, 5, 2, 6, 3, 7, 4, 8], 9, [])] [] (by kernel_rfl) (by kernel_rfl) ?_
        simp only [wpSegs, opsOf, List.map_cons, List.map_nil, opN, List.getD_cons_zero, List.getD_cons_succ]
        go_wp2_with fail
        refine ⟨by first | trivial | rfl, ?_⟩
        go_wp2_with ((with_reducible refine xStoreAt rfl HST.out ?_ ?_ ?_ ?_); exact rfl; exact rfl; exact rfl)
        refine ⟨again_nil, ?_⟩
        go_wp2_with fail
        refine ⟨by first | trivial | rfl, ?_⟩
        go_wp2_with fail
        go_roundw
        case rel => exact ⟨l, _, _, rfl, HN⟩
        case measure => rw [E1.out, E0.out]; simp [intOf]; omega
end Go.Proofs.YtngglpekdjhbdaaGreat
