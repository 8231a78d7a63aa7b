/- Layer 9: next. -/
import Derived.Test.YtngglpekdjhbdaaBzL
namespace Go.Proofs.Ytngglpekdjhbdaa
open Go.RowKit Go.ChangeMaps Go.Deep Tr
set_option linter.unusedSimpArgs false
set_option linter.unusedVariables false
set_option maxRecDepth 20000

theorem OwnR.setHead {α : Type} {enc : α → List Value} {k : Nat} {P : Program} {E T : TypeId} {w : World} {base : Nat} {l : List α} (hk : ∀ x, (enc x).length = k) {g cap : Nat} (h : OwnR enc k E w base (.slice (some ⟨g, 0, none⟩) l.length cap) l) {i : Nat} (hi : i < l.length) (part : List Value) (hpl : part.length ≤ k) (y : α) (hy : enc y = part ++ (enc l[i]).drop part.length) (hs : (P.info? T).map (·.size) = some part.length) (h1 : ∀ v ∈ part, v.oneCell' = true) :
    ∃ w', (Instr.storeAt T (.pointer (some ⟨g, i * k, none⟩)) (.agg part.toArray)).run P w = .ok () w' ∧ Mod [g] w w' ∧ OwnR enc k E w' base (.slice (some ⟨g, 0, none⟩) l.length cap) (l.set i y) := by
  rcases h.2 with ⟨e, _⟩ | ⟨g', cap', cur, e, hb, hg, hn, hcm, hcs, htake⟩
  · cases e
  · simp only [Value.slice.injEq, Option.some.injEq, Addr.mk.injEq, and_true, true_and] at e
    obtain ⟨rfl, rfl⟩ := e
    have hik : i * k + k ≤ l.length * k := by
      have := Nat.mul_le_mul_right k (show i + 1 ≤ l.length from hi)
      rwa [Nat.add_mul, Nat.one_mul] at this
    have hlk : l.length * k ≤ cap * k := Nat.mul_le_mul_right k hn
    have hcl : cur.toList.length = cap * k := by simpa using hcs
    have hsplit : cur.toList = cur.toList.take (i * k) ++ ((cur.toList.drop (i * k)).take part.length ++ cur.toList.drop (i * k + part.length)) := by
      rw [← List.drop_drop, List.take_append_drop, List.take_append_drop]
    have hpl2 : (cur.toList.take (i * k)).length = i * k := by rw [List.length_take]; omega
    have hml : ((cur.toList.drop (i * k)).take part.length).length = part.length := by rw [List.length_take, List.length_drop]; omega
    have hg' : w.heap[g]? = some (.cells (cur.toList.take (i * k) ++ ((cur.toList.drop (i * k)).take part.length ++ cur.toList.drop (i * k + part.length))).toArray E (0, 0)) := by
      rw [← hsplit]; simpa using hg
    obtain ⟨w', r, m, hh⟩ := store_at2 (P := P) T _ _ _ part hg' hml hs (by
      rw [Array.all_eq_true']
      intro v hv
      exact h1 v (by simpa using hv))
    rw [hpl2] at r
    have e1 : cur.toList.take (i * k) = flat enc (l.take i) := by
      rw [flat_take hk, ← htake, List.take_take, Nat.min_eq_left (by omega)]
    have e3 : (cur.toList.drop (i * k + part.length)).take (l.length * k - (i * k + part.length)) = (enc l[i]).drop part.length ++ flat enc (l.drop (i + 1)) := by
      have h3 : (flat enc l).drop (i * k) = enc l[i] ++ flat enc (l.drop (i + 1)) := by
        rw [← flat_drop hk, List.drop_eq_getElem_cons hi, flat_cons]
      have h4 : (cur.toList.drop (i * k + part.length)).take (l.length * k - (i * k + part.length)) = ((flat enc l).drop (i * k)).drop part.length := by
        rw [← htake, List.drop_drop, List.drop_take]
      rw [h4, h3, List.drop_append_of_le_length (by rw [hk]; exact hpl)]
    refine ⟨w', r, m, by rw [flat_length hk, List.length_set], .inr ⟨g, cap, _, by rw [List.length_set], hb, hh, by rw [List.length_set]; exact hn, hcm, ?_, ?_⟩⟩
    · simp only [List.size_toArray, List.length_append, hpl2, List.length_drop]
      omega
    · rw [List.length_set, List.toList_toArray, List.set_eq_take_append_cons_drop, if_pos hi, flat_append, flat_cons, ← e1, hy]
      rw [take_three _ _ _ _ (by rw [hpl2]; omega), hpl2, e3]
      simp
/-- an item is written into a node -/
theorem TreeAt.item {w : World} {b g cap : Nat} {fv : Value} {ns : List Nd} {fr : List Int} {root many : Int} (h : TreeAt w b (.slice (some ⟨g, 0, none⟩) ns.length cap) fv ns fr root many) {p : Nat} {l r : Tr} {x : It} (hp : ns[p]? = some (nd l x r)) (y : It) :
    ∃ w', (Instr.storeAt 92 (.pointer (some ⟨g, p * 8, none⟩)) (.agg #[.int .i64 y.f, .int .i64 y.t, .int .i64 y.i])).run Try.prog w = .ok () w' ∧ Mod [g] w w' ∧ TreeAt w' b (.slice (some ⟨g, 0, none⟩) (ns.set p (ndx l x r y)).length cap) fv (ns.set p (ndx l x r y)) fr root many := by
  have hlt := (List.getElem?_eq_some_iff.1 hp).1
  have e : ns[p] = nd l x r := (List.getElem?_eq_some_iff.1 hp).2
  obtain ⟨w', r', hm, ho⟩ := h.row.setHead (P := Try.prog) (T := 92) encNd_len hlt [.int .i64 y.f, .int .i64 y.t, .int .i64 y.i] (by simp) (ndx l x r y) (by rw [e]; rfl) (by kernel_rfl) (by intro v hv; simp at hv; rcases hv with rfl | rfl | rfl <;> rfl)
  have hbg : b ≠ g := fun e => h.bn (by simp [Value.ownBlock, e])
  refine ⟨w', r', hm, ?_, by rw [List.length_set]; exact ho, h.free.kept hm (fun k hk hm => ?_), by simpa [Value.ownBlock] using Ne.symm hbg, h.bf, fun k hk => h.nf k (by simpa [Value.ownBlock] using hk)⟩
  · rw [List.length_set]
    exact hm.heap h.blk (by simpa using hbg)
  · rw [List.mem_singleton] at hm
    subst hm
    exact h.nf k (by simp [Value.ownBlock]) hk
/-- the last step goes on to the right -/
theorem PathC.turn {C : Array Value} {ps : List (Nat × Bool)} {p : Nat} (h : PathC C (ps ++ [(p, false)])) : PathC (C.setIfInBounds (40 + ps.length) (.bool true)) (ps ++ [(p, true)]) := by
  have hs := h.size
  have hl := h.len
  simp only [List.length_append, List.length_singleton] at hl
  refine ⟨by simp [hs], set_all h.one rfl, fun i q hq => ?_, ?_, fun j h1 h2 => ?_, by simpa using hl⟩
  · have hi := (List.getElem?_eq_some_iff.1 hq).1
    simp only [List.length_append, List.length_singleton] at hi
    simp only [Array.getElem?_setIfInBounds]
    rw [if_neg (by omega)]
    by_cases hip : i < ps.length
    · rw [List.getElem?_append_left hip] at hq
      obtain ⟨g1, g2⟩ := h.get i q (by rw [List.getElem?_append_left hip]; exact hq)
      rw [if_neg (by omega)]
      exact ⟨g1, g2⟩
    · have e : i = ps.length := by omega
      subst e
      rw [List.getElem?_append_right (Nat.le_refl _)] at hq
      simp at hq
      subst hq
      have g1 := (h.get ps.length (p, false) (by rw [List.getElem?_append_right (Nat.le_refl _)]; simp)).1
      rw [if_pos rfl, if_pos (by omega)]
      exact ⟨g1, rfl⟩
  · simp only [Array.getElem?_setIfInBounds]
    rw [if_neg (by omega)]
    simpa using h.n
  · simp only [List.length_append, List.length_singleton] at h1
    simp only [Array.getElem?_setIfInBounds]
    rw [if_neg (by omega)]
    exact h.free j (by simpa using h1) h2
end Go.Proofs.Ytngglpekdjhbdaa
namespace Go.Proofs.Ytngglpekdjhbdaa
open Go.RowKit Go.ChangeMaps Go.Deep Tr
set_option linter.unusedSimpArgs false
set_option linter.unusedVariables false
set_option maxRecDepth 20000

set_option maxHeartbeats 8000000 in
theorem delete_b {w : World} {b : Nat} {nv fv : Value} {ns : List Nd} {fr : List Int} {T : Tr} (S : AvlSt w b nv fv ns fr T) (x : It) (hx : x ∈ T.items) (hsz : T.size ≤ 100000) (hns : ns.length ≤ 100000) {p : Nat} {p1 : Nat} {l1 : Tr} {y1 : It} {r1 : Tr} {q : Nat} {a : Tr} {z : It} {bb : Tr} (hf : (downT x T []).2 = .node p (.node p1 l1 y1 r1) x (.node q a z bb)) :
    Calls Try.prog 74 #[.pointer (some ⟨b, 0, none⟩), itV x] w fun e w' => e = .returned (.int .i64 0) ∧ DelPost w b nv fv ns fr x T w' := by
  have HS := Lib.hid S
  have HX := Lib.hid hx
  have hT34 := ht_small S.avl (by omega)
  have hT0 := ht_nonneg T
  have m0 := (Mod.refl [] w).alloc (.cells #[.int .i64 x.f, .int .i64 x.t, .int .i64 x.i] 92)
  have C1 := Lib.hid (none_at (S.tree.kept0 m0))
  have C2 := Lib.hid (down_at (S.tree.kept0 m0) rfl S.rep (by omega) x)
  have M0 := Lib.hid m0
  unfold itV at C2 ⊢
  clear S hx m0
  go_enter Try.func74, Try.ntmps74
  go_wp2_with fail
  refine C1.out.mono ?_
  rintro e w1 ⟨rfl, rfl⟩
  go_wp2_with fail
  refine C2.out.mono ?_
  rintro e w2 ⟨m2, C, hC⟩
  rw [hf] at hC
  obtain ⟨rfl, hP⟩ := hC
  have ma := (Mod.refl [] w2).alloc (.cells Try.zeroCells131 131)
  obtain ⟨w3, hst, mst, gst⟩ := store_blk2 (P := Try.prog) 131 (heap_alloc_new w2 (.cells Try.zeroCells131 131)) (by rw [hP.size]; rfl) (by rw [sizePath, hP.size]) hP.one
  have m3 : Mod [] w w3 := Mod.into' ((M0.out.trans m2).trans ma) mst (fun k hk => .inl (by
    simp only [List.mem_singleton] at hk
    subst hk
    have := (M0.out.trans m2).size
    exact this))
  have T3 := HS.out.tree.kept0 m3
  have HPC := Lib.hid hP
  have HGST := Lib.hid gst
  have HST := Lib.hid hst
  have HM3 := Lib.hid m3
  have HT3 := Lib.hid T3
  have hszw : w.heap.size < w2.heap.size := by
    have := m2.size
    simp only [World.size_alloc] at this
    omega
  obtain ⟨q1, q2, q3⟩ := (downT_rest x T [] HS.out.rep (fun f hf => by cases hf)).2 |> (fun h => by rw [hf] at h; exact h)
  obtain ⟨g, cap, hnv, _, hcap⟩ := T3.row.at_ q1
  have hplt := (List.getElem?_eq_some_iff.1 q1).1
  obtain ⟨fa, fc, hfv⟩ := T3.free.lens
  subst hnv hfv
  have hpi : ((p : Nat) : Int) < (ns.length : Int) := by omega
  have hfl : fr.length ≤ 100000 := by have := HS.out.full; omega
  have c1 := cell_blk T3.blk 1
  simp only [List.getElem?_toArray, List.getElem?_cons_succ, List.getElem?_cons_zero] at c1
  have hn80 := cell_blk gst 80
  rw [hP.n] at hn80
  simp only [List.length_append, List.length_singleton, pth_len] at hn80
  have hFl := downT_len x T []
  rw [hf] at hFl
  simp only [List.length_nil] at hFl
  have hnn := ht_nonneg (Tr.node p (.node p1 l1 y1 r1) x (.node q a z bb))
  have hl0 := ht_nonneg (.node p1 l1 y1 r1)
  have hr0 := ht_nonneg (.node q a z bb)
  have hF40 : (downT x T []).1.length < 40 := by omega
  have hat := (hP.get (downT x T []).1.length (p, false) (by rw [List.getElem?_append_right (by rw [pth_len]; exact Nat.le_refl _), pth_len]; simp)).1
  have hcat := cell_blk gst (downT x T []).1.length
  rw [hat] at hcat
  dsimp only at hcat
  have hy : w3.rangeAt g (p * 8) (encNd (nd (.node p1 l1 y1 r1) x (.node q a z bb))) := fun j u hu => (nd_cells T3.row q1 j u hu).1
  have HLN := Lib.hid (run_loadAt_mid (P := Try.prog) _ g (p * 8) 135 (encNd (nd (.node p1 l1 y1 r1) x (.node q a z bb))) _ hy Try.underlying135 rfl (by kernel_rfl))
  simp only [encNd, nd, at_] at HLN
  have HPN : Hid (w2.heap.size ≠ b ∧ (Value.slice (some ⟨g, 0, none⟩) ns.length cap).ownBlock ≠ some w2.heap.size ∧ (Value.slice fa fr.length fc).ownBlock ≠ some w2.heap.size) := Lib.hid (by
    have h1 := lt_of_heap HS.out.tree.blk
    refine ⟨by omega, fun e => ?_, fun e => ?_⟩
    · have := (World.ownsRow.lt HS.out.tree.row _ e).2; omega
    · have := (World.ownsRow.lt HS.out.tree.free _ e).2; omega)
  have HSZW := Lib.hid hszw
  clear m3 mst hst ma m2 hszw C1 C2 hat hy hFl gst
  obtain ⟨m, hm⟩ : ∃ m, m = minF q a z bb (⟨p, true, (delMin q a z bb).2.1, .node p1 l1 y1 r1⟩ :: (downT x T []).1) := ⟨_, rfl⟩
  have HHM := Lib.hid hm
  obtain ⟨T', hdel, hmz, hmnd, hmp, OK⟩ := del_two HS.out.rep HS.out.nodup hf hm
  have hplen := minF_len a q z bb (⟨p, true, (delMin q a z bb).2.1, .node p1 l1 y1 r1⟩ :: (downT x T []).1)
  rw [← hm] at hplen
  have hT' := downT_len x T []
  rw [hf] at hT'
  have hqr := q3
  obtain ⟨m1, mz, mb, mF⟩ := m
  dsimp only at hdel hmz hmnd hmp OK hplen
  have HMND := Lib.hid hmnd
  have HOK0 := Lib.hid OK
  have HDEL := Lib.hid hdel
  have HMP := Lib.hid hmp
  have HQ1 := Lib.hid q1
  clear OK hdel hmnd hmp hmz
  go_upto_region 9 with (first | ((with_reducible refine xStoreAt rfl HST.out ?_ ?_ ?_ ?_); exact rfl; exact rfl; exact rfl) | ((with_reducible refine xLoadAt rfl HLN.out ?_ ?_ ?_); exact rfl; exact rfl))
  generalize hw4 : w3.alloc _ = wq
  have mq : Mod [] w3 wq := by rw [← hw4]; exact (Mod.refl [] w3).alloc _
  have hbx : wq.heap[w3.heap.size]? = some (.cells #[.int .i64 x.f, .int .i64 x.t, .int .i64 x.i, .int .i64 p1, .int .i64 q, .int .i64 (node 0 (node p1 l1 y1 r1) x (node q a z bb)).ht, .int .i64 (node 0 (node p1 l1 y1 r1) x (node q a z bb)).top, .bool true] 135 (0, 0)) := by rw [← hw4]; exact heap_alloc_new w3 _
  have T4 := HT3.out.kept0 mq
  have g4 := mq.heap HGST.out (by simp)
  have hPL : (pth (downT x T []).1).reverse.length = (downT x T []).1.length := pth_len _
  have HPT := Lib.hid HPC.out.turn
  rw [hPL] at HPT
  have b5 := heap_setCell_blk g4 (40 + (downT x T []).1.length) (.bool true)
  have m5 : Mod [w2.heap.size] wq (wq.setCell ⟨w2.heap.size, 40 + (downT x T []).1.length, none⟩ (.bool true)) := (Mod.refl _ _).setCell (by simp) _
  have n80 := cell_blk g4 80
  rw [show C[80]? = some (.int .i64 (((downT x T []).1.length : Int) + 1)) from by have := HPC.out.n; simp only [List.length_append, List.length_singleton, hPL] at this; rw [this]; congr 2] at n80
  have n40 := cell_blk g4 (40 + (downT x T []).1.length)
  rw [show C[40 + (downT x T []).1.length]? = some (.bool false) from (HPC.out.get (downT x T []).1.length (p, false) (by rw [List.getElem?_append_right (by rw [hPL]; exact Nat.le_refl _), hPL]; simp)).2] at n40
  have f40 := frozen_blk g4 (40 + (downT x T []).1.length)
  have hne3 : w3.heap.size ≠ w2.heap.size := by
    have := lt_of_heap HGST.out
    omega
  have hbx5 := m5.heap hbx (by simpa using hne3)
  have k4 := cell_blk hbx5 4
  simp only [List.getElem?_toArray, List.getElem?_cons_succ, List.getElem?_cons_zero] at k4
  have HMQ5 := Lib.hid (HM3.out.trans mq)
  have HB5 := Lib.hid b5
  have HT4 := Lib.hid T4
  have M5 := Lib.hid m5
  clear hw4 mq hbx T4 b5 m5 hbx5 g4 hcat hn80 c1 HLN HST
  go_upto_region 11 with fail
  generalize hw5 : wq.setCell _ _ = w5 at *
  go_loopw [9] (fun s9 W => ∃ (PS : List (Nat × Bool)) (C' : Array Value), Hid (W.heap[w2.heap.size]? = some (.cells C' 131 (0, 0)) ∧ PathC C' PS ∧ Mod [w2.heap.size] wq W) ∧ ((∃ (fs : List Fr) (q' : Nat) (a' : Tr) (z' : It) (b' : Tr), s9 = .int .i64 q' ∧ Hid (PS = (pth fs).reverse ∧ Tr.rep ns (.node q' a' z' b') ∧ minF q' a' z' b' fs = (m1, mz, mb, mF) ∧ (fs.length : Int) + (Tr.node q' a' z' b').ht ≤ T.ht)) ∨ (s9 = .int .i64 (-1) ∧ Hid (PS = (pth mF).reverse ++ [(m1, false)])))) (fun _ W => 41 - (intOf ((W.cell? ⟨w2.heap.size, 80, none⟩).getD undef)).toNat)
  case atStart =>
    refine ⟨_, _, Lib.hid ⟨HB5.out, HPT.out, M5.out⟩, .inl ⟨(⟨p, true, (delMin q a z bb).2.1, .node p1 l1 y1 r1⟩ :: (downT x T []).1), q, a, z, bb, rfl, Lib.hid ⟨by simp [pth], hqr, hm.symm, ?_⟩⟩⟩
    simp only [List.length_cons, List.length_nil, ht] at hT' ⊢
    omega
  case round =>
    obtain ⟨PS, C', hB, hcase⟩ := hrel
    rcases hcase with ⟨fs, q', a', z', b', rfl, hI⟩ | ⟨rfl, hI⟩
    · obtain ⟨hPS, hrep', hmin, hhi⟩ := hI.out
      have hl' := ht_nonneg a'
      have hb'0 := ht_nonneg b'
      have hhi2 := hhi
      simp only [ht] at hhi2
      have hfs40 : fs.length < 40 := by omega
      have hPSl : PS.length = fs.length := by rw [hPS]; exact pth_len _
      have TW := HT4.out.off hB.out.2.2 (Ne.symm HPN.out.1) HPN.out.2.1 HPN.out.2.2
      obtain ⟨c', hc'⟩ : ∃ u, C'[fs.length]? = some u := ⟨C'[fs.length]'(by rw [hB.out.2.1.size]; omega), by simp⟩
      have e80 := cell_blk hB.out.1 80
      rw [hB.out.2.1.n, hPSl] at e80
      have en := cell_blk hB.out.1 fs.length
      rw [hc'] at en
      have fnn := frozen_blk hB.out.1 fs.length
      have b6 := heap_setCell_blk hB.out.1 fs.length (.int .i64 (q' : Int))
      have m6 : Mod [w2.heap.size] wr (wr.setCell ⟨w2.heap.size, fs.length, none⟩ (.int .i64 (q' : Int))) := (Mod.refl _ _).setCell (by simp) _
      have d80 := cell_blk b6 80
      rw [show (C'.setIfInBounds fs.length (.int .i64 (q' : Int)))[80]? = some (.int .i64 fs.length) from by
        simp only [Array.getElem?_setIfInBounds]
        rw [if_neg (by omega), hB.out.2.1.n, hPSl]] at d80
      have fd80 := frozen_blk b6 80
      have b7 := heap_setCell_blk b6 80 (.int .i64 ((fs.length : Int) + 1))
      have m7 : Mod [w2.heap.size] wr ((wr.setCell ⟨w2.heap.size, fs.length, none⟩ (.int .i64 (q' : Int))).setCell ⟨w2.heap.size, 80, none⟩ (.int .i64 ((fs.length : Int) + 1))) := m6.setCell (by simp) _
      have TW7 := TW.off m7 (Ne.symm HPN.out.1) HPN.out.2.1 HPN.out.2.2
      have k1 := cell_blk TW7.blk 1
      simp only [List.getElem?_toArray, List.getElem?_cons_succ, List.getElem?_cons_zero] at k1
      have k3 := (nd_cells TW7.row hrep'.1 3 _ rfl).1
      have hqlt' := (List.getElem?_eq_some_iff.1 hrep'.1).1
      have hqi' : ((q' : Nat) : Int) < (ns.length : Int) := by omega
      have P7 := hB.out.2.1.found (by omega) q'
      rw [hPSl] at P7
      have HN80 := Lib.hid (show ((wr.setCell ⟨w2.heap.size, fs.length, none⟩ (.int .i64 (q' : Int))).setCell ⟨w2.heap.size, 80, none⟩ (.int .i64 ((fs.length : Int) + 1))).cell? ⟨w2.heap.size, 80, none⟩ = some (.int .i64 ((fs.length : Int) + 1)) from by
        rw [cell_blk b7]
        have := P7.n
        simp only [List.length_append, List.length_singleton, hPSl] at this
        rw [this]; congr 2)
      have HB7 := Lib.hid (And.intro b7 (And.intro P7 (hB.out.2.2.trans m7)))
      have E80 := Lib.hid e80
      dsimp only [nd] at k3
      clear TW TW7 b6 m6 b7 m7 P7 hc'
      go_wp2_with fail
      go_roundw
      case rel =>
        refine ⟨_, _, HB7, ?_⟩
        cases a' with
        | nil =>
          refine .inr ⟨rfl, Lib.hid ?_⟩
          simp only [minF, Prod.mk.injEq] at hmin
          obtain ⟨rfl, rfl, rfl, rfl⟩ := hmin
          rw [hPS]
        | node s c u d =>
          refine .inl ⟨⟨q', false, z', b'⟩ :: fs, s, c, u, d, rfl, Lib.hid ⟨?_, hrep'.2.1, ?_, ?_⟩⟩
          · rw [hPS]; simp [pth]
          · simpa only [minF] using hmin
          · simp only [List.length_cons, ht] at hhi ⊢; omega
      case measure => rw [HN80.out, E80.out]; simp [intOf]; omega
    · have hPS := hI.out
      have hPF : (pth mF).reverse.length = mF.length := pth_len _
      have hnq := ht_nonneg (Tr.node q a z bb)
      have hmF : mF.length < 40 := by simp only [List.length_cons] at hplen; simp only [ht] at hT' hplen; simp only [List.length_nil] at hT'; omega
      have TW := HT4.out.off hB.out.2.2 (Ne.symm HPN.out.1) HPN.out.2.1 HPN.out.2.2
      have e80 := cell_blk hB.out.1 80
      rw [hB.out.2.1.n, hPS] at e80
      simp only [List.length_append, List.length_singleton, hPF] at e80
      have en := cell_blk hB.out.1 mF.length
      rw [(hB.out.2.1.get mF.length (m1, false) (by rw [hPS, List.getElem?_append_right (by rw [hPF]; exact Nat.le_refl _), hPF]; simp)).1] at en
      dsimp only at en
      have TWd := TW.kept0 ((Mod.refl [] wr).drew)
      obtain ⟨w7, rst, mst, TI⟩ := TWd.item HQ1.out mz
      simp only [List.length_set] at TI
      have hy : (wr.drew).rangeAt g (m1 * 8) [.int .i64 mz.f, .int .i64 mz.t, .int .i64 mz.i] := fun j u hu => by
        have hj : j < 3 := (List.getElem?_eq_some_iff.1 hu).1
        refine (nd_cells TWd.row HMND.out j u ?_).1
        rw [← hu]
        rcases (show j = 0 ∨ j = 1 ∨ j = 2 by omega) with rfl | rfl | rfl <;> rfl
      have HLI := Lib.hid (run_loadAt_mid (P := Try.prog) _ g (m1 * 8) 92 [.int .i64 mz.f, .int .i64 mz.t, .int .i64 mz.i] _ hy Try.underlying92 rfl (by kernel_rfl))
      have hm1lt := (List.getElem?_eq_some_iff.1 HMND.out).1
      have hm1i : ((m1 : Nat) : Int) < (ns.length : Int) := by omega
      have k1 := cell_blk TW.blk 1
      simp only [List.getElem?_toArray, List.getElem?_cons_succ, List.getElem?_cons_zero] at k1
      have RST := Lib.hid rst
      have hgp : g ≠ w2.heap.size := fun e => HPN.out.2.1 (by simp [Value.ownBlock, e])
      have hm7 : Mod [w2.heap.size, g] wq w7 := Mod.into' (Mod.into' (Mod.into' (Mod.refl _ wq) hB.out.2.2 (fun k hk => .inr (by simp at hk; simp [hk]))) ((Mod.refl [] wr).drew) (fun k hk => by cases hk)) mst (fun k hk => .inr (by simp at hk; simp [hk]))
      have HPAQ : Hid (PathAt w7 w2.heap.size ((pth mF).reverse ++ [(m1, false)])) := Lib.hid ⟨by rw [← hPS]; exact hB.out.2.1.len, C', mst.heap (show (wr.drew).heap[w2.heap.size]? = _ from hB.out.1) (by simpa using Ne.symm hgp), hB.out.2.1.size, by rw [← hPS]; exact hB.out.2.1.get, by rw [← hPS]; exact hB.out.2.1.n⟩
      have HMQ := Lib.hid (Mod.into' (HMQ5.out.nil (l := b :: (blk (.slice (some ⟨g, 0, none⟩) ns.length cap) ++ blk (.slice fa fr.length fc)))) hm7 (fun k hk => by
        simp only [List.mem_cons, List.not_mem_nil, or_false] at hk
        rcases hk with rfl | rfl
        · exact .inl (Nat.le_of_lt HSZW.out)
        · exact .inr (by simp [blk, Value.ownBlock])))
      have TP := TI
      have hdel := HDEL.out
      have OK := HOK0.out
      clear TW TWd rst mst TI hy hm7 hB hI hPS
      go_upto_region 16 with fail
      refine wp_plan [([0, 4, 5, 9, 1, 6, 2, 7, 3, 8, 10, 11, 12, 13, 14, 15, 16], 17, [])] [] (by kernel_rfl) (by kernel_rfl) ?_
      simp only [wpSegs, opsOf, List.map_cons, List.map_nil, opN, List.getD_cons_zero, List.getD_cons_succ]
      go_wp2_with ((with_reducible refine xLoadAt rfl HLI.out ?_ ?_ ?_); exact rfl; exact rfl)
      refine ⟨by first | trivial | rfl, ?_⟩
      go_wp2_with ((with_reducible refine xStoreAt rfl RST.out ?_ ?_ ?_ ?_); exact rfl; exact rfl; exact rfl)
      refine ⟨again_nil, ?_⟩
      go_wp2_with fail
      refine ⟨by first | trivial | rfl, ?_⟩
      go_upto_region 18 with fail
      have hdn := Lib.hid hdel
      have hqn := OK.node
      obtain ⟨xq, li, ri, hh, tt, hq, hmx⟩ := hqn
      obtain ⟨P1, mP, z80, f80⟩ := HPAQ.out.drop
      rw [pth_len] at P1 mP z80
      have TP1 := (TP.off mP (Ne.symm HPN.out.1) HPN.out.2.1 HPN.out.2.2).kept0 ((Mod.refl [] _).drew)
      have CA := Lib.hid (above_any TP1 (P1.kept ((Mod.refl [] _).drew) (by simp)) OK.rest mb.at_)
      have HP1 := Lib.hid (P1.kept ((Mod.refl [] _).drew) (by simp))
      have MP1 := Lib.hid (mP.drew)
      have a1 := cell_blk TP1.blk 1
      simp only [List.getElem?_toArray, List.getElem?_cons_succ, List.getElem?_cons_zero] at a1
      have hlx : ((ns.set p (ndx (.node p1 l1 y1 r1) x (.node q a z bb) mz))).length = ns.length := by first | rfl | exact List.length_set
      have hrowx : OwnR encNd 8 135 ((w7.setCell ⟨w2.heap.size, 80, none⟩ (.int .i64 (mF.length : Int))).drew) 0 (.slice (some ⟨g, 0, none⟩) ((ns.set p (ndx (.node p1 l1 y1 r1) x (.node q a z bb) mz))).length cap) (ns.set p (ndx (.node p1 l1 y1 r1) x (.node q a z bb) mz)) := by rw [hlx]; exact TP1.row
      have a3 := (nd_cells hrowx hq 3 _ rfl).1
      have a4 := (nd_cells hrowx hq 4 _ rfl).1
      have a80 := P1.n
      rw [pth_len] at a80
      have hqlt := (List.getElem?_eq_some_iff.1 hq).1
      have hqi : ((m1 : Nat) : Int) < (ns.length : Int) := by first | omega | (have := hqlt; simp only [List.length_set] at this; omega)
      have HOK := Lib.hid OK
      have hFlen := OK.len
      unfold RPost at CA
      rw [← hmx] at CA
      dsimp only at a3 a4
      have hmxc : (li < ri ∧ max li ri = ri) ∨ (ri ≤ li ∧ max li ri = li) := by omega
      have HMX := Lib.hid hmx
      clear TP TP1 P1 OK hq hmx hrowx hlx
      generalize hM : max li ri = M at *
      rcases hmxc with ⟨hlr, hM2⟩ | ⟨hlr, hM2⟩
      all_goals
        subst hM2
        go_wp2_with fail
        refine wp_plan [([0, 1, 3, 7, 12, 16, 2, 4, 13, 5, 14, 6, 15, 8, 17, 9, 18, 10, 19, 11, 20], 21, [1, 2]), ([], 22, [])] [] (by kernel_rfl) (by kernel_rfl) ?_
        simp only [wpSegs, opsOf, List.map_cons, List.map_nil, opN, List.getD_cons_zero, List.getD_cons_succ]
        go_wp2_with fail
        refine ⟨by first | trivial | rfl, ?_⟩
        go_wp2_with fail
        refine ⟨?agX, ?_⟩
        case agX =>
          intro i hi hw
          simp only [List.mem_cons, List.not_mem_nil, or_false] at hi
          rcases hi with rfl | rfl
          all_goals (simp only [opN, List.getD_cons_zero, List.getD_cons_succ, slotOf]; go_simp)
        go_wp2_with fail
        refine ⟨by first | trivial | rfl, ?_⟩
        go_wp2_with fail
        refine CA.out.mono ?_
        rintro e w5 ⟨rfl, T5, m5⟩
        have hqF : m1 ∉ mF.flatMap Fr.places := fun e => (List.nodup_cons.1 HOK.out.nodup).1 (List.mem_append_right _ e)
        have hz := hang_set (ns := (ns.set p (ndx (.node p1 l1 y1 r1) x (.node q a z bb) mz))) (root := T.at_) (F := mF) (below := M) Nd.zero hqF
        have hhl := hangTop_len (ns.set p (ndx (.node p1 l1 y1 r1) x (.node q a z bb) mz)) T.at_ mF M
        have c51 := cell_blk T5.blk 1
        have T5' : TreeAt w5 b (.slice (some ⟨g, 0, none⟩) (hangTop (ns.set p (ndx (.node p1 l1 y1 r1) x (.node q a z bb) mz)) T.at_ (pth mF) M).1.length cap) (.slice fa fr.length fc) (hangTop (ns.set p (ndx (.node p1 l1 y1 r1) x (.node q a z bb) mz)) T.at_ (pth mF) M).1 fr (hangTop (ns.set p (ndx (.node p1 l1 y1 r1) x (.node q a z bb) mz)) T.at_ (pth mF) M).2 T.size := by first | (rw [hhl]; exact T5) | (rw [hhl, List.length_set]; exact T5)
        obtain ⟨w6, rput, mput, T6⟩ := T5'.put (by rw [hhl]; exact hqlt) Nd.zero
        rw [hz.1, hz.2] at T6
        simp only [hangTop_len, List.length_set] at T6
        obtain ⟨fv', wa, wb, ra, rs, T7, m7, hheir⟩ := tree_free T6 (m1 : Int) (by omega)
        obtain ⟨T8, m8⟩ := T7.many ((T.size : Int) - 1)
        have c62 := cell_blk T6.blk 2
        have c74 := cell_blk T7.blk 4
        have f74 := frozen_blk T7.blk 4
        simp only [List.getElem?_toArray, List.getElem?_cons_succ, List.getElem?_cons_zero] at c51 c62 c74
        have hgn : w2.heap.size ≠ g := fun e => HPN.out.2.1 (by simp [Value.ownBlock, e])
        have hpA : w2.heap.size ∉ b :: blk (.slice (some ⟨g, 0, none⟩) ns.length cap) := by
          simp only [List.mem_cons, not_or]
          exact ⟨HPN.out.1, fun e => HPN.out.2.1 (mem_blk.1 e)⟩
        have hpB : w2.heap.size ∉ b :: blk (.slice fa fr.length fc) := by
          simp only [List.mem_cons, not_or]
          exact ⟨HPN.out.1, fun e => HPN.out.2.2 (mem_blk.1 e)⟩
        have HP8 := Lib.hid ((((HP1.out.kept m5 hpA).kept mput (by simpa using hgn)).kept m7 hpB).kept m8 (by simpa using HPN.out.1))
        have hcl := HOK.out.clear Nd.zero
        have hnd2 := (List.nodup_cons.1 HOK.out.nodup).2
        rw [HMX.out] at T8
        have HW8 := Lib.hid (Mod.into' (Mod.into' (Mod.into' (Mod.into' (Mod.into' (HMQ.out) (MP1.out) (fun k hk => .inl (by simp at hk; subst hk; exact Nat.le_of_lt HSZW.out))) m5 (fun k hk => .inr (by simp only [List.mem_cons, List.mem_append] at hk ⊢; rcases hk with h | h; exact .inl h; exact .inr (.inl h)))) mput (fun k hk => .inr (by simp at hk; simp [hk, blk, Value.ownBlock]))) m7 (fun k hk => .inr (by simp only [List.mem_cons, List.mem_append] at hk ⊢; rcases hk with h | h; exact .inl h; exact .inr (.inr h)))) m8 (fun k hk => .inr (by simp at hk; simp [hk])))
        have CM := Lib.hid (mend_at (T := mb) (ns := (ns.set p (ndx (.node p1 l1 y1 r1) x (.node q a z bb) mz)).set m1 Nd.zero) (root := T.at_) T8 HP8.out HPN.out.1 HPN.out.2.1 hcl.1 hcl.2 hnd2 (by have := HOK.out.hc; omega) (fun f hf => by have := HOK.out.high f hf; omega) (by omega))
        have HHEIR := Lib.hid (show fv'.ownBlock = (Value.slice fa fr.length fc).ownBlock ∨ ∀ k, fv'.ownBlock = some k → w.heap.size ≤ k from hheir.imp id (fun h k hk => by
          have h1 := h k hk
          have h2 := m5.size
          have h3 := mput.size
          have h4 := MP1.out.size
          have h5 := HMQ.out.size
          omega))
        have RPUT := Lib.hid rput
        have RA := Lib.hid ra
        have RS := Lib.hid rs
        simp only [encNd, Nd.zero] at RPUT
        clear T5 T5' T6 T7 T8 m5 mput m7 m8 rput ra rs hz hhl hcl hnd2 hheir CA
        go_wp2_with fail
        refine ⟨again_nil, ?_⟩
        go_wp2_with fail
        refine ⟨by first | trivial | rfl, ?_⟩
        go_wp2_with (first | ((with_reducible refine xStoreAt rfl RPUT.out ?_ ?_ ?_ ?_); exact rfl; exact rfl; exact rfl) | ((with_reducible refine xAppendAt RA.out rfl rfl ?_ ?_ ?_ ?_); exact rfl; exact rfl; exact rfl) | ((with_reducible refine xStoreAt rfl RS.out ?_ ?_ ?_ ?_); exact rfl; exact rfl; exact rfl))
        refine CM.out.mono ?_
        rintro e w8 ⟨rfl, ns8, T9, r9, l9, _, m9⟩
        rw [HOK.out.plug] at T9 r9
        have HE := Lib.hid (del_end HS.out HX.out hdn.out T9 r9 (by rw [l9]; simp) (Mod.into' HW8.out m9 (fun k hk => .inr (by simp only [List.mem_cons, List.mem_append] at hk ⊢; rcases hk with h | h; exact .inl h; exact .inr (.inl h)))) HHEIR.out)
        clear T9 r9 m9 CM
        go_wp2_with fail
        go_ret
        exact ⟨rfl, HE.out⟩
theorem delete_at {w : World} {b : Nat} {nv fv : Value} {ns : List Nd} {fr : List Int} {T : Tr} (S : AvlSt w b nv fv ns fr T) (x : It) (hx : x ∈ T.items) (hsz : T.size ≤ 100000) (hns : ns.length ≤ 100000) :
    Calls Try.prog 74 #[.pointer (some ⟨b, 0, none⟩), itV x] w fun e w' => e = .returned (.int .i64 0) ∧ DelPost w b nv fv ns fr x T w' := by
  obtain ⟨p, l, r, hf⟩ := downT_found x T [] S.srt hx
  cases l with
  | nil => exact delete_l S x hx hsz hns hf
  | node p1 l1 y1 r1 =>
    cases r with
    | nil => exact delete_r S x hx hsz hns hf
    | node q a z bb => exact delete_b S x hx hsz hns hf
end Go.Proofs.Ytngglpekdjhbdaa
namespace Go.Proofs.Ytngglpekdjhbdaa
open Go.RowKit Go.ChangeMaps Go.Deep Tr
set_option linter.unusedSimpArgs false
set_option linter.unusedVariables false
set_option maxRecDepth 20000

/-- where push stands -/
structure PuSt (w : World) (wb tb : Nat) (a z : Int) (ns : List Nd) (R : List Tr) (W : World) (S : Tr) (st : List Tr) (C : Array Value) : Prop where
  box : W.heap[wb]? = some (.cells C 143 (0, 0))
  wk : Wk C tb a z st
  mod : Mod [wb] w W
  rep : S.rep ns
  res : pushS a S st = R
  low : (st.length : Int) + S.ht ≤ 39
theorem PuSt.kept {w : World} {wb tb : Nat} {a z : Int} {ns : List Nd} {R : List Tr} {W W' : World} {S : Tr} {st : List Tr} {C : Array Value} (h : PuSt w wb tb a z ns R W S st C) (m : Mod [] W W') : PuSt w wb tb a z ns R W' S st C :=
  ⟨m.heap h.box (by simp), h.wk, Mod.into' h.mod m (fun k hk => by cases hk), h.rep, h.res, h.low⟩
def PuPost (w : World) (wb tb : Nat) (a z : Int) (R : List Tr) (e : Ending) (w' : World) : Prop := e = .returned (.tuple #[]) ∧ ∃ C, w'.heap[wb]? = some (.cells C 143 (0, 0)) ∧ Wk C tb a z R ∧ Mod [wb] w w'
set_option maxHeartbeats 4000000 in
theorem push_at {w : World} {wb tb : Nat} {a z : Int} {nv fv : Value} {ns : List Nd} {fr : List Int} {root many i : Int} {S : Tr} {st : List Tr} {C : Array Value} (h0 : TreeAt w tb nv fv ns fr root many) (h1 : tb ≠ wb) (h2 : nv.ownBlock ≠ some wb) (h3 : fv.ownBlock ≠ some wb) (hb : w.heap[wb]? = some (.cells C 143 (0, 0))) (hW : Wk C tb a z st) (hS : S.rep ns) (hi : i = S.at_) (hlow : (st.length : Int) + S.ht ≤ 39) :
    Calls Try.prog 83 #[.pointer (some ⟨wb, 0, none⟩), .int .i64 i] w (PuPost w wb tb a z (pushS a S st)) := by
  have HT := Lib.hid (fun (W : World) (hm : Mod [wb] w W) => h0.off hm h1 h2 h3)
  have S0 := Lib.hid (show PuSt w wb tb a z ns (pushS a S st) w S st C from ⟨hb, hW, Mod.refl _ _, hS, rfl, hlow⟩)
  have HI := Lib.hid hi
  have hwlt := lt_of_heap hb
  clear h0 hb hW hS hi hlow
  generalize pushS a S st = R at *
  go_enter Try.func83, Try.ntmps83
  go_wp2_with fail
  go_loopw [1] (fun s1 W => ∃ (S' : Tr) (st' : List Tr) (C' : Array Value), s1 = .int .i64 S'.at_ ∧ Hid (PuSt w wb tb a z ns R W S' st' C')) (fun _ W => 41 - (intOf ((W.cell? ⟨wb, 283, none⟩).getD undef)).toNat)
  case atStart => exact ⟨S, st, C, by rw [HI.out], S0⟩
  case round =>
    obtain ⟨S', st', C', rfl, hP⟩ := hrel
    clear S0
    have c0 := cell_blk hP.out.box 0
    rw [hP.out.wk.c0] at c0
    have TW := HT.out _ hP.out.mod
    cases S' with
    | nil =>
      have CN := Lib.hid (node_none TW)
      unfold knV Nd.zero at CN
      dsimp only at CN
      clear TW
      simp only [at_]
      go_wp2_with fail
      refine CN.out.mono ?_
      rintro e w2 ⟨rfl, m2⟩
      have HP2 := Lib.hid (hP.out.kept (m2.trans (((Mod.refl [] w2).alloc (.cells #[.int .i64 0, .int .i64 0, .int .i64 0, .int .i64 0, .int .i64 0, .int .i64 0, .int .i64 0] 133)).drew)))
      clear m2
      go_wp2_with fail
      refine wp_plan [] [0, 1, 2, 3, 5, 4, 6, 7, 8, 9, 10] (by kernel_rfl) (by kernel_rfl) ?_
      simp only [wpSegs, opsOf, List.map_cons, List.map_nil, opN, List.getD_cons_zero, List.getD_cons_succ]
      have HE := Lib.hid (show PuPost w wb tb a z R (.returned (.tuple #[])) _ from ⟨rfl, C', HP2.out.box, by rw [← HP2.out.res]; exact HP2.out.wk, HP2.out.mod⟩)
      go_wp2_with fail
      refine ⟨by first | trivial | rfl, ?_⟩
      go_wp2_with fail
      refine bodyPost_ret (results_none rfl _ _ _) rfl HE.out
    | node p l x r =>
      have CN := Lib.hid (node_at TW hP.out.rep.1)
      unfold knV nd at CN
      dsimp only at CN
      clear TW
      simp only [at_]
      go_wp2_with fail
      refine CN.out.mono ?_
      rintro e w2 ⟨rfl, m2⟩
      have ma := (Mod.refl [] w2).alloc (.cells #[.int .i64 x.f, .int .i64 x.t, .int .i64 x.i, .int .i64 l.at_, .int .i64 r.at_, .int .i64 (Tr.node 0 l x r).ht, .int .i64 (Tr.node 0 l x r).top] 133)
      have hk2 := heap_alloc_new w2 (.cells #[.int .i64 x.f, .int .i64 x.t, .int .i64 x.i, .int .i64 l.at_, .int .i64 r.at_, .int .i64 (Tr.node 0 l x r).ht, .int .i64 (Tr.node 0 l x r).top] 133)
      have HPa := Lib.hid (hP.out.kept (m2.trans ma))
      have HPd := Lib.hid (HPa.out.kept ((Mod.refl [] _).drew))
      have HPdd := Lib.hid (HPd.out.kept ((Mod.refl [] _).drew))
      have cf := cell_blk HPa.out.box 1
      rw [HPa.out.wk.c1] at cf
      have hl40 : st'.length < 40 := by
        have := hP.out.low
        have h4 := ht_nonneg l
        have h5 := ht_nonneg r
        simp only [ht] at this
        omega
      by_cases htop : (Tr.node 0 l x r).top ≤ a
      · have htd : decide ((Tr.node 0 l x r).top ≤ a) = true := decide_eq_true htop
        have hres : pushS a (.node p l x r) st' = st' := by
          unfold pushS
          rw [if_pos (show (Tr.node p l x r).top ≤ a from htop)]
        have HE := Lib.hid (show PuPost w wb tb a z R (.returned (.tuple #[])) _ from ⟨rfl, C', HPd.out.box, by rw [← HPd.out.res, hres]; exact HPd.out.wk, HPd.out.mod⟩)
        clear ma hk2 m2
        generalize (Tr.node 0 l x r).top = top at *
        go_wp2_with fail
        refine wp_plan [] [0, 1, 2, 3, 5, 4, 6, 7, 8, 9, 10] (by kernel_rfl) (by kernel_rfl) ?_
        simp only [wpSegs, opsOf, List.map_cons, List.map_nil, opN, List.getD_cons_zero, List.getD_cons_succ]
        go_wp2_with fail
        refine ⟨by first | trivial | rfl, ?_⟩
        go_wp2_with fail
        refine bodyPost_ret (results_none rfl _ _ _) rfl HE.out
      · have htd : decide ((Tr.node 0 l x r).top ≤ a) = false := decide_eq_false htop
        have hres : pushS a (.node p l x r) st' = pushS a l (.node p l x r :: st') := by
          conv => lhs; unfold pushS
          rw [if_neg (show ¬ (Tr.node p l x r).top ≤ a from htop)]
        obtain ⟨w5, C5, hst, mst, g5, n5, _, _, wk5⟩ := wk_push (p := p) (l := l) (r := r) (x := x) HPdd.out.box HPdd.out.wk hl40
        simp only [knC] at hst
        have HST := Lib.hid hst
        have b6 := heap_setCell_blk g5 283 (.int .i64 ((st'.length : Int) + 1))
        have m6 : Mod [wb] w5 (w5.setCell ⟨wb, 283, none⟩ (.int .i64 ((st'.length : Int) + 1))) := (Mod.refl _ _).setCell (by simp) _
        have cn := cell_blk HPd.out.box 283
        rw [HPd.out.wk.n] at cn
        have cn5 := cell_blk g5 283
        rw [n5] at cn5
        have fn5 := frozen_blk g5 283
        have hne : w2.heap.size ≠ wb := by
          have h1 := hP.out.mod.size
          have h2 := m2.size
          omega
        have hk6 := m6.heap (mst.heap (show (((w2.alloc (.cells #[.int .i64 x.f, .int .i64 x.t, .int .i64 x.i, .int .i64 l.at_, .int .i64 r.at_, .int .i64 (Tr.node 0 l x r).ht, .int .i64 (Tr.node 0 l x r).top] 133)).drew).drew).heap[w2.heap.size]? = _ from hk2) (by simpa using hne)) (by simpa using hne)
        have k3 := cell_blk hk6 3
        simp only [List.getElem?_toArray, List.getElem?_cons_succ, List.getElem?_cons_zero] at k3
        have hlow := hP.out.low
        simp only [ht] at hlow
        have HN := Lib.hid (show PuSt w wb tb a z ns R (w5.setCell ⟨wb, 283, none⟩ (.int .i64 ((st'.length : Int) + 1))) l (.node p l x r :: st') _ from ⟨b6, wk5, (HPdd.out.mod.trans mst).trans m6, hP.out.rep.2.1, by rw [← hres]; exact hP.out.res, by
          have h5 := ht_nonneg r
          simp only [List.length_cons]
          omega⟩)
        have E1 := Lib.hid (show (w5.setCell ⟨wb, 283, none⟩ (.int .i64 ((st'.length : Int) + 1))).cell? ⟨wb, 283, none⟩ = some (.int .i64 ((st'.length : Int) + 1)) from by
          rw [cell_blk b6]
          have := wk5.n
          simp only [List.length_cons] at this
          rw [this]; congr 2)
        have E0 := Lib.hid (show wr.cell? ⟨wb, 283, none⟩ = some (.int .i64 st'.length) from by rw [cell_blk hP.out.box]; exact hP.out.wk.n)
        clear ma hk2 m2 hst mst g5 wk5 b6 m6 hk6
        generalize (Tr.node 0 l x r).top = top at *
        go_wp2_with fail
        refine wp_plan [] [0, 1, 2, 3, 5, 4, 6, 7, 8, 9, 10] (by kernel_rfl) (by kernel_rfl) ?_
        simp only [wpSegs, opsOf, List.map_cons, List.map_nil, opN, List.getD_cons_zero, List.getD_cons_succ]
        go_wp2_with fail
        refine ⟨by first | trivial | rfl, ?_⟩
        go_wp2_with fail
        refine wp_plan [([0, 1, 5, 2, 6, 3, 7, 4, 8], 9, [])] [] (by kernel_rfl) (by kernel_rfl) ?_
        simp only [wpSegs, opsOf, List.map_cons, List.map_nil, opN, List.getD_cons_zero, List.getD_cons_succ]
        go_wp2_with fail
        refine ⟨by first | trivial | rfl, ?_⟩
        go_wp2_with ((with_reducible refine xStoreAt rfl HST.out ?_ ?_ ?_ ?_); exact rfl; exact rfl; exact rfl)
        refine ⟨again_nil, ?_⟩
        go_wp2_with fail
        refine ⟨by first | trivial | rfl, ?_⟩
        go_wp2_with fail
        go_roundw
        case rel => exact ⟨l, _, _, rfl, HN⟩
        case measure => rw [E1.out, E0.out]; simp [intOf]; omega
end Go.Proofs.Ytngglpekdjhbdaa
namespace Go.Proofs.Ytngglpekdjhbdaa
open Go.RowKit Go.ChangeMaps Go.Deep Tr
set_option linter.unusedSimpArgs false
set_option linter.unusedVariables false
set_option maxRecDepth 20000

theorem results_next {tmps : Array Value} {W : World} {B : Nat} {n : Nd} {is : Bool} (h4 : tmps.getD 2 undef = .pointer (some ⟨B, 0, none⟩)) (h5 : tmps.getD 3 undef = .bool is) (hb : W.heap[B]? = some (.cells #[.int .i64 n.x.f, .int .i64 n.x.t, .int .i64 n.x.i, .int .i64 n.l, .int .i64 n.r, .int .i64 n.h, .int .i64 n.t] 133 (0, 0))) :
    (results Try.f84 tmps).run Try.prog W = .ok (.tuple #[knV n, .bool is]) W := by
  have hl := run_loadVar_mid (P := Try.prog) W B 0 133 [.int .i64 n.x.f, .int .i64 n.x.t, .int .i64 n.x.i, .int .i64 n.l, .int .i64 n.r, .int .i64 n.h, .int .i64 n.t] _ (rangeAt_blk (by simpa using hb)) Try.underlying133 rfl (by rw [sizeKnot]; rfl)
  rw [results_cell_tmp Try.results84, h4, h5]
  have ha : (asAddr (.pointer (some ⟨B, 0, none⟩))).run Try.prog W = .ok ⟨B, 0, none⟩ W := by simp [asAddr, go_sem]
  rw [ha]
  simp only [Result.andThen_ok, hl]
  rfl
theorem Wk.pop {C : Array Value} {tb : Nat} {a z : Int} {T : Tr} {st : List Tr} (hl : st.length < 40) (h : Wk C tb a z (T :: st)) : Wk (C.setIfInBounds 283 (.int .i64 st.length)) tb a z st := by
  have hs := h.size
  have hent : ∀ k, k < 283 → (C.setIfInBounds 283 (.int .i64 st.length))[k]? = C[k]? := fun k hk => by
    rw [Array.getElem?_setIfInBounds, if_neg (by omega)]
  refine ⟨by rw [Array.size_setIfInBounds]; exact hs, by rw [hent 0 (by omega)]; exact h.c0, by rw [hent 1 (by omega)]; exact h.c1, by rw [hent 2 (by omega)]; exact h.c2, ?_, fun i T' hT j u hu => ?_⟩
  · rw [Array.getElem?_setIfInBounds, if_pos rfl, if_pos (by omega)]
  · have hi := (List.getElem?_eq_some_iff.1 hT).1
    have h1 := h.ent i T' (by rw [List.reverse_cons, List.getElem?_append_left hi]; exact hT) j u hu
    simp only [List.length_reverse] at hi
    by_cases e : 3 + i * 7 + j = 283
    · rw [e] at h1 ⊢
      rw [h.n] at h1
      have hj : j < 7 := by
        have := (List.getElem?_eq_some_iff.1 hu).1
        cases T' with
        | nil => simp [knC] at this
        | node => rw [knC_len] at this; exact this
      omega
    · rw [Array.getElem?_setIfInBounds, if_neg (by omega)]
      exact h1
/-- what next answers, where a node stands on the stack -/
def NxPost (w : World) (wb tb : Nat) (a z : Int) (l : Tr) (x : It) (r : Tr) (st : List Tr) (e : Ending) (w' : World) : Prop :=
  ∃ C, w'.heap[wb]? = some (.cells C 143 (0, 0)) ∧ Mod [wb] w w' ∧ ((x.f < z ∧ e = .returned (.tuple #[knV (nd l x r), .bool true]) ∧ Wk C tb a z (pushS a r st)) ∨ (z ≤ x.f ∧ e = .returned (.tuple #[knV (nd l x r), .bool false]) ∧ Wk C tb a z st))
theorem next_none {w : World} {wb tb : Nat} {a z : Int} {C : Array Value} (hb : w.heap[wb]? = some (.cells C 143 (0, 0))) (hW : Wk C tb a z []) :
    Calls Try.prog 84 #[.pointer (some ⟨wb, 0, none⟩)] w fun e w' => e = .returned (.tuple #[knV Nd.zero, .bool false]) ∧ Mod [] w w' := by
  have m0 := (Mod.refl [] w).alloc (.cells #[.int .i64 0, .int .i64 0, .int .i64 0, .int .i64 0, .int .i64 0, .int .i64 0, .int .i64 0] 133)
  have b0 := heap_alloc_new w (.cells #[.int .i64 0, .int .i64 0, .int .i64 0, .int .i64 0, .int .i64 0, .int .i64 0, .int .i64 0] 133)
  obtain ⟨w2, hst, mst, gst⟩ := store_blk2 (P := Try.prog) (c := #[.int .i64 0, .int .i64 0, .int .i64 0, .int .i64 0, .int .i64 0, .int .i64 0, .int .i64 0]) 133 b0 rfl (by rw [sizeKnot]; rfl) (by simp [Value.oneCell'])
  have cn := cell_blk (m0.heap hb (by simp)) 283
  rw [hW.n] at cn
  simp only [List.length_nil] at cn
  have HST := Lib.hid hst
  have HG := Lib.hid gst
  have HM := Lib.hid (Mod.into' m0 mst (fun k hk => .inl (by simp at hk; omega)))
  clear m0 b0 hst mst gst hb hW
  go_enter Try.func84, Try.ntmps84
  go_wp2_with ((with_reducible refine xStoreAt rfl HST.out ?_ ?_ ?_ ?_); exact rfl; exact rfl; exact rfl)
  exact bodyPost_ret (results_next (n := Nd.zero) (is := false) rfl rfl HG.out) rfl ⟨rfl, HM.out⟩
set_option maxHeartbeats 4000000 in
theorem next_at {w : World} {wb tb : Nat} {a z : Int} {nv fv : Value} {ns : List Nd} {fr : List Int} {root many : Int} {p : Nat} {l r : Tr} {x : It} {st : List Tr} {C : Array Value} (h0 : TreeAt w tb nv fv ns fr root many) (h1 : tb ≠ wb) (h2 : nv.ownBlock ≠ some wb) (h3 : fv.ownBlock ≠ some wb) (hb : w.heap[wb]? = some (.cells C 143 (0, 0))) (hW : Wk C tb a z (.node p l x r :: st)) (hS : r.rep ns) (hlow : (st.length : Int) + r.ht ≤ 39) (hl40 : st.length < 40) :
    Calls Try.prog 84 #[.pointer (some ⟨wb, 0, none⟩)] w (NxPost w wb tb a z l x r st) := by
  have hb0' := Lib.hid hb
  have m0 := (Mod.refl [] w).alloc (.cells #[.int .i64 0, .int .i64 0, .int .i64 0, .int .i64 0, .int .i64 0, .int .i64 0, .int .i64 0] 133)
  have hb0 := m0.heap hb (by simp)
  have cn := cell_blk hb0 283
  rw [hW.n] at cn
  simp only [List.length_cons] at cn
  have fn := frozen_blk hb0 283
  have b1 := heap_setCell_blk hb0 283 (.int .i64 st.length)
  have m1 : Mod [wb] (w.alloc (.cells #[.int .i64 0, .int .i64 0, .int .i64 0, .int .i64 0, .int .i64 0, .int .i64 0, .int .i64 0] 133)) ((w.alloc (.cells #[.int .i64 0, .int .i64 0, .int .i64 0, .int .i64 0, .int .i64 0, .int .i64 0, .int .i64 0] 133)).setCell ⟨wb, 283, none⟩ (.int .i64 st.length)) := (Mod.refl _ _).setCell (by simp) _
  have cnn : ((st.length + 1 : Nat) : Int) = (st.length : Int) + 1 := by omega
  rw [cnn] at cn
  clear cnn
  have hcs := hW.size
  have m2 := (Mod.refl [] ((w.alloc (.cells #[.int .i64 0, .int .i64 0, .int .i64 0, .int .i64 0, .int .i64 0, .int .i64 0, .int .i64 0] 133)).setCell ⟨wb, 283, none⟩ (.int .i64 st.length))).alloc (.cells #[.int .i64 0, .int .i64 0, .int .i64 0, .int .i64 0, .int .i64 0, .int .i64 0, .int .i64 0] 133)
  have b2 := m2.heap b1 (by simp)
  have n2 := heap_alloc_new ((w.alloc (.cells #[.int .i64 0, .int .i64 0, .int .i64 0, .int .i64 0, .int .i64 0, .int .i64 0, .int .i64 0] 133)).setCell ⟨wb, 283, none⟩ (.int .i64 st.length)) (.cells #[.int .i64 0, .int .i64 0, .int .i64 0, .int .i64 0, .int .i64 0, .int .i64 0, .int .i64 0] 133)
  have hsz : ((w.alloc (.cells #[.int .i64 0, .int .i64 0, .int .i64 0, .int .i64 0, .int .i64 0, .int .i64 0, .int .i64 0] 133)).setCell ⟨wb, 283, none⟩ (.int .i64 st.length)).heap.size = w.heap.size + 1 := by simp
  have hrow : ((((w.alloc (.cells #[.int .i64 0, .int .i64 0, .int .i64 0, .int .i64 0, .int .i64 0, .int .i64 0, .int .i64 0] 133)).setCell ⟨wb, 283, none⟩ (.int .i64 st.length)).alloc (.cells #[.int .i64 0, .int .i64 0, .int .i64 0, .int .i64 0, .int .i64 0, .int .i64 0, .int .i64 0] 133)).drew).rangeAt wb (3 + st.length * 7) [.int .i64 x.f, .int .i64 x.t, .int .i64 x.i, .int .i64 l.at_, .int .i64 r.at_, .int .i64 (Tr.node 0 l x r).ht, .int .i64 (Tr.node 0 l x r).top] := fun j u hu => by
    have hj : j < 7 := (List.getElem?_eq_some_iff.1 hu).1
    rw [World.cell?_drew, cell_blk b2, Array.getElem?_setIfInBounds, if_neg (by omega)]
    exact hW.ent st.length (.node p l x r) (by rw [List.reverse_cons, List.getElem?_append_right (by simp)]; simp) j u hu
  have hrow1 : ((((w.alloc (.cells #[.int .i64 0, .int .i64 0, .int .i64 0, .int .i64 0, .int .i64 0, .int .i64 0, .int .i64 0] 133)).setCell ⟨wb, 283, none⟩ (.int .i64 st.length))).drew).rangeAt wb (3 + st.length * 7) [.int .i64 x.f, .int .i64 x.t, .int .i64 x.i, .int .i64 l.at_, .int .i64 r.at_, .int .i64 (Tr.node 0 l x r).ht, .int .i64 (Tr.node 0 l x r).top] := fun j u hu => by
    have hj : j < 7 := (List.getElem?_eq_some_iff.1 hu).1
    rw [World.cell?_drew, cell_blk b1, Array.getElem?_setIfInBounds, if_neg (by omega)]
    exact hW.ent st.length (.node p l x r) (by rw [List.reverse_cons, List.getElem?_append_right (by simp)]; simp) j u hu
  have HLM := Lib.hid (run_loadAt_mid (P := Try.prog) _ wb (3 + st.length * 7) 133 _ _ hrow1 Try.underlying133 rfl (by rw [sizeKnot]; rfl))
  have HLN := Lib.hid (run_loadAt_mid (P := Try.prog) _ wb (3 + st.length * 7) 133 _ _ hrow Try.underlying133 rfl (by rw [sizeKnot]; rfl))
  have cn1 := cell_blk b2 283
  rw [Array.getElem?_setIfInBounds, if_pos rfl, if_pos (by omega)] at cn1
  obtain ⟨w3, hst, mst, gst⟩ := store_blk2 (P := Try.prog) (c := #[.int .i64 x.f, .int .i64 x.t, .int .i64 x.i, .int .i64 l.at_, .int .i64 r.at_, .int .i64 (Tr.node 0 l x r).ht, .int .i64 (Tr.node 0 l x r).top]) 133 (show ((((w.alloc (.cells #[.int .i64 0, .int .i64 0, .int .i64 0, .int .i64 0, .int .i64 0, .int .i64 0, .int .i64 0] 133)).setCell ⟨wb, 283, none⟩ (.int .i64 st.length)).alloc (.cells #[.int .i64 0, .int .i64 0, .int .i64 0, .int .i64 0, .int .i64 0, .int .i64 0, .int .i64 0] 133)).drew).heap[((w.alloc (.cells #[.int .i64 0, .int .i64 0, .int .i64 0, .int .i64 0, .int .i64 0, .int .i64 0, .int .i64 0] 133)).setCell ⟨wb, 283, none⟩ (.int .i64 st.length)).heap.size]? = _ from n2) rfl (by rw [sizeKnot]; rfl) (by simp [Value.oneCell'])
  rw [hsz] at hst mst gst
  have HST := Lib.hid hst
  have b3 := mst.heap (show ((((w.alloc (.cells #[.int .i64 0, .int .i64 0, .int .i64 0, .int .i64 0, .int .i64 0, .int .i64 0, .int .i64 0] 133)).setCell ⟨wb, 283, none⟩ (.int .i64 st.length)).alloc (.cells #[.int .i64 0, .int .i64 0, .int .i64 0, .int .i64 0, .int .i64 0, .int .i64 0, .int .i64 0] 133)).drew).heap[wb]? = _ from b2) (by have := lt_of_heap hb; simp; omega)
  have m3 : Mod [wb] w w3 := Mod.into' ((m0.mono (by simp)).trans (m1.trans ((m2.trans ((Mod.refl [] _).drew)).mono (by simp)))) mst (fun k hk => .inl (by simp at hk; omega))
  have hwb := lt_of_heap hb
  have r3 := mst.heap (show ((((w.alloc (.cells #[.int .i64 0, .int .i64 0, .int .i64 0, .int .i64 0, .int .i64 0, .int .i64 0, .int .i64 0] 133)).setCell ⟨wb, 283, none⟩ (.int .i64 st.length)).alloc (.cells #[.int .i64 0, .int .i64 0, .int .i64 0, .int .i64 0, .int .i64 0, .int .i64 0, .int .i64 0] 133)).drew).heap[w.heap.size]? = _ from m2.heap (m1.heap (heap_alloc_new w (.cells #[.int .i64 0, .int .i64 0, .int .i64 0, .int .i64 0, .int .i64 0, .int .i64 0, .int .i64 0] 133)) (by simp; omega)) (by simp)) (by simp)
  have pop := Wk.pop hl40 hW
  obtain ⟨w4, st4, mt4, gt4⟩ := store_blk2 (P := Try.prog) (c := #[.int .i64 x.f, .int .i64 x.t, .int .i64 x.i, .int .i64 l.at_, .int .i64 r.at_, .int .i64 (Tr.node 0 l x r).ht, .int .i64 (Tr.node 0 l x r).top]) 133 (show (w3.drew).heap[w.heap.size]? = _ from r3) rfl (by rw [sizeKnot]; rfl) (by simp [Value.oneCell'])
  have HL3 := Lib.hid (load_blk2 (P := Try.prog) 133 (show (w3.drew).heap[w.heap.size + 1]? = _ from gst) Try.underlying133 rfl (by rw [sizeKnot]; rfl))
  have HS4 := Lib.hid st4
  have HG4 := Lib.hid gt4
  have HE4 := Lib.hid (show z ≤ x.f → NxPost w wb tb a z l x r st (.returned (.tuple #[.agg #[.int .i64 x.f, .int .i64 x.t, .int .i64 x.i, .int .i64 l.at_, .int .i64 r.at_, .int .i64 (Tr.node 0 l x r).ht, .int .i64 (Tr.node 0 l x r).top], .bool false])) w4 from fun hz => ⟨_, mt4.heap (show (w3.drew).heap[wb]? = _ from b3) (by simp; omega), Mod.into' (m3.trans ((Mod.refl [wb] _).drew)) mt4 (fun k hk => .inl (by simp at hk; omega)), .inr ⟨hz, rfl, pop⟩⟩)
  have TW := Lib.hid (h0.off (m3.trans ((Mod.refl [wb] _).drew)) h1 h2 h3)
  have CP := Lib.hid (push_at TW.out h1 h2 h3 (show (w3.drew).heap[wb]? = _ from b3) pop hS rfl hlow)
  have R3 := Lib.hid r3
  have HE5 := Lib.hid (show ∀ w5 w6 : World, x.f < z → (∃ C5, w5.heap[wb]? = some (.cells C5 143 (0, 0)) ∧ Wk C5 tb a z (pushS a r st) ∧ Mod [wb] w3.drew w5) → Mod [w.heap.size] w5 w6 → NxPost w wb tb a z l x r st (.returned (.tuple #[.agg #[.int .i64 x.f, .int .i64 x.t, .int .i64 x.i, .int .i64 l.at_, .int .i64 r.at_, .int .i64 (Tr.node 0 l x r).ht, .int .i64 (Tr.node 0 l x r).top], .bool true])) w6 from fun w5 w6 hz h5 m6 => by
    obtain ⟨C5, g5, k5, m5⟩ := h5
    exact ⟨_, m6.heap (show w5.heap[wb]? = _ from g5) (by simp; omega), Mod.into' ((m3.trans ((Mod.refl [wb] _).drew)).trans m5) m6 (fun k hk => .inl (by simp at hk; omega)), .inl ⟨hz, rfl, k5⟩⟩)
  clear mt4 gt4 st4 pop
  have f3 := cell_blk gst 0
  simp only [List.getElem?_toArray, List.getElem?_cons_succ, List.getElem?_cons_zero] at f3
  have z3 := cell_blk b3 2
  rw [Array.getElem?_setIfInBounds, if_neg (by omega), hW.c2] at z3
  have HB3 := Lib.hid b3
  have HG3 := Lib.hid gst
  have HM3 := Lib.hid m3
  have k3 := cell_blk gst 4
  simp only [List.getElem?_toArray, List.getElem?_cons_succ, List.getElem?_cons_zero] at k3
  clear hst mst gst b3 m3 r3 hwb
  generalize (Tr.node 0 l x r).top = top at *
  generalize (Tr.node 0 l x r).ht = hh at *
  go_enter Try.func84, Try.ntmps84
  go_wp2_with fail
  refine wp_plan [([0, 1, 2, 5, 3, 6, 4, 7, 8], 9, [2, 5, 3, 6, 4, 7, 8]), ([], 10, [])] [] (by kernel_rfl) (by kernel_rfl) ?_
  simp only [wpSegs, opsOf, List.map_cons, List.map_nil, opN, List.getD_cons_zero, List.getD_cons_succ]
  go_wp2_with ((with_reducible refine xLoadAt rfl HLM.out ?_ ?_ ?_); exact rfl; exact rfl)
  refine ⟨by first | trivial | rfl, ?_⟩
  go_wp2_with fail
  refine ⟨?agN, ?_⟩
  case agN =>
    intro i hi hw
    simp only [List.mem_cons, List.not_mem_nil, or_false] at hi
    rcases hi with rfl | rfl | rfl | rfl | rfl | rfl | rfl
    all_goals (first | exact exec_load rfl rfl HLN.out | (simp only [opN, List.getD_cons_zero, List.getD_cons_succ, slotOf]; go_simp; done) | (simp only [opN, List.getD_cons_zero, List.getD_cons_succ, slotOf]; go_simp; intro hbd; omega))
  go_wp2_with fail
  refine ⟨by first | trivial | rfl, ?_⟩
  go_wp2_with ((with_reducible refine xStoreAt rfl HST.out ?_ ?_ ?_ ?_); exact rfl; exact rfl; exact rfl)
  refine ⟨again_nil, ?_⟩
  go_wp2_with fail
  refine ⟨by first | trivial | rfl, ?_⟩
  go_wp2_with fail
  by_cases hz : z ≤ x.f
  · have hzd : decide (z ≤ x.f) = true := decide_eq_true hz
    refine wp_plan [] [0, 3, 1, 4, 2, 5, 6, 7] (by kernel_rfl) (by kernel_rfl) ?_
    simp only [wpSegs, opsOf, List.map_cons, List.map_nil, opN, List.getD_cons_zero, List.getD_cons_succ]
    go_wp2_with fail
    refine ⟨by first | trivial | rfl, ?_⟩
    go_wp2_with (first | ((with_reducible refine xLoadAt rfl HL3.out ?_ ?_ ?_); exact rfl; exact rfl) | ((with_reducible refine xStoreAt rfl HS4.out ?_ ?_ ?_ ?_); exact rfl; exact rfl; exact rfl))
    exact bodyPost_ret (results_next (n := ⟨x, l.at_, r.at_, hh, top, true⟩) (is := false) rfl rfl HG4.out) rfl (HE4.out hz)
  · have hzd : decide (z ≤ x.f) = false := decide_eq_false hz
    refine wp_plan [] [0, 3, 1, 4, 2, 5, 6, 7] (by kernel_rfl) (by kernel_rfl) ?_
    simp only [wpSegs, opsOf, List.map_cons, List.map_nil, opN, List.getD_cons_zero, List.getD_cons_succ]
    go_wp2_with fail
    refine CP.out.mono ?_
    rintro e w5 ⟨rfl, h5⟩
    obtain ⟨C5, g5, k5, m5⟩ := h5
    have hwb := lt_of_heap hb0'.out
    have e5 := m5.heap (show (w3.drew).heap[w.heap.size + 1]? = _ from HG3.out) (by simp; omega)
    have r5 := m5.heap (show (w3.drew).heap[w.heap.size]? = _ from R3.out) (by simp; omega)
    obtain ⟨w6, st6, mt6, gt6⟩ := store_blk2 (P := Try.prog) (c := #[.int .i64 x.f, .int .i64 x.t, .int .i64 x.i, .int .i64 l.at_, .int .i64 r.at_, .int .i64 hh, .int .i64 top]) 133 (show w5.heap[w.heap.size]? = _ from r5) rfl (by rw [sizeKnot]; rfl) (by simp [Value.oneCell'])
    have HL5 := Lib.hid (load_blk2 (P := Try.prog) 133 (show w5.heap[w.heap.size + 1]? = _ from e5) Try.underlying133 rfl (by rw [sizeKnot]; rfl))
    have H5 := Lib.hid (HE5.out w5 w6 (by omega) ⟨C5, g5, k5, m5⟩ mt6)
    have HS6 := Lib.hid st6
    have HG6 := Lib.hid gt6
    clear st6 mt6 gt6 e5 r5 g5 k5 m5 hwb
    go_wp2_with (first | ((with_reducible refine xLoadAt rfl HL5.out ?_ ?_ ?_); exact rfl; exact rfl) | ((with_reducible refine xStoreAt rfl HS6.out ?_ ?_ ?_ ?_); exact rfl; exact rfl; exact rfl))
    exact bodyPost_ret (results_next (n := ⟨x, l.at_, r.at_, hh, top, true⟩) (is := true) rfl rfl HG6.out) rfl H5.out
end Go.Proofs.Ytngglpekdjhbdaa
