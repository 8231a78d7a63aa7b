/- Layer 8: an item goes that has both sides: what is laid ahead. -/
import Derived.Test.YtngglpekdjhbdaaGreatWzP
namespace Go.Proofs.YtngglpekdjhbdaaGreat
open Go.RowKit Go.ChangeMaps Go.Deep Tr
set_option linter.unusedSimpArgs false
set_option linter.unusedVariables false
set_option maxRecDepth 20000

theorem TreeAt.off {w w' : World} {b : Nat} {nv fv : Value} {ns : List Nd} {fr : List Int} {root many : Int} (h : TreeAt w b nv fv ns fr root many) {k : Nat} (hm : Mod [k] w w') (h1 : b ≠ k) (h2 : nv.ownBlock ≠ some k) (h3 : fv.ownBlock ≠ some k) : TreeAt w' b nv fv ns fr root many :=
  ⟨hm.heap h.blk (by simpa using h1), h.row.kept hm (fun j hj hk => h2 (by rw [List.mem_singleton] at hk; rw [← hk]; exact hj)), h.free.kept hm (fun j hj hk => h3 (by rw [List.mem_singleton] at hk; rw [← hk]; exact hj)), h.bn, h.bf, h.nf⟩
theorem PathAt.drop {w : World} {pb : Nat} {ps : List (Nat × Bool)} {e : Nat × Bool} (h : PathAt w pb (ps ++ [e])) : PathAt (w.setCell ⟨pb, 80, none⟩ (.int .i64 ps.length)) pb ps ∧ Mod [pb] w (w.setCell ⟨pb, 80, none⟩ (.int .i64 ps.length)) ∧ w.cell? ⟨pb, 80, none⟩ = some (.int .i64 ((ps.length : Int) + 1)) ∧ w.frozen? ⟨pb, 80, none⟩ = false := by
  obtain ⟨C, h1, h2, h3, h4⟩ := h.ex
  have hl := h.len
  simp only [List.length_append, List.length_singleton] at hl h4
  refine ⟨⟨by omega, _, heap_setCell_blk h1 80 _, by simp [h2], fun i q hq => ?_, by simp [Array.getElem?_setIfInBounds, h2]⟩, (Mod.refl _ _).setCell (by simp) _, ?_, frozen_blk h1 80⟩
  · have hi := (List.getElem?_eq_some_iff.1 hq).1
    obtain ⟨g1, g2⟩ := h3 i q (by rw [List.getElem?_append_left hi]; exact hq)
    simp only [Array.getElem?_setIfInBounds]
    rw [if_neg (by omega), if_neg (by omega)]
    exact ⟨g1, g2⟩
  · rw [cell_blk h1, h4]
    congr 2
theorem hangTop_len (ns : List Nd) (root : Int) (F : List Fr) (below : Int) : (hangTop ns root (pth F) below).1.length = ns.length := by
  cases F <;> simp [hangTop, pth, hangN]
/-- what Delete leaves -/
def DelPost (w : World) (b : Nat) (nv fv : Value) (ns : List Nd) (fr : List Int) (x : It) (T : Tr) (w' : World) : Prop :=
  ∃ q T' fv' ns', del x T = some (q, T') ∧ AvlSt w' b nv fv' ns' (fr ++ [(q : Int)]) T' ∧ ns'.length = ns.length ∧ Mod (b :: (blk nv ++ blk fv)) w w' ∧ (fv'.ownBlock = fv.ownBlock ∨ ∀ k, fv'.ownBlock = some k → w.heap.size ≤ k)
theorem del_end {w w' : World} {b : Nat} {nv fv fv' : Value} {ns ns' : List Nd} {fr : List Int} {x : It} {T T' : Tr} {q : Nat} (S : AvlSt w b nv fv ns fr T) (hx : x ∈ T.items) (hd : del x T = some (q, T')) (ht : TreeAt w' b nv fv' ns' (fr ++ [(q : Int)]) T'.at_ ((T.size : Int) - 1)) (hr : T'.rep ns') (hlen : ns'.length = ns.length)
    (hm : Mod (b :: (blk nv ++ blk fv)) w w') (hf : fv'.ownBlock = fv.ownBlock ∨ ∀ k, fv'.ownBlock = some k → w.heap.size ≤ k) : DelPost w b nv fv ns fr x T w' := by
  obtain ⟨q', T'', e, D⟩ := del_some x T S.srt hx
  rw [hd] at e
  obtain ⟨rfl, rfl⟩ : q = q' ∧ T' = T'' := by simpa using e
  have hp := D.places
  have hs : T.size = T'.size + 1 := by rw [← places_len, ← hp.length_eq, List.length_cons, places_len]
  have hn := hp.nodup_iff.2 S.nodup
  obtain ⟨n1, n2⟩ := List.nodup_cons.1 hn
  have hqT : q ∈ T.places := hp.mem_iff.1 (by simp)
  refine ⟨q, T', fv', ns', hd, ⟨?_, hr, (D.avl S.avl).1, ?_, n2, fun i hi => ?_, ?_, ?_⟩, hlen, hm, hf⟩
  · have e2 : (T'.size : Int) = (T.size : Int) - 1 := by omega
    rw [e2]
    exact ht
  · unfold srt
    rw [D.items]
    exact List.Pairwise.filter _ S.srt
  · rcases List.mem_append.1 hi with hi | hi
    · obtain ⟨k, rfl, k1, k2⟩ := S.free i hi
      exact ⟨k, rfl, by omega, fun h => k2 (hp.mem_iff.1 (by simp [h]))⟩
    · rw [List.mem_singleton] at hi
      exact ⟨q, hi, by have := rep_lt S.rep q hqT; omega, n1⟩
  · refine List.nodup_append.2 ⟨S.fnd, by simp, fun a ha c hc e => ?_⟩
    rw [List.mem_singleton] at hc
    subst hc e
    obtain ⟨k, e3, k1, k2⟩ := S.free _ ha
    have : q = k := by omega
    exact k2 (this ▸ hqT)
  · rw [List.length_append, List.length_singleton, hlen, S.full]
    omega
set_option maxHeartbeats 8000000 in
theorem delete_l {w : World} {b : Nat} {nv fv : Value} {ns : List Nd} {fr : List Int} {T : Tr} (S : AvlSt w b nv fv ns fr T) (x : It) (hx : x ∈ T.items) (hsz : T.size ≤ 100000) (hns : ns.length ≤ 100000) {p : Nat} {r : Tr} (hf : (downT x T []).2 = .node p .nil x r) :
    Calls Tryz.prog 39 #[.pointer (some ⟨b, 0, none⟩), itV x] w fun e w' => e = .returned (.int .i64 0) ∧ DelPost w b nv fv ns fr x T w' := by
  have HS := Lib.hid S
  have HX := Lib.hid hx
  have hT34 := ht_small S.avl (by omega)
  have hT0 := ht_nonneg T
  have m0 := (Mod.refl [] w).alloc (.cells #[.int .i64 x.f, .int .i64 x.t, .int .i64 x.i] 70)
  have C1 := Lib.hid (none_at (S.tree.kept0 m0))
  have C2 := Lib.hid (down_at (S.tree.kept0 m0) rfl S.rep (by omega) x)
  have M0 := Lib.hid m0
  unfold itV at C2 ⊢
  clear S hx m0
  go_enter Tryz.func39, Tryz.ntmps39
  go_wp2_with fail
  refine C1.out.mono ?_
  rintro e w1 ⟨rfl, rfl⟩
  go_wp2_with fail
  refine C2.out.mono ?_
  rintro e w2 ⟨m2, C, hC⟩
  rw [hf] at hC
  obtain ⟨rfl, hP⟩ := hC
  have ma := (Mod.refl [] w2).alloc (.cells Tryz.zeroCells124 124)
  obtain ⟨w3, hst, mst, gst⟩ := store_blk2 (P := Tryz.prog) 124 (heap_alloc_new w2 (.cells Tryz.zeroCells124 124)) (by rw [hP.size]; rfl) (by rw [sizePath, hP.size]) hP.one
  have m3 : Mod [] w w3 := Mod.into' ((M0.out.trans m2).trans ma) mst (fun k hk => .inl (by
    simp only [List.mem_singleton] at hk
    subst hk
    have := (M0.out.trans m2).size
    exact this))
  have T3 := HS.out.tree.kept0 m3
  have HPC := Lib.hid hP
  have HGST := Lib.hid gst
  have HST := Lib.hid hst
  have HM3 := Lib.hid m3
  have HT3 := Lib.hid T3
  have hszw : w.heap.size < w2.heap.size := by
    have := m2.size
    simp only [World.size_alloc] at this
    omega
  obtain ⟨q1, q2, q3⟩ := (downT_rest x T [] HS.out.rep (fun f hf => by cases hf)).2 |> (fun h => by rw [hf] at h; exact h)
  obtain ⟨g, cap, hnv, _, hcap⟩ := T3.row.at_ q1
  have hplt := (List.getElem?_eq_some_iff.1 q1).1
  obtain ⟨fa, fc, hfv⟩ := T3.free.lens
  subst hnv hfv
  have hpi : ((p : Nat) : Int) < (ns.length : Int) := by omega
  have hfl : fr.length ≤ 100000 := by have := HS.out.full; omega
  have c1 := cell_blk T3.blk 1
  simp only [List.getElem?_toArray, List.getElem?_cons_succ, List.getElem?_cons_zero] at c1
  have hn80 := cell_blk gst 80
  rw [hP.n] at hn80
  simp only [List.length_append, List.length_singleton, pth_len] at hn80
  have hFl := downT_len x T []
  rw [hf] at hFl
  simp only [List.length_nil] at hFl
  have hnn := ht_nonneg (Tr.node p .nil x r)
  have hl0 := ht_nonneg .nil
  have hr0 := ht_nonneg r
  have hF40 : (downT x T []).1.length < 40 := by omega
  have hat := (hP.get (downT x T []).1.length (p, false) (by rw [List.getElem?_append_right (by rw [pth_len]; exact Nat.le_refl _), pth_len]; simp)).1
  have hcat := cell_blk gst (downT x T []).1.length
  rw [hat] at hcat
  dsimp only at hcat
  have hy : w3.rangeAt g (p * 8) (encNd (nd .nil x r)) := fun j u hu => (nd_cells T3.row q1 j u hu).1
  have HLN := Lib.hid (run_loadAt_mid (P := Tryz.prog) _ g (p * 8) 128 (encNd (nd .nil x r)) _ hy Tryz.underlying128 rfl (by kernel_rfl))
  simp only [encNd, nd, show Tr.nil.at_ = (-1 : Int) from rfl] at HLN
  have HPN : Hid (w2.heap.size ≠ b ∧ (Value.slice (some ⟨g, 0, none⟩) ns.length cap).ownBlock ≠ some w2.heap.size ∧ (Value.slice fa fr.length fc).ownBlock ≠ some w2.heap.size) := Lib.hid (by
    have h1 := lt_of_heap HS.out.tree.blk
    refine ⟨by omega, fun e => ?_, fun e => ?_⟩
    · have := (World.ownsRow.lt HS.out.tree.row _ e).2; omega
    · have := (World.ownsRow.lt HS.out.tree.free _ e).2; omega)
  have HSZW := Lib.hid hszw
  clear m3 mst hst ma m2 hszw C1 C2 hat hy hFl gst
  obtain ⟨T', hdel, OK⟩ := del_one HS.out.rep HS.out.nodup hf (.inl rfl)
  go_upto_region 18 with (first | ((with_reducible refine xStoreAt rfl HST.out ?_ ?_ ?_ ?_); exact rfl; exact rfl; exact rfl) | ((with_reducible refine xLoadAt rfl HLN.out ?_ ?_ ?_); exact rfl; exact rfl))
  generalize hw4 : w3.alloc _ = wq
  have mq : Mod [] w3 wq := by rw [← hw4]; exact (Mod.refl [] w3).alloc _
  have TP := HT3.out.kept0 mq
  have HMQ := Lib.hid (((HM3.out).trans mq).nil (l := b :: (blk (.slice (some ⟨g, 0, none⟩) ns.length cap) ++ blk (.slice fa fr.length fc))))
  have HNL : Hid (ns.length = ns.length) := Lib.hid rfl
  have HPAQ : Hid (PathAt wq w2.heap.size ((pth (downT x T []).1).reverse ++ [(p, false)])) := Lib.hid ⟨HPC.out.len, C, mq.heap HGST.out (by simp), HPC.out.size, HPC.out.get, HPC.out.n⟩
  simp only [delTop] at OK
  have hdn := Lib.hid hdel
  have hqn := OK.node
  obtain ⟨xq, li, ri, hh, tt, hq, hmx⟩ := hqn
  obtain ⟨P1, mP, z80, f80⟩ := HPAQ.out.drop
  rw [pth_len] at P1 mP z80
  have TP1 := (TP.off mP (Ne.symm HPN.out.1) HPN.out.2.1 HPN.out.2.2).kept0 ((Mod.refl [] _).drew)
  have CA := Lib.hid (above_any TP1 (P1.kept ((Mod.refl [] _).drew) (by simp)) OK.rest r.at_)
  have HP1 := Lib.hid (P1.kept ((Mod.refl [] _).drew) (by simp))
  have MP1 := Lib.hid (mP.drew)
  have a1 := cell_blk TP1.blk 1
  simp only [List.getElem?_toArray, List.getElem?_cons_succ, List.getElem?_cons_zero] at a1
  have hlx : (ns).length = ns.length := by first | rfl | exact List.length_set
  have hrowx : OwnR encNd 8 128 ((wq.setCell ⟨w2.heap.size, 80, none⟩ (.int .i64 ((downT x T []).1.length : Int))).drew) 0 (.slice (some ⟨g, 0, none⟩) (ns).length cap) ns := by rw [hlx]; exact TP1.row
  have a3 := (nd_cells hrowx hq 3 _ rfl).1
  have a4 := (nd_cells hrowx hq 4 _ rfl).1
  have a80 := P1.n
  rw [pth_len] at a80
  have hqlt := (List.getElem?_eq_some_iff.1 hq).1
  have hqi : ((p : Nat) : Int) < (ns.length : Int) := by first | omega | (have := hqlt; simp only [List.length_set] at this; omega)
  have HOK := Lib.hid OK
  have hFlen := OK.len
  unfold RPost at CA
  rw [← hmx] at CA
  dsimp only at a3 a4
  have hmxc : (li < ri ∧ max li ri = ri) ∨ (ri ≤ li ∧ max li ri = li) := by omega
  have HMX := Lib.hid hmx
  clear TP TP1 P1 OK hq hmx hrowx hlx
  generalize hM : max li ri = M at *
  rcases hmxc with ⟨hlr, hM2⟩ | ⟨hlr, hM2⟩
  all_goals
    subst hM2
    go_wp2_with fail
    refine wp_plan [([0, 1, 3, 7, 12, 16, 2, 4, 13, 5, 14, 6, 15, 8, 17, 9, 18, 10, 19, 11, 20], 21, [1, 2]), ([], 22, [])] [] (by kernel_rfl) (by kernel_rfl) ?_
    simp only [wpSegs, opsOf, List.map_cons, List.map_nil, opN, List.getD_cons_zero, List.getD_cons_succ]
    go_wp2_with fail
    refine ⟨by first | trivial | rfl, ?_⟩
    go_wp2_with fail
    refine ⟨?agX, ?_⟩
    case agX =>
      intro i hi hw
      simp only [List.mem_cons, List.not_mem_nil, or_false] at hi
      rcases hi with rfl | rfl
      all_goals (simp only [opN, List.getD_cons_zero, List.getD_cons_succ, slotOf]; go_simp)
    go_wp2_with fail
    refine ⟨by first | trivial | rfl, ?_⟩
    go_wp2_with fail
    refine CA.out.mono ?_
    rintro e w5 ⟨rfl, T5, m5⟩
    have hqF : p ∉ (downT x T []).1.flatMap Fr.places := fun e => (List.nodup_cons.1 HOK.out.nodup).1 (List.mem_append_right _ e)
    have hz := hang_set (ns := ns) (root := T.at_) (F := (downT x T []).1) (below := M) Nd.zero hqF
    have hhl := hangTop_len ns T.at_ (downT x T []).1 M
    have c51 := cell_blk T5.blk 1
    have T5' : TreeAt w5 b (.slice (some ⟨g, 0, none⟩) (hangTop ns T.at_ (pth (downT x T []).1) M).1.length cap) (.slice fa fr.length fc) (hangTop ns T.at_ (pth (downT x T []).1) M).1 fr (hangTop ns T.at_ (pth (downT x T []).1) M).2 T.size := by first | (rw [hhl]; exact T5) | (rw [hhl, List.length_set]; exact T5)
    obtain ⟨w6, rput, mput, T6⟩ := T5'.put (by rw [hhl]; exact hqlt) Nd.zero
    rw [hz.1, hz.2] at T6
    simp only [hangTop_len, List.length_set] at T6
    obtain ⟨fv', wa, wb, ra, rs, T7, m7, hheir⟩ := tree_free T6 (p : Int) (by omega)
    obtain ⟨T8, m8⟩ := T7.many ((T.size : Int) - 1)
    have c62 := cell_blk T6.blk 2
    have c74 := cell_blk T7.blk 4
    have f74 := frozen_blk T7.blk 4
    simp only [List.getElem?_toArray, List.getElem?_cons_succ, List.getElem?_cons_zero] at c51 c62 c74
    have hgn : w2.heap.size ≠ g := fun e => HPN.out.2.1 (by simp [Value.ownBlock, e])
    have hpA : w2.heap.size ∉ b :: blk (.slice (some ⟨g, 0, none⟩) ns.length cap) := by
      simp only [List.mem_cons, not_or]
      exact ⟨HPN.out.1, fun e => HPN.out.2.1 (mem_blk.1 e)⟩
    have hpB : w2.heap.size ∉ b :: blk (.slice fa fr.length fc) := by
      simp only [List.mem_cons, not_or]
      exact ⟨HPN.out.1, fun e => HPN.out.2.2 (mem_blk.1 e)⟩
    have HP8 := Lib.hid ((((HP1.out.kept m5 hpA).kept mput (by simpa using hgn)).kept m7 hpB).kept m8 (by simpa using HPN.out.1))
    have hcl := HOK.out.clear Nd.zero
    have hnd2 := (List.nodup_cons.1 HOK.out.nodup).2
    rw [HMX.out] at T8
    have HW8 := Lib.hid (Mod.into' (Mod.into' (Mod.into' (Mod.into' (Mod.into' (HMQ.out) (MP1.out) (fun k hk => .inl (by simp at hk; subst hk; exact Nat.le_of_lt HSZW.out))) m5 (fun k hk => .inr (by simp only [List.mem_cons, List.mem_append] at hk ⊢; rcases hk with h | h; exact .inl h; exact .inr (.inl h)))) mput (fun k hk => .inr (by simp at hk; simp [hk, blk, Value.ownBlock]))) m7 (fun k hk => .inr (by simp only [List.mem_cons, List.mem_append] at hk ⊢; rcases hk with h | h; exact .inl h; exact .inr (.inr h)))) m8 (fun k hk => .inr (by simp at hk; simp [hk])))
    have CM := Lib.hid (mend_at (T := r) (ns := ns.set p Nd.zero) (root := T.at_) T8 HP8.out HPN.out.1 HPN.out.2.1 hcl.1 hcl.2 hnd2 (by have := HOK.out.hc; omega) (fun f hf => by have := HOK.out.high f hf; omega) (by omega))
    have HHEIR := Lib.hid (show fv'.ownBlock = (Value.slice fa fr.length fc).ownBlock ∨ ∀ k, fv'.ownBlock = some k → w.heap.size ≤ k from hheir.imp id (fun h k hk => by
      have h1 := h k hk
      have h2 := m5.size
      have h3 := mput.size
      have h4 := MP1.out.size
      have h5 := HMQ.out.size
      omega))
    have RPUT := Lib.hid rput
    have RA := Lib.hid ra
    have RS := Lib.hid rs
    simp only [encNd, Nd.zero] at RPUT
    clear T5 T5' T6 T7 T8 m5 mput m7 m8 rput ra rs hz hhl hcl hnd2 hheir CA
    go_wp2_with fail
    refine ⟨again_nil, ?_⟩
    go_wp2_with fail
    refine ⟨by first | trivial | rfl, ?_⟩
    go_wp2_with (first | ((with_reducible refine xStoreAt rfl RPUT.out ?_ ?_ ?_ ?_); exact rfl; exact rfl; exact rfl) | ((with_reducible refine xAppendAt RA.out rfl rfl ?_ ?_ ?_ ?_); exact rfl; exact rfl; exact rfl) | ((with_reducible refine xStoreAt rfl RS.out ?_ ?_ ?_ ?_); exact rfl; exact rfl; exact rfl))
    refine CM.out.mono ?_
    rintro e w8 ⟨rfl, ns8, T9, r9, l9, _, m9⟩
    rw [HOK.out.plug] at T9 r9
    have HE := Lib.hid (del_end HS.out HX.out hdn.out T9 r9 (by rw [l9]; simp) (Mod.into' HW8.out m9 (fun k hk => .inr (by simp only [List.mem_cons, List.mem_append] at hk ⊢; rcases hk with h | h; exact .inl h; exact .inr (.inl h)))) HHEIR.out)
    clear T9 r9 m9 CM
    go_wp2_with fail
    go_ret
    exact ⟨rfl, HE.out⟩
set_option maxHeartbeats 8000000 in
theorem delete_r {w : World} {b : Nat} {nv fv : Value} {ns : List Nd} {fr : List Int} {T : Tr} (S : AvlSt w b nv fv ns fr T) (x : It) (hx : x ∈ T.items) (hsz : T.size ≤ 100000) (hns : ns.length ≤ 100000) {p : Nat} {p1 : Nat} {l1 : Tr} {y1 : It} {r1 : Tr} (hf : (downT x T []).2 = .node p (.node p1 l1 y1 r1) x .nil) :
    Calls Tryz.prog 39 #[.pointer (some ⟨b, 0, none⟩), itV x] w fun e w' => e = .returned (.int .i64 0) ∧ DelPost w b nv fv ns fr x T w' := by
  have HS := Lib.hid S
  have HX := Lib.hid hx
  have hT34 := ht_small S.avl (by omega)
  have hT0 := ht_nonneg T
  have m0 := (Mod.refl [] w).alloc (.cells #[.int .i64 x.f, .int .i64 x.t, .int .i64 x.i] 70)
  have C1 := Lib.hid (none_at (S.tree.kept0 m0))
  have C2 := Lib.hid (down_at (S.tree.kept0 m0) rfl S.rep (by omega) x)
  have M0 := Lib.hid m0
  unfold itV at C2 ⊢
  clear S hx m0
  go_enter Tryz.func39, Tryz.ntmps39
  go_wp2_with fail
  refine C1.out.mono ?_
  rintro e w1 ⟨rfl, rfl⟩
  go_wp2_with fail
  refine C2.out.mono ?_
  rintro e w2 ⟨m2, C, hC⟩
  rw [hf] at hC
  obtain ⟨rfl, hP⟩ := hC
  have ma := (Mod.refl [] w2).alloc (.cells Tryz.zeroCells124 124)
  obtain ⟨w3, hst, mst, gst⟩ := store_blk2 (P := Tryz.prog) 124 (heap_alloc_new w2 (.cells Tryz.zeroCells124 124)) (by rw [hP.size]; rfl) (by rw [sizePath, hP.size]) hP.one
  have m3 : Mod [] w w3 := Mod.into' ((M0.out.trans m2).trans ma) mst (fun k hk => .inl (by
    simp only [List.mem_singleton] at hk
    subst hk
    have := (M0.out.trans m2).size
    exact this))
  have T3 := HS.out.tree.kept0 m3
  have HPC := Lib.hid hP
  have HGST := Lib.hid gst
  have HST := Lib.hid hst
  have HM3 := Lib.hid m3
  have HT3 := Lib.hid T3
  have hszw : w.heap.size < w2.heap.size := by
    have := m2.size
    simp only [World.size_alloc] at this
    omega
  obtain ⟨q1, q2, q3⟩ := (downT_rest x T [] HS.out.rep (fun f hf => by cases hf)).2 |> (fun h => by rw [hf] at h; exact h)
  obtain ⟨g, cap, hnv, _, hcap⟩ := T3.row.at_ q1
  have hplt := (List.getElem?_eq_some_iff.1 q1).1
  obtain ⟨fa, fc, hfv⟩ := T3.free.lens
  subst hnv hfv
  have hpi : ((p : Nat) : Int) < (ns.length : Int) := by omega
  have hfl : fr.length ≤ 100000 := by have := HS.out.full; omega
  have c1 := cell_blk T3.blk 1
  simp only [List.getElem?_toArray, List.getElem?_cons_succ, List.getElem?_cons_zero] at c1
  have hn80 := cell_blk gst 80
  rw [hP.n] at hn80
  simp only [List.length_append, List.length_singleton, pth_len] at hn80
  have hFl := downT_len x T []
  rw [hf] at hFl
  simp only [List.length_nil] at hFl
  have hnn := ht_nonneg (Tr.node p (.node p1 l1 y1 r1) x .nil)
  have hl0 := ht_nonneg (.node p1 l1 y1 r1)
  have hr0 := ht_nonneg .nil
  have hF40 : (downT x T []).1.length < 40 := by omega
  have hat := (hP.get (downT x T []).1.length (p, false) (by rw [List.getElem?_append_right (by rw [pth_len]; exact Nat.le_refl _), pth_len]; simp)).1
  have hcat := cell_blk gst (downT x T []).1.length
  rw [hat] at hcat
  dsimp only at hcat
  have hy : w3.rangeAt g (p * 8) (encNd (nd (.node p1 l1 y1 r1) x .nil)) := fun j u hu => (nd_cells T3.row q1 j u hu).1
  have HLN := Lib.hid (run_loadAt_mid (P := Tryz.prog) _ g (p * 8) 128 (encNd (nd (.node p1 l1 y1 r1) x .nil)) _ hy Tryz.underlying128 rfl (by kernel_rfl))
  simp only [encNd, nd, at_] at HLN
  have HPN : Hid (w2.heap.size ≠ b ∧ (Value.slice (some ⟨g, 0, none⟩) ns.length cap).ownBlock ≠ some w2.heap.size ∧ (Value.slice fa fr.length fc).ownBlock ≠ some w2.heap.size) := Lib.hid (by
    have h1 := lt_of_heap HS.out.tree.blk
    refine ⟨by omega, fun e => ?_, fun e => ?_⟩
    · have := (World.ownsRow.lt HS.out.tree.row _ e).2; omega
    · have := (World.ownsRow.lt HS.out.tree.free _ e).2; omega)
  have HSZW := Lib.hid hszw
  clear m3 mst hst ma m2 hszw C1 C2 hat hy hFl gst
  obtain ⟨T', hdel, OK⟩ := del_one HS.out.rep HS.out.nodup hf (.inr rfl)
  go_upto_region 18 with (first | ((with_reducible refine xStoreAt rfl HST.out ?_ ?_ ?_ ?_); exact rfl; exact rfl; exact rfl) | ((with_reducible refine xLoadAt rfl HLN.out ?_ ?_ ?_); exact rfl; exact rfl))
  generalize hw4 : w3.alloc _ = wq
  have mq : Mod [] w3 wq := by rw [← hw4]; exact (Mod.refl [] w3).alloc _
  have TP := HT3.out.kept0 mq
  have HMQ := Lib.hid (((HM3.out).trans mq).nil (l := b :: (blk (.slice (some ⟨g, 0, none⟩) ns.length cap) ++ blk (.slice fa fr.length fc))))
  have HNL : Hid (ns.length = ns.length) := Lib.hid rfl
  have HPAQ : Hid (PathAt wq w2.heap.size ((pth (downT x T []).1).reverse ++ [(p, false)])) := Lib.hid ⟨HPC.out.len, C, mq.heap HGST.out (by simp), HPC.out.size, HPC.out.get, HPC.out.n⟩
  simp only [delTop] at OK
  have hdn := Lib.hid hdel
  have hqn := OK.node
  obtain ⟨xq, li, ri, hh, tt, hq, hmx⟩ := hqn
  obtain ⟨P1, mP, z80, f80⟩ := HPAQ.out.drop
  rw [pth_len] at P1 mP z80
  have TP1 := (TP.off mP (Ne.symm HPN.out.1) HPN.out.2.1 HPN.out.2.2).kept0 ((Mod.refl [] _).drew)
  have CA := Lib.hid (above_any TP1 (P1.kept ((Mod.refl [] _).drew) (by simp)) OK.rest (Tr.node p1 l1 y1 r1).at_)
  have HP1 := Lib.hid (P1.kept ((Mod.refl [] _).drew) (by simp))
  have MP1 := Lib.hid (mP.drew)
  have a1 := cell_blk TP1.blk 1
  simp only [List.getElem?_toArray, List.getElem?_cons_succ, List.getElem?_cons_zero] at a1
  have hlx : (ns).length = ns.length := by first | rfl | exact List.length_set
  have hrowx : OwnR encNd 8 128 ((wq.setCell ⟨w2.heap.size, 80, none⟩ (.int .i64 ((downT x T []).1.length : Int))).drew) 0 (.slice (some ⟨g, 0, none⟩) (ns).length cap) ns := by rw [hlx]; exact TP1.row
  have a3 := (nd_cells hrowx hq 3 _ rfl).1
  have a4 := (nd_cells hrowx hq 4 _ rfl).1
  have a80 := P1.n
  rw [pth_len] at a80
  have hqlt := (List.getElem?_eq_some_iff.1 hq).1
  have hqi : ((p : Nat) : Int) < (ns.length : Int) := by first | omega | (have := hqlt; simp only [List.length_set] at this; omega)
  have HOK := Lib.hid OK
  have hFlen := OK.len
  unfold RPost at CA
  rw [← hmx] at CA
  dsimp only at a3 a4
  have hmxc : (li < ri ∧ max li ri = ri) ∨ (ri ≤ li ∧ max li ri = li) := by omega
  have HMX := Lib.hid hmx
  clear TP TP1 P1 OK hq hmx hrowx hlx
  generalize hM : max li ri = M at *
  rcases hmxc with ⟨hlr, hM2⟩ | ⟨hlr, hM2⟩
  all_goals
    subst hM2
    go_wp2_with fail
    refine wp_plan [([0, 1, 3, 7, 12, 16, 2, 4, 13, 5, 14, 6, 15, 8, 17, 9, 18, 10, 19, 11, 20], 21, [1, 2]), ([], 22, [])] [] (by kernel_rfl) (by kernel_rfl) ?_
    simp only [wpSegs, opsOf, List.map_cons, List.map_nil, opN, List.getD_cons_zero, List.getD_cons_succ]
    go_wp2_with fail
    refine ⟨by first | trivial | rfl, ?_⟩
    go_wp2_with fail
    refine ⟨?agX, ?_⟩
    case agX =>
      intro i hi hw
      simp only [List.mem_cons, List.not_mem_nil, or_false] at hi
      rcases hi with rfl | rfl
      all_goals (simp only [opN, List.getD_cons_zero, List.getD_cons_succ, slotOf]; go_simp)
    go_wp2_with fail
    refine ⟨by first | trivial | rfl, ?_⟩
    go_wp2_with fail
    refine CA.out.mono ?_
    rintro e w5 ⟨rfl, T5, m5⟩
    have hqF : p ∉ (downT x T []).1.flatMap Fr.places := fun e => (List.nodup_cons.1 HOK.out.nodup).1 (List.mem_append_right _ e)
    have hz := hang_set (ns := ns) (root := T.at_) (F := (downT x T []).1) (below := M) Nd.zero hqF
    have hhl := hangTop_len ns T.at_ (downT x T []).1 M
    have c51 := cell_blk T5.blk 1
    have T5' : TreeAt w5 b (.slice (some ⟨g, 0, none⟩) (hangTop ns T.at_ (pth (downT x T []).1) M).1.length cap) (.slice fa fr.length fc) (hangTop ns T.at_ (pth (downT x T []).1) M).1 fr (hangTop ns T.at_ (pth (downT x T []).1) M).2 T.size := by first | (rw [hhl]; exact T5) | (rw [hhl, List.length_set]; exact T5)
    obtain ⟨w6, rput, mput, T6⟩ := T5'.put (by rw [hhl]; exact hqlt) Nd.zero
    rw [hz.1, hz.2] at T6
    simp only [hangTop_len, List.length_set] at T6
    obtain ⟨fv', wa, wb, ra, rs, T7, m7, hheir⟩ := tree_free T6 (p : Int) (by omega)
    obtain ⟨T8, m8⟩ := T7.many ((T.size : Int) - 1)
    have c62 := cell_blk T6.blk 2
    have c74 := cell_blk T7.blk 4
    have f74 := frozen_blk T7.blk 4
    simp only [List.getElem?_toArray, List.getElem?_cons_succ, List.getElem?_cons_zero] at c51 c62 c74
    have hgn : w2.heap.size ≠ g := fun e => HPN.out.2.1 (by simp [Value.ownBlock, e])
    have hpA : w2.heap.size ∉ b :: blk (.slice (some ⟨g, 0, none⟩) ns.length cap) := by
      simp only [List.mem_cons, not_or]
      exact ⟨HPN.out.1, fun e => HPN.out.2.1 (mem_blk.1 e)⟩
    have hpB : w2.heap.size ∉ b :: blk (.slice fa fr.length fc) := by
      simp only [List.mem_cons, not_or]
      exact ⟨HPN.out.1, fun e => HPN.out.2.2 (mem_blk.1 e)⟩
    have HP8 := Lib.hid ((((HP1.out.kept m5 hpA).kept mput (by simpa using hgn)).kept m7 hpB).kept m8 (by simpa using HPN.out.1))
    have hcl := HOK.out.clear Nd.zero
    have hnd2 := (List.nodup_cons.1 HOK.out.nodup).2
    rw [HMX.out] at T8
    have HW8 := Lib.hid (Mod.into' (Mod.into' (Mod.into' (Mod.into' (Mod.into' (HMQ.out) (MP1.out) (fun k hk => .inl (by simp at hk; subst hk; exact Nat.le_of_lt HSZW.out))) m5 (fun k hk => .inr (by simp only [List.mem_cons, List.mem_append] at hk ⊢; rcases hk with h | h; exact .inl h; exact .inr (.inl h)))) mput (fun k hk => .inr (by simp at hk; simp [hk, blk, Value.ownBlock]))) m7 (fun k hk => .inr (by simp only [List.mem_cons, List.mem_append] at hk ⊢; rcases hk with h | h; exact .inl h; exact .inr (.inr h)))) m8 (fun k hk => .inr (by simp at hk; simp [hk])))
    have CM := Lib.hid (mend_at (T := (.node p1 l1 y1 r1)) (ns := ns.set p Nd.zero) (root := T.at_) T8 HP8.out HPN.out.1 HPN.out.2.1 hcl.1 hcl.2 hnd2 (by have := HOK.out.hc; omega) (fun f hf => by have := HOK.out.high f hf; omega) (by omega))
    have HHEIR := Lib.hid (show fv'.ownBlock = (Value.slice fa fr.length fc).ownBlock ∨ ∀ k, fv'.ownBlock = some k → w.heap.size ≤ k from hheir.imp id (fun h k hk => by
      have h1 := h k hk
      have h2 := m5.size
      have h3 := mput.size
      have h4 := MP1.out.size
      have h5 := HMQ.out.size
      omega))
    have RPUT := Lib.hid rput
    have RA := Lib.hid ra
    have RS := Lib.hid rs
    simp only [encNd, Nd.zero] at RPUT
    clear T5 T5' T6 T7 T8 m5 mput m7 m8 rput ra rs hz hhl hcl hnd2 hheir CA
    go_wp2_with fail
    refine ⟨again_nil, ?_⟩
    go_wp2_with fail
    refine ⟨by first | trivial | rfl, ?_⟩
    go_wp2_with (first | ((with_reducible refine xStoreAt rfl RPUT.out ?_ ?_ ?_ ?_); exact rfl; exact rfl; exact rfl) | ((with_reducible refine xAppendAt RA.out rfl rfl ?_ ?_ ?_ ?_); exact rfl; exact rfl; exact rfl) | ((with_reducible refine xStoreAt rfl RS.out ?_ ?_ ?_ ?_); exact rfl; exact rfl; exact rfl))
    refine CM.out.mono ?_
    rintro e w8 ⟨rfl, ns8, T9, r9, l9, _, m9⟩
    rw [HOK.out.plug] at T9 r9
    have HE := Lib.hid (del_end HS.out HX.out hdn.out T9 r9 (by rw [l9]; simp) (Mod.into' HW8.out m9 (fun k hk => .inr (by simp only [List.mem_cons, List.mem_append] at hk ⊢; rcases hk with h | h; exact .inl h; exact .inr (.inl h)))) HHEIR.out)
    clear T9 r9 m9 CM
    go_wp2_with fail
    go_ret
    exact ⟨rfl, HE.out⟩
end Go.Proofs.YtngglpekdjhbdaaGreat
namespace Go.Proofs.YtngglpekdjhbdaaGreat
open Go.RowKit Go.ChangeMaps Go.Deep Tr
set_option linter.unusedSimpArgs false
set_option linter.unusedVariables false
set_option maxRecDepth 20000

theorem OwnR.setHead {α : Type} {enc : α → List Value} {k : Nat} {P : Program} {E T : TypeId} {w : World} {base : Nat} {l : List α} (hk : ∀ x, (enc x).length = k) {g cap : Nat} (h : OwnR enc k E w base (.slice (some ⟨g, 0, none⟩) l.length cap) l) {i : Nat} (hi : i < l.length) (part : List Value) (hpl : part.length ≤ k) (y : α) (hy : enc y = part ++ (enc l[i]).drop part.length) (hs : (P.info? T).map (·.size) = some part.length) (h1 : ∀ v ∈ part, v.oneCell' = true) :
    ∃ w', (Instr.storeAt T (.pointer (some ⟨g, i * k, none⟩)) (.agg part.toArray)).run P w = .ok () w' ∧ Mod [g] w w' ∧ OwnR enc k E w' base (.slice (some ⟨g, 0, none⟩) l.length cap) (l.set i y) := by
  rcases h.2 with ⟨e, _⟩ | ⟨g', cap', cur, e, hb, hg, hn, hcm, hcs, htake⟩
  · cases e
  · simp only [Value.slice.injEq, Option.some.injEq, Addr.mk.injEq, and_true, true_and] at e
    obtain ⟨rfl, rfl⟩ := e
    have hik : i * k + k ≤ l.length * k := by
      have := Nat.mul_le_mul_right k (show i + 1 ≤ l.length from hi)
      rwa [Nat.add_mul, Nat.one_mul] at this
    have hlk : l.length * k ≤ cap * k := Nat.mul_le_mul_right k hn
    have hcl : cur.toList.length = cap * k := by simpa using hcs
    have hsplit : cur.toList = cur.toList.take (i * k) ++ ((cur.toList.drop (i * k)).take part.length ++ cur.toList.drop (i * k + part.length)) := by
      rw [← List.drop_drop, List.take_append_drop, List.take_append_drop]
    have hpl2 : (cur.toList.take (i * k)).length = i * k := by rw [List.length_take]; omega
    have hml : ((cur.toList.drop (i * k)).take part.length).length = part.length := by rw [List.length_take, List.length_drop]; omega
    have hg' : w.heap[g]? = some (.cells (cur.toList.take (i * k) ++ ((cur.toList.drop (i * k)).take part.length ++ cur.toList.drop (i * k + part.length))).toArray E (0, 0)) := by
      rw [← hsplit]; simpa using hg
    obtain ⟨w', r, m, hh⟩ := store_at2 (P := P) T _ _ _ part hg' hml hs (by
      rw [Array.all_eq_true']
      intro v hv
      exact h1 v (by simpa using hv))
    rw [hpl2] at r
    have e1 : cur.toList.take (i * k) = flat enc (l.take i) := by
      rw [flat_take hk, ← htake, List.take_take, Nat.min_eq_left (by omega)]
    have e3 : (cur.toList.drop (i * k + part.length)).take (l.length * k - (i * k + part.length)) = (enc l[i]).drop part.length ++ flat enc (l.drop (i + 1)) := by
      have h3 : (flat enc l).drop (i * k) = enc l[i] ++ flat enc (l.drop (i + 1)) := by
        rw [← flat_drop hk, List.drop_eq_getElem_cons hi, flat_cons]
      have h4 : (cur.toList.drop (i * k + part.length)).take (l.length * k - (i * k + part.length)) = ((flat enc l).drop (i * k)).drop part.length := by
        rw [← htake, List.drop_drop, List.drop_take]
      rw [h4, h3, List.drop_append_of_le_length (by rw [hk]; exact hpl)]
    refine ⟨w', r, m, by rw [flat_length hk, List.length_set], .inr ⟨g, cap, _, by rw [List.length_set], hb, hh, by rw [List.length_set]; exact hn, hcm, ?_, ?_⟩⟩
    · simp only [List.size_toArray, List.length_append, hpl2, List.length_drop]
      omega
    · rw [List.length_set, List.toList_toArray, List.set_eq_take_append_cons_drop, if_pos hi, flat_append, flat_cons, ← e1, hy]
      rw [take_three _ _ _ _ (by rw [hpl2]; omega), hpl2, e3]
      simp
/-- an item is written into a node -/
theorem TreeAt.item {w : World} {b g cap : Nat} {fv : Value} {ns : List Nd} {fr : List Int} {root many : Int} (h : TreeAt w b (.slice (some ⟨g, 0, none⟩) ns.length cap) fv ns fr root many) {p : Nat} {l r : Tr} {x : It} (hp : ns[p]? = some (nd l x r)) (y : It) :
    ∃ w', (Instr.storeAt 70 (.pointer (some ⟨g, p * 8, none⟩)) (.agg #[.int .i64 y.f, .int .i64 y.t, .int .i64 y.i])).run Tryz.prog w = .ok () w' ∧ Mod [g] w w' ∧ TreeAt w' b (.slice (some ⟨g, 0, none⟩) (ns.set p (ndx l x r y)).length cap) fv (ns.set p (ndx l x r y)) fr root many := by
  have hlt := (List.getElem?_eq_some_iff.1 hp).1
  have e : ns[p] = nd l x r := (List.getElem?_eq_some_iff.1 hp).2
  obtain ⟨w', r', hm, ho⟩ := h.row.setHead (P := Tryz.prog) (T := 70) encNd_len hlt [.int .i64 y.f, .int .i64 y.t, .int .i64 y.i] (by simp) (ndx l x r y) (by rw [e]; rfl) (by kernel_rfl) (by intro v hv; simp at hv; rcases hv with rfl | rfl | rfl <;> rfl)
  have hbg : b ≠ g := fun e => h.bn (by simp [Value.ownBlock, e])
  refine ⟨w', r', hm, ?_, by rw [List.length_set]; exact ho, h.free.kept hm (fun k hk hm => ?_), by simpa [Value.ownBlock] using Ne.symm hbg, h.bf, fun k hk => h.nf k (by simpa [Value.ownBlock] using hk)⟩
  · rw [List.length_set]
    exact hm.heap h.blk (by simpa using hbg)
  · rw [List.mem_singleton] at hm
    subst hm
    exact h.nf k (by simp [Value.ownBlock]) hk
/-- the last step goes on to the right -/
theorem PathC.turn {C : Array Value} {ps : List (Nat × Bool)} {p : Nat} (h : PathC C (ps ++ [(p, false)])) : PathC (C.setIfInBounds (40 + ps.length) (.bool true)) (ps ++ [(p, true)]) := by
  have hs := h.size
  have hl := h.len
  simp only [List.length_append, List.length_singleton] at hl
  refine ⟨by simp [hs], set_all h.one rfl, fun i q hq => ?_, ?_, fun j h1 h2 => ?_, by simpa using hl⟩
  · have hi := (List.getElem?_eq_some_iff.1 hq).1
    simp only [List.length_append, List.length_singleton] at hi
    simp only [Array.getElem?_setIfInBounds]
    rw [if_neg (by omega)]
    by_cases hip : i < ps.length
    · rw [List.getElem?_append_left hip] at hq
      obtain ⟨g1, g2⟩ := h.get i q (by rw [List.getElem?_append_left hip]; exact hq)
      rw [if_neg (by omega)]
      exact ⟨g1, g2⟩
    · have e : i = ps.length := by omega
      subst e
      rw [List.getElem?_append_right (Nat.le_refl _)] at hq
      simp at hq
      subst hq
      have g1 := (h.get ps.length (p, false) (by rw [List.getElem?_append_right (Nat.le_refl _)]; simp)).1
      rw [if_pos rfl, if_pos (by omega)]
      exact ⟨g1, rfl⟩
  · simp only [Array.getElem?_setIfInBounds]
    rw [if_neg (by omega)]
    simpa using h.n
  · simp only [List.length_append, List.length_singleton] at h1
    simp only [Array.getElem?_setIfInBounds]
    rw [if_neg (by omega)]
    exact h.free j (by simpa using h1) h2
end Go.Proofs.YtngglpekdjhbdaaGreat
