/- Layer 8: a new tree; its root; a node that is asked for. -/
import Derived.Test.YtngglpekdjhbdaaGreatWzN
namespace Go.Proofs.YtngglpekdjhbdaaGreat
open Go.RowKit Go.ChangeMaps Go.Deep Tr
set_option linter.unusedSimpArgs false
set_option linter.unusedVariables false
set_option maxRecDepth 20000

theorem none_at {w : World} {b : Nat} {nv fv : Value} {ns : List Nd} {fr : List Int} {root many : Int} (h : TreeAt w b nv fv ns fr root many) : Calls Tryz.prog 63 #[.pointer (some ⟨b, 0, none⟩)] w fun e w' => e = .returned (.bool false) ∧ w' = w := by
  have c0 := cell_blk h.blk 0
  simp only [List.getElem?_toArray, List.getElem?_cons_succ, List.getElem?_cons_zero] at c0
  clear h
  go_enter Tryz.func63, Tryz.ntmps63
  go_wp2_with fail
  go_ret
  exact ⟨rfl, rfl⟩
namespace Tr
def leaf (x : It) : Nd := ⟨x, -1, -1, 1, x.t, true⟩
theorem leaf_eq (x : It) : leaf x = nd nil x nil := by
  simp [leaf, nd, at_, ht, top]
theorem downT_oht (x : It) : ∀ (T : Tr) (fs : List Fr), ∀ f ∈ (downT x T fs).1, f ∈ fs ∨ f.o.ht ≤ T.ht
  | nil, fs, f, hf => .inl hf
  | node p l y r, fs, f, hf => by
    have hl := ht_nonneg l
    have hr := ht_nonneg r
    unfold downT at hf
    split at hf
    · exact .inl hf
    · split at hf
      · rcases downT_oht x r _ f hf with h | h
        · rcases List.mem_cons.1 h with rfl | h
          · right; simp only [ht]; omega
          · exact .inl h
        · right; simp only [ht]; omega
      · rcases downT_oht x l _ f hf with h | h
        · rcases List.mem_cons.1 h with rfl | h
          · right; simp only [ht]; omega
          · exact .inl h
        · right; simp only [ht]; omega
/-- what balancing asks, behind a new leaf -/
structure InsOk (ns2 : List Nd) (q : Nat) (x : It) (T : Tr) (F : List Fr) : Prop where
  rep : (node q nil x nil).rep ns2
  rest : RestOk ns2 F
  nodup : ((node q nil x nil).places ++ F.flatMap Fr.places).Nodup
  plug : plugM (node q nil x nil) F = ins q x T
  high : ∀ f ∈ F, f.o.ht ≤ T.ht
  len : (F.length : Int) ≤ T.ht
theorem ins_ok {ns1 : List Nd} {q : Nat} {z : Nd} {x : It} {T : Tr} (hrep : T.rep ns1) (hq : ns1[q]? = some z) (hqT : q ∉ T.places) (hnd : T.places.Nodup) (hx : x ∉ T.items) : InsOk (ns1.set q (leaf x)) q x T (downT x T []).1 := by
  obtain ⟨e1, e2⟩ := downT_ins q x T [] hx
  obtain ⟨r1, r2⟩ := downT_rest x T [] hrep (fun f hf => by cases hf)
  have hp := downT_places x T []
  rw [e1] at hp
  simp only [places, List.nil_append, List.flatMap_nil, List.append_nil] at hp
  have hl := downT_len x T []
  rw [e1] at hl
  simp only [ht, List.length_nil] at hl
  refine ⟨⟨?_, trivial, trivial⟩, r1.congr fun i hi => set_other (fun e => hqT (by rw [← e]; exact hp.mem_iff.1 hi)), ?_, e2, fun f hf => ?_, by omega⟩
  · rw [← leaf_eq]; exact set_self hq
  · simp only [places, List.nil_append, List.append_nil, List.cons_append]
    refine List.nodup_cons.2 ⟨fun h => hqT (hp.mem_iff.1 h), hp.nodup_iff.2 hnd⟩
  · rcases downT_oht x T [] f hf with h | h
    · cases h
    · exact h
theorem ins_srt (q : Nat) (x : It) (T : Tr) (hS : srt T) (hx : x ∉ T.items) : srt (ins q x T) := by
  unfold srt at *
  rw [ins_items q x T hS hx]
  refine List.pairwise_append.2 ⟨hS.filter _, List.pairwise_cons.2 ⟨fun y hy => ?_, hS.filter _⟩, fun a ha c hc => ?_⟩
  · have := (List.mem_filter.1 hy).2
    simp only [decide_eq_true_eq] at this
    exact ordI_flip.2 this
  · have h1 := (List.mem_filter.1 ha).2
    simp only [decide_eq_true_eq] at h1
    rcases List.mem_cons.1 hc with rfl | hc
    · exact h1
    · have h2 := (List.mem_filter.1 hc).2
      simp only [decide_eq_true_eq] at h2
      exact ordI_trans h1 (ordI_flip.2 h2)
theorem ins_size (q : Nat) (x : It) (T : Tr) : (ins q x T).size = T.size + 1 := by
  rw [← places_len, (ins_places q x T).length_eq, List.length_cons, places_len]
theorem ht_small {T : Tr} (hA : T.avl) (h : T.size ≤ 100000) : T.ht ≤ 34 := by
  have := ht_le hA 17 (by omega)
  omega
end Tr
theorem elemNode : ElemOk Tryz.prog 86 128 8 64 := .mk' Tryz.underlying86 (by omega) (by kernel_rfl)
/-- a node more -/
theorem tree_grow {w : World} {b : Nat} {nv fv : Value} {ns : List Nd} {fr : List Int} {root many : Int} (h : TreeAt w b nv fv ns fr root many) (hlen : ns.length < 1073741824) :
    ∃ nv' w1 w2, (Builtin.append_ #[86, 86] 86 #[nv, .slice (some ⟨w.heap.size, 0, none⟩) 1 1]).run Tryz.prog (w.alloc (.cells (encNd Nd.zero).toArray 128)) = .ok nv' w1 ∧
      (Instr.storeAt 86 (.pointer (some ⟨b, 1, none⟩)) nv').run Tryz.prog w1 = .ok () w2 ∧ TreeAt w2 b nv' fv (ns ++ [Nd.zero]) fr root many ∧ Mod (b :: blk nv) w w2 ∧ (nv'.ownBlock = nv.ownBlock ∨ ∀ k, nv'.ownBlock = some k → w.heap.size ≤ k) ∧
      w1.cell? ⟨b, 1, none⟩ = some nv ∧ w1.frozen? ⟨b, 1, none⟩ = false := by
  obtain ⟨nv', w1, r1, o1, g1⟩ := own_append1 (P := Tryz.prog) elemNode encNd_len encNd_one h.row (by omega) (ty := 86) Nd.zero hlen (by omega)
  have hbn : b ∉ blk nv := fun e => h.bn (mem_blk.1 e)
  have hb1 := g1.mod.heap h.blk hbn
  have hfree := h.free.kept g1.mod (fun k hk hm => h.nf k (mem_blk.1 hm) hk)
  have hblt := lt_of_heap h.blk
  have hnew : ∀ k, nv'.ownBlock = some k → k ≠ b ∧ fv.ownBlock ≠ some k := fun k hk => by
    rcases g1.heir with e | e
    · rw [e] at hk
      exact ⟨fun e => h.bn (e ▸ hk), h.nf k hk⟩
    · have := e k hk
      refine ⟨by omega, fun hf => ?_⟩
      have := (World.ownsRow.lt h.free k hf).2
      omega
  have h1c : (#[nv'] : Array Value).all (·.oneCell') = true ∧ nv'.cells = #[nv'] := by
    rcases o1.2 with ⟨rfl, _⟩ | ⟨g, cap, cur, rfl, _⟩ <;> simp [Value.oneCell', Value.cells]
  refine ⟨nv', w1, w1.setCell ⟨b, 1, none⟩ nv', r1, run_storeAt_blk hb1 (by simp) 86 (by kernel_rfl) h1c.2 (by simpa using h1c.1), ?_, ?_, g1.heir, by rw [cell_blk hb1]; rfl, frozen_blk hb1 1⟩
  · have hm : Mod [b] w1 (w1.setCell ⟨b, 1, none⟩ nv') := (Mod.refl _ _).setCell (by simp) _
    refine ⟨?_, o1.kept hm (fun k hk hb => (hnew k hk).1 (by simpa using hb)), hfree.kept hm (fun k hk hb => h.bf (by rw [List.mem_singleton] at hb; rw [← hb]; exact hk)), fun e => (hnew b e).1 rfl, h.bf, fun k hk => (hnew k hk).2⟩
    rw [heap_setCell_blk hb1]
    simp
  · exact Mod.into' (Mod.into' (Mod.refl _ w) g1.mod (fun k hk => .inr (by simp [hk]))) ((Mod.refl [b] w1).setCell (by simp) _) (fun k hk => .inr (by simp at hk; simp [hk]))
end Go.Proofs.YtngglpekdjhbdaaGreat
namespace Go.Proofs.YtngglpekdjhbdaaGreat
open Go.RowKit Go.ChangeMaps Go.Deep Tr
set_option linter.unusedSimpArgs false
set_option linter.unusedVariables false
set_option maxRecDepth 20000

/-- what Insert leaves -/
def InsPost (w : World) (b : Nat) (nv fv : Value) (ns : List Nd) (x : It) (T : Tr) (w' : World) : Prop :=
  ∃ q nv' fv' ns' fr', AvlSt w' b nv' fv' ns' fr' (ins q x T) ∧ ns'.length ≤ max ns.length (T.size + 1) ∧ Mod (b :: blk nv) w w' ∧ (nv'.ownBlock = nv.ownBlock ∨ ∀ k, nv'.ownBlock = some k → w.heap.size ≤ k) ∧ fv'.ownBlock = fv.ownBlock
theorem ins_end {w w' : World} {b : Nat} {nv fv nv' fv' : Value} {ns ns1 ns' : List Nd} {fr fr' : List Int} {x : It} {T : Tr} {q : Nat} (S : AvlSt w b nv fv ns fr T) (hx : x ∉ T.items) (hqT : q ∉ T.places) (ht : TreeAt w' b nv' fv' ns' fr' (ins q x T).at_ ((T.size : Int) + 1)) (hr : (ins q x T).rep ns')
    (hlen : ns'.length = ns1.length) (h1 : ns1.length ≤ max ns.length (T.size + 1)) (hfull : ns1.length = T.size + 1 + fr'.length) (hfr : ∀ i ∈ fr', ∃ k : Nat, i = k ∧ k < ns1.length ∧ k ∉ T.places ∧ k ≠ q) (hfn : fr'.Nodup)
    (hm : Mod (b :: blk nv) w w') (hn : nv'.ownBlock = nv.ownBlock ∨ ∀ k, nv'.ownBlock = some k → w.heap.size ≤ k) (hf : fv'.ownBlock = fv.ownBlock) : InsPost w b nv fv ns x T w' := by
  refine ⟨q, nv', fv', ns', fr', ⟨?_, hr, (ins_avl q x T S.avl).1, ins_srt q x T S.srt hx, ?_, fun i hi => ?_, hfn, ?_⟩, by omega, hm, hn, hf⟩
  · rw [ins_size]
    have e : ((T.size + 1 : Nat) : Int) = (T.size : Int) + 1 := by omega
    rw [e]
    exact ht
  · exact (ins_places q x T).nodup_iff.2 (List.nodup_cons.2 ⟨hqT, S.nodup⟩)
  · obtain ⟨k, rfl, k1, k2, k3⟩ := hfr i hi
    refine ⟨k, rfl, by omega, fun h => ?_⟩
    rcases List.mem_cons.1 ((ins_places q x T).mem_iff.1 h) with h | h
    · exact k3 h
    · exact k2 h
  · rw [ins_size, hlen, hfull]
theorem above_any {w : World} {b pb : Nat} {nv fv : Value} {ns : List Nd} {fr : List Int} {root many : Int} (h : TreeAt w b nv fv ns fr root many) {F : List Fr} (P : PathAt w pb (pth F).reverse) (hF : RestOk ns F) (below : Int) :
    Calls Tryz.prog 65 #[.pointer (some ⟨b, 0, none⟩), .pointer (some ⟨pb, 0, none⟩), .int .i64 F.length, .int .i64 below] w (RPost w b nv fv (hangTop ns root (pth F) below).1 fr (hangTop ns root (pth F) below).2 many (.tuple #[])) := by
  cases F with
  | nil => exact above_first h below
  | cons g F3 =>
    obtain ⟨⟨lk, hh, t, hg⟩, _⟩ := hF g (by simp)
    have := above_on h P (suffix_get (List.suffix_refl (g :: F3))) hg below
    simp only [List.length_cons]
    rw [show ((F3.length + 1 : Nat) : Int) = (F3.length : Int) + 1 by omega]
    exact this
set_option maxHeartbeats 8000000 in
theorem insert_at {w : World} {b : Nat} {nv fv : Value} {ns : List Nd} {fr : List Int} {T : Tr} (S : AvlSt w b nv fv ns fr T) (x : It) (hx : x ∉ T.items) (hxt : x.f < x.t) (hsz : T.size < 100000) (hns : ns.length ≤ 100000) :
    Calls Tryz.prog 40 #[.pointer (some ⟨b, 0, none⟩), itV x] w fun e w' => e = .returned (.int .i64 0) ∧ InsPost w b nv fv ns x T w' := by
  have HS := Lib.hid S
  have HX := Lib.hid hx
  have hT34 := ht_small S.avl (by omega)
  have hT0 := ht_nonneg T
  have m0 := (Mod.refl [] w).alloc (.cells #[.int .i64 x.f, .int .i64 x.t, .int .i64 x.i] 70)
  have C1 := Lib.hid (none_at (S.tree.kept0 m0))
  have C2 := Lib.hid (down_at (S.tree.kept0 m0) rfl S.rep (by omega) x)
  have M0 := Lib.hid m0
  have hi0 := heap_alloc_new w (.cells #[.int .i64 x.f, .int .i64 x.t, .int .i64 x.i] 70)
  have HI0 := Lib.hid hi0
  have hge : decide (x.t ≤ x.f) = false := decide_eq_false (by omega)
  unfold itV at C2 ⊢
  clear S hx m0 hi0
  go_enter Tryz.func40, Tryz.ntmps40
  go_wp2_with fail
  refine C1.out.mono ?_
  rintro e w1 ⟨rfl, rfl⟩
  go_wp2_with fail
  refine C2.out.mono ?_
  rintro e w2 ⟨m2, C, hC⟩
  rw [(downT_ins 0 x T [] HX.out).1] at hC
  obtain ⟨rfl, hP⟩ := hC
  have ma := (Mod.refl [] w2).alloc (.cells Tryz.zeroCells124 124)
  obtain ⟨w3, hst, mst, gst⟩ := store_blk2 (P := Tryz.prog) 124 (heap_alloc_new w2 (.cells Tryz.zeroCells124 124)) (by rw [hP.size]; rfl) (by rw [sizePath, hP.size]) hP.one
  have m3 : Mod [] w w3 := Mod.into' ((M0.out.trans m2).trans ma) mst (fun k hk => .inl (by
    simp only [List.mem_singleton] at hk
    subst hk
    have := (M0.out.trans m2).size
    exact this))
  have hi3 := mst.heap (ma.heap (m2.heap HI0.out (by simp)) (by simp)) (by
    simp only [List.mem_singleton]
    have := m2.size
    simp only [World.size_alloc] at this
    omega)
  have T3 := HS.out.tree.kept0 m3
  have HPA : Hid (PathAt w3 w2.heap.size (pth (downT x T []).1).reverse) := Lib.hid ⟨hP.len, C, gst, hP.size, hP.get, hP.n⟩
  have HST := Lib.hid hst
  have HM3 := Lib.hid m3
  have HT3 := Lib.hid T3
  have HI3 := Lib.hid hi3
  have hszw : w.heap.size < w2.heap.size := by
    have := m2.size
    simp only [World.size_alloc] at this
    omega
  have HW := Lib.hid hszw
  have c0 := cell_blk T3.blk 0
  have c1 := cell_blk T3.blk 1
  have c2 := cell_blk T3.blk 2
  have c4 := cell_blk T3.blk 4
  simp only [List.getElem?_toArray, List.getElem?_cons_succ, List.getElem?_cons_zero] at c0 c1 c2 c4
  have hmm : ((T.size : Int) == 1000000) = false := by simp; omega
  obtain ⟨na, nc, hnv⟩ := T3.row.lens
  obtain ⟨fa, fc, hfv⟩ := T3.free.lens
  subst hnv hfv
  have hfl : fr.length ≤ 100000 := by have := HS.out.full; omega
  clear T3 m3 hi3 gst mst hst ma m2 hP hszw C1 C2
  have HPN : Hid (w2.heap.size ∉ b :: blk (.slice na ns.length nc)) := Lib.hid (by
    simp only [List.mem_cons, not_or]
    have h1 := lt_of_heap HS.out.tree.blk
    have h2 := HW.out
    refine ⟨by omega, fun e => ?_⟩
    have := (World.ownsRow.lt HS.out.tree.row _ (mem_blk.1 e)).2
    omega)
  go_wp2_with ((with_reducible refine xStoreAt rfl HST.out ?_ ?_ ?_ ?_); exact rfl; exact rfl; exact rfl)
  refine wp_plan [] [0, 4, 1, 5, 2, 6, 3, 7, 8, 9] (by kernel_rfl) (by kernel_rfl) ?_
  simp only [wpSegs, opsOf, List.map_cons, List.map_nil, opN, List.getD_cons_zero, List.getD_cons_succ]
  by_cases hfr : fr.length = 0
  · have hfr1 : ¬ (0 : Int) < (fr.length : Int) := by omega
    obtain ⟨nv', wa, wq, ra, rs, TG, mg, hheir, g1, g2⟩ := tree_grow (HT3.out.kept0 ((Mod.refl [] w3).drew)) (by omega)
    have RA := Lib.hid ra
    have RS := Lib.hid rs
    go_wp2_with (first | ((with_reducible refine xAppendAt RA.out rfl rfl ?_ ?_ ?_ ?_); exact rfl; exact rfl; exact rfl) | ((with_reducible refine xStoreAt rfl RS.out ?_ ?_ ?_ ?_); exact rfl; exact rfl; exact rfl))
    have mq : Mod (b :: blk (.slice na ns.length nc)) w3 wq := ((Mod.refl _ w3).drew).trans mg
    obtain ⟨g, cap, hnv', _, _⟩ := TG.row.at_ (p := ns.length) (x := Nd.zero) (by simp)
    subst hnv'
    have hqT : ns.length ∉ T.places := fun h => by have := rep_lt HS.out.rep _ h; omega
    have hqz : (ns ++ [Nd.zero])[ns.length]? = some Nd.zero := by simp
    have REPQ : T.rep (ns ++ [Nd.zero]) := rep_congr (fun i hi => by rw [List.getElem?_append_left (rep_lt HS.out.rep i hi)]) HS.out.rep
    have hfull := HS.out.full
    have HFULL := Lib.hid (show (ns ++ [Nd.zero]).length = T.size + 1 + fr.length by simp; omega)
    have HL1 := Lib.hid (show (ns ++ [Nd.zero]).length ≤ max ns.length (T.size + 1) by simp; omega)
    have hfnil : fr = [] := List.eq_nil_of_length_eq_zero hfr
    have HFR := Lib.hid (show ∀ i ∈ fr, ∃ k : Nat, i = k ∧ k < (ns ++ [Nd.zero]).length ∧ k ∉ T.places ∧ k ≠ ns.length from by rw [hfnil]; intro i hi; cases hi)
    have HFN := Lib.hid HS.out.fnd
    have HFV : Hid ((Value.slice fa fr.length fc).ownBlock = (Value.slice fa fr.length fc).ownBlock) := Lib.hid rfl
    have hw3 := HM3.out.size
    have HHEIR := Lib.hid (show (Value.slice (some ⟨g, 0, none⟩) (ns ++ [Nd.zero]).length cap).ownBlock = (Value.slice na ns.length nc).ownBlock ∨ ∀ k, (Value.slice (some ⟨g, 0, none⟩) (ns ++ [Nd.zero]).length cap).ownBlock = some k → w.heap.size ≤ k from hheir.imp id (fun h k hk => Nat.le_trans hw3 (h k hk)))
    have HBK := Lib.hid (show ∀ k ∈ b :: blk (.slice (some ⟨g, 0, none⟩) (ns ++ [Nd.zero]).length cap), w.heap.size ≤ k ∨ k ∈ b :: blk (.slice na ns.length nc) from fun k hk => by
      rcases List.mem_cons.1 hk with rfl | hk
      · exact .inr (by simp)
      · rcases HHEIR.out with e | e
        · exact .inr (List.mem_cons_of_mem _ (mem_blk.2 (e ▸ mem_blk.1 hk)))
        · exact .inl (e k (mem_blk.1 hk)))
    have HMQ := Lib.hid ((HM3.out.nil (l := b :: blk (.slice na ns.length nc))).trans mq)
    have HPQ := Lib.hid (HPA.out.kept mq HPN.out)
    have HIQ := Lib.hid (mq.heap HI3.out (by
      simp only [List.mem_cons, not_or]
      have h1 := lt_of_heap HS.out.tree.blk
      refine ⟨by omega, fun e => ?_⟩
      have := (World.ownsRow.lt HS.out.tree.row _ (mem_blk.1 e)).2
      omega))
    have HPNQ := Lib.hid (show w2.heap.size ∉ b :: blk (.slice (some ⟨g, 0, none⟩) (ns ++ [Nd.zero]).length cap) from fun e => by
      rcases List.mem_cons.1 e with e | e
      · exact HPN.out (by simp [e])
      · rcases hheir with h | h
        · exact HPN.out (List.mem_cons_of_mem _ (mem_blk.2 (h ▸ mem_blk.1 e)))
        · have h2 := h _ (mem_blk.1 e)
          have h3 := lt_of_heap HPA.out.ex.choose_spec.1
          have h4 : w3.drew.heap.size = w3.heap.size := rfl
          omega)
    have TP := TG
    generalize ns ++ [Nd.zero] = ns1 at *
    clear mq mg TG RA RS ra rs g1 g2 hfnil hfull hw3 hheir c0 c1 c2 c4 hmm
    have hqlt := (List.getElem?_eq_some_iff.1 hqz).1
    have hqi : ((ns.length : Nat) : Int) < (ns1.length : Int) := by omega
    obtain ⟨w6, rput, mput, TQ⟩ := (TP.kept0 ((Mod.refl [] wq).drew)).put hqlt (leaf x)
    have OK := ins_ok (x := x) REPQ hqz hqT HS.out.nodup HX.out
    obtain ⟨TM, mM⟩ := TQ.many ((T.size : Int) + 1)
    have m6 : Mod (b :: blk (.slice (some ⟨g, 0, none⟩) ns1.length cap)) wq (w6.setCell ⟨b, 4, none⟩ (.int .i64 ((T.size : Int) + 1))) := Mod.into' (Mod.into' (Mod.refl _ wq) (((Mod.refl _ wq).drew).trans mput) (fun k hk => .inr (by simp at hk; simp [hk, blk, Value.ownBlock]))) mM (fun k hk => .inr (by simp at hk; simp [hk]))
    have HP6 := Lib.hid (HPQ.out.kept m6 HPNQ.out)
    have RPUT := Lib.hid rput
    have cI0 := cell_blk (HIQ.out) 0
    have cI1 := cell_blk (HIQ.out) 1
    have cI2 := cell_blk (HIQ.out) 2
    simp only [List.getElem?_toArray, List.getElem?_cons_succ, List.getElem?_cons_zero] at cI0 cI1 cI2
    have d1 := cell_blk TP.blk 1
    have d4 := cell_blk TQ.blk 4
    have e4 := frozen_blk TQ.blk 4
    simp only [List.getElem?_toArray, List.getElem?_cons_succ, List.getElem?_cons_zero] at d1 d4
    have hn80 := HP6.out.n
    rw [pth_len] at hn80
    have CA := Lib.hid (above_any TM HP6.out OK.rest (ns.length : Int))
    unfold RPost at CA
    have HOK := Lib.hid OK
    have HM6 := Lib.hid m6
    have HLEN := Lib.hid (show (ns1.set ns.length (leaf x)).length = ns1.length by simp)
    rw [HLEN.out] at CA
    simp only [leaf, encNd] at RPUT
    clear TM mM TQ mput OK m6 rput TP
    go_wp2_with fail
    refine wp_plan [([0, 4, 5, 6, 1, 7, 2, 3], 8, [1, 2, 3]), ([], 9, [1, 2, 3]), ([10], 11, [])] [] (by kernel_rfl) (by kernel_rfl) ?_
    simp only [wpSegs, opsOf, List.map_cons, List.map_nil, opN, List.getD_cons_zero, List.getD_cons_succ]
    go_wp2_with fail
    refine ⟨by first | trivial | rfl, ?_⟩
    go_wp2_with fail
    refine ⟨?agT, ?_⟩
    case agT =>
      intro i hi hw
      simp only [List.mem_cons, List.not_mem_nil, or_false] at hi
      rcases hi with rfl | rfl | rfl
      all_goals (simp only [opN, List.getD_cons_zero, List.getD_cons_succ, slotOf]; go_simp)
    go_wp2_with fail
    refine ⟨by first | trivial | rfl, ?_⟩
    go_wp2_with fail
    refine ⟨?agU, ?_⟩
    case agU =>
      intro i hi hw
      simp only [List.mem_cons, List.not_mem_nil, or_false] at hi
      rcases hi with rfl | rfl | rfl
      all_goals (simp only [opN, List.getD_cons_zero, List.getD_cons_succ, slotOf]; go_simp)
    go_wp2_with fail
    refine ⟨by first | trivial | rfl, ?_⟩
    go_wp2_with ((with_reducible refine xStoreAt rfl RPUT.out ?_ ?_ ?_ ?_); exact rfl; exact rfl; exact rfl)
    refine ⟨again_nil, ?_⟩
    go_wp2_with fail
    refine ⟨by first | trivial | rfl, ?_⟩
    go_wp2_with fail
    refine CA.out.mono ?_
    rintro e w7 ⟨rfl, T7, m7⟩
    have HP7 := Lib.hid (HP6.out.kept m7 HPNQ.out)
    have hT0' := HOK.out.len
    have CM := Lib.hid (mend_at (T := .node ns.length .nil x .nil) (ns := ns1.set ns.length (leaf x)) (root := T.at_) T7 HP7.out (fun e => HPNQ.out (by simp [e])) (fun e => HPNQ.out (List.mem_cons_of_mem _ (mem_blk.2 e))) HOK.out.rep HOK.out.rest HOK.out.nodup (by simp only [ht]; omega) (fun f hf => by have := HOK.out.high f hf; omega) (by omega))
    have HM7 := Lib.hid (HM6.out.trans m7)
    clear T7 m7
    go_wp2_with fail
    refine CM.out.mono ?_
    rintro e w8 ⟨rfl, ns8, T8, r8, l8, _, m8⟩
    rw [HOK.out.plug] at T8 r8
    have HE := Lib.hid (ins_end (ns1 := ns1) HS.out HX.out hqT T8 r8 (by rw [l8, HLEN.out]) HL1.out HFULL.out HFR.out HFN.out (Mod.into' HMQ.out (HM7.out.trans m8) HBK.out) HHEIR.out rfl)
    clear T8 r8 m8 CM
    go_wp2_with fail
    go_ret
    exact ⟨rfl, HE.out⟩
  · have hfr1 : (0 : Int) < (fr.length : Int) := by omega
    obtain ⟨n, hn⟩ : ∃ n, fr.length = n + 1 := ⟨fr.length - 1, by omega⟩
    have hnl : n < fr.length := by omega
    obtain ⟨f, fcap, hfv, _, hfc⟩ := HS.out.tree.free.at_ (p := n) (x := fr[n]) (by simp [hnl])
    obtain ⟨rfl, rfl⟩ : fa = some ⟨f, 0, none⟩ ∧ fc = fcap := by simpa using hfv
    obtain ⟨q, hqe, hql, hqT⟩ := HS.out.free fr[n] (List.getElem_mem hnl)
    have cf := (HT3.out.free.cell encI_len hnl (j := 0) (by omega) (u := .int .i64 (q : Int)) (by rw [hqe]; rfl)).1
    simp only [Nat.mul_one, Nat.add_zero] at cf
    obtain ⟨TP0, mp⟩ := ((HT3.out.kept0 ((Mod.refl [] w3).drew)).pop n (by omega))
    have f2 := frozen_blk HT3.out.blk 2
    rw [hn] at c2 hfl hfr1
    go_wp2_with fail
    refine ⟨by first | trivial | rfl, ?_⟩
    go_wp2_with fail
    refine wp_plan [([0, 1, 5, 9, 13, 2, 6, 10, 14, 3, 11, 4, 12, 7, 15, 8, 16, 17, 18], 19, [])] [] (by kernel_rfl) (by kernel_rfl) ?_
    simp only [wpSegs, opsOf, List.map_cons, List.map_nil, opN, List.getD_cons_zero, List.getD_cons_succ]
    go_wp2_with fail
    refine ⟨by first | trivial | rfl, ?_⟩
    go_wp2_with fail
    refine ⟨again_nil, ?_⟩
    go_wp2_with fail
    refine ⟨by first | trivial | rfl, ?_⟩
    obtain ⟨g, cap, hnv, _, _⟩ := HS.out.tree.row.at_ (p := q) (x := ns[q]) (by simp [hql])
    obtain ⟨rfl, rfl⟩ : na = some ⟨g, 0, none⟩ ∧ nc = cap := by simpa using hnv
    have hqz : ns[q]? = some ns[q] := by simp [hql]
    have REPQ := HS.out.rep
    have hfull := HS.out.full
    have HFULL := Lib.hid (show ns.length = T.size + 1 + (fr.take n).length by rw [List.length_take]; omega)
    have HL1 := Lib.hid (show ns.length ≤ max ns.length (T.size + 1) by omega)
    have HFR := Lib.hid (show ∀ i ∈ fr.take n, ∃ k : Nat, i = k ∧ k < ns.length ∧ k ∉ T.places ∧ k ≠ q from fun i hi => by
      obtain ⟨k, e1, e2, e3⟩ := HS.out.free i (List.mem_of_mem_take hi)
      refine ⟨k, e1, e2, e3, fun e => ?_⟩
      subst e
      have hnd := HS.out.fnd
      rw [← List.take_append_drop n fr] at hnd
      have hd : fr[n] ∈ fr.drop n := by
        rw [List.mem_iff_getElem?]
        exact ⟨0, by simp [hnl]⟩
      exact (List.nodup_append.1 hnd).2.2 i hi fr[n] hd (by rw [e1, hqe]))
    have HFN := Lib.hid (show (fr.take n).Nodup from HS.out.fnd.sublist (List.take_sublist n fr))
    have HHEIR := Lib.hid (show (Value.slice (some ⟨g, 0, none⟩) ns.length nc).ownBlock = (Value.slice (some ⟨g, 0, none⟩) ns.length nc).ownBlock ∨ ∀ k, (Value.slice (some ⟨g, 0, none⟩) ns.length nc).ownBlock = some k → w.heap.size ≤ k from .inl rfl)
    have HBK := Lib.hid (show ∀ k ∈ b :: blk (.slice (some ⟨g, 0, none⟩) ns.length nc), w.heap.size ≤ k ∨ k ∈ b :: blk (.slice (some ⟨g, 0, none⟩) ns.length nc) from fun k hk => .inr hk)
    have hbw := lt_of_heap HS.out.tree.blk
    obtain ⟨wq, hwq⟩ : ∃ wq, (((w3.setCell ⟨b, 2, none⟩ (.slice (some ⟨f, 0, none⟩) n fc)).drew).drew) = wq := ⟨_, rfl⟩
    have mq : Mod [b] w3 wq := by rw [← hwq]; exact (((Mod.refl [b] w3).setCell (by simp) _).drew).drew
    have TP := (HT3.out.pop n (by omega)).1.kept0 (((Mod.refl [] _).drew).drew)
    rw [hwq] at TP ⊢
    have HMQ := Lib.hid ((HM3.out.nil (l := b :: blk (.slice (some ⟨g, 0, none⟩) ns.length nc))).trans (Mod.into' (Mod.refl _ w3) mq (fun k hk => .inr (by simp at hk; simp [hk]))))
    have HPQ := Lib.hid (HPA.out.kept mq (fun e => HPN.out (by simp at e; simp [e])))
    have HIQ := Lib.hid (mq.heap HI3.out (by simp; omega))
    have HPNQ := HPN
    clear hwq mq hfull c0 c1 c2 c4 cf mp f2 hmm
    have hqlt := (List.getElem?_eq_some_iff.1 hqz).1
    have hqi : ((q : Nat) : Int) < (ns.length : Int) := by omega
    obtain ⟨w6, rput, mput, TQ⟩ := (TP.kept0 ((Mod.refl [] wq).drew)).put hqlt (leaf x)
    have OK := ins_ok (x := x) REPQ hqz hqT HS.out.nodup HX.out
    obtain ⟨TM, mM⟩ := TQ.many ((T.size : Int) + 1)
    have m6 : Mod (b :: blk (.slice (some ⟨g, 0, none⟩) ns.length nc)) wq (w6.setCell ⟨b, 4, none⟩ (.int .i64 ((T.size : Int) + 1))) := Mod.into' (Mod.into' (Mod.refl _ wq) (((Mod.refl _ wq).drew).trans mput) (fun k hk => .inr (by simp at hk; simp [hk, blk, Value.ownBlock]))) mM (fun k hk => .inr (by simp at hk; simp [hk]))
    have HP6 := Lib.hid (HPQ.out.kept m6 HPNQ.out)
    have RPUT := Lib.hid rput
    have cI0 := cell_blk (HIQ.out) 0
    have cI1 := cell_blk (HIQ.out) 1
    have cI2 := cell_blk (HIQ.out) 2
    simp only [List.getElem?_toArray, List.getElem?_cons_succ, List.getElem?_cons_zero] at cI0 cI1 cI2
    have d1 := cell_blk TP.blk 1
    have d4 := cell_blk TQ.blk 4
    have e4 := frozen_blk TQ.blk 4
    simp only [List.getElem?_toArray, List.getElem?_cons_succ, List.getElem?_cons_zero] at d1 d4
    have hn80 := HP6.out.n
    rw [pth_len] at hn80
    have CA := Lib.hid (above_any TM HP6.out OK.rest (q : Int))
    unfold RPost at CA
    have HOK := Lib.hid OK
    have HM6 := Lib.hid m6
    have HLEN := Lib.hid (show (ns.set q (leaf x)).length = ns.length by simp)
    rw [HLEN.out] at CA
    simp only [leaf, encNd] at RPUT
    clear TM mM TQ mput OK m6 rput TP
    go_wp2_with fail
    refine wp_plan [([0, 4, 5, 6, 1, 7, 2, 3], 8, [1, 2, 3]), ([], 9, [1, 2, 3]), ([10], 11, [])] [] (by kernel_rfl) (by kernel_rfl) ?_
    simp only [wpSegs, opsOf, List.map_cons, List.map_nil, opN, List.getD_cons_zero, List.getD_cons_succ]
    go_wp2_with fail
    refine ⟨by first | trivial | rfl, ?_⟩
    go_wp2_with fail
    refine ⟨?agT, ?_⟩
    case agT =>
      intro i hi hw
      simp only [List.mem_cons, List.not_mem_nil, or_false] at hi
      rcases hi with rfl | rfl | rfl
      all_goals (simp only [opN, List.getD_cons_zero, List.getD_cons_succ, slotOf]; go_simp)
    go_wp2_with fail
    refine ⟨by first | trivial | rfl, ?_⟩
    go_wp2_with fail
    refine ⟨?agU, ?_⟩
    case agU =>
      intro i hi hw
      simp only [List.mem_cons, List.not_mem_nil, or_false] at hi
      rcases hi with rfl | rfl | rfl
      all_goals (simp only [opN, List.getD_cons_zero, List.getD_cons_succ, slotOf]; go_simp)
    go_wp2_with fail
    refine ⟨by first | trivial | rfl, ?_⟩
    go_wp2_with ((with_reducible refine xStoreAt rfl RPUT.out ?_ ?_ ?_ ?_); exact rfl; exact rfl; exact rfl)
    refine ⟨again_nil, ?_⟩
    go_wp2_with fail
    refine ⟨by first | trivial | rfl, ?_⟩
    go_wp2_with fail
    refine CA.out.mono ?_
    rintro e w7 ⟨rfl, T7, m7⟩
    have HP7 := Lib.hid (HP6.out.kept m7 HPNQ.out)
    have hT0' := HOK.out.len
    have CM := Lib.hid (mend_at (T := .node q .nil x .nil) (ns := ns.set q (leaf x)) (root := T.at_) T7 HP7.out (fun e => HPNQ.out (by simp [e])) (fun e => HPNQ.out (List.mem_cons_of_mem _ (mem_blk.2 e))) HOK.out.rep HOK.out.rest HOK.out.nodup (by simp only [ht]; omega) (fun f hf => by have := HOK.out.high f hf; omega) (by omega))
    have HM7 := Lib.hid (HM6.out.trans m7)
    clear T7 m7
    go_wp2_with fail
    refine CM.out.mono ?_
    rintro e w8 ⟨rfl, ns8, T8, r8, l8, _, m8⟩
    rw [HOK.out.plug] at T8 r8
    have HE := Lib.hid (ins_end (ns := ns) HS.out HX.out hqT T8 r8 (by rw [l8, HLEN.out]) HL1.out HFULL.out HFR.out HFN.out (Mod.into' HMQ.out (HM7.out.trans m8) HBK.out) (.inl rfl) rfl)
    clear T8 r8 m8 CM
    go_wp2_with fail
    go_ret
    exact ⟨rfl, HE.out⟩
end Go.Proofs.YtngglpekdjhbdaaGreat
namespace Go.Proofs.YtngglpekdjhbdaaGreat
open Go.RowKit Go.ChangeMaps Go.Deep Tr
set_option linter.unusedSimpArgs false
set_option linter.unusedVariables false
set_option maxRecDepth 20000

theorem avNew_at (w : World) : Calls Tryz.prog 25 #[.int .i64 1000000] w fun e w' => e = .returned (.tuple #[.pointer (some ⟨w.heap.size, 0, none⟩), .int .i64 0]) ∧ w' = w.alloc (.cells #[.int .i64 1000000, .slice none 0 0, .slice none 0 0, .int .i64 (-1), .int .i64 0] 88) := by
  go_enter Tryz.func25, Tryz.ntmps25
  go_wp2_with fail
  go_ret2
  exact ⟨rfl, rfl⟩
theorem avNew_st (w : World) : AvlSt (w.alloc (.cells #[.int .i64 1000000, .slice none 0 0, .slice none 0 0, .int .i64 (-1), .int .i64 0] 88)) w.heap.size (.slice none 0 0) (.slice none 0 0) [] [] .nil :=
  ⟨⟨heap_alloc_new w _, OwnR.nil_ _ _, OwnR.nil_ _ _, by simp [Value.ownBlock], by simp [Value.ownBlock], by simp [Value.ownBlock]⟩, trivial, trivial, List.Pairwise.nil, List.nodup_nil, by simp, List.nodup_nil, rfl⟩
theorem root_at {w : World} {b : Nat} {nv fv : Value} {ns : List Nd} {fr : List Int} {root many : Int} (h : TreeAt w b nv fv ns fr root many) : Calls Tryz.prog 60 #[.pointer (some ⟨b, 0, none⟩)] w fun e w' => e = .returned (.int .i64 root) ∧ w' = w := by
  have c3 := cell_blk h.blk 3
  simp only [List.getElem?_toArray, List.getElem?_cons_succ, List.getElem?_cons_zero] at c3
  have H := Lib.hid (none_at h)
  clear h
  go_enter Tryz.func60, Tryz.ntmps60
  go_wp2_with fail
  refine H.out.mono ?_
  rintro e w1 ⟨rfl, rfl⟩
  go_wp2_with fail
  go_ret
  exact ⟨rfl, rfl⟩
def knV (n : Nd) : Value := .agg #[.int .i64 n.x.f, .int .i64 n.x.t, .int .i64 n.x.i, .int .i64 n.l, .int .i64 n.r, .int .i64 n.h, .int .i64 n.t]
theorem sizeKnot : (Tryz.prog.info? 113).map (·.size) = some 7 := by kernel_rfl
theorem results_node {tmps : Array Value} {W : World} {B : Nat} {n : Nd} {is : Bool} (h4 : tmps.getD 4 undef = .pointer (some ⟨B, 0, none⟩)) (h5 : tmps.getD 5 undef = .bool is) (hb : W.heap[B]? = some (.cells #[.int .i64 n.x.f, .int .i64 n.x.t, .int .i64 n.x.i, .int .i64 n.l, .int .i64 n.r, .int .i64 n.h, .int .i64 n.t] 113 (0, 0))) :
    (results Tryz.f76 tmps).run Tryz.prog W = .ok (.tuple #[knV n, .bool is]) W := by
  have hl := run_loadVar_mid (P := Tryz.prog) W B 0 113 [.int .i64 n.x.f, .int .i64 n.x.t, .int .i64 n.x.i, .int .i64 n.l, .int .i64 n.r, .int .i64 n.h, .int .i64 n.t] _ (rangeAt_blk (by simpa using hb)) Tryz.underlying113 rfl (by rw [sizeKnot]; rfl)
  rw [results_cell_tmp Tryz.results76, h4, h5]
  have ha : (asAddr (.pointer (some ⟨B, 0, none⟩))).run Tryz.prog W = .ok ⟨B, 0, none⟩ W := by simp [asAddr, go_sem]
  rw [ha]
  simp only [Result.andThen_ok, hl]
  rfl
theorem node_none {w : World} {b : Nat} {nv fv : Value} {ns : List Nd} {fr : List Int} {root many : Int} (h : TreeAt w b nv fv ns fr root many) :
    Calls Tryz.prog 76 #[.pointer (some ⟨b, 0, none⟩), .int .i64 (-1)] w fun e w' => e = .returned (.tuple #[knV Nd.zero, .bool false]) ∧ Mod [] w w' := by
  have m0 := (Mod.refl [] w).alloc (.cells #[.int .i64 0, .int .i64 0, .int .i64 0, .int .i64 0, .int .i64 0, .int .i64 0, .int .i64 0] 113)
  have H := Lib.hid (none_at (h.kept0 m0))
  have b0 := heap_alloc_new w (.cells #[.int .i64 0, .int .i64 0, .int .i64 0, .int .i64 0, .int .i64 0, .int .i64 0, .int .i64 0] 113)
  obtain ⟨w2, hst, mst, gst⟩ := store_blk2 (P := Tryz.prog) (c := #[.int .i64 0, .int .i64 0, .int .i64 0, .int .i64 0, .int .i64 0, .int .i64 0, .int .i64 0]) 113 b0 rfl (by rw [sizeKnot]; rfl) (by simp [Value.oneCell'])
  have HST := Lib.hid hst
  have HG := Lib.hid gst
  have HM := Lib.hid (Mod.into' m0 mst (fun k hk => .inl (by simp at hk; omega)))
  clear h m0 b0 hst mst gst
  go_enter Tryz.func76, Tryz.ntmps76
  go_wp2_with fail
  refine H.out.mono ?_
  rintro e w1 ⟨rfl, rfl⟩
  go_wp2_with ((with_reducible refine xStoreAt rfl HST.out ?_ ?_ ?_ ?_); exact rfl; exact rfl; exact rfl)
  exact bodyPost_ret (results_node (n := Nd.zero) (is := false) rfl rfl HG.out) rfl ⟨rfl, HM.out⟩
theorem node_at {w : World} {b : Nat} {nv fv : Value} {ns : List Nd} {fr : List Int} {root many : Int} (h : TreeAt w b nv fv ns fr root many) {p : Nat} {l r : Tr} {x : It} (hp : ns[p]? = some (nd l x r)) :
    Calls Tryz.prog 76 #[.pointer (some ⟨b, 0, none⟩), .int .i64 p] w fun e w' => e = .returned (.tuple #[knV (nd l x r), .bool true]) ∧ Mod [] w w' := by
  have m0 := (Mod.refl [] w).alloc (.cells #[.int .i64 0, .int .i64 0, .int .i64 0, .int .i64 0, .int .i64 0, .int .i64 0, .int .i64 0] 113)
  have h0 := h.kept0 m0
  have H := Lib.hid (none_at h0)
  obtain ⟨g, cap, rfl, hg, hcap⟩ := h0.row.at_ hp
  have hlt := (List.getElem?_eq_some_iff.1 hp).1
  have hpi : decide ((ns.length : Int) ≤ (p : Int)) = false := decide_eq_false (by omega)
  have hp0 : decide ((p : Int) < 0) = false := decide_eq_false (by omega)
  have c1 := cell_blk h0.blk 1
  simp only [List.getElem?_toArray, List.getElem?_cons_succ, List.getElem?_cons_zero] at c1
  have c7 := (nd_cells h0.row hp 7 (.bool true) rfl).1
  have hy : (w.alloc (.cells #[.int .i64 0, .int .i64 0, .int .i64 0, .int .i64 0, .int .i64 0, .int .i64 0, .int .i64 0] 113)).rangeAt g (p * 8) [.int .i64 (nd l x r).x.f, .int .i64 (nd l x r).x.t, .int .i64 (nd l x r).x.i, .int .i64 (nd l x r).l, .int .i64 (nd l x r).r, .int .i64 (nd l x r).h, .int .i64 (nd l x r).t] := fun j u hu => by
    have hj : j < 7 := (List.getElem?_eq_some_iff.1 hu).1
    refine (nd_cells h0.row hp j u ?_).1
    rw [← hu]
    rcases (show j = 0 ∨ j = 1 ∨ j = 2 ∨ j = 3 ∨ j = 4 ∨ j = 5 ∨ j = 6 by omega) with rfl | rfl | rfl | rfl | rfl | rfl | rfl <;> rfl
  have HL := Lib.hid (run_loadAt_mid (P := Tryz.prog) _ g (p * 8) 113 _ _ hy Tryz.underlying113 rfl (by kernel_rfl))
  have b0 := heap_alloc_new w (.cells #[.int .i64 0, .int .i64 0, .int .i64 0, .int .i64 0, .int .i64 0, .int .i64 0, .int .i64 0] 113)
  obtain ⟨w2, hst, mst, gst⟩ := store_blk2 (P := Tryz.prog) (c := #[.int .i64 (nd l x r).x.f, .int .i64 (nd l x r).x.t, .int .i64 (nd l x r).x.i, .int .i64 (nd l x r).l, .int .i64 (nd l x r).r, .int .i64 (nd l x r).h, .int .i64 (nd l x r).t]) 113 b0 rfl (by rw [sizeKnot]; rfl) (by simp [Value.oneCell'])
  have HST := Lib.hid hst
  have HG := Lib.hid gst
  have HM := Lib.hid (Mod.into' m0 mst (fun k hk => .inl (by simp at hk; omega)))
  clear h h0 m0 b0 hst mst gst hy
  go_enter Tryz.func76, Tryz.ntmps76
  go_wp2_with fail
  refine H.out.mono ?_
  rintro e w1 ⟨rfl, rfl⟩
  go_wp2_with (first | ((with_reducible refine xStoreAt rfl HST.out ?_ ?_ ?_ ?_); exact rfl; exact rfl; exact rfl) | ((with_reducible refine xLoadAt rfl HL.out ?_ ?_ ?_); exact rfl; exact rfl))
  exact bodyPost_ret (results_node (n := nd l x r) (is := true) rfl rfl HG.out) rfl ⟨rfl, HM.out⟩
end Go.Proofs.YtngglpekdjhbdaaGreat
