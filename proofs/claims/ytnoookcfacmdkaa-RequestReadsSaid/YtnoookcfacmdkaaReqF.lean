/- Layer 25: an operation's form: the other kinds but puts. -/
import Derived.Test.YtnoookcfacmdkaaReqE
namespace Go.Proofs.Ytnoookcfacmdkaa
open Go.RowKit Go.ChangeMaps
set_option linter.unusedSimpArgs false
set_option linter.unusedVariables false
set_option maxRecDepth 20000

/-- The kind, and the field's number, are written. -/
structure Two (w : World) (base : Nat) (v : Value) (l : List Int) (k f : Int) (o : Obj) (v1 : Value) (w1 : World) (v2 : Value) (w2 : World) : Prop where
  r1 : (Builtin.append_ #[23, 23] 23 #[v, .slice (some ⟨w.heap.size + 1, 0, none⟩) 1 1]).run Try.prog ((w.alloc o).alloc (.cells #[.int .u8 k] 5)) = .ok v1 w1
  r2 : (Builtin.append_ #[23, 23] 23 #[v1, .slice (some ⟨w1.heap.size, 0, none⟩) 1 1]).run Try.prog (w1.alloc (.cells #[.int .u8 f] 5)) = .ok v2 w2
  h1 : w1.heap[w.heap.size]? = some o
  h2 : w2.heap[w.heap.size]? = some o
  own : OwnB w2 base v2 (l ++ [k] ++ [f])
  grew : Grew w v w2 v2
  off : ∀ k, v2.ownBlock = some k → k ≠ w.heap.size
  hb : base ≤ w2.heap.size
  lt : w.heap.size < w2.heap.size
theorem two_of {w : World} {base : Nat} {v : Value} {l : List Int} (h : OwnB w base v l) (hb : base ≤ w.heap.size) (k f : Int) (o : Obj) (hlen : l.length ≤ 1073740000) : ∃ v1 w1 v2 w2, Two w base v l k f o v1 w1 v2 w2 := by
  have hm0 := (Mod.refl [] w).alloc o
  have hc0 := heap_alloc_new w o
  have hv : ∀ k, v.ownBlock = some k → k ≠ w.heap.size := fun k hk => by have := (World.ownsRow.lt h k hk).2; omega
  have hlt0 := lt_of_heap hc0
  obtain ⟨v1, w1, r1, o1, g1⟩ := app_at (h.kept0 hm0) (Nat.le_trans hb hm0.size) k (by omega) (g := w.heap.size + 1) (by simp)
  have hb1 := Nat.le_trans (Nat.le_trans hb hm0.size) g1.mod.size
  have hc1 := g1.heap (h.kept0 hm0) hc0 hv
  have hv1 := g1.off hlt0 hv
  obtain ⟨v2, w2, r2, o2, g2⟩ := app_at o1 hb1 f (by simp; omega) rfl
  exact ⟨v1, w1, v2, w2, r1, r2, hc1, g2.heap o1 hc1 hv1, o2, ((Grew.of v hm0).trans g1).trans g2, g2.off (lt_of_heap hc1) hv1, Nat.le_trans hb1 g2.mod.size, lt_of_heap (g2.heap o1 hc1 hv1)⟩
set_option maxHeartbeats 1000000 in
theorem put_5 {w : World} {base : Nat} {v : Value} {l : List Int} (h : OwnB w base v l) (hb : base ≤ w.heap.size) (k f : Int) (nm : ByteArray) (fk a b vk c s e : Int) (tx : ByteArray) (hk : k = 5 ∨ k = 7) (hf0 : 0 ≤ f) (hf1 : f ≤ 255) (hlen : l.length ≤ 1073740000) :
    Calls Try.prog 46 #[v, .agg (DoR.cells ⟨k, f, nm, fk, a, b, vk, c, s, e, tx⟩).toArray] w fun x w' => ∃ v', x = .returned v' ∧ OwnB w' base v' (l ++ DoR.enc ⟨k, f, nm, fk, a, b, vk, c, s, e, tx⟩) ∧ Grew w v w' v' := by
  unfold DoR.cells
  dsimp only
  obtain ⟨v1, w1, v2, w2, T⟩ := two_of h hb k f (.cells #[.int .u8 k, .int .i64 f, .string nm, .int .u8 fk, .int .i64 a, .int .i64 b, .int .u8 vk, .int .i64 c, .int .i64 s, .int .i64 e, .string tx] 78) hlen
  have q0 := cell_blk T.h1 0
  have q1 := cell_blk T.h1 1
  have q20 := cell_blk T.h2 0
  simp at q0 q1 q20
  have HR1 := Lib.hid T.r1
  have HR2 := Lib.hid T.r2
  have HT := Lib.hid T
  clear T
  have e1 : f % 256 = f := by omega
  have HE : Hid (l ++ DoR.enc ⟨k, f, nm, fk, a, b, vk, c, s, e, tx⟩ = l ++ [k] ++ [f]) := Lib.hid (by
    rcases hk with rfl | rfl <;> simp [DoR.enc, e1])
  clear e1
  rcases hk with rfl | rfl
  all_goals
    go_enter Try.func46, Try.ntmps46
    go_wp2_with (first | ((with_reducible refine xAppendAt HR1.out rfl rfl ?_ ?_ ?_ ?_); exact rfl; exact rfl; exact rfl) | ((with_reducible refine xAppendAt HR2.out rfl rfl ?_ ?_ ?_ ?_); exact rfl; exact rfl; exact rfl))
    go_ret
    refine ⟨v2, rfl, ?_, HT.out.grew⟩
    rw [HE.out]
    exact HT.out.own
set_option maxHeartbeats 1000000 in
theorem put_3 {w : World} {base : Nat} {v : Value} {l : List Int} (h : OwnB w base v l) (hb : base ≤ w.heap.size) (f : Int) (nm : ByteArray) (fk a b vk c s e : Int) (tx : ByteArray) (hf0 : 0 ≤ f) (hf1 : f ≤ 255) (hs : spanOk a b = true) (hlen : l.length ≤ 1073740000) :
    Calls Try.prog 46 #[v, .agg (DoR.cells ⟨3, f, nm, fk, a, b, vk, c, s, e, tx⟩).toArray] w fun x w' => ∃ v', x = .returned v' ∧ OwnB w' base v' (l ++ DoR.enc ⟨3, f, nm, fk, a, b, vk, c, s, e, tx⟩) ∧ Grew w v w' v' := by
  unfold DoR.cells
  dsimp only
  obtain ⟨v1, w1, v2, w2, T⟩ := two_of h hb 3 f (.cells #[.int .u8 3, .int .i64 f, .string nm, .int .u8 fk, .int .i64 a, .int .i64 b, .int .u8 vk, .int .i64 c, .int .i64 s, .int .i64 e, .string tx] 78) hlen
  have q0 := cell_blk T.h1 0
  have q1 := cell_blk T.h1 1
  have q20 := cell_blk T.h2 0
  have q24 := cell_blk T.h2 4
  have q25 := cell_blk T.h2 5
  simp at q0 q1 q20 q24 q25
  have HR1 := Lib.hid T.r1
  have HR2 := Lib.hid T.r2
  have HT := Lib.hid T
  have HN := Lib.hid (ends_any T.own T.hb a b hs (by simp; omega))
  clear T hs
  go_enter Try.func46, Try.ntmps46
  go_wp2_with (first | ((with_reducible refine xAppendAt HR1.out rfl rfl ?_ ?_ ?_ ?_); exact rfl; exact rfl; exact rfl) | ((with_reducible refine xAppendAt HR2.out rfl rfl ?_ ?_ ?_ ?_); exact rfl; exact rfl; exact rfl))
  refine HN.out.mono ?_
  rintro x w3 ⟨v3, rfl, o3, g3⟩
  have HO := Lib.hid o3
  have HG := Lib.hid g3
  clear o3 g3
  go_wp2_with fail
  go_ret
  refine ⟨v3, rfl, ?_, HT.out.grew.trans HG.out⟩
  have e1 : f % 256 = f := by omega
  simp only [DoR.enc, e1]
  simpa using HO.out
set_option maxHeartbeats 1000000 in
theorem put_4 {w : World} {base : Nat} {v : Value} {l : List Int} (h : OwnB w base v l) (hb : base ≤ w.heap.size) (k f : Int) (nm : ByteArray) (fk a b vk c s e : Int) (tx : ByteArray) (hk : k = 4 ∨ k = 6) (hf0 : 0 ≤ f) (hf1 : f ≤ 255) (ht : tx.size ≤ 400) (hlen : l.length ≤ 1073740000) :
    Calls Try.prog 46 #[v, .agg (DoR.cells ⟨k, f, nm, fk, a, b, vk, c, s, e, tx⟩).toArray] w fun x w' => ∃ v', x = .returned v' ∧ OwnB w' base v' (l ++ DoR.enc ⟨k, f, nm, fk, a, b, vk, c, s, e, tx⟩) ∧ Grew w v w' v' := by
  unfold DoR.cells
  dsimp only
  obtain ⟨v1, w1, v2, w2, T⟩ := two_of h hb k f (.cells #[.int .u8 k, .int .i64 f, .string nm, .int .u8 fk, .int .i64 a, .int .i64 b, .int .u8 vk, .int .i64 c, .int .i64 s, .int .i64 e, .string tx] 78) hlen
  have q0 := cell_blk T.h1 0
  have q1 := cell_blk T.h1 1
  have q20 := cell_blk T.h2 0
  have q210 := cell_blk T.h2 10
  simp at q0 q1 q20 q210
  have HR1 := Lib.hid T.r1
  have HR2 := Lib.hid T.r2
  have HT := Lib.hid T
  have hu : IsU64 (tx.size : Int) := ⟨by omega, by omega⟩
  have HN := Lib.hid (number_any (T.own.kept0 ((Mod.refl [] w2).drew)) T.hb tx.size 2 hu (by omega) (by simp; omega))
  clear T
  have e1 : f % 256 = f := by omega
  have HE : Hid (l ++ DoR.enc ⟨k, f, nm, fk, a, b, vk, c, s, e, tx⟩ = l ++ [k] ++ [f] ++ numB tx.size 2 ++ numsOf tx) := Lib.hid (by
    rcases hk with rfl | rfl <;> simp [DoR.enc, e1])
  clear e1
  have HS := Lib.hid ht
  rcases hk with rfl | rfl
  all_goals
    go_enter Try.func46, Try.ntmps46
    go_wp2_with (first | ((with_reducible refine xAppendAt HR1.out rfl rfl ?_ ?_ ?_ ?_); exact rfl; exact rfl; exact rfl) | ((with_reducible refine xAppendAt HR2.out rfl rfl ?_ ?_ ?_ ?_); exact rfl; exact rfl; exact rfl))
    refine wp_plan [([0, 1, 6, 2, 7, 3, 4], 5, [6, 7]), ([], 8, []), ([], 9, [])] [] (by kernel_rfl) (by kernel_rfl) ?_
    simp only [wpSegs, opsOf, List.map_cons, List.map_nil, opN, List.getD_cons_zero, List.getD_cons_succ]
    go_wp2_with fail
    refine ⟨by first | trivial | rfl, ?_⟩
    go_wp2_with fail
    refine HN.out.mono ?_
    rintro x w3 ⟨v3, rfl, o3, g3⟩
    have hc3 := (Grew.of v2 (((Mod.refl [] w2).drew))).trans g3 |>.heap HT.out.own HT.out.h2 HT.out.off
    have q310 := cell_blk hc3 10
    simp at q310
    obtain ⟨v4, w4, r4, o4, g4⟩ := app_str o3 (by have := HT.out.hb; have := g3.mod.size; exact Nat.le_trans HT.out.hb g3.mod.size) tx (by simp [numB_length]; omega)
    have HR4 := Lib.hid r4
    have HO := Lib.hid o4
    have HG := Lib.hid (((Grew.of v2 ((Mod.refl [] w2).drew)).trans g3).trans g4)
    clear r4 o4 g4 hc3 o3 g3
    go_wp2_with fail
    refine ⟨?_, ?_⟩
    · intro i hi hw
      simp only [List.mem_cons, List.not_mem_nil, or_false] at hi
      rcases hi with rfl | rfl
      all_goals (simp only [opN, List.getD_cons_zero, List.getD_cons_succ, slotOf]; go_simp)
    go_wp2_with fail
    refine ⟨by first | trivial | rfl, ?_⟩
    go_wp2_with ((with_reducible refine xAppendAt HR4.out rfl rfl ?_ ?_ ?_ ?_); exact rfl; exact rfl; exact rfl)
    refine ⟨again_nil, ?_⟩
    go_wp2_with fail
    refine ⟨by first | trivial | rfl, ?_⟩
    go_wp2_with fail
    refine ⟨again_nil, ?_⟩
    go_wp2_with fail
    refine ⟨by first | trivial | rfl, ?_⟩
    go_wp2_with fail
    go_ret
    refine ⟨v4, rfl, ?_, HT.out.grew.trans HG.out⟩
    rw [HE.out]
    exact HO.out
end Go.Proofs.Ytnoookcfacmdkaa
