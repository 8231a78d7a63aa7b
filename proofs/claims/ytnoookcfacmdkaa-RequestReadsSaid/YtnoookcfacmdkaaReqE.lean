/- Layer 25: an operation's form, a record's form, written. -/
import Derived.Test.YtnoookcfacmdkaaReqD
namespace Go.Proofs.Ytnoookcfacmdkaa
open Go.RowKit Go.ChangeMaps
set_option linter.unusedSimpArgs false
set_option linter.unusedVariables false
set_option maxRecDepth 20000

theorem app_at {w : World} {base : Nat} {v : Value} {l : List Int} (h : OwnB w base v l) (hb : base ≤ w.heap.size) (x : Int) (hlen : l.length < 140737488355328) {g : Nat} (hg : g = w.heap.size) :
    ∃ v' w', (Builtin.append_ #[23, 23] 23 #[v, .slice (some ⟨g, 0, none⟩) 1 1]).run Try.prog (w.alloc (.cells #[.int .u8 x] 5)) = .ok v' w' ∧ OwnB w' base v' (l ++ [x]) ∧ Grew w v w' v' := by
  subst hg
  exact app_one h hb x hlen
theorem app_drew {w : World} {base : Nat} {v : Value} {l : List Int} (h : OwnB w base v l) (hb : base ≤ w.heap.size) (x : Int) (hlen : l.length < 140737488355328) {g : Nat} (hg : g = w.heap.size) :
    ∃ v' w', (Builtin.append_ #[23, 23] 23 #[v, .slice (some ⟨g, 0, none⟩) 1 1]).run Try.prog ((w.alloc (.cells #[.int .u8 x] 5)).drew) = .ok v' w' ∧ OwnB w' base v' (l ++ [x]) ∧ Grew w v w' v' := by
  subst hg
  have hm := (Mod.refl [] w).drew
  obtain ⟨v', w', h1, h2, h3⟩ := app_one (h.kept0 hm) hb x hlen
  exact ⟨v', w', h1, h2, (Grew.of v hm).trans h3⟩
/-- A block that was there, and is not the slice's own, stands. -/
theorem Grew.heap {w w' : World} {base : Nat} {v v' : Value} {l : List Int} (h : Grew w v w' v') (ho : OwnB w base v l) {b : Nat} {o : Obj} (hb : w.heap[b]? = some o) (hn : ∀ k, v.ownBlock = some k → k ≠ b) : w'.heap[b]? = some o :=
  h.mod.heap hb (by rw [mem_blk]; intro e; exact hn _ e rfl)
theorem Grew.off {w w' : World} {v v' : Value} (h : Grew w v w' v') {b : Nat} (hb : b < w.heap.size) (hn : ∀ k, v.ownBlock = some k → k ≠ b) : ∀ k, v'.ownBlock = some k → k ≠ b := fun k hk => by
  rcases h.heir with e | e
  · exact hn k (e ▸ hk)
  · have := e k hk; omega
set_option maxHeartbeats 1000000 in
theorem put_1 {w : World} {base : Nat} {v : Value} {l : List Int} (h : OwnB w base v l) (hb : base ≤ w.heap.size) (f : Int) (nm : ByteArray) (fk a b vk c s e : Int) (tx : ByteArray) (hn : nm.size ≤ 12) (hlen : l.length ≤ 1073740000) :
    Calls Try.prog 46 #[v, .agg (DoR.cells ⟨1, f, nm, fk, a, b, vk, c, s, e, tx⟩).toArray] w fun x w' => ∃ v', x = .returned v' ∧ OwnB w' base v' (l ++ DoR.enc ⟨1, f, nm, fk, a, b, vk, c, s, e, tx⟩) ∧ Grew w v w' v' := by
  unfold DoR.cells
  dsimp only
  have hm0 := (Mod.refl [] w).alloc (.cells #[.int .u8 1, .int .i64 f, .string nm, .int .u8 fk, .int .i64 a, .int .i64 b, .int .u8 vk, .int .i64 c, .int .i64 s, .int .i64 e, .string tx] 78)
  have hc0 := heap_alloc_new w (.cells #[.int .u8 1, .int .i64 f, .string nm, .int .u8 fk, .int .i64 a, .int .i64 b, .int .u8 vk, .int .i64 c, .int .i64 s, .int .i64 e, .string tx] 78)
  have hv : ∀ k, v.ownBlock = some k → k ≠ w.heap.size := fun k hk => by have := (World.ownsRow.lt h k hk).2; omega
  have hlt0 := lt_of_heap hc0
  obtain ⟨v1, w1, r1, o1, g1⟩ := app_at (h.kept0 hm0) (Nat.le_trans hb hm0.size) 1 (by omega) (g := w.heap.size + 1) (by simp)
  have hb1 := Nat.le_trans (Nat.le_trans hb hm0.size) g1.mod.size
  have hc1 := g1.heap (h.kept0 hm0) hc0 hv
  have hv1 := g1.off hlt0 hv
  obtain ⟨v2, w2, r2, o2, g2⟩ := app_drew o1 hb1 nm.size (by simp; omega) rfl
  have hb2 := Nat.le_trans hb1 g2.mod.size
  have hc2 := g2.heap o1 hc1 hv1
  have hv2 := g2.off (lt_of_heap hc1) hv1
  obtain ⟨v3, w3, r3, o3, g3⟩ := app_str o2 hb2 nm (by simp; omega)
  have hb3 := Nat.le_trans hb2 g3.mod.size
  have hc3 := g3.heap o2 hc2 hv2
  obtain ⟨v4, w4, r4, o4, g4⟩ := app_at o3 hb3 fk (by simp [numsOf_length]; omega) rfl
  have hG := Lib.hid ((((Grew.of v hm0).trans g1).trans g2).trans (g3.trans g4))
  have hO := Lib.hid o4
  have q0 := cell_blk hc1 0
  have q2 := cell_blk hc1 2
  have q22 := cell_blk hc2 2
  have q33 := cell_blk hc3 3
  have q12 := cell_blk ((heap_alloc_ne w1 (.cells #[.int .u8 (nm.size : Int)] 5) (lt_of_heap hc1)).trans hc1) 2
  simp at q0 q2 q22 q33
  simp only [List.getElem?_toArray, List.getElem?_cons_succ, List.getElem?_cons_zero] at q12
  have HR1 := Lib.hid r1
  have HR2 := Lib.hid r2
  have HR3 := Lib.hid r3
  have HR4 := Lib.hid r4
  clear r1 r2 r3 r4 o1 o2 o3 o4 g1 g2 g3 g4 hc0 hc1 hc2 hc3 hv hv1 hv2 hm0 hlt0 hb1 hb2 hb3
  go_enter Try.func46, Try.ntmps46
  go_wp2_with ((with_reducible refine xAppendAt HR1.out rfl rfl ?_ ?_ ?_ ?_); exact rfl; exact rfl; exact rfl)
  refine wp_plan [([0, 1, 7, 2, 8, 3, 4], 5, [7, 8]), ([], 6, [7, 8]), ([], 9, []), ([], 10, [])] [] (by kernel_rfl) (by kernel_rfl) ?_
  simp only [wpSegs, opsOf, List.map_cons, List.map_nil, opN, List.getD_cons_zero, List.getD_cons_succ]
  go_wp2_with fail
  refine ⟨by first | trivial | rfl, ?_⟩
  go_wp2_with fail
  refine ⟨?ag1, ?_⟩
  case ag1 =>
    intro i hi hw
    simp only [List.mem_cons, List.not_mem_nil, or_false] at hi
    rcases hi with rfl | rfl
    all_goals (simp only [opN, List.getD_cons_zero, List.getD_cons_succ, slotOf]; go_simp)
  go_wp2_with fail
  refine ⟨by first | trivial | rfl, ?_⟩
  go_wp2_with ((with_reducible refine xAppendAt HR2.out rfl rfl ?_ ?_ ?_ ?_); exact rfl; exact rfl; exact rfl)
  refine ⟨?ag2, ?_⟩
  case ag2 =>
    intro i hi hw
    simp only [List.mem_cons, List.not_mem_nil, or_false] at hi
    rcases hi with rfl | rfl
    all_goals (simp only [opN, List.getD_cons_zero, List.getD_cons_succ, slotOf]; go_simp)
  go_wp2_with fail
  refine ⟨by first | trivial | rfl, ?_⟩
  go_wp2_with ((with_reducible refine xAppendAt HR3.out rfl rfl ?_ ?_ ?_ ?_); exact rfl; exact rfl; exact rfl)
  refine ⟨again_nil, ?_⟩
  go_wp2_with fail
  refine ⟨by first | trivial | rfl, ?_⟩
  go_wp2_with fail
  refine ⟨again_nil, ?_⟩
  go_wp2_with fail
  refine ⟨by first | trivial | rfl, ?_⟩
  go_wp2_with ((with_reducible refine xAppendAt HR4.out rfl rfl ?_ ?_ ?_ ?_); exact rfl; exact rfl; exact rfl)
  go_ret
  refine ⟨v4, rfl, ?_, hG.out⟩
  have e1 : (nm.size : Int) % 256 = nm.size := by omega
  simp only [DoR.enc, if_pos, e1]
  simpa using hO.out
end Go.Proofs.Ytnoookcfacmdkaa
