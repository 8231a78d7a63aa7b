/- Layer 8: sums of a node. -/
import Derived.Test.YtngglpekdjhbdaaRowH
import Derived.Test.YtngglpekdjhbdaaBzB
import Derived.Test.YtngglpekdjhbdaaRowI
namespace Go.Proofs.Ytngglpekdjhbdaa
open Go.RowKit Go.ChangeMaps Go.Deep
set_option linter.unusedSimpArgs false
set_option linter.unusedVariables false
set_option maxRecDepth 20000

def encNd (n : Nd) : List Value := [.int .i64 n.x.f, .int .i64 n.x.t, .int .i64 n.x.i, .int .i64 n.l, .int .i64 n.r, .int .i64 n.h, .int .i64 n.t, .bool n.u]
theorem encNd_len (n : Nd) : (encNd n).length = 8 := rfl
theorem encNd_one (n : Nd) : ∀ v ∈ encNd n, v.oneCell' = true := by intro v hv; simp [encNd] at hv; rcases hv with rfl | rfl | rfl | rfl | rfl | rfl | rfl | rfl <;> rfl
/-- A tree in block b. -/
structure TreeAt (w : World) (b : Nat) (nv fv : Value) (ns : List Nd) (fr : List Int) (root many : Int) : Prop where
  blk : w.heap[b]? = some (.cells #[.int .i64 1000000, nv, fv, .int .i64 root, .int .i64 many] 126 (0, 0))
  row : OwnR encNd 8 135 w 0 nv ns
  free : OwnR encI 1 3 w 0 fv fr
  bn : nv.ownBlock ≠ some b
  bf : fv.ownBlock ≠ some b
  nf : ∀ k, nv.ownBlock = some k → fv.ownBlock ≠ some k
/-- one node's cells -/
theorem nd_cells {w : World} {g cap : Nat} {ns : List Nd} (h : OwnR encNd 8 135 w 0 (.slice (some ⟨g, 0, none⟩) ns.length cap) ns) {p : Nat} {n : Nd} (hp : ns[p]? = some n) :
    ∀ j u, (encNd n)[j]? = some u → w.cell? ⟨g, p * 8 + j, none⟩ = some u ∧ w.frozen? ⟨g, p * 8 + j, none⟩ = false := fun j u hu => by
  have hlt := (List.getElem?_eq_some_iff.1 hp).1
  have e : ns[p] = n := (List.getElem?_eq_some_iff.1 hp).2
  have hj : j < 8 := by have := (List.getElem?_eq_some_iff.1 hu).1; rw [encNd_len] at this; exact this
  exact h.cell encNd_len hlt hj (by rw [e]; exact hu)
theorem height_none (b : Nat) (i : Int) (h : i < 0) (v : Value) (w : World) : Calls Try.prog 127 #[v, .int .i64 i] w fun e w' => e = .returned (.int .i64 0) ∧ w' = w := by
  go_enter Try.func127, Try.ntmps127
  go_wp2_with fail
  go_ret
  exact ⟨rfl, rfl⟩
theorem height_at {w : World} {b : Nat} {nv fv : Value} {ns : List Nd} {fr : List Int} {root many : Int} (h : TreeAt w b nv fv ns fr root many) {p : Nat} {n : Nd} (hp : ns[p]? = some n) :
    Calls Try.prog 127 #[.pointer (some ⟨b, 0, none⟩), .int .i64 p] w fun e w' => e = .returned (.int .i64 n.h) ∧ w' = w := by
  obtain ⟨g, cap, rfl, hg, hc⟩ := h.row.at_ hp
  have hlt := (List.getElem?_eq_some_iff.1 hp).1
  have c1 := cell_blk h.blk 1
  simp only [List.getElem?_toArray, List.getElem?_cons_succ, List.getElem?_cons_zero] at c1
  have c5 := (nd_cells h.row hp 5 _ rfl).1
  have hp0 : ¬ (p : Int) < 0 := by omega
  clear h hp
  go_enter Try.func127, Try.ntmps127
  go_wp2_with fail
  go_ret
  exact ⟨rfl, rfl⟩
theorem side_at {w : World} {b : Nat} {nv fv : Value} {ns : List Nd} {fr : List Int} {root many : Int} (h : TreeAt w b nv fv ns fr root many) {p : Nat} {n : Nd} (hp : ns[p]? = some n) (right : Bool) :
    Calls Try.prog 118 #[.pointer (some ⟨b, 0, none⟩), .int .i64 p, .bool right] w fun e w' => e = .returned (.int .i64 (sideN ns p right)) ∧ w' = w := by
  have e : sideN ns p right = if right = true then n.r else n.l := by unfold sideN; rw [nodeN_some hp]
  rw [e]
  obtain ⟨g, cap, rfl, hg, hc⟩ := h.row.at_ hp
  have hlt := (List.getElem?_eq_some_iff.1 hp).1
  have c1 := cell_blk h.blk 1
  simp only [List.getElem?_toArray, List.getElem?_cons_succ, List.getElem?_cons_zero] at c1
  have c3 := (nd_cells h.row hp 3 _ rfl).1
  have c4 := (nd_cells h.row hp 4 _ rfl).1
  clear h hp e
  cases right
  · go_enter Try.func118, Try.ntmps118
    go_wp2_with fail
    go_ret
    exact ⟨rfl, rfl⟩
  · go_enter Try.func118, Try.ntmps118
    go_wp2_with fail
    go_ret
    exact ⟨rfl, rfl⟩
/-- a node's cell is written -/
theorem TreeAt.set {w : World} {b g cap : Nat} {fv : Value} {ns : List Nd} {fr : List Int} {root many : Int} (h : TreeAt w b (.slice (some ⟨g, 0, none⟩) ns.length cap) fv ns fr root many) {p : Nat} {n m : Nd} (hp : ns[p]? = some n) {j : Nat} {u : Value} (hj : j < 8) (hm : encNd m = (encNd n).set j u) :
    TreeAt (w.setCell ⟨g, p * 8 + j, none⟩ u) b (.slice (some ⟨g, 0, none⟩) (ns.set p m).length cap) fv (ns.set p m) fr root many ∧ Mod [g] w (w.setCell ⟨g, p * 8 + j, none⟩ u) := by
  have hlt := (List.getElem?_eq_some_iff.1 hp).1
  have e : ns[p] = n := (List.getElem?_eq_some_iff.1 hp).2
  have hmod : Mod [g] w (w.setCell ⟨g, p * 8 + j, none⟩ u) := (Mod.refl _ _).setCell (by simp) _
  have hbg : b ≠ g := fun e => h.bn (by simp [Value.ownBlock, e])
  have hrow := h.row.set encNd_len hlt hj (y := m) (by rw [e]; exact hm)
  refine ⟨⟨?_, by rw [List.length_set]; exact hrow, h.free.kept hmod (fun k hk hm => ?_), by simpa [Value.ownBlock] using Ne.symm hbg, h.bf, fun k hk => h.nf k (by simpa [Value.ownBlock] using hk)⟩, hmod⟩
  · rw [List.length_set]
    exact hmod.heap h.blk (by simpa using hbg)
  · rw [List.mem_singleton] at hm
    subst hm
    exact h.nf k (by simp [Value.ownBlock]) hk
theorem hang_at {w : World} {b : Nat} {nv fv : Value} {ns : List Nd} {fr : List Int} {root many : Int} (h : TreeAt w b nv fv ns fr root many) {p : Nat} {n : Nd} (hp : ns[p]? = some n) (right : Bool) (below : Int) :
    Calls Try.prog 119 #[.pointer (some ⟨b, 0, none⟩), .int .i64 p, .bool right, .int .i64 below] w fun e w' => e = .returned (.tuple #[]) ∧ TreeAt w' b nv fv (hangN ns p right below) fr root many ∧ Mod (blk nv) w w' := by
  have e : hangN ns p right below = ns.set p (if right = true then { n with r := below } else { n with l := below }) := by unfold hangN; rw [nodeN_some hp]
  rw [e]
  obtain ⟨g, cap, rfl, hg, hc⟩ := h.row.at_ hp
  have hlt := (List.getElem?_eq_some_iff.1 hp).1
  have c1 := cell_blk h.blk 1
  simp only [List.getElem?_toArray, List.getElem?_cons_succ, List.getElem?_cons_zero] at c1
  cases right
  · obtain ⟨c3, f3⟩ := nd_cells h.row hp 3 _ rfl
    have H := Lib.hid (h.set hp (m := { n with l := below }) (j := 3) (u := .int .i64 below) (by omega) rfl)
    rw [List.length_set] at H
    clear h hp e
    go_enter Try.func119, Try.ntmps119
    go_wp2_with fail
    go_end0
    exact ⟨rfl, H.out.1, by simpa [blk, Value.ownBlock] using H.out.2⟩
  · obtain ⟨c3, f3⟩ := nd_cells h.row hp 4 _ rfl
    have H := Lib.hid (h.set hp (m := { n with r := below }) (j := 4) (u := .int .i64 below) (by omega) rfl)
    rw [List.length_set] at H
    clear h hp e
    go_enter Try.func119, Try.ntmps119
    go_wp2_with fail
    go_end0
    exact ⟨rfl, H.out.1, by simpa [blk, Value.ownBlock] using H.out.2⟩
end Go.Proofs.Ytngglpekdjhbdaa
namespace Go.Proofs.Ytngglpekdjhbdaa
open Go.RowKit Go.ChangeMaps Go.Deep
set_option linter.unusedSimpArgs false
set_option linter.unusedVariables false
set_option maxRecDepth 20000

theorem isNaN_any (a : Int) (w : World) : Calls Try.prog 79 #[.int .i64 a] w fun e w' => e = .returned (.bool false) ∧ w' = w := by
  have h : (a != a) = false := by simp
  go_enter Try.func79, Try.ntmps79
  go_wp2_with fail
  go_ret
  exact ⟨by simp, rfl⟩
theorem compare_any (a b : Int) (w : World) : Calls Try.prog 55 #[.int .i64 a, .int .i64 b] w fun e w' => e = .returned (.int .i64 (cmpI a b)) ∧ w' = w := by
  unfold cmpI
  by_cases h1 : a < b
  · rw [if_pos h1]
    go_enter Try.func55, Try.ntmps55
    go_wp2_with fail
    refine (isNaN_any a _).mono ?_
    rintro e w1 ⟨rfl, rfl⟩
    go_wp2_with fail
    refine (isNaN_any b _).mono ?_
    rintro e w1 ⟨rfl, rfl⟩
    go_wp2_with fail
    go_ret
    exact ⟨rfl, rfl⟩
  · rw [if_neg h1]
    by_cases h2 : b < a
    · rw [if_pos h2]
      go_enter Try.func55, Try.ntmps55
      go_wp2_with fail
      refine (isNaN_any a _).mono ?_
      rintro e w1 ⟨rfl, rfl⟩
      go_wp2_with fail
      refine (isNaN_any b _).mono ?_
      rintro e w1 ⟨rfl, rfl⟩
      go_wp2_with fail
      go_ret
      exact ⟨rfl, rfl⟩
    · rw [if_neg h2]
      go_enter Try.func55, Try.ntmps55
      go_wp2_with fail
      refine (isNaN_any a _).mono ?_
      rintro e w1 ⟨rfl, rfl⟩
      go_wp2_with fail
      refine (isNaN_any b _).mono ?_
      rintro e w1 ⟨rfl, rfl⟩
      go_wp2_with fail
      go_ret
      exact ⟨rfl, rfl⟩
theorem or3_any {w : World} {g : Nat} {a b c R : Int} (hR : Hid (R = if a ≠ 0 then a else if b ≠ 0 then b else c)) (h0 : w.cell? ⟨g, 0, none⟩ = some (.int .i64 a)) (h1 : w.cell? ⟨g, 1, none⟩ = some (.int .i64 b)) (h2 : w.cell? ⟨g, 2, none⟩ = some (.int .i64 c)) :
    Calls Try.prog 54 #[.slice (some ⟨g, 0, none⟩) 3 3] w fun e w' => e = .returned (.int .i64 R) ∧ w' = w := by
  go_enter Try.func54, Try.ntmps54
  go_wp2_with fail
  go_loopw [8] (fun s8 wj => ∃ k : Nat, k ≤ 3 ∧ s8 = .int .i64 k ∧ wj = w ∧ (0 < k → a = 0) ∧ (1 < k → b = 0) ∧ (2 < k → c = 0)) (fun s8 _ => 3 - (intOf s8).toNat)
  case atStart => exact ⟨0, by omega, rfl, rfl, fun h => by omega, fun h => by omega, fun h => by omega⟩
  case round =>
    obtain ⟨k, hk, rfl, rfl, k0, k1, k2⟩ := hrel
    rcases (show k = 0 ∨ k = 1 ∨ k = 2 ∨ k = 3 by omega) with rfl | rfl | rfl | rfl
    · by_cases ha : a = 0
      · have hq : (a != 0) = false := by simp [ha]
        go_wp2_with fail
        go_roundw
        case rel => exact ⟨1, by omega, by go_num, by first | trivial | rfl, fun _ => ha, fun h => by omega, fun h => by omega⟩
        case measure => simp [intOf]
      · have hq : (a != 0) = true := by simp [ha]
        go_wp2_with fail
        go_ret
        exact ⟨by rw [hR.out, if_pos ha]; rfl, rfl⟩
    · by_cases hb : b = 0
      · have hq : (b != 0) = false := by simp [hb]
        go_wp2_with fail
        go_roundw
        case rel => exact ⟨2, by omega, by go_num, by first | trivial | rfl, fun _ => k0 (by omega), fun _ => hb, fun h => by omega⟩
        case measure => simp [intOf]
      · have hq : (b != 0) = true := by simp [hb]
        go_wp2_with fail
        go_ret
        exact ⟨by rw [hR.out, if_neg (by simpa using k0 (by omega)), if_pos hb]; rfl, rfl⟩
    · by_cases hc : c = 0
      · have hq : (c != 0) = false := by simp [hc]
        go_wp2_with fail
        go_roundw
        case rel => exact ⟨3, by omega, by go_num, by first | trivial | rfl, fun _ => k0 (by omega), fun _ => k1 (by omega), fun _ => hc⟩
        case measure => simp [intOf]
      · have hq : (c != 0) = true := by simp [hc]
        go_wp2_with fail
        go_ret
        exact ⟨by rw [hR.out, if_neg (by simpa using k0 (by omega)), if_neg (by simpa using k1 (by omega))]; rfl, rfl⟩
    · go_wp2_with fail
      go_ret
      exact ⟨by rw [hR.out, if_neg (by simpa using k0 (by omega)), if_neg (by simpa using k1 (by omega)), k2 (by omega)]; rfl, rfl⟩
def itV (x : It) : Value := .agg #[.int .i64 x.f, .int .i64 x.t, .int .i64 x.i]
theorem order_any (x y : It) (w : World) : Calls Try.prog 117 #[itV x, itV y] w fun e w' => e = .returned (.int .i64 (ordI x y)) ∧ Mod [] w w' := by
  obtain ⟨a, b, c⟩ := x
  obtain ⟨d, e, f⟩ := y
  unfold itV
  dsimp only
  have HM := Lib.hid (((((Mod.refl [] w).alloc (.cells #[.int .i64 a, .int .i64 b, .int .i64 c] 92)).alloc (.cells #[.int .i64 d, .int .i64 e, .int .i64 f] 92)).drew).alloc (.cells #[.int .i64 (cmpI a d), .int .i64 (cmpI b e), .int .i64 (cmpI c f)] 3))
  have HR : Hid (ordI ⟨a, b, c⟩ ⟨d, e, f⟩ = if cmpI a d ≠ 0 then cmpI a d else if cmpI b e ≠ 0 then cmpI b e else cmpI c f) := Lib.hid rfl
  generalize ordI ⟨a, b, c⟩ ⟨d, e, f⟩ = R at HR ⊢
  have hb := heap_alloc_new (((w.alloc (.cells #[.int .i64 a, .int .i64 b, .int .i64 c] 92)).alloc (.cells #[.int .i64 d, .int .i64 e, .int .i64 f] 92)).drew) (.cells #[.int .i64 (cmpI a d), .int .i64 (cmpI b e), .int .i64 (cmpI c f)] 3)
  rw [show (((w.alloc (.cells #[.int .i64 a, .int .i64 b, .int .i64 c] 92)).alloc (.cells #[.int .i64 d, .int .i64 e, .int .i64 f] 92)).drew).heap.size = w.heap.size + 2 from by
    show ((w.alloc (.cells #[.int .i64 a, .int .i64 b, .int .i64 c] 92)).alloc (.cells #[.int .i64 d, .int .i64 e, .int .i64 f] 92)).heap.size = _
    simp] at hb
  have HO := Lib.hid (or3_any HR (w := (((w.alloc (.cells #[.int .i64 a, .int .i64 b, .int .i64 c] 92)).alloc (.cells #[.int .i64 d, .int .i64 e, .int .i64 f] 92)).drew).alloc (.cells #[.int .i64 (cmpI a d), .int .i64 (cmpI b e), .int .i64 (cmpI c f)] 3)) (g := w.heap.size + 2) (a := cmpI a d) (b := cmpI b e) (c := cmpI c f) (by rw [cell_blk hb 0]; rfl) (by rw [cell_blk hb 1]; rfl) (by rw [cell_blk hb 2]; rfl))
  clear hb
  go_enter Try.func117, Try.ntmps117
  go_wp2_with fail
  refine wp_plan [([0, 2, 5, 7, 10, 12, 1, 3, 6, 8, 11, 13], 4, [5, 7, 10, 12, 6, 8, 11, 13]), ([], 9, [10, 12, 11, 13]), ([], 14, []), ([], 15, []), ([], 16, [])] [17] (by kernel_rfl) (by kernel_rfl) ?_
  simp only [wpSegs, opsOf, List.map_cons, List.map_nil, opN, List.getD_cons_zero, List.getD_cons_succ]
  go_wp2_with fail
  refine ⟨by first | trivial | rfl, ?_⟩
  go_wp2_with fail
  refine (compare_any a d _).mono ?_
  rintro e1 w1 ⟨rfl, rfl⟩
  go_wp2_with fail
  refine ⟨?agA, ?_⟩
  case agA =>
    intro i hi hw
    simp only [List.mem_cons, List.not_mem_nil, or_false] at hi
    rcases hi with rfl | rfl | rfl | rfl | rfl | rfl | rfl | rfl
    all_goals (simp only [opN, List.getD_cons_zero, List.getD_cons_succ, slotOf]; go_simp)
  go_wp2_with fail
  refine ⟨by first | trivial | rfl, ?_⟩
  go_wp2_with fail
  refine (compare_any b e _).mono ?_
  rintro e1 w1 ⟨rfl, rfl⟩
  go_wp2_with fail
  refine ⟨?agB, ?_⟩
  case agB =>
    intro i hi hw
    simp only [List.mem_cons, List.not_mem_nil, or_false] at hi
    rcases hi with rfl | rfl | rfl | rfl
    all_goals (simp only [opN, List.getD_cons_zero, List.getD_cons_succ, slotOf]; go_simp)
  go_wp2_with fail
  refine ⟨by first | trivial | rfl, ?_⟩
  go_wp2_with fail
  refine (compare_any c f _).mono ?_
  rintro e1 w1 ⟨rfl, rfl⟩
  go_wp2_with fail
  refine ⟨again_nil, ?_⟩
  go_wp2_with fail
  refine ⟨by first | trivial | rfl, ?_⟩
  go_wp2_with fail
  refine ⟨again_nil, ?_⟩
  go_wp2_with fail
  refine ⟨by first | trivial | rfl, ?_⟩
  go_wp2_with fail
  refine HO.out.mono ?_
  rintro e1 w1 ⟨rfl, rfl⟩
  go_wp2_with fail
  refine ⟨again_nil, ?_⟩
  go_wp2_with fail
  refine ⟨by first | trivial | rfl, ?_⟩
  go_wp2_with fail
  go_ret
  exact ⟨rfl, HM.out⟩
end Go.Proofs.Ytngglpekdjhbdaa
namespace Go.Proofs.Ytngglpekdjhbdaa
open Go.RowKit Go.ChangeMaps Go.Deep
set_option linter.unusedSimpArgs false
set_option linter.unusedVariables false
set_option maxRecDepth 20000

/-- a link leads nowhere, or to a node -/
def Lk (ns : List Nd) (i : Int) : Prop := i = -1 ∨ ∃ (q : Nat) (m : Nd), i = q ∧ ns[q]? = some m
theorem height_lk {w : World} {b : Nat} {nv fv : Value} {ns : List Nd} {fr : List Int} {root many : Int} (h : TreeAt w b nv fv ns fr root many) {i : Int} (hi : Lk ns i) :
    Calls Try.prog 127 #[.pointer (some ⟨b, 0, none⟩), .int .i64 i] w fun e w' => e = .returned (.int .i64 (htN ns i)) ∧ w' = w := by
  rcases hi with rfl | ⟨q, m, rfl, hm⟩
  · exact height_none b (-1) (by omega) _ w
  · have : htN ns (q : Int) = m.h := by
      unfold htN
      rw [if_neg (by omega), show ((q : Int).toNat) = q by omega, nodeN_some hm]
    rw [this]
    exact height_at h hm
theorem TreeAt.kept0 {w w' : World} {b : Nat} {nv fv : Value} {ns : List Nd} {fr : List Int} {root many : Int} (h : TreeAt w b nv fv ns fr root many) (hm : Mod [] w w') : TreeAt w' b nv fv ns fr root many :=
  ⟨hm.heap h.blk (by simp), h.row.kept0 hm, h.free.kept0 hm, h.bn, h.bf, h.nf⟩
theorem xIndex {P : Program} {ops : Array Oper} {rest : List Oper} {o : Oper} {a : Act} {w w' : World} {Q : Exit → Act → World → Prop} {v : Value} {t : TypeId} {x i : Operand} {X I : Value} (ho : o.op = .index t x i) (hrun : (Instr.index t X I).run P w = .ok v w') (hx : a.eval x = X) (hi : a.eval i = I)
    (hg : Region.wanted o (yielded ops a.tmps) = true) (h : wpList P ops Q rest (a.put o.dst v) w') : wpList P ops Q (o :: rest) a w := by
  subst hx hi
  exact wpList_val hg (by unfold execOp; rw [ho]; simp [Sem.run_bind, hrun, Result.andThen]) h
theorem run_index0 (x y : Int) (w : World) : (Instr.index 191 (.agg #[.int .i64 x, .int .i64 y]) (.int .i64 0)).run Try.prog w = .ok (.int .i64 x) w := by
  simp [Instr.index, run_underlying Try.underlying191, asIntOf, go_sem]
theorem run_index1 (x y : Int) (w : World) : (Instr.index 191 (.agg #[.int .i64 x, .int .i64 y]) (.int .i64 1)).run Try.prog w = .ok (.int .i64 y) w := by
  simp [Instr.index, run_underlying Try.underlying191, asIntOf, go_sem]
def topA (ns : List Nd) (n : Nd) (k : Nat) : Int := if k = 0 then n.x.t else if k = 1 then topN ns n.l n.x.t else topN ns n.r (topN ns n.l n.x.t)
set_option maxHeartbeats 4000000 in
theorem sum_at {w : World} {b : Nat} {nv fv : Value} {ns : List Nd} {fr : List Int} {root many : Int} (h : TreeAt w b nv fv ns fr root many) {p : Nat} {n : Nd} (hp : ns[p]? = some n)
    (kl : Lk ns n.l) (kr : Lk ns n.r) (nl : n.l ≠ p) (nr : n.r ≠ p) (hl0 : 0 ≤ htN ns n.l) (hl1 : htN ns n.l ≤ 1000) (hr0 : 0 ≤ htN ns n.r) (hr1 : htN ns n.r ≤ 1000) :
    Calls Try.prog 126 #[.pointer (some ⟨b, 0, none⟩), .int .i64 p] w fun e w' => e = .returned (.tuple #[]) ∧ TreeAt w' b nv fv (sumN ns p) fr root many ∧ Mod (blk nv) w w' := by
  have e : sumN ns p = ns.set p { n with h := 1 + max (htN ns n.l) (htN ns n.r), t := topN ns n.r (topN ns n.l n.x.t) } := by unfold sumN; rw [nodeN_some hp]
  rw [e]
  obtain ⟨g, cap, rfl, hg, hc⟩ := h.row.at_ hp
  have hlt := (List.getElem?_eq_some_iff.1 hp).1
  have c1 := cell_blk h.blk 1
  simp only [List.getElem?_toArray, List.getElem?_cons_succ, List.getElem?_cons_zero] at c1
  have hd := h.kept0 ((Mod.refl [] w).drew)
  obtain ⟨c1', f1'⟩ := nd_cells h.row hp 1 _ rfl
  have c3 := (nd_cells h.row hp 3 _ rfl).1
  have c4 := (nd_cells h.row hp 4 _ rfl).1
  obtain ⟨c5, f5⟩ := nd_cells h.row hp 5 _ rfl
  obtain ⟨c6, f6⟩ := nd_cells h.row hp 6 _ rfl
  have HL := Lib.hid (height_lk hd kl)
  have HR := Lib.hid (height_lk hd kr)
  generalize hHl : htN ns n.l = Hl at *
  generalize hHr : htN ns n.r = Hr at *
  have hmax : (Hl < Hr ∧ max Hl Hr = Hr) ∨ (Hr ≤ Hl ∧ max Hl Hr = Hl) := by omega
  generalize max Hl Hr = H at *
  obtain ⟨S5, M5⟩ := hd.set hp (m := { n with h := 1 + H }) (j := 5) (u := .int .i64 (1 + H)) (by omega) rfl
  have hp5 := set_self (m := { n with h := 1 + H }) hp
  obtain ⟨S6, M6⟩ := S5.set hp5 (m := { n with h := 1 + H, t := n.x.t }) (j := 6) (u := .int .i64 n.x.t) (by omega) rfl
  rw [List.set_set] at S6
  have hm56 : Mod [g] w (((w.drew).setCell ⟨g, p * 8 + 5, none⟩ (.int .i64 (1 + H))).setCell ⟨g, p * 8 + 6, none⟩ (.int .i64 n.x.t)) := (((Mod.refl [g] w).drew).setCell (by simp) _).setCell (by simp) _
  have HS := Lib.hid S6
  have HM := Lib.hid hm56
  have KL := Lib.hid kl
  have KR := Lib.hid kr
  have HP := Lib.hid hp
  have q5 := (nd_cells S5.row hp5 1 _ rfl).1
  have q6 := nd_cells S5.row hp5 6 _ rfl
  obtain ⟨q6, r6⟩ := q6
  have x3 := (nd_cells S6.row (by rw [← List.set_set (a := { n with h := 1 + H })]; exact set_self hp5) 3 _ rfl).1
  have x4 := (nd_cells S6.row (by rw [← List.set_set (a := { n with h := 1 + H })]; exact set_self hp5) 4 _ rfl).1
  clear S5 S6 M5 M6 h hd hm56 kl kr
  rcases hmax with ⟨hlr, hH⟩ | ⟨hlr, hH⟩
  all_goals
    subst hH
    go_enter Try.func126, Try.ntmps126
    go_wp2_with fail
    refine wp_plan [([0, 1, 2, 8, 9, 3, 10, 4, 11, 5, 12, 6, 13], 7, [10, 11, 12, 13]), ([], 14, []), ([], 15, []), ([16, 17, 18, 19], 20, [])] [] (by kernel_rfl) (by kernel_rfl) ?_
    simp only [wpSegs, opsOf, List.map_cons, List.map_nil, opN, List.getD_cons_zero, List.getD_cons_succ]
    go_wp2_with fail
    refine ⟨by first | trivial | rfl, ?_⟩
    go_wp2_with fail
    refine HL.out.mono ?_
    rintro e1 w1 ⟨rfl, rfl⟩
    go_wp2_with fail
    refine ⟨?agA, ?_⟩
    case agA =>
      intro i hi hw
      simp only [List.mem_cons, List.not_mem_nil, or_false] at hi
      rcases hi with rfl | rfl | rfl | rfl
      all_goals (simp only [opN, List.getD_cons_zero, List.getD_cons_succ, slotOf]; go_simp)
    go_wp2_with fail
    refine ⟨by first | trivial | rfl, ?_⟩
    go_wp2_with fail
    refine HR.out.mono ?_
    rintro e1 w1 ⟨rfl, rfl⟩
    go_wp2_with fail
    refine ⟨again_nil, ?_⟩
    go_wp2_with fail
    refine ⟨by first | trivial | rfl, ?_⟩
    go_wp2_with fail
    refine ⟨again_nil, ?_⟩
    go_wp2_with fail
    refine ⟨by first | trivial | rfl, ?_⟩
    go_wp2_with fail
    refine ⟨again_nil, ?_⟩
    go_wp2_with fail
    refine ⟨by first | trivial | rfl, ?_⟩
    go_wp2_with fail
    refine wp_plan [([0, 5, 11, 1, 6, 2, 7, 3, 8, 4, 9], 10, [])] [] (by kernel_rfl) (by kernel_rfl) ?_
    simp only [wpSegs, opsOf, List.map_cons, List.map_nil, opN, List.getD_cons_zero, List.getD_cons_succ]
    go_wp2_with fail
    refine ⟨by first | trivial | rfl, ?_⟩
    go_wp2_with fail
    refine ⟨again_nil, ?_⟩
    go_wp2_with fail
    refine ⟨by first | trivial | rfl, ?_⟩
    go_wp2_with fail
    clear HL HR q5 q6 r6 x3 x4 c1 c1' f1' c3 c4 c5 f5 c6 f6
    go_loopw [54] (fun s54 wj => ∃ k : Nat, k ≤ 2 ∧ s54 = .int .i64 k ∧ Hid (TreeAt wj b (.slice (some ⟨g, 0, none⟩) (ns.set p { n with h := 1 + H, t := topA ns n k }).length cap) fv (ns.set p { n with h := 1 + H, t := topA ns n k }) fr root many) ∧ Hid (Mod [g] w wj)) (fun s54 _ => 2 - (intOf s54).toNat)
    case atStart => exact ⟨0, by omega, rfl, Lib.hid (HS.out.kept0 ((Mod.refl [] _).drew)), Lib.hid (HM.out.drew)⟩
    case round =>
      obtain ⟨k, hk, rfl, hT, hM⟩ := hrel
      have hix0 := run_index0
      have hix1 := run_index1
      rcases (show k = 0 ∨ k = 1 ∨ k = 2 by omega) with rfl | rfl | rfl
      · rcases KL.out with hi | ⟨q, m, hi, hm⟩
        · have HN := Lib.hid (show topA ns n 1 = topA ns n 0 by simp [topA, hi, topN])
          have hneg : ¬ (0 : Int) ≤ -1 := by omega
          rw [hi]
          go_wp2_with fail
          go_roundw
          case rel => exact ⟨1, by omega, by go_num, by rw [HN.out, ← hi]; exact hT, hM⟩
          case measure => simp [intOf]
        · have hqp : q ≠ p := fun e => nl (by omega)
          have hmax : (topA ns n 0 < m.t ∧ max (topA ns n 0) m.t = m.t) ∨ (m.t ≤ topA ns n 0 ∧ max (topA ns n 0) m.t = topA ns n 0) := by omega
          have HN := Lib.hid (show topA ns n 1 = max (topA ns n 0) m.t by
            have : topN ns n.l (topA ns n 0) = max (topA ns n 0) m.t := by
              unfold topN
              rw [hi, if_pos (by omega), show ((q : Int).toNat) = q by omega, nodeN_some hm]
            rw [← this]; simp [topA])
          have hqlt := (List.getElem?_eq_some_iff.1 hm).1
          have hqi : ((q : Nat) : Int) < (ns.length : Int) := by omega
          have hT2 := hT.out.kept0 ((Mod.refl [] wr).drew)
          have hps := set_self (m := { n with h := 1 + H, t := topA ns n 0 }) HP.out
          obtain ⟨a6, b6⟩ := nd_cells hT2.row hps 6 _ rfl
          have d6 := (nd_cells hT2.row (by rw [set_other hqp]; exact hm) 6 _ rfl).1
          have e1 := cell_blk hT2.blk 1
          simp only [List.getElem?_toArray, List.getElem?_cons_succ, List.getElem?_cons_zero, List.length_set] at e1
          dsimp only at a6
          generalize hB : max (topA ns n 0) m.t = B at *
          have S7 := (hT.out.set hps (m := { n with h := 1 + H, t := B }) (j := 6) (u := .int .i64 B) (by omega) rfl).1
          rw [List.set_set] at S7
          have HS7 := Lib.hid (S7.kept0 ((Mod.refl [] _).drew))
          have HM7 := Lib.hid ((hM.out.setCell (p := ⟨g, p * 8 + 6, none⟩) (by simp) (.int .i64 B)).drew)
          clear S7 hT2 hps
          rw [hi]
          generalize topA ns n 0 = A at *
          rcases hmax with ⟨hAB, hB2⟩ | ⟨hAB, hB2⟩
          all_goals
            subst hB2
            go_wp2_with fail
            refine wp_plan [([0, 1, 6, 10, 2, 7, 3, 8, 4, 9, 5, 11, 12, 13, 14], 15, []), ([16, 17, 18], 19, [])] [] (by kernel_rfl) (by kernel_rfl) ?_
            simp only [wpSegs, opsOf, List.map_cons, List.map_nil, opN, List.getD_cons_zero, List.getD_cons_succ]
            go_wp2_with fail
            refine ⟨by first | trivial | rfl, ?_⟩
            go_wp2_with fail
            refine ⟨again_nil, ?_⟩
            go_wp2_with fail
            refine ⟨by first | trivial | rfl, ?_⟩
            go_wp2_with fail
            refine ⟨again_nil, ?_⟩
            go_wp2_with fail
            refine ⟨by first | trivial | rfl, ?_⟩
            go_wp2_with fail
            go_roundw
            case rel => exact ⟨1, by omega, by go_num, by rw [HN.out, ← hi]; exact HS7, HM7⟩
            case measure => simp [intOf]
      · rcases KR.out with hi | ⟨q, m, hi, hm⟩
        · have HN := Lib.hid (show topA ns n 2 = topA ns n 1 by simp [topA, hi, topN])
          have hneg : ¬ (0 : Int) ≤ -1 := by omega
          rw [hi]
          go_wp2_with fail
          go_roundw
          case rel => exact ⟨2, by omega, by go_num, by rw [HN.out, ← hi]; exact hT, hM⟩
          case measure => simp [intOf]
        · have hqp : q ≠ p := fun e => nr (by omega)
          have hmax : (topA ns n 1 < m.t ∧ max (topA ns n 1) m.t = m.t) ∨ (m.t ≤ topA ns n 1 ∧ max (topA ns n 1) m.t = topA ns n 1) := by omega
          have HN := Lib.hid (show topA ns n 2 = max (topA ns n 1) m.t by
            have : topN ns n.r (topA ns n 1) = max (topA ns n 1) m.t := by
              unfold topN
              rw [hi, if_pos (by omega), show ((q : Int).toNat) = q by omega, nodeN_some hm]
            rw [← this]; simp [topA])
          have hqlt := (List.getElem?_eq_some_iff.1 hm).1
          have hqi : ((q : Nat) : Int) < (ns.length : Int) := by omega
          have hT2 := hT.out.kept0 ((Mod.refl [] wr).drew)
          have hps := set_self (m := { n with h := 1 + H, t := topA ns n 1 }) HP.out
          obtain ⟨a6, b6⟩ := nd_cells hT2.row hps 6 _ rfl
          have d6 := (nd_cells hT2.row (by rw [set_other hqp]; exact hm) 6 _ rfl).1
          have e1 := cell_blk hT2.blk 1
          simp only [List.getElem?_toArray, List.getElem?_cons_succ, List.getElem?_cons_zero, List.length_set] at e1
          dsimp only at a6
          generalize hB : max (topA ns n 1) m.t = B at *
          have S7 := (hT.out.set hps (m := { n with h := 1 + H, t := B }) (j := 6) (u := .int .i64 B) (by omega) rfl).1
          rw [List.set_set] at S7
          have HS7 := Lib.hid (S7.kept0 ((Mod.refl [] _).drew))
          have HM7 := Lib.hid ((hM.out.setCell (p := ⟨g, p * 8 + 6, none⟩) (by simp) (.int .i64 B)).drew)
          clear S7 hT2 hps
          rw [hi]
          generalize topA ns n 1 = A at *
          rcases hmax with ⟨hAB, hB2⟩ | ⟨hAB, hB2⟩
          all_goals
            subst hB2
            go_wp2_with fail
            refine wp_plan [([0, 1, 6, 10, 2, 7, 3, 8, 4, 9, 5, 11, 12, 13, 14], 15, []), ([16, 17, 18], 19, [])] [] (by kernel_rfl) (by kernel_rfl) ?_
            simp only [wpSegs, opsOf, List.map_cons, List.map_nil, opN, List.getD_cons_zero, List.getD_cons_succ]
            go_wp2_with fail
            refine ⟨by first | trivial | rfl, ?_⟩
            go_wp2_with fail
            refine ⟨again_nil, ?_⟩
            go_wp2_with fail
            refine ⟨by first | trivial | rfl, ?_⟩
            go_wp2_with fail
            refine ⟨again_nil, ?_⟩
            go_wp2_with fail
            refine ⟨by first | trivial | rfl, ?_⟩
            go_wp2_with fail
            go_roundw
            case rel => exact ⟨2, by omega, by go_num, by rw [HN.out, ← hi]; exact HS7, HM7⟩
            case measure => simp [intOf]
      · go_wp2_with fail
        go_end0
        refine ⟨rfl, ?_, by simpa [blk, Value.ownBlock] using hM.out⟩
        have := hT.out
        rw [List.length_set] at this
        exact this
end Go.Proofs.Ytngglpekdjhbdaa
