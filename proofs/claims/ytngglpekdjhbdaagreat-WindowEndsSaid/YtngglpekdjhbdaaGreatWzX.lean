/- Layer 11 at values: none, New. -/
import Derived.Test.YtngglpekdjhbdaaGreatWzW
import Derived.Test.YtngglpekdjhbdaaGreatWzU
import Derived.Test.YtngglpekdjhbdaaGreatWzV
namespace Go.Proofs.YtngglpekdjhbdaaGreat
open Go.RowKit Go.ChangeMaps Go.Deep Tr
set_option linter.unusedSimpArgs false
set_option linter.unusedVariables false
set_option maxRecDepth 20000

def encQ (q : Value × Value × Value × Value) : List Value := [q.1, q.2.1, q.2.2.1, q.2.2.2]
def quad (z : Int) : Value × Value × Value × Value := (.int .u8 (vl z).k, .int .i64 (vl z).c, .int .i64 (vl z).s, .int .i64 (vl z).e)
theorem flat_quad (l : List Int) : flat encZ l = flat encQ (l.map quad) := by
  unfold flat
  rw [List.flatMap_map]
  rfl
theorem ownQ {w : World} {base : Nat} {v : Value} {l : List Int} : OwnR encZ 4 35 w base v l ↔ OwnR encQ 4 35 w base v (l.map quad) := by
  unfold OwnR
  rw [flat_quad, List.length_map]
theorem ownZ_set {w : World} {base g cap : Nat} {l : List Int} (h : OwnR encZ 4 35 w base (.slice (some ⟨g, 0, none⟩) l.length cap) l) {i : Nat} (hi : i < l.length) {v k c s e : Int} (hv : vl v = ⟨k, c, s, e⟩) :
    OwnR encZ 4 35 ((((w.setCell ⟨g, i * 4, none⟩ (.int .u8 k)).setCell ⟨g, i * 4 + 1, none⟩ (.int .i64 c)).setCell ⟨g, i * 4 + 2, none⟩ (.int .i64 s)).setCell ⟨g, i * 4 + 3, none⟩ (.int .i64 e)) base (.slice (some ⟨g, 0, none⟩) l.length cap) (l.set i v) := by
  have hl : ∀ q, (encQ q).length = 4 := fun _ => rfl
  have h0 := ownQ.1 h
  rw [show l.length = (l.map quad).length by simp] at h0
  have hi0 : i < (l.map quad).length := by simpa using hi
  have h1 := h0.set hl hi0 (j := 0) (by omega) (u := .int .u8 k) (y := (.int .u8 k, (l.map quad)[i].2)) rfl
  rw [show (l.map quad).length = ((l.map quad).set i (.int .u8 k, (l.map quad)[i].2)).length by simp] at h1
  have h2 := h1.set hl (by simpa using hi) (j := 1) (by omega) (u := .int .i64 c) (y := (.int .u8 k, .int .i64 c, (l.map quad)[i].2.2)) (by simp [encQ])
  rw [List.set_set, show ((l.map quad).set i (.int .u8 k, (l.map quad)[i].2)).length = ((l.map quad).set i (.int .u8 k, .int .i64 c, (l.map quad)[i].2.2)).length by simp] at h2
  have h3 := h2.set hl (by simpa using hi) (j := 2) (by omega) (u := .int .i64 s) (y := (.int .u8 k, .int .i64 c, .int .i64 s, (l.map quad)[i].2.2.2)) (by simp [encQ])
  rw [List.set_set, show ((l.map quad).set i (.int .u8 k, .int .i64 c, (l.map quad)[i].2.2)).length = ((l.map quad).set i (.int .u8 k, .int .i64 c, .int .i64 s, (l.map quad)[i].2.2.2)).length by simp] at h3
  have h4 := h3.set hl (by simpa using hi) (j := 3) (by omega) (u := .int .i64 e) (y := (.int .u8 k, .int .i64 c, .int .i64 s, .int .i64 e)) (by simp [encQ])
  rw [List.set_set, show ((l.map quad).set i (.int .u8 k, .int .i64 c, .int .i64 s, (l.map quad)[i].2.2.2)).length = l.length by simp] at h4
  refine ownQ.2 ?_
  rw [List.map_set, show quad v = (.int .u8 k, .int .i64 c, .int .i64 s, .int .i64 e) by unfold quad; rw [hv]]
  simpa using h4
set_option maxHeartbeats 8000000 in
theorem layZ_old {w : World} {g b M : Nat} {vv gv nv fv : Value} {ns : List Nd} {fr : List Int} {T : Tr} {vs fs : List Int} {k : Nat} {E : List (It × Int)} {f t v : Int} (S0 : LvSt w g b vv gv nv fv ns fr T vs (fs ++ [(k : Int)])) (hp : (T.items.map (valOf vs)).Perm E) (hn : ns.length ≤ M) (hvM : vs.length ≤ M) (hM : M ≤ 99999) (hft : f < t) (hv : v ≠ 0) :
    Calls Tryz.prog 29 #[.pointer (some ⟨g, 0, none⟩), .int .i64 f, .int .i64 t, valZ v] w fun e w' => e = .returned (.tuple #[]) ∧ ∃ id, LvPost w g (lnB g b vv gv nv fv) (max M (E.length + 1)) ((⟨f, t, id⟩, v) :: E) w' := by
  obtain ⟨kv, cv, sv, ev, hvl⟩ := valZ_form v
  have hvz : valZ v = .agg #[.int .u8 kv, .int .i64 cv, .int .i64 sv, .int .i64 ev] := by unfold valZ; rw [hvl]
  have hez : encZ v = [.int .u8 kv, .int .i64 cv, .int .i64 sv, .int .i64 ev] := by unfold encZ; rw [hvl]
  have hnz : ¬ (kv = 0 ∧ cv = 0 ∧ sv = 0 ∧ ev = 0) := by
    rintro ⟨rfl, rfl, rfl, rfl⟩
    exact hv (vl_inj.1 (by rw [hvl, vl_zero]))
  have h4 : ¬ kv = 0 ∨ (kv = 0 ∧ ¬ cv = 0) ∨ (kv = 0 ∧ cv = 0 ∧ ¬ sv = 0) ∨ (kv = 0 ∧ cv = 0 ∧ sv = 0 ∧ ¬ ev = 0) := by omega
  clear hnz
  obtain ⟨A1, hA1, n1, s1, m1⟩ := alloc_named2 w (.cells #[.int .u8 kv, .int .i64 cv, .int .i64 sv, .int .i64 ev] 35)
  obtain ⟨A2, hA2, n2, s2, m2⟩ := alloc_named2 A1 (.cells #[.int .u8 0, .int .i64 0, .int .i64 0, .int .i64 0] 35)
  rw [s1] at n2
  have S := S0.kept (m1.trans m2) (by simp)
  have hlt0 := S0.lt
  have bX := m2.heap n1 (by simp)
  have x0 := cell_blk bX 0
  have x1 := cell_blk bX 1
  have x2 := cell_blk bX 2
  have x3 := cell_blk bX 3
  have z0 := cell_blk n2 0
  have z1 := cell_blk n2 1
  have z2 := cell_blk n2 2
  have z3 := cell_blk n2 3
  simp only [List.getElem?_toArray, List.getElem?_cons_succ, List.getElem?_cons_zero] at x0 x1 x2 x3 z0 z1 z2 z3
  have HM12 := Lib.hid (m1.trans m2)
  rw [hvz]
  clear S0
  have hlen : (fs ++ [(k : Int)]).length = fs.length + 1 := by simp
  have hkl : k < vs.length := by
    obtain ⟨j, e1, e2⟩ := S.frs (k : Int) (by simp)
    omega
  obtain ⟨q, gc, rfl, hq, hqc⟩ := S.free.at_ (show (fs ++ [(k : Int)])[fs.length]? = some (k : Int) by simp)
  obtain ⟨y, yc, rfl, hy, hyc⟩ := S.vals.at_ (show vs[k]? = some vs[k] from List.getElem?_eq_getElem hkl)
  have kq := (S.free.cell encI_len (i := fs.length) (by rw [hlen]; omega) (j := 0) (by omega) (u := .int .i64 (k : Int)) (by simp [encI])).1
  simp only [Nat.mul_one, Nat.add_zero] at kq
  have FT := S.free.take encI_len fs.length (by rw [hlen]; omega)
  rw [show (fs ++ [(k : Int)]).take fs.length = fs by simp] at FT
  have hd : decide (t ≤ f) = false := decide_eq_false (by omega)
  have hn0 : decide ((0 : Int) < (fs.length : Int) + 1) = true := decide_eq_true (by omega)
  rw [hlen] at hqc
  have c0 := cell_blk S.blk 0
  have c1 := cell_blk S.blk 1
  have c2 := cell_blk S.blk 2
  simp only [List.getElem?_toArray, List.getElem?_cons_succ, List.getElem?_cons_zero, hlen] at c0 c1 c2
  have f2 := frozen_blk S.blk 2
  have hful := S.full
  rw [hlen] at hful
  have hfl : fs.length < 99999 := by omega
  have hi0 : decide ((fs.length : Int) < 0) = false := decide_eq_false (by omega)
  have hi1 : decide ((fs.length : Int) + 1 ≤ (fs.length : Int)) = false := decide_eq_false (by omega)
  have hi2 : decide ((gc : Int) < (fs.length : Int)) = false := decide_eq_false (by omega)
  have hk0 : decide ((k : Int) < 0) = false := decide_eq_false (by omega)
  have hk1 : decide ((vs.length : Int) ≤ (k : Int)) = false := decide_eq_false (by omega)
  have b1 := heap_setCell_blk S.blk 2 (.slice (some ⟨q, 0, none⟩) fs.length gc)
  have m1 : Mod [g] A2 (A2.setCell ⟨g, 2, none⟩ (.slice (some ⟨q, 0, none⟩) fs.length gc)) := (Mod.refl _ A2).setCell (by simp) _
  obtain ⟨W1, hW1⟩ : ∃ W, A2.setCell ⟨g, 2, none⟩ (.slice (some ⟨q, 0, none⟩) fs.length gc) = W := ⟨_, rfl⟩
  rw [hW1] at b1 m1
  have hg0 := (List.nodup_cons.1 S.apart).1
  have hg1 : ∀ j ∈ b :: (blk (.slice (some ⟨y, 0, none⟩) vs.length yc) ++ (blk (.slice (some ⟨q, 0, none⟩) (fs ++ [(k : Int)]).length gc) ++ (blk nv ++ blk fv))), j ∉ [g] := fun j hk hm => by
    rw [List.mem_singleton] at hm
    subst hm
    exact hg0 hk
  have V1 := S.vals.kept m1 (fun k hk => hg1 k (by simp [mem_blk, hk]))
  have fy : ∀ (j : Nat) (u : Value), (encZ vs[k])[j]? = some u → W1.cell? ⟨y, k * 4 + j, none⟩ = some u ∧ W1.frozen? ⟨y, k * 4 + j, none⟩ = false := fun j u hu => V1.cell encZ_len hkl (j := j) (by have := (List.getElem?_eq_some_iff.1 hu).1; rw [encZ_len] at this; exact this) hu
  obtain ⟨fy0, fz0⟩ := fy 0 _ rfl
  obtain ⟨fy1, fz1⟩ := fy 1 _ rfl
  obtain ⟨fy2, fz2⟩ := fy 2 _ rfl
  obtain ⟨fy3, fz3⟩ := fy 3 _ rfl
  simp only [Nat.add_zero] at fy0 fz0
  have hxB : w.heap.size ∉ [g] := by have := hlt0 g (by simp [lnB]); simp; omega
  have bX1 := m1.heap bX hxB
  have u0 := cell_blk bX1 0
  have u1 := cell_blk bX1 1
  have u2 := cell_blk bX1 2
  have u3 := cell_blk bX1 3
  have d0 := cell_blk b1 0
  have d1 := cell_blk b1 1
  simp at d0 d1
  simp only [List.getElem?_toArray, List.getElem?_cons_succ, List.getElem?_cons_zero] at u0 u1 u2 u3
  have V2 := ownZ_set V1 hkl hvl
  have m2 : Mod [y] W1 ((((W1.setCell ⟨y, k * 4, none⟩ (.int .u8 kv)).setCell ⟨y, k * 4 + 1, none⟩ (.int .i64 cv)).setCell ⟨y, k * 4 + 2, none⟩ (.int .i64 sv)).setCell ⟨y, k * 4 + 3, none⟩ (.int .i64 ev)) := ((((Mod.refl _ _).setCell (by simp) _).setCell (by simp) _).setCell (by simp) _).setCell (by simp) _
  obtain ⟨W2, hW2⟩ : ∃ W, (((W1.setCell ⟨y, k * 4, none⟩ (.int .u8 kv)).setCell ⟨y, k * 4 + 1, none⟩ (.int .i64 cv)).setCell ⟨y, k * 4 + 2, none⟩ (.int .i64 sv)).setCell ⟨y, k * 4 + 3, none⟩ (.int .i64 ev) = W := ⟨_, rfl⟩
  rw [hW2] at V2 m2
  replace V2 := V2.kept0 (((Mod.refl [] _).drew).drew)
  have hV := apart_of lnB_V S.apart
  have hy1 : ∀ j ∈ g :: b :: (blk (.slice (some ⟨q, 0, none⟩) (fs ++ [(k : Int)]).length gc) ++ (blk nv ++ blk fv)), j ∉ [y] := fun j hj hm => hV j hj (by rw [mem_blk]; simp at hm; simp [Value.ownBlock, hm])
  have b2 := m2.heap b1 (hy1 g (by simp))
  have b2d := (((Mod.refl [] W2).drew).drew).heap b2 (by simp)
  have m2d : Mod [y] W1 W2.drew.drew := (m2.drew).drew
  have g0 := cell_blk b2 0
  simp at g0
  have T2 : AvlSt W2.drew.drew b nv fv ns fr T := ⟨(S.tree.tree.keptL m1 (hg1 b (by simp)) (fun k hk => hg1 k (by simp [mem_blk, hk])) (fun k hk => hg1 k (by simp [mem_blk, hk]))).keptL m2d (hy1 b (by simp)) (fun k hk => hy1 k (by simp [mem_blk, hk])) (fun k hk => hy1 k (by simp [mem_blk, hk])), S.tree.rep, S.tree.avl, S.tree.srt, S.tree.nodup, S.tree.free, S.tree.fnd, S.tree.full⟩
  have hqb : blk (.slice (some ⟨q, 0, none⟩) fs.length gc) = blk (.slice (some ⟨q, 0, none⟩) (fs ++ [(k : Int)]).length gc) := rfl
  have heqB : lnB g b (.slice (some ⟨y, 0, none⟩) vs.length yc) (.slice (some ⟨q, 0, none⟩) fs.length gc) nv fv = lnB g b (.slice (some ⟨y, 0, none⟩) vs.length yc) (.slice (some ⟨q, 0, none⟩) (fs ++ [(k : Int)]).length gc) nv fv := rfl
  have hkT : ∀ x ∈ T.items, x.i ≠ (k : Int) := fun x hx e => by
    obtain ⟨j, e1, e2, e3⟩ := S.ids x hx
    exact e3 (by simp [e])
  have hfnd := List.nodup_append.1 S.fnd
  have CI := Lib.hid (insert_at T2 ⟨f, t, k⟩ (fun h => hkT _ h rfl) hft (by omega) (by omega))
  have HF := Lib.hid (fun w3 (hI : InsPost W2.drew.drew b nv fv ns ⟨f, t, k⟩ T w3) => layZ_fin (g := g) (k := k) (vv := .slice (some ⟨y, 0, none⟩) vs.length yc) (gv := .slice (some ⟨q, 0, none⟩) fs.length gc) (vs := vs.set k v) (vs0 := vs) (fs := fs) (E := E) (v := v) (M := M)
    (by simpa using b2d) V2 ((FT.kept m1 (fun k hk => hg1 k (by rw [← hqb]; simp [mem_blk, hk]))).kept m2d (fun k hk => hy1 k (by rw [← hqb]; simp [mem_blk, hk]))) T2 (by rw [heqB]; exact S.apart) (by simpa using hkl) (fun h => hfnd.2.2 _ h _ (List.mem_singleton.2 rfl) rfl) hkT
    (fun x hx => by obtain ⟨j, e1, e2, e3⟩ := S.ids x hx; exact ⟨j, e1, by simpa using e2, fun h => e3 (by simp [h])⟩)
    (fun x hx => by
      obtain ⟨j, e1, e2, e3⟩ := S.ids x hx
      have hne : k ≠ j := fun e => hkT x hx (by rw [e1, e])
      unfold valOf
      rw [e1, Int.toNat_natCast, List.getD_eq_getElem?_getD, List.getD_eq_getElem?_getD, List.getElem?_set_ne hne]) S.inj (fun i hi => by obtain ⟨j, e1, e2⟩ := S.frs i (by simp [hi]); exact ⟨j, e1, by simpa using e2⟩) hfnd.1 (by simp; omega) S.pos hft (by simp [hkl]) hp hn (by simp; omega) hI)
  have HM := Lib.hid (show Mod (lnB g b (.slice (some ⟨y, 0, none⟩) vs.length yc) (.slice (some ⟨q, 0, none⟩) (fs ++ [(k : Int)]).length gc) nv fv) A2 W2.drew.drew from (m1.mono fun k hk => by rw [List.mem_singleton] at hk; subst hk; simp [lnB]).trans (m2d.mono fun k hk => by rw [List.mem_singleton] at hk; subst hk; simp [lnB, mem_blk, Value.ownBlock]))
  rw [heqB] at HF
  simp only [itV] at CI
  clear T2 b2d m2d bX bX1 fy hez hvz hvl hy1 hV V2 V1 hg1 hg0 m1 m2 b1 b2 FT hfnd hkT S hp hqb heqB hful
  have HW1 := Lib.hid hW1
  have HW2 := Lib.hid hW2
  clear hW1 hW2
  rcases h4 with h4 | ⟨rfl, h4⟩ | ⟨rfl, rfl, h4⟩ | ⟨rfl, rfl, rfl, h4⟩
  all_goals
    go_enter Tryz.func29, Tryz.ntmps29
    go_wp2_with fail
    simp only [← hA1, ← hA2]
    go_wp2_with fail
    refine wp_plan [([0, 1, 5, 9, 13, 2, 6, 10, 14, 3, 11, 4, 12, 7, 15, 8, 16, 17, 18], 19, [])] [] (by kernel_rfl) (by kernel_rfl) ?_
    simp only [wpSegs, opsOf, List.map_cons, List.map_nil, opN, List.getD_cons_zero, List.getD_cons_succ]
    go_wp2_with fail
    refine ⟨by first | trivial | rfl | (rw [hA1, hA2]), ?_⟩
    go_wp2_with fail
    refine ⟨again_nil, ?_⟩
    go_wp2_with fail
    refine ⟨by first | trivial | rfl, ?_⟩
    simp only [HW1.out]
    go_wp2_with fail
    refine wp_plan [([0, 4, 5, 1, 2, 3, 6], 7, [])] [] (by kernel_rfl) (by kernel_rfl) ?_
    simp only [wpSegs, opsOf, List.map_cons, List.map_nil, opN, List.getD_cons_zero, List.getD_cons_succ]
    go_wp2_with fail
    refine ⟨by first | trivial | rfl, ?_⟩
    go_wp2_with fail
    refine ⟨again_nil, ?_⟩
    go_wp2_with fail
    refine ⟨by first | trivial | rfl, ?_⟩
    simp only [HW2.out]
    go_wp2_with fail
    refine CI.out.mono ?_
    rintro e w2 ⟨rfl, hI⟩
    have HP := Lib.hid ((HF.out w2 hI).into HM.out (fun k hk => .inl hk))
    clear hI CI HF
    go_wp2_with fail
    go_end0
    exact ⟨rfl, _, HP.out.into HM12.out.nil (fun k hk => .inl hk)⟩
theorem layZ_some {w : World} {g : Nat} {B : List Nat} {M : Nat} {E : List (It × Int)} {f t v : Int} (h : Lv w g B M E) (hM : M ≤ 99999) (hft : f < t) (hv : v ≠ 0) :
    Calls Tryz.prog 29 #[.pointer (some ⟨g, 0, none⟩), .int .i64 f, .int .i64 t, valZ v] w fun e w' => e = .returned (.tuple #[]) ∧ ∃ id, LvPost w g B (max M (E.length + 1)) ((⟨f, t, id⟩, v) :: E) w' := by
  obtain ⟨b, vv, gv, nv, fv, ns, fr, T, vs, fs, S, rfl, hp, hn, hvs⟩ := h
  rcases List.eq_nil_or_concat fs with rfl | ⟨fs', i, rfl⟩
  · exact layZ_new S hp hn hvs hM hft hv
  · rw [List.concat_eq_append] at S
    obtain ⟨k, rfl, _⟩ := S.frs i (by simp)
    exact layZ_old S hp hn hvs hM hft hv
theorem layZ_any {w : World} {g : Nat} {B : List Nat} {M : Nat} {E : List (It × Int)} {f t v : Int} (h : Lv w g B M E) (hM : M ≤ 99999) :
    Calls Tryz.prog 29 #[.pointer (some ⟨g, 0, none⟩), .int .i64 f, .int .i64 t, valZ v] w fun e w' => e = .returned (.tuple #[]) ∧ ∃ E', laidE E f t v E' ∧ LvPost w g B (max M E'.length) E' w' := by
  by_cases hc : f < t ∧ v ≠ 0
  · refine (layZ_some h hM hc.1 hc.2).mono ?_
    rintro e w' ⟨rfl, id, hP⟩
    exact ⟨rfl, _, .inl ⟨hc.1, hc.2, id, rfl⟩, hP⟩
  · refine (layZ_none (by omega)).mono ?_
    rintro e w' ⟨rfl, m⟩
    exact ⟨rfl, E, .inr ⟨hc, rfl⟩, B, (h.mono (by omega)).kept0 m, m.nil, fun k hk => .inl hk⟩
end Go.Proofs.YtngglpekdjhbdaaGreat
namespace Go.Proofs.YtngglpekdjhbdaaGreat
open Go.RowKit Go.ChangeMaps Go.Deep Tr
set_option linter.unusedSimpArgs false
set_option linter.unusedVariables false
set_option maxRecDepth 20000

theorem tvNone_at {w : World} {g : Nat} {B : List Nat} {M : Nat} {E : List (It × Int)} (h : Lv w g B M E) : Calls Tryz.prog 23 #[.pointer (some ⟨g, 0, none⟩)] w fun e w' => e = .returned (.bool false) ∧ w' = w := by
  obtain ⟨b, vv, gv, nv, fv, ns, fr, T, vs, fs, S, rfl, hp, hn, hv⟩ := h
  have c0 := cell_blk S.blk 0
  simp only [List.getElem?_toArray, List.getElem?_cons_zero] at c0
  clear S hp
  go_enter Tryz.func23, Tryz.ntmps23
  go_wp2_with fail
  go_ret
  exact ⟨rfl, rfl⟩
theorem lv_new {w : World} {b : Nat} (S : AvlSt w b (.slice none 0 0) (.slice none 0 0) [] [] .nil) (hb : b < w.heap.size) : Lv (w.alloc (.cells #[.pointer (some ⟨b, 0, none⟩), .slice none 0 0, .slice none 0 0] 68)) w.heap.size [w.heap.size, b] 0 [] := by
  have m := (Mod.refl [] w).alloc (.cells #[.pointer (some ⟨b, 0, none⟩), .slice none 0 0, .slice none 0 0] 68)
  refine ⟨b, .slice none 0 0, .slice none 0 0, .slice none 0 0, .slice none 0 0, [], [], .nil, [], [], ⟨heap_alloc_new w _, OwnR.nil_ _ _, OwnR.nil_ _ _, ⟨S.tree.kept0 m, S.rep, S.avl, S.srt, S.nodup, S.free, S.fnd, S.full⟩, ?_, ?_, ?_, ?_, ?_, ?_, ?_⟩, ?_, ?_, ?_, ?_⟩
  · simp [lnB, blk, Value.ownBlock]; omega
  all_goals simp [items, Tr.size, lnB, blk, Value.ownBlock]
theorem tvNew_at (w : World) : Calls Tryz.prog 14 #[] w fun e w' => e = .returned (.pointer (some ⟨w.heap.size + 1, 0, none⟩)) ∧ Lv w' (w.heap.size + 1) [w.heap.size + 1, w.heap.size] 0 [] ∧ Mod [] w w' := by
  have HA := Lib.hid (avNew_at w)
  have m1 := (Mod.refl [] w).alloc (.cells #[.int .i64 1000000, .slice none 0 0, .slice none 0 0, .int .i64 (-1), .int .i64 0] 88)
  have h1 := lv_new (avNew_st w) (by simp)
  have HM := Lib.hid (m1.alloc (.cells #[.pointer (some ⟨w.heap.size, 0, none⟩), .slice none 0 0, .slice none 0 0] 68))
  simp only [World.size_alloc] at h1
  have HL := Lib.hid h1
  clear h1 m1
  go_enter Tryz.func14, Tryz.ntmps14
  go_wp2_with fail
  refine HA.out.mono ?_
  rintro e w1 ⟨rfl, rfl⟩
  go_wp2_with fail
  go_ret
  exact ⟨rfl, HL.out, HM.out⟩
end Go.Proofs.YtngglpekdjhbdaaGreat
