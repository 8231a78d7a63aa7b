/- Graph: Order, On. -/
import Derived.Test.YtefaihockgebeaaGreatGrN
namespace Go.Proofs.YtefaihockgebeaaGreat
open Go.RowKit Go.ChangeMaps Go.Deep
set_option linter.unusedSimpArgs false
set_option linter.unusedVariables false
set_option maxRecDepth 20000

theorem grOf_any (n : Int) (v : Value) (us : List Value) (L : Lks) (w : World) (h : PartsAt w v us L) (hl : L.length ≤ 1000000) (hll : ∀ k, k < L.length → (linksOf L k).length ≤ 1000000) :
    Calls Tryz.prog 7 #[.int .i64 n, v] w (OfPost w n L) := by
  by_cases hn : n < 0 ∨ 64 < n ∨ (L.length : Int) ≠ n
  · exact grOf_arg n v us L w h hl hn
  · obtain ⟨N, rfl⟩ : ∃ N : Nat, n = N := ⟨n.toNat, by omega⟩
    exact grOf_main N v us L w h (by omega) (by omega) hll
set_option maxHeartbeats 1000000 in
theorem cloneInt_any (v : Value) (l : List Int) (w : World) (h : IntsIn w v l) (hl : l.length ≤ 1000000) :
    Calls Tryz.prog 38 #[v] w fun e w' => ∃ v', e = .returned v' ∧ OwnN w' w.heap.size v' l ∧ Mod [] w w' := by
  have H := Lib.hid h
  obtain ⟨a, c, rfl⟩ := h.form
  clear h
  cases a with
  | none =>
    have hl0 : l = [] := H.out.of_none rfl
    subst hl0
    have hq := fun (w : World) => Lib.run_eql_slice_nil (P := Tryz.prog) w 46 3 none 0 c 0 0 Tryz.underlying46
    go_enter Tryz.func38, Tryz.ntmps38
    go_wp2
    go_ret
    exact ⟨_, rfl, OwnR.nil_ _ _, Mod.refl _ _⟩
  | some a =>
    have hm := (Mod.refl [] w).alloc (.cells #[] 3)
    obtain ⟨v', w', g1, g2, g3⟩ := own_append elemInt encI_len (OwnR.fresh (enc := encI) (k := 1) (E := 3) w w.heap.size (Nat.le_refl _)) (by simp) (ty := 46) ((H.out.kept0 hm).src encI_len encI_one Tryz.underlying46) (by simp; omega) (by omega)
    have G1 := Lib.hid g1
    have G2 := Lib.hid g2
    have G3 := Lib.hid (g3.intoNil (OwnR.fresh (enc := encI) (k := 1) (E := 3) w w.heap.size (Nat.le_refl _)) (Nat.le_refl _) hm)
    clear g1 g2 g3 hm
    have hq := fun (w : World) => Lib.run_eql_slice_nil (P := Tryz.prog) w 46 3 (some a) l.length c 0 0 Tryz.underlying46
    go_enter Tryz.func38, Tryz.ntmps38
    go_wp2_with (((with_reducible refine xAppendAt G1.out rfl rfl ?_ ?_ ?_ ?_); exact rfl; exact rfl; exact rfl))
    go_ret
    exact ⟨_, rfl, by simpa using G2.out, G3.out⟩
theorem grOrder_nil (w : World) : Calls Tryz.prog 19 #[.pointer none] w fun e w' => e = .returned (.slice none 0 0) ∧ w' = w := by
  go_enter Tryz.func19, Tryz.ntmps19
  go_wp2
  go_ret
  exact ⟨rfl, rfl⟩
theorem grOrder_any (base B : Nat) (R : Lks) (out : List Int) (w : World) (h : GraphAt w base B R out) (ho : out.length ≤ 1000000) :
    Calls Tryz.prog 19 #[.pointer (some ⟨B, 0, none⟩)] w fun e w' => ∃ v, e = .returned v ∧ OwnN w' w.heap.size v out ∧ Mod [] w w' := by
  obtain ⟨onv, ov, vs, hB, hon, hov⟩ := h.ex
  have c1 := cell_blk hB 1
  simp only [List.getElem?_toArray, List.getElem?_cons_succ, List.getElem?_cons_zero] at c1
  have HC := Lib.hid (cloneInt_any ov out w hov.row ho)
  clear h hB hon hov
  go_enter Tryz.func19, Tryz.ntmps19
  go_wp2_with fail
  refine HC.out.mono ?_
  rintro e w1 ⟨v1, rfl, o1, m1⟩
  have HO := Lib.hid o1
  have HM := Lib.hid m1
  clear o1 m1 HC
  go_wp2_with fail
  go_ret
  exact ⟨_, rfl, HO.out, HM.out⟩
theorem grOn_nil (i : Int) (w : World) : Calls Tryz.prog 40 #[.pointer none, .int .i64 i] w fun e w' => e = .returned (.slice none 0 0) ∧ w' = w := by
  go_enter Tryz.func40, Tryz.ntmps40
  go_wp2
  go_ret
  exact ⟨rfl, rfl⟩
theorem grOn_out (i : Int) (base B : Nat) (R : Lks) (out : List Int) (w : World) (h : GraphAt w base B R out) (hi : i < 0 ∨ (R.length : Int) ≤ i) (hl : R.length ≤ 1000000) :
    Calls Tryz.prog 40 #[.pointer (some ⟨B, 0, none⟩), .int .i64 i] w fun e w' => e = .returned (.slice none 0 0) ∧ w' = w := by
  obtain ⟨onv, ov, vs, hB, hon, hov⟩ := h.ex
  have hvl := hon.len
  rw [← hvl] at hi
  obtain ⟨oa, oc, rfl⟩ := hon.row.row.form
  have c0 := cell_blk hB 0
  simp only [List.getElem?_toArray, List.getElem?_cons_succ, List.getElem?_cons_zero] at c0
  clear h hB hon hov hvl
  by_cases h0 : i < 0
  · clear hi
    go_enter Tryz.func40, Tryz.ntmps40
    go_wp2
    go_ret
    exact ⟨rfl, rfl⟩
  · have hi : (vs.length : Int) ≤ i := by omega
    go_enter Tryz.func40, Tryz.ntmps40
    go_wp2
    go_ret
    exact ⟨rfl, rfl⟩
theorem grOn_any (k : Nat) (base B : Nat) (R : Lks) (out : List Int) (w : World) (h : GraphAt w base B R out) (hk : k < R.length) (hl : R.length ≤ 1000000) (hll : (linksOf R k).length ≤ 1000000) :
    Calls Tryz.prog 40 #[.pointer (some ⟨B, 0, none⟩), .int .i64 k] w fun e w' => ∃ v, e = .returned v ∧ OwnL w' w.heap.size v (linksOf R k) ∧ Mod [] w w' := by
  obtain ⟨onv, ov, vs, hB, hon, hov⟩ := h.ex
  have hvl := hon.len
  have hkv : k < vs.length := by omega
  have hvl' : vs.length ≤ 1000000 := by omega
  obtain ⟨oa, oc, rfl⟩ := hon.row.row.form
  have c0 := cell_blk hB 0
  simp only [List.getElem?_toArray, List.getElem?_cons_succ, List.getElem?_cons_zero] at c0
  obtain ⟨b, o, pa, pc, rfl, hc, q0, hs⟩ := (hon.on hB).parts.get rfl hkv
  have HC := Lib.hid (cloneLink_any _ (linksOf R k) w hs hll)
  clear h hB hon hov hvl hs hk hl
  go_enter Tryz.func40, Tryz.ntmps40
  go_wp2_with fail
  refine HC.out.mono ?_
  rintro e w1 ⟨v1, rfl, o1, m1⟩
  have HO := Lib.hid o1
  have HM := Lib.hid m1
  clear o1 m1 HC
  go_wp2_with fail
  go_ret
  exact ⟨_, rfl, HO.out, HM.out⟩
end Go.Proofs.YtefaihockgebeaaGreat
