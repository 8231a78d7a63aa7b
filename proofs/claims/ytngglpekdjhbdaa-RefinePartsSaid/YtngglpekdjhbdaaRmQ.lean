/- The statements' comparisons: spans, same (where what is compared is the same). -/
import Derived.Test.YtngglpekdjhbdaaRmP
import Derived.Test.YtngglpekdjhbdaaRegI
namespace Go.Proofs.Ytngglpekdjhbdaa
open Go.RowKit Go.ChangeMaps Go.Deep Tr
set_option linter.unusedSimpArgs false
set_option linter.unusedVariables false
set_option maxRecDepth 20000

theorem elemRl : ElemOk Try.prog 70 82 3 24 := .mk' Try.underlying70 (by omega) (by kernel_rfl)
theorem rlMay_at (w : World) (a b : Int) : Calls Try.prog 40 #[.agg #[.int .i64 a, .int .i64 b]] w fun e w' => e = .returned (.bool (decide (mayS a b))) ∧ Mod [] w w' := by
  have hm := Lib.hid ((Mod.refl [] w).alloc (.cells #[.int .i64 a, .int .i64 b] 24))
  by_cases h1 : 1 ≤ a
  · by_cases h2 : a < b
    · by_cases h3 : b ≤ 3652060
      · have HD := Lib.hid (show decide (mayS a b) = true from decide_eq_true ⟨h1, h2, h3⟩)
        go_enter Try.func40, Try.ntmps40
        go_wp2_with fail
        go_ret
        exact ⟨by rw [HD.out]; rfl, hm.out⟩
      · have HD := Lib.hid (show decide (mayS a b) = false from decide_eq_false fun h => h3 h.2.2)
        go_enter Try.func40, Try.ntmps40
        go_wp2_with fail
        go_ret
        exact ⟨by rw [HD.out]; rfl, hm.out⟩
    · have HD := Lib.hid (show decide (mayS a b) = false from decide_eq_false fun h => h2 h.2.1)
      go_enter Try.func40, Try.ntmps40
      go_wp2_with fail
      go_ret
      exact ⟨by rw [HD.out]; rfl, hm.out⟩
  · have HD := Lib.hid (show decide (mayS a b) = false from decide_eq_false fun h => h1 h.1)
    go_enter Try.func40, Try.ntmps40
    go_wp2_with fail
    go_ret
    exact ⟨by rw [HD.out]; rfl, hm.out⟩
/-- the document's timeline: what was put -/
def RefAt (W : World) (r base : Nat) (L : List Sg) : Prop := ∃ v, W.heap[r]? = some (.cells #[v] 72 (0, 0)) ∧ OwnR encSg 3 82 W base v L
theorem RefAt.kept0 {W W' : World} {r base : Nat} {L : List Sg} (h : RefAt W r base L) (m : Mod [] W W') : RefAt W' r base L := by
  obtain ⟨v, h1, h2⟩ := h
  exact ⟨v, m.heap h1 (by simp), h2.kept0 m⟩
theorem RefAt.keptL {W W' : World} {r base : Nat} {L : List Sg} (h : RefAt W r base L) (m : ModL W W') : RefAt W' r base L := by
  obtain ⟨v, h1, h2⟩ := h
  exact ⟨v, m.heap h1 (by unfold lineE; decide), h2.keptL m (by unfold lineE; decide)⟩
def putL (L : List Sg) (a b v : Int) : List Sg := if mayS a b then L ++ [⟨a, b, v⟩] else L
set_option maxHeartbeats 4000000 in
theorem rlPut_at {W : World} {r base : Nat} {L : List Sg} (h : RefAt W r base L) (hl : L.length ≤ 1000000) (hbs : base ≤ W.heap.size) (a b v : Int) :
    Calls Try.prog 30 #[.pointer (some ⟨r, 0, none⟩), .agg #[.int .i64 a, .int .i64 b], .int .i64 v] W fun e w' => (∃ x, e = .returned (.int .i64 x)) ∧ RefAt w' r base (putL L a b v) ∧ Mod [r] W w' := by
  have mA := (Mod.refl [] W).alloc (.cells #[.int .i64 a, .int .i64 b] 24)
  have bA := heap_alloc_new W (.cells #[.int .i64 a, .int .i64 b] 24)
  have CM := Lib.hid (rlMay_at (W.alloc (.cells #[.int .i64 a, .int .i64 b] 24)) a b)
  have s0 := cell_blk bA 0
  have s1 := cell_blk bA 1
  simp only [List.getElem?_toArray, List.getElem?_cons_succ, List.getElem?_cons_zero] at s0 s1
  have H := Lib.hid h
  have HMA := Lib.hid mA
  have HBA := Lib.hid bA
  clear mA bA h
  by_cases hab : mayS a b
  · rw [decide_eq_true hab] at CM
    go_enter Try.func30, Try.ntmps30
    go_wp2_with fail
    refine CM.out.mono ?_
    rintro e w2 ⟨rfl, m2⟩
    have hb2 := m2.heap HBA.out (by simp)
    obtain ⟨v0, c0, o0⟩ := H.out.kept0 (HMA.out.trans m2)
    have HM2 := Lib.hid (HMA.out.trans m2)
    have t0 := cell_blk hb2 0
    have t1 := cell_blk hb2 1
    have r0 := cell_blk c0 0
    simp only [List.getElem?_toArray, List.getElem?_cons_succ, List.getElem?_cons_zero] at t0 t1 r0
    obtain ⟨a0, n0, k0, rfl⟩ : ∃ a n c, v0 = .slice a n c := by obtain ⟨a, c, e⟩ := o0.lens; exact ⟨a, _, c, e⟩
    have hsz2 : base ≤ w2.heap.size := Nat.le_trans hbs HM2.out.size
    have HF := Lib.hid (fun (X : World) (m : Mod [] w2 X) => (⟨cell_blk (m.heap hb2 (by simp)) 0, cell_blk (m.heap hb2 (by simp)) 1, cell_blk (m.heap c0 (by simp)) 0, frozen_blk (m.heap c0 (by simp)) 0, m.heap c0 (by simp)⟩ : _ ∧ _ ∧ _ ∧ _ ∧ _))
    simp only [List.getElem?_toArray, List.getElem?_cons_succ, List.getElem?_cons_zero] at HF
    have md := (Mod.refl [] w2).drew
    have HST : ∀ (X : World) (sb : Nat) (u : Value), Mod [] w2 X → X.heap[sb]? = some (.cells #[.int .i64 a, .int .i64 b, .int .i64 v] 82 (0, 0)) → OwnR encSg 3 82 X w2.heap.size u L → ∃ v2 X2, (Builtin.append_ #[70, 70] 70 #[u, .slice (some ⟨sb, 0, none⟩) 1 1]).run Try.prog X = .ok v2 X2 ∧ X2.cell? ⟨r, 0, none⟩ = some (.slice a0 n0 k0) ∧ X2.frozen? ⟨r, 0, none⟩ = false ∧ (∃ a n c, v2 = .slice a n c) ∧ RefAt (X2.setCell ⟨r, 0, none⟩ v2) r base (putL L a b v) ∧ Mod [r] W (X2.setCell ⟨r, 0, none⟩ v2) := fun X sb u mX hs hu => by
      obtain ⟨v2, X2, ra, o2, g2⟩ := own_append (P := Try.prog) (ty := 70) (tx := 70) (l2 := [⟨a, b, v⟩]) elemRl encSg_len hu mX.size (Src.ofSlice (P := Try.prog) X Try.underlying70 ⟨sb, 0, none⟩ 1 1 (flat encSg [⟨a, b, v⟩]) rfl (fun j u hu => by
        rw [Addr.add_mid, Nat.zero_add, cell_blk hs, ← hu]
        simp [flat, encSg]) (by intro u hu; rw [flat_one] at hu; exact encSg_one _ u hu)) (by simp; omega) (by omega)
      have m2 : Mod [] w2 X2 := Mod.into' mX g2.mod (fun k hk => .inl (by rw [mem_blk] at hk; exact (World.ownsRow.lt hu k hk).1))
      have hr := m2.heap c0 (by simp)
      have e0 := cell_blk hr 0
      simp only [List.getElem?_toArray, List.getElem?_cons_zero] at e0
      have hr2 := heap_setCell_blk hr 0 v2
      have ms : Mod [r] X2 (X2.setCell ⟨r, 0, none⟩ v2) := (Mod.refl _ _).setCell (by simp) _
      refine ⟨v2, X2, ra, e0, frozen_blk hr 0, by obtain ⟨x, y, e⟩ := o2.lens; exact ⟨x, _, y, e⟩, ⟨v2, by simpa using hr2, ?_⟩, (HM2.out.trans m2).nil.trans ms⟩
      unfold putL
      rw [if_pos hab]
      exact (o2.mono hsz2).kept ms (fun k hk => by have := own_ne o2 hr (by decide) k hk; simpa using this)
    have HAP : ∀ (X : World) (eb : Nat), Mod [] w2 X → w2.heap.size ≤ eb → OwnR encSg 3 82 X w2.heap.size (.slice (some ⟨eb, 0, none⟩) 0 0) [] → ∃ v1 X1, (Builtin.append_ #[70, 70] 70 #[.slice (some ⟨eb, 0, none⟩) 0 0, .slice a0 n0 k0]).run Try.prog X = .ok v1 X1 ∧ OwnR encSg 3 82 X1 w2.heap.size v1 L ∧ Mod [eb] X X1 ∧ Mod [] w2 X1 := fun X eb mX he hu => by
      obtain ⟨v1, X1, ra, o1, g1⟩ := own_append (P := Try.prog) (ty := 70) (tx := 70) elemRl encSg_len hu mX.size ((o0.kept0 mX).row.src encSg_len encSg_one Try.underlying70) (by simp; omega) (by omega)
      refine ⟨v1, X1, ra, by simpa using o1, g1.mod, Mod.into' mX g1.mod (fun k hk => .inl (by simp [blk, Value.ownBlock] at hk; omega))⟩
    have mE := md.alloc (.cells #[] 82)
    have mS := md.alloc (.cells #[.int .i64 a, .int .i64 b, .int .i64 v] 82)
    have mES := mE.alloc (.cells #[.int .i64 a, .int .i64 b, .int .i64 v] 82)
    have mSE := mS.alloc (.cells #[] 82)
    have oE : OwnR encSg 3 82 (w2.drew.alloc (.cells #[] 82)) w2.heap.size (.slice (some ⟨w2.heap.size, 0, none⟩) 0 0) [] := OwnR.fresh w2.drew w2.heap.size (Nat.le_refl _)
    have oES := oE.kept0 ((Mod.refl [] _).alloc (.cells #[.int .i64 a, .int .i64 b, .int .i64 v] 82))
    have oSE : OwnR encSg 3 82 ((w2.drew.alloc (.cells #[.int .i64 a, .int .i64 b, .int .i64 v] 82)).alloc (.cells #[] 82)) w2.heap.size (.slice (some ⟨w2.heap.size + 1, 0, none⟩) 0 0) [] := by
      have := OwnR.fresh (enc := encSg) (k := 3) (E := 82) (w2.drew.alloc (.cells #[.int .i64 a, .int .i64 b, .int .i64 v] 82)) w2.heap.size mS.size
      rw [World.size_alloc] at this
      exact this
    have bS : (w2.drew.alloc (.cells #[.int .i64 a, .int .i64 b, .int .i64 v] 82)).heap[w2.heap.size]? = some (.cells #[.int .i64 a, .int .i64 b, .int .i64 v] 82 (0, 0)) := heap_alloc_new w2.drew _
    have bES : ((w2.drew.alloc (.cells #[] 82)).alloc (.cells #[.int .i64 a, .int .i64 b, .int .i64 v] 82)).heap[w2.heap.size + 1]? = some (.cells #[.int .i64 a, .int .i64 b, .int .i64 v] 82 (0, 0)) := by
      have := heap_alloc_new (w2.drew.alloc (.cells #[] 82)) (.cells #[.int .i64 a, .int .i64 b, .int .i64 v] 82)
      rw [World.size_alloc] at this
      exact this
    have bSE := ((Mod.refl [] (w2.drew.alloc (.cells #[.int .i64 a, .int .i64 b, .int .i64 v] 82))).alloc (.cells #[] 82)).heap bS (by simp)
    obtain ⟨va, wa, r1a, oa, ma, na⟩ := HAP _ _ mE (Nat.le_refl _) oE
    obtain ⟨vb, wb, r1b, ob, mb, nb⟩ := HAP _ _ mES (Nat.le_refl _) oES
    obtain ⟨vc, wc, r1c, oc, mc, nc⟩ := HAP _ _ mSE (by omega) oSE
    have mA3 := (Mod.refl [] wa).alloc (.cells #[.int .i64 a, .int .i64 b, .int .i64 v] 82)
    obtain ⟨ua, xa, r2a, pa1, pa2, ⟨qa1, qa2, qa3, rfl⟩, pa3, pa4⟩ := HST _ wa.heap.size va (na.trans mA3) (heap_alloc_new wa _) (oa.kept0 mA3)
    obtain ⟨ub, xb, r2b, pb1, pb2, ⟨qb1, qb2, qb3, rfl⟩, pb3, pb4⟩ := HST wb (w2.heap.size + 1) vb nb (mb.heap bES (by simp)) ob
    obtain ⟨uc, xc, r2c, pc1, pc2, ⟨qc1, qc2, qc3, rfl⟩, pc3, pc4⟩ := HST wc w2.heap.size vc nc (mc.heap bSE (by simp)) oc
    obtain ⟨fE0, fE1, fE2, _, _⟩ := HF.out _ ((Mod.refl [] w2).alloc (.cells #[] 82))
    obtain ⟨fS0, fS1, fS2, _, _⟩ := HF.out _ ((Mod.refl [] w2).alloc (.cells #[.int .i64 a, .int .i64 b, .int .i64 v] 82))
    obtain ⟨fES0, fES1, fES2, _, _⟩ := HF.out _ (((Mod.refl [] w2).alloc (.cells #[] 82)).alloc (.cells #[.int .i64 a, .int .i64 b, .int .i64 v] 82))
    obtain ⟨fSE0, fSE1, fSE2, _, _⟩ := HF.out _ (((Mod.refl [] w2).alloc (.cells #[.int .i64 a, .int .i64 b, .int .i64 v] 82)).alloc (.cells #[] 82))
    obtain ⟨fa0, fa1, fa2, _, _⟩ := HF.out _ na
    obtain ⟨fb0, fb1, fb2, _, _⟩ := HF.out _ nb
    obtain ⟨fc0, fc1, fc2, _, _⟩ := HF.out _ nc
    have RA1a := Lib.hid r1a
    have RA1b := Lib.hid r1b
    have RA1c := Lib.hid r1c
    have RA2a := Lib.hid r2a
    have RA2b := Lib.hid r2b
    have RA2c := Lib.hid r2c
    have HEa := Lib.hid (⟨pa3, pa4⟩ : _ ∧ _)
    have HEb := Lib.hid (⟨pb3, pb4⟩ : _ ∧ _)
    have HEc := Lib.hid (⟨pc3, pc4⟩ : _ ∧ _)
    clear HAP HST HF oE oES oSE bS bES bSE r1a r1b r1c r2a r2b r2c pa3 pa4 pb3 pb4 pc3 pc4 ma mb mc na nb nc oa ob oc mA3 mE mS mES mSE md hb2 c0 o0 m2
    go_wp2_with fail
    refine wp_sched (by kernel_rfl) (sched_either 1 12 (by decide) (sched_either 6 12 (by decide) (sched_plan2 [([0, 2, 7, 9, 11, 3, 8, 10, 4, 5], 1, [7, 9, 3, 8, 10, 4, 5]), ([], 6, [7, 9, 8, 10]), ([], 12, []), ([], 13, []), ([], 14, []), ([15, 16], 17, [])] [] (by kernel_rfl) ?L1) (sched_either 6 13 (by decide) (sched_plan3 [([0, 2, 7, 9, 11, 3, 8, 10, 4, 5], 1, [7, 9, 3, 8, 10, 4, 5]), ([], 12, [3, 4, 5]), ([], 6, [7, 9, 8, 10]), ([], 13, []), ([], 14, []), ([15, 16], 17, [])] [] (by kernel_rfl) ?L2) (sched_plan3 [([0, 2, 7, 9, 11, 3, 8, 10, 4, 5], 1, [7, 9, 3, 8, 10, 4, 5]), ([], 12, [3, 4, 5]), ([], 13, [3, 4, 5]), ([], 6, [7, 9, 8, 10]), ([], 14, []), ([15, 16], 17, [])] [] (by kernel_rfl) ?L3))) (sched_either 1 13 (by decide) (sched_either 6 13 (by decide) (sched_plan3 [([0, 2, 7, 9, 11, 3, 8, 10, 4, 5], 12, [3, 4, 5]), ([], 1, [7, 9, 3, 8, 10, 4, 5]), ([], 6, [7, 9, 8, 10]), ([], 13, []), ([], 14, []), ([15, 16], 17, [])] [] (by kernel_rfl) ?L4) (sched_plan3 [([0, 2, 7, 9, 11, 3, 8, 10, 4, 5], 12, [3, 4, 5]), ([], 1, [7, 9, 3, 8, 10, 4, 5]), ([], 13, [3, 4, 5]), ([], 6, [7, 9, 8, 10]), ([], 14, []), ([15, 16], 17, [])] [] (by kernel_rfl) ?L5)) (sched_plan2 [([0, 2, 7, 9, 11, 3, 8, 10, 4, 5], 12, [3, 4, 5]), ([], 13, [3, 4, 5]), ([], 1, [7, 9, 3, 8, 10, 4, 5]), ([], 6, [7, 9, 8, 10]), ([], 14, []), ([15, 16], 17, [])] [] (by kernel_rfl) ?L6)))
    case L1 =>
      simp only [wpSegs, opsOf, List.map_cons, List.map_nil, opN, List.getD_cons_zero, List.getD_cons_succ]
      go_wp2_with fail
      refine ⟨by first | trivial | rfl, ?_⟩
      go_wp2_with fail
      refine ⟨?ag10, ?_⟩
      case ag10 =>
        intro i hi hw
        simp only [List.mem_cons, List.not_mem_nil, or_false] at hi
        rcases hi with rfl | rfl | rfl | rfl | rfl | rfl | rfl
        all_goals (simp only [opN, List.getD_cons_zero, List.getD_cons_succ, slotOf]; go_simp)
      go_wp2_with fail
      refine ⟨by first | trivial | rfl, ?_⟩
      go_wp2_with ((with_reducible refine xAppendAt RA1a.out rfl rfl ?_ ?_ ?_ ?_); exact rfl; exact rfl; exact rfl)
      refine ⟨?ag11, ?_⟩
      case ag11 =>
        intro i hi hw
        simp only [List.mem_cons, List.not_mem_nil, or_false] at hi
        rcases hi with rfl | rfl | rfl | rfl
        all_goals (simp only [opN, List.getD_cons_zero, List.getD_cons_succ, slotOf]; go_simp)
      go_wp2_with fail
      refine ⟨by first | trivial | rfl, ?_⟩
      go_wp2_with fail
      refine ⟨again_nil, ?_⟩
      go_wp2_with fail
      refine ⟨by first | trivial | rfl, ?_⟩
      go_wp2_with fail
      refine ⟨again_nil, ?_⟩
      go_wp2_with fail
      refine ⟨by first | trivial | rfl, ?_⟩
      go_wp2_with ((with_reducible refine xAppendAt RA2a.out rfl rfl ?_ ?_ ?_ ?_); exact rfl; exact rfl; exact rfl)
      refine ⟨again_nil, ?_⟩
      go_wp2_with fail
      refine ⟨by first | trivial | rfl, ?_⟩
      go_wp2_with fail
      refine ⟨again_nil, ?_⟩
      go_wp2_with fail
      refine ⟨by first | trivial | rfl, ?_⟩
      go_wp2_with fail
      go_ret
      exact ⟨⟨_, rfl⟩, HEa.out⟩
    case L2 =>
      simp only [wpSegs, opsOf, List.map_cons, List.map_nil, opN, List.getD_cons_zero, List.getD_cons_succ]
      go_wp2_with fail
      refine ⟨by first | trivial | rfl, ?_⟩
      go_wp2_with fail
      refine ⟨?ag20, ?_⟩
      case ag20 =>
        intro i hi hw
        simp only [List.mem_cons, List.not_mem_nil, or_false] at hi
        rcases hi with rfl | rfl | rfl | rfl | rfl | rfl | rfl
        all_goals (simp only [opN, List.getD_cons_zero, List.getD_cons_succ, slotOf]; go_simp)
      go_wp2_with fail
      refine ⟨by first | trivial | rfl, ?_⟩
      go_wp2_with fail
      refine ⟨?ag21, ?_⟩
      case ag21 =>
        intro i hi hw
        simp only [List.mem_cons, List.not_mem_nil, or_false] at hi
        rcases hi with rfl | rfl | rfl
        all_goals (simp only [opN, List.getD_cons_zero, List.getD_cons_succ, slotOf]; go_simp)
      go_wp2_with fail
      refine ⟨by first | trivial | rfl, ?_⟩
      go_wp2_with ((with_reducible refine xAppendAt RA1a.out rfl rfl ?_ ?_ ?_ ?_); exact rfl; exact rfl; exact rfl)
      refine ⟨?ag22, ?_⟩
      case ag22 =>
        intro i hi hw
        simp only [List.mem_cons, List.not_mem_nil, or_false] at hi
        rcases hi with rfl | rfl | rfl | rfl
        all_goals (simp only [opN, List.getD_cons_zero, List.getD_cons_succ, slotOf]; go_simp)
      go_wp2_with fail
      refine ⟨by first | trivial | rfl, ?_⟩
      go_wp2_with fail
      refine ⟨again_nil, ?_⟩
      go_wp2_with fail
      refine ⟨by first | trivial | rfl, ?_⟩
      go_wp2_with ((with_reducible refine xAppendAt RA2a.out rfl rfl ?_ ?_ ?_ ?_); exact rfl; exact rfl; exact rfl)
      refine ⟨again_nil, ?_⟩
      go_wp2_with fail
      refine ⟨by first | trivial | rfl, ?_⟩
      go_wp2_with fail
      refine ⟨again_nil, ?_⟩
      go_wp2_with fail
      refine ⟨by first | trivial | rfl, ?_⟩
      go_wp2_with fail
      go_ret
      exact ⟨⟨_, rfl⟩, HEa.out⟩
    case L3 =>
      simp only [wpSegs, opsOf, List.map_cons, List.map_nil, opN, List.getD_cons_zero, List.getD_cons_succ]
      go_wp2_with fail
      refine ⟨by first | trivial | rfl, ?_⟩
      go_wp2_with fail
      refine ⟨?ag30, ?_⟩
      case ag30 =>
        intro i hi hw
        simp only [List.mem_cons, List.not_mem_nil, or_false] at hi
        rcases hi with rfl | rfl | rfl | rfl | rfl | rfl | rfl
        all_goals (simp only [opN, List.getD_cons_zero, List.getD_cons_succ, slotOf]; go_simp)
      go_wp2_with fail
      refine ⟨by first | trivial | rfl, ?_⟩
      go_wp2_with fail
      refine ⟨?ag31, ?_⟩
      case ag31 =>
        intro i hi hw
        simp only [List.mem_cons, List.not_mem_nil, or_false] at hi
        rcases hi with rfl | rfl | rfl
        all_goals (simp only [opN, List.getD_cons_zero, List.getD_cons_succ, slotOf]; go_simp)
      go_wp2_with fail
      refine ⟨by first | trivial | rfl, ?_⟩
      go_wp2_with fail
      refine ⟨?ag32, ?_⟩
      case ag32 =>
        intro i hi hw
        simp only [List.mem_cons, List.not_mem_nil, or_false] at hi
        rcases hi with rfl | rfl | rfl
        all_goals (simp only [opN, List.getD_cons_zero, List.getD_cons_succ, slotOf]; go_simp)
      go_wp2_with fail
      refine ⟨by first | trivial | rfl, ?_⟩
      go_wp2_with ((with_reducible refine xAppendAt RA1b.out rfl rfl ?_ ?_ ?_ ?_); exact rfl; exact rfl; exact rfl)
      refine ⟨?ag33, ?_⟩
      case ag33 =>
        intro i hi hw
        simp only [List.mem_cons, List.not_mem_nil, or_false] at hi
        rcases hi with rfl | rfl | rfl | rfl
        all_goals (simp only [opN, List.getD_cons_zero, List.getD_cons_succ, slotOf]; go_simp)
      go_wp2_with fail
      refine ⟨by first | trivial | rfl, ?_⟩
      go_wp2_with ((with_reducible refine xAppendAt RA2b.out rfl rfl ?_ ?_ ?_ ?_); exact rfl; exact rfl; exact rfl)
      refine ⟨again_nil, ?_⟩
      go_wp2_with fail
      refine ⟨by first | trivial | rfl, ?_⟩
      go_wp2_with fail
      refine ⟨again_nil, ?_⟩
      go_wp2_with fail
      refine ⟨by first | trivial | rfl, ?_⟩
      go_wp2_with fail
      go_ret
      exact ⟨⟨_, rfl⟩, HEb.out⟩
    case L4 =>
      simp only [wpSegs, opsOf, List.map_cons, List.map_nil, opN, List.getD_cons_zero, List.getD_cons_succ]
      go_wp2_with fail
      refine ⟨by first | trivial | rfl, ?_⟩
      go_wp2_with fail
      refine ⟨?ag40, ?_⟩
      case ag40 =>
        intro i hi hw
        simp only [List.mem_cons, List.not_mem_nil, or_false] at hi
        rcases hi with rfl | rfl | rfl
        all_goals (simp only [opN, List.getD_cons_zero, List.getD_cons_succ, slotOf]; go_simp)
      go_wp2_with fail
      refine ⟨by first | trivial | rfl, ?_⟩
      go_wp2_with fail
      refine ⟨?ag41, ?_⟩
      case ag41 =>
        intro i hi hw
        simp only [List.mem_cons, List.not_mem_nil, or_false] at hi
        rcases hi with rfl | rfl | rfl | rfl | rfl | rfl | rfl
        all_goals (simp only [opN, List.getD_cons_zero, List.getD_cons_succ, slotOf]; go_simp)
      go_wp2_with fail
      refine ⟨by first | trivial | rfl, ?_⟩
      go_wp2_with ((with_reducible refine xAppendAt RA1a.out rfl rfl ?_ ?_ ?_ ?_); exact rfl; exact rfl; exact rfl)
      refine ⟨?ag42, ?_⟩
      case ag42 =>
        intro i hi hw
        simp only [List.mem_cons, List.not_mem_nil, or_false] at hi
        rcases hi with rfl | rfl | rfl | rfl
        all_goals (simp only [opN, List.getD_cons_zero, List.getD_cons_succ, slotOf]; go_simp)
      go_wp2_with fail
      refine ⟨by first | trivial | rfl, ?_⟩
      go_wp2_with fail
      refine ⟨again_nil, ?_⟩
      go_wp2_with fail
      refine ⟨by first | trivial | rfl, ?_⟩
      go_wp2_with ((with_reducible refine xAppendAt RA2a.out rfl rfl ?_ ?_ ?_ ?_); exact rfl; exact rfl; exact rfl)
      refine ⟨again_nil, ?_⟩
      go_wp2_with fail
      refine ⟨by first | trivial | rfl, ?_⟩
      go_wp2_with fail
      refine ⟨again_nil, ?_⟩
      go_wp2_with fail
      refine ⟨by first | trivial | rfl, ?_⟩
      go_wp2_with fail
      go_ret
      exact ⟨⟨_, rfl⟩, HEa.out⟩
    case L5 =>
      simp only [wpSegs, opsOf, List.map_cons, List.map_nil, opN, List.getD_cons_zero, List.getD_cons_succ]
      go_wp2_with fail
      refine ⟨by first | trivial | rfl, ?_⟩
      go_wp2_with fail
      refine ⟨?ag50, ?_⟩
      case ag50 =>
        intro i hi hw
        simp only [List.mem_cons, List.not_mem_nil, or_false] at hi
        rcases hi with rfl | rfl | rfl
        all_goals (simp only [opN, List.getD_cons_zero, List.getD_cons_succ, slotOf]; go_simp)
      go_wp2_with fail
      refine ⟨by first | trivial | rfl, ?_⟩
      go_wp2_with fail
      refine ⟨?ag51, ?_⟩
      case ag51 =>
        intro i hi hw
        simp only [List.mem_cons, List.not_mem_nil, or_false] at hi
        rcases hi with rfl | rfl | rfl | rfl | rfl | rfl | rfl
        all_goals (simp only [opN, List.getD_cons_zero, List.getD_cons_succ, slotOf]; go_simp)
      go_wp2_with fail
      refine ⟨by first | trivial | rfl, ?_⟩
      go_wp2_with fail
      refine ⟨?ag52, ?_⟩
      case ag52 =>
        intro i hi hw
        simp only [List.mem_cons, List.not_mem_nil, or_false] at hi
        rcases hi with rfl | rfl | rfl
        all_goals (simp only [opN, List.getD_cons_zero, List.getD_cons_succ, slotOf]; go_simp)
      go_wp2_with fail
      refine ⟨by first | trivial | rfl, ?_⟩
      go_wp2_with ((with_reducible refine xAppendAt RA1b.out rfl rfl ?_ ?_ ?_ ?_); exact rfl; exact rfl; exact rfl)
      refine ⟨?ag53, ?_⟩
      case ag53 =>
        intro i hi hw
        simp only [List.mem_cons, List.not_mem_nil, or_false] at hi
        rcases hi with rfl | rfl | rfl | rfl
        all_goals (simp only [opN, List.getD_cons_zero, List.getD_cons_succ, slotOf]; go_simp)
      go_wp2_with fail
      refine ⟨by first | trivial | rfl, ?_⟩
      go_wp2_with ((with_reducible refine xAppendAt RA2b.out rfl rfl ?_ ?_ ?_ ?_); exact rfl; exact rfl; exact rfl)
      refine ⟨again_nil, ?_⟩
      go_wp2_with fail
      refine ⟨by first | trivial | rfl, ?_⟩
      go_wp2_with fail
      refine ⟨again_nil, ?_⟩
      go_wp2_with fail
      refine ⟨by first | trivial | rfl, ?_⟩
      go_wp2_with fail
      go_ret
      exact ⟨⟨_, rfl⟩, HEb.out⟩
    case L6 =>
      simp only [wpSegs, opsOf, List.map_cons, List.map_nil, opN, List.getD_cons_zero, List.getD_cons_succ]
      go_wp2_with fail
      refine ⟨by first | trivial | rfl, ?_⟩
      go_wp2_with fail
      refine ⟨?ag60, ?_⟩
      case ag60 =>
        intro i hi hw
        simp only [List.mem_cons, List.not_mem_nil, or_false] at hi
        rcases hi with rfl | rfl | rfl
        all_goals (simp only [opN, List.getD_cons_zero, List.getD_cons_succ, slotOf]; go_simp)
      go_wp2_with fail
      refine ⟨by first | trivial | rfl, ?_⟩
      go_wp2_with fail
      refine ⟨?ag61, ?_⟩
      case ag61 =>
        intro i hi hw
        simp only [List.mem_cons, List.not_mem_nil, or_false] at hi
        rcases hi with rfl | rfl | rfl
        all_goals (simp only [opN, List.getD_cons_zero, List.getD_cons_succ, slotOf]; go_simp)
      go_wp2_with fail
      refine ⟨by first | trivial | rfl, ?_⟩
      go_wp2_with fail
      refine ⟨?ag62, ?_⟩
      case ag62 =>
        intro i hi hw
        simp only [List.mem_cons, List.not_mem_nil, or_false] at hi
        rcases hi with rfl | rfl | rfl | rfl | rfl | rfl | rfl
        all_goals (simp only [opN, List.getD_cons_zero, List.getD_cons_succ, slotOf]; go_simp)
      go_wp2_with fail
      refine ⟨by first | trivial | rfl, ?_⟩
      go_wp2_with ((with_reducible refine xAppendAt RA1c.out rfl rfl ?_ ?_ ?_ ?_); exact rfl; exact rfl; exact rfl)
      refine ⟨?ag63, ?_⟩
      case ag63 =>
        intro i hi hw
        simp only [List.mem_cons, List.not_mem_nil, or_false] at hi
        rcases hi with rfl | rfl | rfl | rfl
        all_goals (simp only [opN, List.getD_cons_zero, List.getD_cons_succ, slotOf]; go_simp)
      go_wp2_with fail
      refine ⟨by first | trivial | rfl, ?_⟩
      go_wp2_with ((with_reducible refine xAppendAt RA2c.out rfl rfl ?_ ?_ ?_ ?_); exact rfl; exact rfl; exact rfl)
      refine ⟨again_nil, ?_⟩
      go_wp2_with fail
      refine ⟨by first | trivial | rfl, ?_⟩
      go_wp2_with fail
      refine ⟨again_nil, ?_⟩
      go_wp2_with fail
      refine ⟨by first | trivial | rfl, ?_⟩
      go_wp2_with fail
      go_ret
      exact ⟨⟨_, rfl⟩, HEc.out⟩
  · rw [decide_eq_false hab] at CM
    go_enter Try.func30, Try.ntmps30
    go_wp2_with fail
    refine CM.out.mono ?_
    rintro e w2 ⟨rfl, m2⟩
    have HE := Lib.hid (show RefAt w2 r base (putL L a b v) ∧ Mod [r] W w2 from ⟨by unfold putL; rw [if_neg hab]; exact H.out.kept0 (HMA.out.trans m2), (HMA.out.trans m2).nil⟩)
    go_wp2_with fail
    go_ret
    exact ⟨⟨_, rfl⟩, HE.out⟩
end Go.Proofs.Ytngglpekdjhbdaa
namespace Go.Proofs.Ytngglpekdjhbdaa
open Go.RowKit Go.ChangeMaps Go.Deep Tr
set_option linter.unusedSimpArgs false
set_option linter.unusedVariables false
set_option maxRecDepth 20000

theorem FillSt.keptR {w W W' : World} {g n r : Nat} {gf : Int → Int} {c : Array Value} {E : TypeId} (h : FillSt w g n gf W) (m : Mod [r] W W') (hr : W.heap[r]? = some (.cells c E (0, 0))) (hE : ¬ lineE E) (hw : w.heap.size ≤ r) : FillSt w g n gf W' := by
  obtain ⟨B, h1, h2, h3⟩ := h
  refine ⟨B, h1.kept m (fun k hk hm => ?_), Mod.into' h2 m (fun k hk => .inl (by simp at hk; omega)), h3⟩
  simp at hm
  subst hm
  obtain ⟨c', E', q1, q2⟩ := h1.types k hk
  rw [hr] at q1
  cases q1
  exact hE q2
def madeF (ops : List Sg) : Int → Int := ops.foldl (fun g o => updM g o.f o.t o.v) (fun _ => 0)
def madeL (ops : List Sg) : List Sg := ops.foldl (fun L o => putL L o.f o.t o.v) []
theorem madeF_snoc (ops : List Sg) (o : Sg) : madeF (ops ++ [o]) = updM (madeF ops) o.f o.t o.v := by unfold madeF; rw [List.foldl_append]; rfl
theorem madeL_snoc (ops : List Sg) (o : Sg) : madeL (ops ++ [o]) = putL (madeL ops) o.f o.t o.v := by unfold madeL; rw [List.foldl_append]; rfl
theorem putL_len (L : List Sg) (a b v : Int) : (putL L a b v).length ≤ L.length + 1 := by unfold putL; split <;> simp
theorem madeL_len (ops : List Sg) : (madeL ops).length ≤ ops.length := by
  obtain ⟨n, hn⟩ : ∃ n, n = ops.length := ⟨_, rfl⟩
  induction n generalizing ops with
  | zero => obtain rfl := List.eq_nil_of_length_eq_zero hn.symm; exact Nat.le_refl _
  | succ n ih =>
    rcases List.eq_nil_or_concat ops with rfl | ⟨ops', o, rfl⟩
    · simp at hn
    · rw [List.concat_eq_append] at hn ⊢
      rw [madeL_snoc]
      have h1 := ih ops' (by simp at hn; omega)
      have h2 := putL_len (madeL ops') o.f o.t o.v
      simp only [List.length_append, List.length_singleton]
      omega
set_option maxHeartbeats 4000000 in
theorem made_at {w : World} {v : Value} {ops : List Sg} (hv : RowAt encSg w v ops) (hn : ops.length ≤ 1000) :
    Calls Try.prog 9 #[v] w fun e w' => ∃ g r, e = .returned (.tuple #[.pointer (some ⟨g, 0, none⟩), .pointer (some ⟨r, 0, none⟩)]) ∧ FillSt w g ops.length (madeF ops) w' ∧ RefAt w' r w.heap.size (madeL ops) := by
  obtain ⟨la, lc, rfl⟩ := hv.form
  have HV := Lib.hid hv
  have CN := Lib.hid (tlNew_line w)
  clear hv
  go_enter Try.func9, Try.ntmps9
  go_wp2_with fail
  refine CN.out.mono ?_
  rintro e w1 ⟨rfl, hN, m1⟩
  have mR := (Mod.refl [] w1).alloc (.cells #[.slice none 0 0] 72)
  have bR := heap_alloc_new w1 (.cells #[.slice none 0 0] 72)
  have HST := Lib.hid (show FillSt w (w.heap.size + 1) 0 (madeF (ops.take 0)) (w1.alloc (.cells #[.slice none 0 0] 72)) ∧ RefAt (w1.alloc (.cells #[.slice none 0 0] 72)) w1.heap.size w.heap.size (madeL (ops.take 0)) ∧ Mod [] w (w1.alloc (.cells #[.slice none 0 0] 72)) from ⟨⟨_, hN.kept0 mR, m1.trans mR, by simp⟩, ⟨_, bR, OwnR.nil_ _ _⟩, m1.trans mR⟩)
  have HSZ := Lib.hid m1.size
  clear CN hN m1 mR bR
  go_wp2_with fail
  go_loopw [13] (fun s13 W => ∃ j : Nat, j ≤ ops.length ∧ s13 = .int .i64 j ∧ Hid (FillSt w (w.heap.size + 1) j (madeF (ops.take j)) W ∧ RefAt W w1.heap.size w.heap.size (madeL (ops.take j)) ∧ Mod [] w W)) (fun s13 _ => ops.length - (intOf s13).toNat)
  case atStart => exact ⟨0, by omega, rfl, HST⟩
  case round =>
    clear HST
    obtain ⟨j, hj, rfl, hS⟩ := hrel
    obtain ⟨q1, q2, q3⟩ := hS.out
    by_cases hlt : j < ops.length
    · obtain ⟨q, o, rfl, hqc, hg⟩ := (HV.out.kept0 q3).get encSg_len hlt
      have hF := madeF_snoc (ops.take j) ops[j]
      have hL := madeL_snoc (ops.take j) ops[j]
      rw [← List.take_succ_eq_append_getElem hlt] at hF hL
      have hll := madeL_len (ops.take j)
      have hrow : wr.rangeAt q (o + j * 3) [.int .i64 (ops[j]).f, .int .i64 (ops[j]).t, .int .i64 (ops[j]).v] := fun jj u hu => by
        have := hg jj u (by have := (List.getElem?_eq_some_iff.1 hu).1; simpa using this) hu
        rw [← this]
        congr 2
        omega
      generalize ops[j] = s at hF hL hrow
      obtain ⟨f, t, v⟩ := s
      dsimp only at hF hL hrow
      have HLI := Lib.hid (run_loadAt_mid (P := Try.prog) _ q (o + j * 3) 66 _ _ hrow Try.underlying66 rfl (by kernel_rfl))
      have mI := (Mod.refl [] wr).alloc (.cells #[.int .i64 f, .int .i64 t, .int .i64 v] 66)
      have bI := heap_alloc_new wr (.cells #[.int .i64 f, .int .i64 t, .int .i64 v] 66)
      have i0 := cell_blk bI 0
      have i1 := cell_blk bI 1
      have i2 := cell_blk bI 2
      simp only [List.getElem?_toArray, List.getElem?_cons_succ, List.getElem?_cons_zero] at i0 i1 i2
      have hj0 : decide ((j : Int) < 0) = false := decide_eq_false (by omega)
      have hj1 : decide ((ops.length : Int) ≤ (j : Int)) = false := decide_eq_false (by omega)
      have hj2 : decide ((j : Int) < (ops.length : Int)) = true := decide_eq_true (by omega)
      have CP := Lib.hid (put_fill (q1.kept0 mI) (by omega) f t v)
      rw [← hF] at CP
      have HBI := Lib.hid bI
      have HR := Lib.hid (q2.kept0 mI)
      have HLq := Lib.hid hL
      have hll2 : (madeL (ops.take j)).length ≤ 1000000 := by rw [List.length_take] at hll; omega
      clear q1 q2 q3 hrow mI bI hg hqc hF hL hll
      go_wp2_with ((with_reducible refine xLoadAt rfl HLI.out ?_ ?_ ?_); exact rfl; exact rfl)
      refine CP.out.mono ?_
      rintro e w4 ⟨⟨x, rfl⟩, hF, hml⟩
      have b4 := hml.heap HBI.out (by unfold lineE; decide)
      have k0 := cell_blk b4 0
      have k1 := cell_blk b4 1
      have k2 := cell_blk b4 2
      simp only [List.getElem?_toArray, List.getElem?_cons_succ, List.getElem?_cons_zero] at k0 k1 k2
      have hR4 := HR.out.keptL hml
      have hwsz : w.heap.size ≤ w4.heap.size := by obtain ⟨B, _, h, _⟩ := hF; exact h.size
      have CR := Lib.hid (rlPut_at hR4 hll2 hwsz f t v)
      rw [← HLq.out] at CR
      have HF4 := Lib.hid hF
      have HR4 := Lib.hid hR4
      clear CP hF hml b4 hR4 i0 i1 i2 HR
      go_wp2_with fail
      refine CR.out.mono ?_
      rintro e w5 ⟨⟨x2, rfl⟩, hR5, m5⟩
      obtain ⟨v4, c4, _⟩ := HR4.out
      have hF5 := HF4.out.keptR m5 c4 (by unfold lineE; decide) HSZ.out
      have HN := Lib.hid (show FillSt w (w.heap.size + 1) (j + 1) (madeF (ops.take (j + 1))) w5 ∧ RefAt w5 w1.heap.size w.heap.size (madeL (ops.take (j + 1))) ∧ Mod [] w w5 from ⟨hF5, hR5, by obtain ⟨B, _, h, _⟩ := hF5; exact h⟩)
      clear hF5 hR5 m5 CR c4 HR4 HF4
      go_wp2_with fail
      go_roundw
      case rel => exact ⟨j + 1, by omega, by go_num, HN⟩
      case measure => simp [intOf]; omega
    · have hje : j = ops.length := by omega
      have hj2 : decide ((j : Int) < (ops.length : Int)) = false := decide_eq_false (by omega)
      have HE := Lib.hid (show FillSt w (w.heap.size + 1) ops.length (madeF ops) wr ∧ RefAt wr w1.heap.size w.heap.size (madeL ops) from by
        rw [List.take_of_length_le (by omega)] at q1 q2
        rw [hje] at q1
        exact ⟨q1, q2⟩)
      clear q1 q2 q3
      subst hje
      go_wp2_with fail
      first | go_ret | go_ret2
      exact ⟨_, _, rfl, HE.out.1, HE.out.2⟩
end Go.Proofs.Ytngglpekdjhbdaa
namespace Go.Proofs.Ytngglpekdjhbdaa
open Go.RowKit Go.ChangeMaps Go.Deep Tr
set_option linter.unusedSimpArgs false
set_option linter.unusedVariables false
set_option maxRecDepth 20000

theorem spans_true {w : World} {v1 v2 : Value} {L : List Cs} (h1 : RowAt encC w v1 L) (h2 : RowAt encC w v2 L) (hl : L.length ≤ 100000000) :
    Calls Try.prog 13 #[v1, v2] w fun e w' => e = .returned (.bool true) ∧ Mod [] w w' := by
  obtain ⟨a1, c1, rfl⟩ := h1.form
  obtain ⟨a2, c2, rfl⟩ := h2.form
  have H1 := Lib.hid h1
  have H2 := Lib.hid h2
  clear h1 h2
  have hne : ((L.length : Int) != (L.length : Int)) = false := by simp
  go_enter Try.func13, Try.ntmps13
  go_wp2_with fail
  go_loopw [13] (fun s13 W => ∃ j : Nat, j ≤ L.length ∧ s13 = .int .i64 j ∧ Hid (Mod [] w W)) (fun s13 _ => L.length - (intOf s13).toNat)
  case atStart => exact ⟨0, by omega, rfl, Lib.hid (Mod.refl _ _)⟩
  case round =>
    obtain ⟨j, hj, rfl, hM⟩ := hrel
    by_cases hlt : j < L.length
    · obtain ⟨b1, o1, rfl, hc1, hg1⟩ := (H1.out.kept0 hM.out).get encC_len hlt
      obtain ⟨b2, o2, rfl, hc2, hg2⟩ := (H2.out.kept0 hM.out).get encC_len hlt
      have hr1 : wr.drew.rangeAt b1 (o1 + j * 2) [.int .i64 (L[j]).1, .int .i64 (L[j]).2] := fun jj u hu => by
        have := hg1 jj u (by have := (List.getElem?_eq_some_iff.1 hu).1; simpa using this) hu
        rw [World.cell?_drew, ← this]
        congr 2
        omega
      have hr2 : wr.drew.rangeAt b2 (o2 + j * 2) [.int .i64 (L[j]).1, .int .i64 (L[j]).2] := fun jj u hu => by
        have := hg2 jj u (by have := (List.getElem?_eq_some_iff.1 hu).1; simpa using this) hu
        rw [World.cell?_drew, ← this]
        congr 2
        omega
      generalize L[j] = s at hr1 hr2
      obtain ⟨f, t⟩ := s
      dsimp only at hr1 hr2
      have HL1 := Lib.hid (run_loadAt_mid (P := Try.prog) _ b1 (o1 + j * 2) 24 _ _ hr1 Try.underlying24 rfl (by kernel_rfl))
      have HL2 := Lib.hid (run_loadAt_mid (P := Try.prog) _ b2 (o2 + j * 2) 24 _ _ hr2 Try.underlying24 rfl (by kernel_rfl))
      have hj0 : decide ((j : Int) < 0) = false := decide_eq_false (by omega)
      have hj1 : decide ((L.length : Int) ≤ (j : Int)) = false := decide_eq_false (by omega)
      have hj2 : decide ((j : Int) < (L.length : Int)) = true := decide_eq_true (by omega)
      clear hg1 hg2 hc1 hc2 hr1 hr2
      have HM := Lib.hid (hM.out.drew)
      go_wp2_with fail
      refine wp_plan [] [0, 1, 4, 5, 2, 6, 3, 7, 8] (by kernel_rfl) (by kernel_rfl) ?_
      simp only [wpSegs, opsOf, List.map_cons, List.map_nil, opN, List.getD_cons_zero, List.getD_cons_succ]
      go_wp2_with (first | ((with_reducible refine xLoadAt rfl HL1.out ?_ ?_ ?_); exact rfl; exact rfl) | ((with_reducible refine xLoadAt rfl HL2.out ?_ ?_ ?_); exact rfl; exact rfl))
      refine ⟨by first | trivial | rfl, ?_⟩
      go_wp2_with fail
      go_roundw
      case rel => exact ⟨j + 1, by omega, by go_num, HM⟩
      case measure => simp [intOf]; omega
    · have hj2 : decide ((j : Int) < (L.length : Int)) = false := decide_eq_false (by omega)
      go_wp2_with fail
      go_ret
      exact ⟨rfl, hM.out⟩
/-- rows of parts, read -/
structure PtsR (W : World) (v : Value) (us : List Cu) (ps : List Pt) : Prop where
  row : RowAt encU W v us
  len : us.length = ps.length
  rel : ∀ (i : Nat) (u : Cu) (p : Pt), us[i]? = some u → ps[i]? = some p → u.1 = p.1 ∧ u.2.1 = p.2.1 ∧ RowAt encI W u.2.2.val p.2.2
theorem PtsAt.read {W : World} {base : Nat} {v : Value} {us : List Cu} {ps : List Pt} (h : PtsAt W base v us ps) : PtsR W v us ps :=
  ⟨h.own.row, h.len, fun i u p h1 h2 => by obtain ⟨e1, e2, e3⟩ := h.rel i u p h1 h2; exact ⟨e1, e2, e3.row⟩⟩
theorem PtsR.kept0 {W W' : World} {v : Value} {us : List Cu} {ps : List Pt} (h : PtsR W v us ps) (m : Mod [] W W') : PtsR W' v us ps :=
  ⟨h.row.kept0 m, h.len, fun i u p h1 h2 => by obtain ⟨e1, e2, e3⟩ := h.rel i u p h1 h2; exact ⟨e1, e2, e3.kept0 m⟩⟩
set_option maxHeartbeats 4000000 in
theorem same_true {w : World} {v1 v2 : Value} {us1 us2 : List Cu} {ps : List Pt} (h1 : PtsR w v1 us1 ps) (h2 : PtsR w v2 us2 ps) (hl : ps.length ≤ 100000000) (hl2 : ∀ p ∈ ps, p.2.2.length ≤ 100000000) :
    Calls Try.prog 10 #[v1, v2] w fun e w' => e = .returned (.bool true) ∧ Mod [] w w' := by
  obtain ⟨a1, c1, rfl⟩ := h1.row.form
  obtain ⟨a2, c2, rfl⟩ := h2.row.form
  have e1 := h1.len
  have e2 := h2.len
  have H1 := Lib.hid h1
  have H2 := Lib.hid h2
  have HL2 := Lib.hid hl2
  clear h1 h2 hl2
  have hne : ((us1.length : Int) != (us2.length : Int)) = false := by rw [e1, e2]; simp
  go_enter Try.func10, Try.ntmps10
  go_wp2_with fail
  go_loopw [14] (fun s14 W => ∃ j : Nat, j ≤ ps.length ∧ s14 = .int .i64 j ∧ Hid (Mod [] w W)) (fun s14 _ => ps.length - (intOf s14).toNat)
  case atStart => exact ⟨0, by omega, rfl, Lib.hid (Mod.refl _ _)⟩
  case round =>
    obtain ⟨j, hj, rfl, hM⟩ := hrel
    by_cases hlt : j < ps.length
    · obtain ⟨u1, hu1⟩ : ∃ u, us1[j]? = some u := ⟨us1[j]'(by omega), List.getElem?_eq_getElem (by omega)⟩
      obtain ⟨u2, hu2⟩ : ∃ u, us2[j]? = some u := ⟨us2[j]'(by omega), List.getElem?_eq_getElem (by omega)⟩
      obtain ⟨p, hp⟩ : ∃ p, ps[j]? = some p := ⟨ps[j], List.getElem?_eq_getElem hlt⟩
      obtain ⟨i1, i2, i3⟩ := (H1.out.kept0 hM.out).rel j u1 p hu1 hp
      obtain ⟨k1, k2, k3⟩ := (H2.out.kept0 hM.out).rel j u2 p hu2 hp
      obtain ⟨b1, o1, rfl, hc1, hg1⟩ := (H1.out.kept0 hM.out).row.get encU_len (i := j) (by omega)
      obtain ⟨b2, o2, rfl, hc2, hg2⟩ := (H2.out.kept0 hM.out).row.get encU_len (i := j) (by omega)
      have hpl := HL2.out p (List.mem_of_getElem? hp)
      have hg1' : us1[j]'(by omega) = u1 := by rw [List.getElem?_eq_getElem (by omega)] at hu1; simpa using hu1
      have hg2' : us2[j]'(by omega) = u2 := by rw [List.getElem?_eq_getElem (by omega)] at hu2; simpa using hu2
      rw [hg1'] at hg1
      rw [hg2'] at hg2
      obtain ⟨f1, t1, x1⟩ := u1
      obtain ⟨f2, t2, x2⟩ := u2
      obtain ⟨f, t, vs⟩ := p
      dsimp only at i1 i2 i3 k1 k2 k3 hpl
      subst f1 t1
      subst f2 t2
      obtain ⟨xa1, xn1, xc1⟩ := x1
      obtain ⟨xa2, xn2, xc2⟩ := x2
      obtain ⟨ya, yc, hy⟩ := i3.form
      obtain ⟨za, zc, hz⟩ := k3.form
      simp only [SlH.val, Value.slice.injEq] at hy hz
      obtain ⟨rfl, rfl, rfl⟩ := hy
      obtain ⟨rfl, rfl, rfl⟩ := hz
      have p0 := hg1 0 (.int .i64 f) (by omega) rfl
      have p1 := hg1 1 (.int .i64 t) (by omega) rfl
      have p2 := hg1 2 (.slice xa1 vs.length xc1) (by omega) rfl
      have r0 := hg2 0 (.int .i64 f) (by omega) rfl
      have r1 := hg2 1 (.int .i64 t) (by omega) rfl
      have r2 := hg2 2 (.slice xa2 vs.length xc2) (by omega) rfl
      have hnz1 : o1 + (j * 3 + 0) = o1 + j * 3 := by omega
      have hnz2 : o1 + (j * 3 + 1) = o1 + j * 3 + 1 := by omega
      have hnz3 : o1 + (j * 3 + 2) = o1 + j * 3 + 2 := by omega
      have hny1 : o2 + (j * 3 + 0) = o2 + j * 3 := by omega
      have hny2 : o2 + (j * 3 + 1) = o2 + j * 3 + 1 := by omega
      have hny3 : o2 + (j * 3 + 2) = o2 + j * 3 + 2 := by omega
      rw [hnz1] at p0
      rw [hnz2] at p1
      rw [hnz3] at p2
      rw [hny1] at r0
      rw [hny2] at r1
      rw [hny3] at r2
      have hj0 : decide ((j : Int) < 0) = false := decide_eq_false (by omega)
      have hj1 : decide ((us1.length : Int) ≤ (j : Int)) = false := decide_eq_false (by omega)
      have hj3 : decide ((us2.length : Int) ≤ (j : Int)) = false := decide_eq_false (by omega)
      have hj2 : decide ((j : Int) < (us1.length : Int)) = true := decide_eq_true (by omega)
      have hne0 : (f != f) = false := by simp
      have hne1 : (t != t) = false := by simp
      have hne2 : ((vs.length : Int) != (vs.length : Int)) = false := by simp
      have HI := Lib.hid i3
      have HK := Lib.hid k3
      have HP := Lib.hid (⟨p2, r2⟩ : _ ∧ _)
      clear hg1 hg2 hc1 hc2 hnz1 hnz2 hnz3 hny1 hny2 hny3 i3 k3 hg1' hg2'
      go_wp2_with fail
      refine wp_plan [] [0, 1, 5, 6, 2, 7, 3, 8, 4, 9, 10, 11, 12, 13, 17, 18, 14, 19, 15, 20, 16, 21, 22, 23, 24, 25, 26, 31, 32, 27, 33, 28, 34, 29, 35, 30, 36, 37, 38] (by kernel_rfl) (by kernel_rfl) ?_
      simp only [wpSegs, opsOf, List.map_cons, List.map_nil, opN, List.getD_cons_zero, List.getD_cons_succ]
      go_wp2_with fail
      refine ⟨by first | trivial | rfl, ?_⟩
      go_wp2_with fail
      have HMW := Lib.hid hM.out
      have HM0 := Lib.hid ((Mod.refl [] wr).drew)
      clear p2 r2 p0 p1 r0 r1 hM
      rename World => wo
      go_loopw [62] (fun s62 W => ∃ k : Nat, k ≤ vs.length ∧ s62 = .int .i64 k ∧ Hid (Mod [] wo W)) (fun s62 _ => vs.length - (intOf s62).toNat)
      case atStart => exact ⟨0, by omega, rfl, HM0⟩
      case round =>
        clear HM0
        obtain ⟨k, hk, rfl, hM⟩ := hrel
        by_cases hlk : k < vs.length
        · have p2 := hM.out.cellD HP.out.1
          have r2 := hM.out.cellD HP.out.2
          obtain ⟨y1, z1, hy1, _, hv1⟩ := RowAt.get1 (show IntsIn wr (.slice xa1 vs.length xc1) vs from HI.out.kept0 hM.out) hlk
          obtain ⟨y2, z2, hy2, _, hv2⟩ := RowAt.get1 (show IntsIn wr (.slice xa2 vs.length xc2) vs from HK.out.kept0 hM.out) hlk
          subst hy1 hy2
          have hk0 : decide ((k : Int) < 0) = false := decide_eq_false (by omega)
          have hk1 : decide ((vs.length : Int) ≤ (k : Int)) = false := decide_eq_false (by omega)
          have hk2 : decide ((k : Int) < (vs.length : Int)) = true := decide_eq_true (by omega)
          have hnk : (vs[k] != vs[k]) = false := by simp
          generalize vs[k] = vk at hv1 hv2 hnk
          have HN := Lib.hid (hM.out.drew)
          go_wp2_with fail
          refine wp_plan [] [0, 1, 5, 8, 9, 13, 2, 10, 3, 11, 4, 12, 6, 14, 7, 15, 16] (by kernel_rfl) (by kernel_rfl) ?_
          simp only [wpSegs, opsOf, List.map_cons, List.map_nil, opN, List.getD_cons_zero, List.getD_cons_succ]
          go_wp2_with fail
          refine ⟨by first | trivial | rfl, ?_⟩
          go_wp2_with fail
          go_roundw
          case rel => exact ⟨k + 1, by omega, by go_num, HN⟩
          case measure => simp [intOf]; omega
        · have hk2 : decide ((k : Int) < (vs.length : Int)) = false := decide_eq_false (by omega)
          have HN := Lib.hid (HMW.out.trans hM.out)
          go_wp2_with fail
          go_roundw
          case rel => exact ⟨j + 1, by omega, by go_num, HN⟩
          case measure => simp [intOf]; omega
    · have hj2 : decide ((j : Int) < (us1.length : Int)) = false := decide_eq_false (by omega)
      go_wp2_with fail
      go_ret
      exact ⟨rfl, hM.out⟩
end Go.Proofs.Ytngglpekdjhbdaa
