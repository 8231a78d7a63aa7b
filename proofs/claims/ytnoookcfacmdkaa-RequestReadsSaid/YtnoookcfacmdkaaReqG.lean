/- Layer 25: an operation's form: a put of a value. -/
import Derived.Test.YtnoookcfacmdkaaReqF
import Derived.Test.YtnoookcfacmdkaaRegH
namespace Go.Proofs.Ytnoookcfacmdkaa
open Go.RowKit Go.ChangeMaps
set_option linter.unusedSimpArgs false
set_option linter.unusedVariables false
set_option maxRecDepth 20000

theorem app_from {w : World} {base : Nat} {v : Value} {l : List Int} (h : OwnB w base v l) (hb : base ≤ w.heap.size) {x : Int} (hlen : l.length < 140737488355328) {g : Nat} {T : TypeId} {fr : Nat × Nat} (hg : w.heap[g]? = some (.cells #[.int .u8 x] T fr)) :
    ∃ v' w', (Builtin.append_ #[23, 23] 23 #[v, .slice (some ⟨g, 0, none⟩) 1 1]).run Try.prog w = .ok v' w' ∧ OwnB w' base v' (l ++ [x]) ∧ Grew w v w' v' :=
  app_src h hb (l2 := [x]) (Src.ofSlice (P := Try.prog) w Try.underlying23 ⟨g, 0, none⟩ 1 1 (bv [x]) rfl (fun j u hu => by
    rw [Addr.add_mid, Nat.zero_add, cell_blk hg, ← hu]
    simp [bv]) (by simp [bv, Value.oneCell'])) (by simp; omega)
theorem wrap_c (c : Int) : IntKind.u64.wrap c = u64 c := by
  simp [IntKind.wrap, IntKind.bits, IntKind.signed, u64]
theorem wrap_u8 {n : Int} (h0 : 0 ≤ n) (h1 : n ≤ 255) : IntKind.u8.wrap n = n := by
  simp [IntKind.wrap, IntKind.bits, IntKind.signed]
  omega
theorem u64_is (c : Int) : IsU64 (IntKind.u64.wrap c) := by
  rw [wrap_c]
  unfold u64 IsU64
  omega
set_option maxHeartbeats 8000000 in
theorem put_2 {w : World} {base : Nat} {v : Value} {l : List Int} (h : OwnB w base v l) (hb : base ≤ w.heap.size) (f : Int) (nm : ByteArray) (fk a b vk c s e : Int) (tx : ByteArray) (hf0 : 0 ≤ f) (hf1 : f ≤ 255) (hs : spanOk a b = true) (hv1 : vk = 1 → 0 ≤ s ∧ s ≤ 9) (hlen : l.length ≤ 1073740000) :
    Calls Try.prog 46 #[v, .agg (DoR.cells ⟨2, f, nm, fk, a, b, vk, c, s, e, tx⟩).toArray] w fun x w' => ∃ v', x = .returned v' ∧ OwnB w' base v' (l ++ DoR.enc ⟨2, f, nm, fk, a, b, vk, c, s, e, tx⟩) ∧ Grew w v w' v' := by
  unfold DoR.cells
  dsimp only
  obtain ⟨v1, w1, v2, w2, T⟩ := two_of h hb 2 f (.cells #[.int .u8 2, .int .i64 f, .string nm, .int .u8 fk, .int .i64 a, .int .i64 b, .int .u8 vk, .int .i64 c, .int .i64 s, .int .i64 e, .string tx] 78) hlen
  have q0 := cell_blk T.h1 0
  have q1 := cell_blk T.h1 1
  have q20 := cell_blk T.h2 0
  have q24 := cell_blk T.h2 4
  have q25 := cell_blk T.h2 5
  have q26 := cell_blk T.h2 6
  simp at q0 q1 q20 q24 q25 q26
  have HR1 := Lib.hid T.r1
  have HR2 := Lib.hid T.r2
  have HT := Lib.hid T
  have HN := Lib.hid (ends_any (T.own.kept0 ((Mod.refl [] w2).drew)) T.hb a b hs (by simp; omega))
  have hmB := ((Mod.refl [] w2).alloc (.cells #[.int .u8 vk] 5)).drew
  have HNB := Lib.hid (ends_any (T.own.kept0 hmB) (Nat.le_trans T.hb hmB.size) a b hs (by simp; omega))
  have HMB := Lib.hid hmB
  have e1 : f % 256 = f := by omega
  have HE : Hid (l ++ DoR.enc ⟨2, f, nm, fk, a, b, vk, c, s, e, tx⟩ = l ++ [2] ++ [f] ++ ends a b ++ [vk] ++ (if vk = 1 then numB (u64 c) 8 ++ [s % 256] else [])) := Lib.hid (by simp [DoR.enc, e1])
  clear T hmB e1
  have HV := Lib.hid hv1
  clear hv1 hs
  go_enter Try.func46, Try.ntmps46
  go_wp2_with (first | ((with_reducible refine xAppendAt HR1.out rfl rfl ?_ ?_ ?_ ?_); exact rfl; exact rfl; exact rfl) | ((with_reducible refine xAppendAt HR2.out rfl rfl ?_ ?_ ?_ ?_); exact rfl; exact rfl; exact rfl))
  refine wp_sched (by kernel_rfl) (sched_either 3 7 (by decide) (sched_plan1 [([0, 1, 4, 2, 5, 6], 3, [4, 5, 6]), ([], 7, []), ([], 8, []), ([], 9, [])] [] (by kernel_rfl) ?oA) (sched_plan1 [([0, 1, 4, 2, 5, 6], 7, [1, 2]), ([], 3, [4, 5, 6]), ([], 8, []), ([], 9, [])] [] (by kernel_rfl) ?oB))
  case oA =>
    simp only [wpSegs, opsOf, List.map_cons, List.map_nil, opN, List.getD_cons_zero, List.getD_cons_succ]
    go_wp2_with fail
    refine ⟨by first | trivial | rfl, ?_⟩
    go_wp2_with fail
    refine HN.out.mono ?_
    rintro x w3 ⟨v3, rfl, o3, g3⟩
    have g23 := (Grew.of v2 ((Mod.refl [] w2).drew)).trans g3
    have hc3 := g23.heap HT.out.own HT.out.h2 HT.out.off
    have q36 := cell_blk hc3 6
    simp at q36
    obtain ⟨v4, w4, r4, o4, g4⟩ := app_at o3 (Nat.le_trans HT.out.hb g3.mod.size) vk (by simp [ends, numB_length]; omega) rfl
    have HR4 := Lib.hid r4
    have HO := Lib.hid o4
    have HG := Lib.hid (g23.trans g4)
    clear r4 o4 g4 hc3 o3 g3 g23
    have hc4 := (HG.out).heap HT.out.own HT.out.h2 HT.out.off
    have hof4 := (HG.out).off HT.out.lt HT.out.off
    have q46 := cell_blk hc4 6
    simp at q46
    have HC4 := Lib.hid hc4
    have HF4 := Lib.hid hof4
    have HB := Lib.hid (show base ≤ w4.heap.size from Nat.le_trans HT.out.hb HG.out.mod.size)
    clear hc4 hof4
    go_wp2_with fail
    refine ⟨?agA1, ?_⟩
    case agA1 =>
      intro i hi hw
      simp only [List.mem_cons, List.not_mem_nil, or_false] at hi
      rcases hi with rfl | rfl | rfl
      all_goals (simp only [opN, List.getD_cons_zero, List.getD_cons_succ, slotOf]; go_simp)
    go_wp2_with fail
    refine ⟨by first | trivial | rfl, ?_⟩
    go_wp2_with fail
    refine ⟨again_nil, ?_⟩
    go_wp2_with fail
    refine ⟨by first | trivial | rfl, ?_⟩
    go_wp2_with ((with_reducible refine xAppendAt HR4.out rfl rfl ?_ ?_ ?_ ?_); exact rfl; exact rfl; exact rfl)
    refine ⟨again_nil, ?_⟩
    go_wp2_with fail
    refine ⟨by first | trivial | rfl, ?_⟩
    go_wp2_with fail
    refine ⟨again_nil, ?_⟩
    go_wp2_with fail
    refine ⟨by first | trivial | rfl, ?_⟩
    by_cases hv : vk = 1
    · subst hv
      have hs9 := HV.out rfl
      obtain ⟨hs0, hs1⟩ := hs9
      have q47 := cell_blk HC4.out 7
      have q48 := cell_blk HC4.out 8
      simp at q47 q48
      go_wp2_with fail
      refine wp_sched (by kernel_rfl) (sched_either 6 12 (by decide) (sched_plan1 [([0, 1, 7, 2, 8, 3, 9, 4, 10, 5, 11], 6, [7, 8, 9, 10, 11]), ([], 12, []), ([], 13, []), ([], 14, [])] [] (by kernel_rfl) ?oA1) (sched_plan1 [([0, 1, 7, 2, 8, 3, 9, 4, 10, 5, 11], 12, [1, 2, 3, 4, 5]), ([], 6, [7, 8, 9, 10, 11]), ([], 13, []), ([], 14, [])] [] (by kernel_rfl) ?oA2))
      case oA1 =>
        simp only [wpSegs, opsOf, List.map_cons, List.map_nil, opN, List.getD_cons_zero, List.getD_cons_succ]
        go_wp2_with fail
        refine ⟨by first | trivial | rfl, ?_⟩
        go_wp2_with fail
        refine (number_any (HO.out.kept0 ((Mod.refl [] w4).drew)) HB.out (IntKind.u64.wrap c) 8 (u64_is c) (by omega) (by simp [ends, numB_length]; omega)).mono ?_
        rintro x w5 ⟨v5, rfl, o5, g5⟩
        have g45 := (Grew.of v4 ((Mod.refl [] w4).drew)).trans g5
        have hc5 := g45.heap HO.out HC4.out HF4.out
        have q58 := cell_blk hc5 8
        simp at q58
        obtain ⟨v6, w6, r6, o6, g6⟩ := app_at o5 (Nat.le_trans HB.out g5.mod.size) s (by simp [ends, numB_length]; omega) rfl
        have HR6 := Lib.hid r6
        have HO6 := Lib.hid o6
        have HG6 := Lib.hid (g45.trans g6)
        clear r6 o6 g6 o5 g5 g45 hc5
        go_wp2_with fail
        refine ⟨?agA3, ?_⟩
        case agA3 =>
          intro i hi hw
          simp only [List.mem_cons, List.not_mem_nil, or_false] at hi
          rcases hi with rfl | rfl | rfl | rfl | rfl
          all_goals (simp only [opN, List.getD_cons_zero, List.getD_cons_succ, slotOf]; go_simp; try exact wrap_u8 hs0 (by omega))
        go_wp2_with fail
        refine ⟨by first | trivial | rfl, ?_⟩
        go_wp2_with fail
        refine ⟨again_nil, ?_⟩
        go_wp2_with fail
        refine ⟨by first | trivial | rfl, ?_⟩
        go_wp2_with ((with_reducible refine xAppendAt HR6.out rfl rfl ?_ ?_ ?_ ?_); exact rfl; exact rfl; exact rfl)
        refine ⟨again_nil, ?_⟩
        go_wp2_with fail
        refine ⟨by first | trivial | rfl, ?_⟩
        go_wp2_with fail
        refine ⟨again_nil, ?_⟩
        go_wp2_with fail
        refine ⟨by first | trivial | rfl, ?_⟩
        go_wp2_with fail
        go_ret
        refine ⟨v6, rfl, ?_, (HT.out.grew.trans HG.out).trans HG6.out⟩
        have e2 : s % 256 = s := by omega
        have h6 := HO6.out
        rw [wrap_c] at h6
        rw [HE.out, if_pos trivial, e2, ← List.append_assoc]
        exact h6
      case oA2 =>
        simp only [wpSegs, opsOf, List.map_cons, List.map_nil, opN, List.getD_cons_zero, List.getD_cons_succ]
        have hmC := ((Mod.refl [] w4).alloc (.cells #[.int .u8 s] 5)).drew
        have qc7 := cell_blk ((heap_alloc_ne w4 (.cells #[.int .u8 s] 5) (lt_of_heap HC4.out)).trans HC4.out) 7
        simp only [List.getElem?_toArray, List.getElem?_cons_succ, List.getElem?_cons_zero] at qc7
        have HMC := Lib.hid hmC
        clear hmC
        go_wp2_with fail
        refine ⟨by first | trivial | rfl, ?_⟩
        go_wp2_with fail
        refine ⟨?agA4, ?_⟩
        case agA4 =>
          intro i hi hw
          simp only [List.mem_cons, List.not_mem_nil, or_false] at hi
          rcases hi with rfl | rfl | rfl | rfl | rfl
          all_goals (simp only [opN, List.getD_cons_zero, List.getD_cons_succ, slotOf]; go_simp)
        go_wp2_with fail
        refine ⟨by first | trivial | rfl, ?_⟩
        go_wp2_with fail
        refine (number_any (HO.out.kept0 HMC.out) (Nat.le_trans HB.out HMC.out.size) (IntKind.u64.wrap c) 8 (u64_is c) (by omega) (by simp [ends, numB_length]; omega)).mono ?_
        rintro x w5 ⟨v5, rfl, o5, g5⟩
        have g45 := (Grew.of v4 HMC.out).trans g5
        have hc5 := g45.heap HO.out HC4.out HF4.out
        have q58 := cell_blk hc5 8
        simp at q58
        have hn5 : w5.heap[w4.heap.size]? = some (.cells #[.int .u8 s] 5 (0, 0)) := g5.heap (HO.out.kept0 HMC.out) (heap_alloc_new w4 _) (fun k hk => by have := (World.ownsRow.lt HO.out k hk).2; omega)
        obtain ⟨v6, w6, r6, o6, g6⟩ := app_from o5 (Nat.le_trans (Nat.le_trans HB.out HMC.out.size) g5.mod.size) (by simp [ends, numB_length]; omega) hn5
        have HR6 := Lib.hid r6
        have HO6 := Lib.hid o6
        have HG6 := Lib.hid (g45.trans g6)
        clear r6 o6 g6 o5 g5 g45 hc5 hn5
        go_wp2_with fail
        refine ⟨?agA5, ?_⟩
        case agA5 =>
          intro i hi hw
          simp only [List.mem_cons, List.not_mem_nil, or_false] at hi
          rcases hi with rfl | rfl | rfl | rfl | rfl
          all_goals (simp only [opN, List.getD_cons_zero, List.getD_cons_succ, slotOf]; go_simp; try exact wrap_u8 hs0 (by omega))
        go_wp2_with fail
        refine ⟨by first | trivial | rfl, ?_⟩
        go_wp2_with ((with_reducible refine xAppendAt HR6.out rfl rfl ?_ ?_ ?_ ?_); exact rfl; exact rfl; exact rfl)
        refine ⟨again_nil, ?_⟩
        go_wp2_with fail
        refine ⟨by first | trivial | rfl, ?_⟩
        go_wp2_with fail
        refine ⟨again_nil, ?_⟩
        go_wp2_with fail
        refine ⟨by first | trivial | rfl, ?_⟩
        go_wp2_with fail
        go_ret
        refine ⟨v6, rfl, ?_, (HT.out.grew.trans HG.out).trans HG6.out⟩
        have e2 : s % 256 = s := by omega
        have h6 := HO6.out
        rw [wrap_c] at h6
        rw [HE.out, if_pos trivial, e2, ← List.append_assoc]
        exact h6
    · go_wp2_with fail
      go_ret
      refine ⟨v4, rfl, ?_, HT.out.grew.trans HG.out⟩
      rw [HE.out, if_neg hv, List.append_nil]
      exact HO.out
  case oB =>
    simp only [wpSegs, opsOf, List.map_cons, List.map_nil, opN, List.getD_cons_zero, List.getD_cons_succ]
    have qb4 := cell_blk ((heap_alloc_ne w2 (.cells #[.int .u8 vk] 5) HT.out.lt).trans HT.out.h2) 4
    have qb5 := cell_blk ((heap_alloc_ne w2 (.cells #[.int .u8 vk] 5) HT.out.lt).trans HT.out.h2) 5
    simp only [List.getElem?_toArray, List.getElem?_cons_succ, List.getElem?_cons_zero] at qb4 qb5
    go_wp2_with fail
    refine ⟨by first | trivial | rfl, ?_⟩
    go_wp2_with fail
    refine ⟨?agB1, ?_⟩
    case agB1 =>
      intro i hi hw
      simp only [List.mem_cons, List.not_mem_nil, or_false] at hi
      rcases hi with rfl | rfl
      all_goals (simp only [opN, List.getD_cons_zero, List.getD_cons_succ, slotOf]; go_simp)
    go_wp2_with fail
    refine ⟨by first | trivial | rfl, ?_⟩
    go_wp2_with fail
    refine HNB.out.mono ?_
    rintro x w3 ⟨v3, rfl, o3, g3⟩
    have g23 := (Grew.of v2 HMB.out).trans g3
    have hc3 := g23.heap HT.out.own HT.out.h2 HT.out.off
    have q36 := cell_blk hc3 6
    simp at q36
    have hn3 : w3.heap[w2.heap.size]? = some (.cells #[.int .u8 vk] 5 (0, 0)) := g3.heap (HT.out.own.kept0 HMB.out) (heap_alloc_new w2 _) (fun k hk => by have := (World.ownsRow.lt HT.out.own k hk).2; omega)
    obtain ⟨v4, w4, r4, o4, g4⟩ := app_from o3 (Nat.le_trans (Nat.le_trans HT.out.hb HMB.out.size) g3.mod.size) (by simp [ends, numB_length]; omega) hn3
    have HR4 := Lib.hid r4
    have HO := Lib.hid o4
    have HG := Lib.hid (g23.trans g4)
    clear r4 o4 g4 hc3 o3 g3 g23 hn3
    have hc4 := (HG.out).heap HT.out.own HT.out.h2 HT.out.off
    have hof4 := (HG.out).off HT.out.lt HT.out.off
    have q46 := cell_blk hc4 6
    simp at q46
    have HC4 := Lib.hid hc4
    have HF4 := Lib.hid hof4
    have HB := Lib.hid (show base ≤ w4.heap.size from Nat.le_trans HT.out.hb HG.out.mod.size)
    clear hc4 hof4
    go_wp2_with fail
    refine ⟨?agB2, ?_⟩
    case agB2 =>
      intro i hi hw
      simp only [List.mem_cons, List.not_mem_nil, or_false] at hi
      rcases hi with rfl | rfl | rfl
      all_goals (simp only [opN, List.getD_cons_zero, List.getD_cons_succ, slotOf]; go_simp)
    go_wp2_with fail
    refine ⟨by first | trivial | rfl, ?_⟩
    go_wp2_with ((with_reducible refine xAppendAt HR4.out rfl rfl ?_ ?_ ?_ ?_); exact rfl; exact rfl; exact rfl)
    refine ⟨again_nil, ?_⟩
    go_wp2_with fail
    refine ⟨by first | trivial | rfl, ?_⟩
    go_wp2_with fail
    refine ⟨again_nil, ?_⟩
    go_wp2_with fail
    refine ⟨by first | trivial | rfl, ?_⟩
    by_cases hv : vk = 1
    · subst hv
      have hs9 := HV.out rfl
      obtain ⟨hs0, hs1⟩ := hs9
      have q47 := cell_blk HC4.out 7
      have q48 := cell_blk HC4.out 8
      simp at q47 q48
      go_wp2_with fail
      refine wp_sched (by kernel_rfl) (sched_either 6 12 (by decide) (sched_plan1 [([0, 1, 7, 2, 8, 3, 9, 4, 10, 5, 11], 6, [7, 8, 9, 10, 11]), ([], 12, []), ([], 13, []), ([], 14, [])] [] (by kernel_rfl) ?oB1) (sched_plan1 [([0, 1, 7, 2, 8, 3, 9, 4, 10, 5, 11], 12, [1, 2, 3, 4, 5]), ([], 6, [7, 8, 9, 10, 11]), ([], 13, []), ([], 14, [])] [] (by kernel_rfl) ?oB2))
      case oB1 =>
        simp only [wpSegs, opsOf, List.map_cons, List.map_nil, opN, List.getD_cons_zero, List.getD_cons_succ]
        go_wp2_with fail
        refine ⟨by first | trivial | rfl, ?_⟩
        go_wp2_with fail
        refine (number_any (HO.out.kept0 ((Mod.refl [] w4).drew)) HB.out (IntKind.u64.wrap c) 8 (u64_is c) (by omega) (by simp [ends, numB_length]; omega)).mono ?_
        rintro x w5 ⟨v5, rfl, o5, g5⟩
        have g45 := (Grew.of v4 ((Mod.refl [] w4).drew)).trans g5
        have hc5 := g45.heap HO.out HC4.out HF4.out
        have q58 := cell_blk hc5 8
        simp at q58
        obtain ⟨v6, w6, r6, o6, g6⟩ := app_at o5 (Nat.le_trans HB.out g5.mod.size) s (by simp [ends, numB_length]; omega) rfl
        have HR6 := Lib.hid r6
        have HO6 := Lib.hid o6
        have HG6 := Lib.hid (g45.trans g6)
        clear r6 o6 g6 o5 g5 g45 hc5
        go_wp2_with fail
        refine ⟨?agB3, ?_⟩
        case agB3 =>
          intro i hi hw
          simp only [List.mem_cons, List.not_mem_nil, or_false] at hi
          rcases hi with rfl | rfl | rfl | rfl | rfl
          all_goals (simp only [opN, List.getD_cons_zero, List.getD_cons_succ, slotOf]; go_simp; try exact wrap_u8 hs0 (by omega))
        go_wp2_with fail
        refine ⟨by first | trivial | rfl, ?_⟩
        go_wp2_with fail
        refine ⟨again_nil, ?_⟩
        go_wp2_with fail
        refine ⟨by first | trivial | rfl, ?_⟩
        go_wp2_with ((with_reducible refine xAppendAt HR6.out rfl rfl ?_ ?_ ?_ ?_); exact rfl; exact rfl; exact rfl)
        refine ⟨again_nil, ?_⟩
        go_wp2_with fail
        refine ⟨by first | trivial | rfl, ?_⟩
        go_wp2_with fail
        refine ⟨again_nil, ?_⟩
        go_wp2_with fail
        refine ⟨by first | trivial | rfl, ?_⟩
        go_wp2_with fail
        go_ret
        refine ⟨v6, rfl, ?_, (HT.out.grew.trans HG.out).trans HG6.out⟩
        have e2 : s % 256 = s := by omega
        have h6 := HO6.out
        rw [wrap_c] at h6
        rw [HE.out, if_pos trivial, e2, ← List.append_assoc]
        exact h6
      case oB2 =>
        simp only [wpSegs, opsOf, List.map_cons, List.map_nil, opN, List.getD_cons_zero, List.getD_cons_succ]
        have hmC := ((Mod.refl [] w4).alloc (.cells #[.int .u8 s] 5)).drew
        have qc7 := cell_blk ((heap_alloc_ne w4 (.cells #[.int .u8 s] 5) (lt_of_heap HC4.out)).trans HC4.out) 7
        simp only [List.getElem?_toArray, List.getElem?_cons_succ, List.getElem?_cons_zero] at qc7
        have HMC := Lib.hid hmC
        clear hmC
        go_wp2_with fail
        refine ⟨by first | trivial | rfl, ?_⟩
        go_wp2_with fail
        refine ⟨?agB4, ?_⟩
        case agB4 =>
          intro i hi hw
          simp only [List.mem_cons, List.not_mem_nil, or_false] at hi
          rcases hi with rfl | rfl | rfl | rfl | rfl
          all_goals (simp only [opN, List.getD_cons_zero, List.getD_cons_succ, slotOf]; go_simp)
        go_wp2_with fail
        refine ⟨by first | trivial | rfl, ?_⟩
        go_wp2_with fail
        refine (number_any (HO.out.kept0 HMC.out) (Nat.le_trans HB.out HMC.out.size) (IntKind.u64.wrap c) 8 (u64_is c) (by omega) (by simp [ends, numB_length]; omega)).mono ?_
        rintro x w5 ⟨v5, rfl, o5, g5⟩
        have g45 := (Grew.of v4 HMC.out).trans g5
        have hc5 := g45.heap HO.out HC4.out HF4.out
        have q58 := cell_blk hc5 8
        simp at q58
        have hn5 : w5.heap[w4.heap.size]? = some (.cells #[.int .u8 s] 5 (0, 0)) := g5.heap (HO.out.kept0 HMC.out) (heap_alloc_new w4 _) (fun k hk => by have := (World.ownsRow.lt HO.out k hk).2; omega)
        obtain ⟨v6, w6, r6, o6, g6⟩ := app_from o5 (Nat.le_trans (Nat.le_trans HB.out HMC.out.size) g5.mod.size) (by simp [ends, numB_length]; omega) hn5
        have HR6 := Lib.hid r6
        have HO6 := Lib.hid o6
        have HG6 := Lib.hid (g45.trans g6)
        clear r6 o6 g6 o5 g5 g45 hc5 hn5
        go_wp2_with fail
        refine ⟨?agB5, ?_⟩
        case agB5 =>
          intro i hi hw
          simp only [List.mem_cons, List.not_mem_nil, or_false] at hi
          rcases hi with rfl | rfl | rfl | rfl | rfl
          all_goals (simp only [opN, List.getD_cons_zero, List.getD_cons_succ, slotOf]; go_simp; try exact wrap_u8 hs0 (by omega))
        go_wp2_with fail
        refine ⟨by first | trivial | rfl, ?_⟩
        go_wp2_with ((with_reducible refine xAppendAt HR6.out rfl rfl ?_ ?_ ?_ ?_); exact rfl; exact rfl; exact rfl)
        refine ⟨again_nil, ?_⟩
        go_wp2_with fail
        refine ⟨by first | trivial | rfl, ?_⟩
        go_wp2_with fail
        refine ⟨again_nil, ?_⟩
        go_wp2_with fail
        refine ⟨by first | trivial | rfl, ?_⟩
        go_wp2_with fail
        go_ret
        refine ⟨v6, rfl, ?_, (HT.out.grew.trans HG.out).trans HG6.out⟩
        have e2 : s % 256 = s := by omega
        have h6 := HO6.out
        rw [wrap_c] at h6
        rw [HE.out, if_pos trivial, e2, ← List.append_assoc]
        exact h6
    · go_wp2_with fail
      go_ret
      refine ⟨v4, rfl, ?_, HT.out.grew.trans HG.out⟩
      rw [HE.out, if_neg hv, List.append_nil]
      exact HO.out
theorem put_any {w : World} {base : Nat} {v : Value} {l : List Int} (h : OwnB w base v l) (hb : base ≤ w.heap.size) (d : DoR) (hm : d.may = true) (hlen : l.length ≤ 1073740000) :
    Calls Try.prog 46 #[v, .agg d.cells.toArray] w fun x w' => ∃ v', x = .returned v' ∧ OwnB w' base v' (l ++ d.enc) ∧ Grew w v w' v' := by
  obtain ⟨⟨hk1, hk7⟩, hsh, ⟨hf0, hf1⟩, hn, ht, hsp, hv⟩ := may_kinds hm
  clear hsh hm
  obtain ⟨k, f, nm, fk, a, b, vk, c, s, e, tx⟩ := d
  dsimp only at hk1 hk7 hf0 hf1 hn ht hsp hv
  by_cases k1 : k = 1
  · subst k1; exact put_1 h hb f nm fk a b vk c s e tx hn hlen
  by_cases k2 : k = 2
  · subst k2
    obtain ⟨hv1, hv2, hv3⟩ := hv rfl
    exact put_2 h hb f nm fk a b vk c s e tx hf0 hf1 hsp (mayV_e hv1 hv2 hv3).2.1 hlen
  by_cases k3 : k = 3
  · subst k3; exact put_3 h hb f nm fk a b vk c s e tx hf0 hf1 hsp hlen
  by_cases k4 : k = 4 ∨ k = 6
  · exact put_4 h hb k f nm fk a b vk c s e tx k4 hf0 hf1 ht hlen
  · exact put_5 h hb k f nm fk a b vk c s e tx (by omega) hf0 hf1 hlen
end Go.Proofs.Ytnoookcfacmdkaa
