/- Windows: over. -/
import Derived.Test.YtngglpekdjhbdaaGreatWzAh
import Derived.Test.YtngglpekdjhbdaaGreatWzAi
namespace Go.Proofs.YtngglpekdjhbdaaGreat
open Go.RowKit Go.ChangeMaps Go.Deep
set_option linter.unusedSimpArgs false
set_option linter.unusedVariables false
set_option maxRecDepth 20000

set_option maxHeartbeats 8000000 in
theorem over2 {w : World} {v : Value} {L : List Sg} {base : Nat} (h : OwnR encSgZ 6 62 w base v L) (hl : L.length ≤ 1000000) : Calls Tryz.prog 32 #[.int .u8 2, v] w fun e w' => e = .returned (.agg (vlA (overV 2 ⟨0, 0, 0, 0⟩ (L.map fun s => vl s.v)))) ∧ Mod [] w w' := by
  have hob : ∀ k, v.ownBlock = some k → k < w.heap.size := fun k hk => (World.ownsRow.lt h k hk).2
  obtain ⟨la, lc, rfl⟩ := h.lens
  obtain ⟨A1, hA1, n1, z1, m1⟩ := alloc_named2 w (.cells #[.int .u8 0, .int .i64 0, .int .i64 0, .int .i64 0] 35)
  obtain ⟨A2, hA2, n2, z2, m2⟩ := alloc_named2 A1 (.cells #[.nilFunc, .nilFunc, .func (.func 41) #[] #[], .func (.func 42) #[] #[], .func (.func 43) #[] #[], .func (.func 44) #[] #[]] 94)
  obtain ⟨A3, hA3, n3, z3, m3⟩ := alloc_named2 A2 (.cells #[.int .u8 0, .int .i64 0, .int .i64 0, .int .i64 0] 96)
  rw [z1] at n2 z2
  rw [z2] at n3
  have HA := Lib.hid (show SumAt A3 (w.heap.size + 1 + 1) ⟨0, 0, 0, 0⟩ ∧ A3.heap[w.heap.size]? = some (.cells #[.int .u8 0, .int .i64 0, .int .i64 0, .int .i64 0] 35 (0, 0)) ∧ A3.heap[w.heap.size + 1]? = some (.cells #[.nilFunc, .nilFunc, .func (.func 41) #[] #[], .func (.func 42) #[] #[], .func (.func 43) #[] #[], .func (.func 44) #[] #[]] 94 (0, 0)) ∧ OwnR encSgZ 6 62 A3 base (.slice la L.length lc) L ∧ Mod [] w A3 from ⟨n3, (m2.trans m3).heap n1 (by simp), m3.heap n2 (by simp), h.kept0 (m1.trans (m2.trans m3)), m1.trans (m2.trans m3)⟩)
  obtain ⟨vs, hvs⟩ : ∃ vs, vs = L.map (fun s => vl s.v) := ⟨_, rfl⟩
  have HVS := Lib.hid hvs
  rw [← hvs]
  clear n1 n2 n3 m1 m2 m3 h hvs
  go_enter Tryz.func32, Tryz.ntmps32
  go_wp2_with fail
  go_loopw [17] (fun s17 W => ∃ j : Nat, ∃ s : Vl, j ≤ L.length ∧ s17 = .int .i64 j ∧ Hid (metV 2 s ∧ overV 2 ⟨0, 0, 0, 0⟩ vs = overV 2 s (vs.drop j)) ∧ Hid (SumAt W (w.heap.size + 1 + 1) s ∧ W.heap[w.heap.size]? = some (.cells #[.int .u8 0, .int .i64 0, .int .i64 0, .int .i64 0] 35 (0, 0)) ∧ W.heap[w.heap.size + 1]? = some (.cells #[.nilFunc, .nilFunc, .func (.func 41) #[] #[], .func (.func 42) #[] #[], .func (.func 43) #[] #[], .func (.func 44) #[] #[]] 94 (0, 0)) ∧ OwnR encSgZ 6 62 W base (.slice la L.length lc) L ∧ Mod [] w W)) (fun s17 _ => L.length - (intOf s17).toNat)
  case atStart => exact ⟨0, ⟨0, 0, 0, 0⟩, by omega, rfl, Lib.hid ⟨metV_zero _, by rw [List.drop_zero]⟩, HA⟩
  case round =>
    clear HA
    obtain ⟨j, s, hj, rfl, hov, hS⟩ := hrel
    obtain ⟨h1, h2, h3, h4, h5⟩ := hS.out
    have hw5 := h5.size
    by_cases hlt : j < L.length
    · obtain ⟨q, cap, heq, hq, hcap⟩ := h4.at_ (show L[j]? = some L[j] from List.getElem?_eq_getElem hlt)
      simp only [Value.slice.injEq] at heq
      obtain ⟨rfl, _, rfl⟩ := heq
      obtain ⟨kv, cv, sv, ev, hvl⟩ := valZ_form (L[j]).v
      have hdrop : vs.drop j = ⟨kv, cv, sv, ev⟩ :: vs.drop (j + 1) := by
        rw [HVS.out, List.drop_eq_getElem_cons (by simpa using hlt)]
        rw [List.getElem_map, hvl]
      rw [hdrop] at hov
      have hez : encSgZ L[j] = [.int .i64 (L[j]).f, .int .i64 (L[j]).t, .int .u8 kv, .int .i64 cv, .int .i64 sv, .int .i64 ev] := by unfold encSgZ encZ; rw [hvl]
      have hrow : wr.rangeAt q (j * 6) [.int .i64 (L[j]).f, .int .i64 (L[j]).t, .int .u8 kv, .int .i64 cv, .int .i64 sv, .int .i64 ev] := fun jj u hu => (h4.cell encSgZ_len hlt (j := jj) (by have := (List.getElem?_eq_some_iff.1 hu).1; simpa using this) (u := u) (by rw [hez]; exact hu)).1
      clear hez hvl hdrop
      generalize (L[j]).f = sf at hrow
      generalize (L[j]).t = st at hrow
      have HLI := Lib.hid (run_loadAt_mid (P := Tryz.prog) _ q (j * 6) 62 _ _ hrow Tryz.underlying62 rfl (by kernel_rfl))
      obtain ⟨I1, hI1, nI, zI, mI⟩ := alloc_named2 wr (.cells #[.int .i64 sf, .int .i64 st, .int .u8 kv, .int .i64 cv, .int .i64 sv, .int .i64 ev] 62)
      have i2 := cell_blk nI 2
      have i3 := cell_blk nI 3
      have i4 := cell_blk nI 4
      have i5 := cell_blk nI 5
      simp only [List.getElem?_toArray, List.getElem?_cons_succ, List.getElem?_cons_zero] at i2 i3 i4 i5
      have hj0 : decide ((j : Int) < 0) = false := decide_eq_false (by omega)
      have hj1 : decide ((L.length : Int) ≤ (j : Int)) = false := decide_eq_false (by omega)
      have hj2 : decide ((j : Int) < (L.length : Int)) = true := decide_eq_true (by omega)
      have hlo := hob q rfl
      have HKEEP := Lib.hid (show SumAt I1 (w.heap.size + 1 + 1) s ∧ I1.heap[w.heap.size]? = some (.cells #[.int .u8 0, .int .i64 0, .int .i64 0, .int .i64 0] 35 (0, 0)) ∧ I1.heap[w.heap.size + 1]? = some (.cells #[.nilFunc, .nilFunc, .func (.func 41) #[] #[], .func (.func 42) #[] #[], .func (.func 43) #[] #[], .func (.func 44) #[] #[]] 94 (0, 0)) ∧ OwnR encSgZ 6 62 I1 base (.slice (some ⟨q, 0, none⟩) L.length lc) L ∧ Mod [] w I1 from ⟨mI.heap h1 (by simp), mI.heap h2 (by simp), mI.heap h3 (by simp), h4.kept0 mI, h5.trans mI⟩)
      have HNI := Lib.hid nI
      have hsz : w.heap.size < wr.heap.size := lt_of_heap h2
      have HSZ := Lib.hid hsz
      have HQ := Lib.hid (show q < w.heap.size from hlo)
      clear h1 h2 h3 h4 h5 hrow nI mI hsz hlo hq hcap hw5
      by_cases hk0 : kv = 0
      · subst hk0
        have hN := hov.out
        rw [overV_none rfl] at hN
        have HN := Lib.hid hN
        clear hN hov
        go_wp2_with ((with_reducible refine xLoadAt rfl HLI.out ?_ ?_ ?_); exact rfl; exact rfl)
        go_roundw
        case rel => exact ⟨j + 1, s, by omega, by go_num, HN, HKEEP⟩
        case measure => simp [intOf]; omega
      · have hd0 : (kv == 0) = false := by simpa using hk0
        have HK0 := Lib.hid hk0
        clear hk0
        by_cases hk4 : kv = 4
        · subst hk4
          have hN := hov.out.2
          rw [overV_bad rfl] at hN
          have HN := Lib.hid hN
          have nr := HKEEP.out.2.1
          have c0 := cell_blk nr 0
          have c1 := cell_blk nr 1
          have c2 := cell_blk nr 2
          have c3 := cell_blk nr 3
          have f0 := frozen_blk nr 0
          have f1 := frozen_blk nr 1
          have f2 := frozen_blk nr 2
          have f3 := frozen_blk nr 3
          simp only [List.getElem?_toArray, List.getElem?_cons_succ, List.getElem?_cons_zero] at c0 c1 c2 c3
          obtain ⟨W2, e2, m2, b2⟩ := set4 nr (.int .u8 4) (.int .i64 cv) (.int .i64 sv) (.int .i64 ev)
          have HE2 := Lib.hid e2
          have HB2 := Lib.hid b2
          have HM2 := Lib.hid (mod_over HKEEP.out.2.2.2.2 m2 (by simp))
          clear hN hov nr e2 m2 b2
          go_wp2_with ((with_reducible refine xLoadAt rfl HLI.out ?_ ?_ ?_); exact rfl; exact rfl)
          simp only [HE2.out]
          refine bodyPost_ret (results_cell_row (P := Tryz.prog) (t := 35) (cs := #[.int .u8 4, .int .i64 cv, .int .i64 sv, .int .i64 ev]) (fr := (0, 0)) (g := w.heap.size) (h := rfl) (hp := rfl) (hg := HB2.out) (hu := Tryz.underlying35) (hd := rfl) (hi := by kernel_rfl) ..) rfl ⟨by rw [HN.out]; rfl, HM2.out⟩
        · have hd4 : (kv == 4) = false := by simpa using hk4
          have HK4 := Lib.hid hk4
          clear hk4
          go_wp2_with ((with_reducible refine xLoadAt rfl HLI.out ?_ ?_ ?_); exact rfl; exact rfl)
          refine (wnNum_at kv cv sv ev _).mono ?_
          rintro e w5 ⟨rfl, m5⟩
          have HK5 := Lib.hid (show SumAt w5 (w.heap.size + 1 + 1) s ∧ w5.heap[w.heap.size]? = some (.cells #[.int .u8 0, .int .i64 0, .int .i64 0, .int .i64 0] 35 (0, 0)) ∧ w5.heap[w.heap.size + 1]? = some (.cells #[.nilFunc, .nilFunc, .func (.func 41) #[] #[], .func (.func 42) #[] #[], .func (.func 43) #[] #[], .func (.func 44) #[] #[]] 94 (0, 0)) ∧ OwnR encSgZ 6 62 w5 base (.slice (some ⟨q, 0, none⟩) L.length lc) L ∧ Mod [] w w5 from ⟨m5.heap HKEEP.out.1 (by simp), m5.heap HKEEP.out.2.1 (by simp), m5.heap HKEEP.out.2.2.1 (by simp), HKEEP.out.2.2.2.1.kept0 m5, HKEEP.out.2.2.2.2.trans m5⟩)
          have HNI5 := Lib.hid (m5.heap HNI.out (by simp))
          have HSZ5 := Lib.hid m5.size
          clear m5 i2 i3 i4 i5
          by_cases hf : numOk ⟨kv, cv, sv, ev⟩ = true
          · have hN := hov.out
            rw [overV_step HK0.out HK4.out (show fitsV 2 ⟨kv, cv, sv, ev⟩ = true from hf)] at hN
            have HN := Lib.hid (show metV 2 (stepV 2 s ⟨kv, cv, sv, ev⟩) ∧ overV 2 ⟨0, 0, 0, 0⟩ vs = overV 2 (stepV 2 s ⟨kv, cv, sv, ev⟩) (vs.drop (j + 1)) from ⟨metV_step hN.1 hf, hN.2⟩)
            have CST := Lib.hid (wnLeast_at (v := ⟨kv, cv, sv, ev⟩) (show SumAt w5.drew (w.heap.size + 1 + 1) s from HK5.out.1) (hov.out.1 (by omega)) (numOk_few hf))
            rw [hf]
            have i2 := cell_blk HNI5.out 2
            have i3 := cell_blk HNI5.out 3
            have i4 := cell_blk HNI5.out 4
            have i5 := cell_blk HNI5.out 5
            have c0 := cell_blk HK5.out.2.2.1 2
            simp only [List.getElem?_toArray, List.getElem?_cons_succ, List.getElem?_cons_zero] at i2 i3 i4 i5 c0
            clear hN hov hf
            go_wp2_with fail
            refine wp_plan [([0, 3, 4, 1, 5, 2], 6, [])] [] (by kernel_rfl) (by kernel_rfl) ?_
            simp only [wpSegs, opsOf, List.map_cons, List.map_nil, opN, List.getD_cons_zero, List.getD_cons_succ]
            go_wp2_with fail
            refine ⟨by first | trivial | rfl, ?_⟩
            go_wp2_with fail
            refine CST.out.mono ?_
            rintro e w6 ⟨rfl, b6, m6⟩
            have HK6 := Lib.hid (show SumAt w6 (w.heap.size + 1 + 1) (stepV 2 s ⟨kv, cv, sv, ev⟩) ∧ w6.heap[w.heap.size]? = some (.cells #[.int .u8 0, .int .i64 0, .int .i64 0, .int .i64 0] 35 (0, 0)) ∧ w6.heap[w.heap.size + 1]? = some (.cells #[.nilFunc, .nilFunc, .func (.func 41) #[] #[], .func (.func 42) #[] #[], .func (.func 43) #[] #[], .func (.func 44) #[] #[]] 94 (0, 0)) ∧ OwnR encSgZ 6 62 w6 base (.slice (some ⟨q, 0, none⟩) L.length lc) L ∧ Mod [] w w6 from ⟨b6, m6.heap (show w5.drew.heap[w.heap.size]? = _ from HK5.out.2.1) (by simp; omega), m6.heap (show w5.drew.heap[w.heap.size + 1]? = _ from HK5.out.2.2.1) (by simp), (HK5.out.2.2.2.1.kept0 (Mod.refl [] w5).drew).kept m6 (fun k hk hm => by
              have hq := HQ.out
              cases hk
              simp at hm
              omega), mod_over HK5.out.2.2.2.2.drew m6 (by simp; omega)⟩)
            clear b6 m6 CST i2 i3 i4 i5 c0
            go_wp2_with fail
            refine ⟨again_nil, ?_⟩
            go_wp2_with fail
            refine ⟨by first | trivial | rfl, ?_⟩
            go_wp2_with fail
            go_roundw
            case rel => exact ⟨j + 1, _, by omega, by go_num, HN, HK6⟩
            case measure => simp [intOf]; omega
          · have hf' : numOk ⟨kv, cv, sv, ev⟩ = false := by simpa using hf
            have hN := hov.out.2
            rw [overV_not HK0.out HK4.out (show fitsV 2 ⟨kv, cv, sv, ev⟩ = false from hf')] at hN
            have HN := Lib.hid hN
            rw [hf']
            have nr := HK5.out.2.1
            have c0 := cell_blk nr 0
            have c1 := cell_blk nr 1
            have c2 := cell_blk nr 2
            have c3 := cell_blk nr 3
            have f0 := frozen_blk nr 0
            have f1 := frozen_blk nr 1
            have f2 := frozen_blk nr 2
            have f3 := frozen_blk nr 3
            simp only [List.getElem?_toArray, List.getElem?_cons_succ, List.getElem?_cons_zero] at c0 c1 c2 c3
            obtain ⟨W2, e2, m2, b2⟩ := set4 nr (.int .u8 4) (.int .i64 0) (.int .i64 0) (.int .i64 8)
            have HE2 := Lib.hid e2
            have HB2 := Lib.hid b2
            have HM2 := Lib.hid (mod_over HK5.out.2.2.2.2 m2 (by simp))
            clear hN hov nr e2 m2 b2 hf hf'
            go_wp2_with fail
            simp only [HE2.out]
            refine bodyPost_ret (results_cell_row (P := Tryz.prog) (t := 35) (cs := #[.int .u8 4, .int .i64 0, .int .i64 0, .int .i64 8]) (fr := (0, 0)) (g := w.heap.size) (h := rfl) (hp := rfl) (hg := HB2.out) (hu := Tryz.underlying35) (hd := rfl) (hi := by kernel_rfl) ..) rfl ⟨by rw [HN.out]; rfl, HM2.out⟩
    · have hje : j = L.length := by omega
      have hj2 : decide ((j : Int) < (L.length : Int)) = false := decide_eq_false (by omega)
      have hN := hov.out.2
      rw [List.drop_of_length_le (by rw [HVS.out, List.length_map]; omega), overV] at hN
      obtain ⟨k, c, sc, e⟩ := s
      have HN := Lib.hid hN
      unfold SumAt vlA at h1
      dsimp only at h1
      have c0 := cell_blk h2 0
      have c1 := cell_blk h2 1
      have c2 := cell_blk h2 2
      have c3 := cell_blk h2 3
      have f0 := frozen_blk h2 0
      have f1 := frozen_blk h2 1
      have f2 := frozen_blk h2 2
      have f3 := frozen_blk h2 3
      have g0 := cell_blk h1 0
      have g1 := cell_blk h1 1
      have g2 := cell_blk h1 2
      have g3 := cell_blk h1 3
      simp only [List.getElem?_toArray, List.getElem?_cons_succ, List.getElem?_cons_zero] at c0 c1 c2 c3 g0 g1 g2 g3
      obtain ⟨W2, e2, m2, b2⟩ := set4 h2 (.int .u8 k) (.int .i64 c) (.int .i64 sc) (.int .i64 e)
      have HE2 := Lib.hid e2
      have HB2 := Lib.hid b2
      have HM2 := Lib.hid (mod_over h5 m2 (by simp))
      clear hN hov e2 m2 b2 h1 h2 h3 h4 h5 hS hw5
      go_wp2_with fail
      simp only [HE2.out]
      refine bodyPost_ret (results_cell_row (P := Tryz.prog) (t := 35) (cs := #[.int .u8 k, .int .i64 c, .int .i64 sc, .int .i64 e]) (fr := (0, 0)) (g := w.heap.size) (h := rfl) (hp := rfl) (hg := HB2.out) (hu := Tryz.underlying35) (hd := rfl) (hi := by kernel_rfl) ..) rfl ⟨by rw [HN.out]; rfl, HM2.out⟩
set_option maxHeartbeats 8000000 in
theorem over3 {w : World} {v : Value} {L : List Sg} {base : Nat} (h : OwnR encSgZ 6 62 w base v L) (hl : L.length ≤ 1000000) : Calls Tryz.prog 32 #[.int .u8 3, v] w fun e w' => e = .returned (.agg (vlA (overV 3 ⟨0, 0, 0, 0⟩ (L.map fun s => vl s.v)))) ∧ Mod [] w w' := by
  have hob : ∀ k, v.ownBlock = some k → k < w.heap.size := fun k hk => (World.ownsRow.lt h k hk).2
  obtain ⟨la, lc, rfl⟩ := h.lens
  obtain ⟨A1, hA1, n1, z1, m1⟩ := alloc_named2 w (.cells #[.int .u8 0, .int .i64 0, .int .i64 0, .int .i64 0] 35)
  obtain ⟨A2, hA2, n2, z2, m2⟩ := alloc_named2 A1 (.cells #[.nilFunc, .nilFunc, .func (.func 41) #[] #[], .func (.func 42) #[] #[], .func (.func 43) #[] #[], .func (.func 44) #[] #[]] 94)
  obtain ⟨A3, hA3, n3, z3, m3⟩ := alloc_named2 A2 (.cells #[.int .u8 0, .int .i64 0, .int .i64 0, .int .i64 0] 96)
  rw [z1] at n2 z2
  rw [z2] at n3
  have HA := Lib.hid (show SumAt A3 (w.heap.size + 1 + 1) ⟨0, 0, 0, 0⟩ ∧ A3.heap[w.heap.size]? = some (.cells #[.int .u8 0, .int .i64 0, .int .i64 0, .int .i64 0] 35 (0, 0)) ∧ A3.heap[w.heap.size + 1]? = some (.cells #[.nilFunc, .nilFunc, .func (.func 41) #[] #[], .func (.func 42) #[] #[], .func (.func 43) #[] #[], .func (.func 44) #[] #[]] 94 (0, 0)) ∧ OwnR encSgZ 6 62 A3 base (.slice la L.length lc) L ∧ Mod [] w A3 from ⟨n3, (m2.trans m3).heap n1 (by simp), m3.heap n2 (by simp), h.kept0 (m1.trans (m2.trans m3)), m1.trans (m2.trans m3)⟩)
  obtain ⟨vs, hvs⟩ : ∃ vs, vs = L.map (fun s => vl s.v) := ⟨_, rfl⟩
  have HVS := Lib.hid hvs
  rw [← hvs]
  clear n1 n2 n3 m1 m2 m3 h hvs
  go_enter Tryz.func32, Tryz.ntmps32
  go_wp2_with fail
  go_loopw [17] (fun s17 W => ∃ j : Nat, ∃ s : Vl, j ≤ L.length ∧ s17 = .int .i64 j ∧ Hid (metV 3 s ∧ overV 3 ⟨0, 0, 0, 0⟩ vs = overV 3 s (vs.drop j)) ∧ Hid (SumAt W (w.heap.size + 1 + 1) s ∧ W.heap[w.heap.size]? = some (.cells #[.int .u8 0, .int .i64 0, .int .i64 0, .int .i64 0] 35 (0, 0)) ∧ W.heap[w.heap.size + 1]? = some (.cells #[.nilFunc, .nilFunc, .func (.func 41) #[] #[], .func (.func 42) #[] #[], .func (.func 43) #[] #[], .func (.func 44) #[] #[]] 94 (0, 0)) ∧ OwnR encSgZ 6 62 W base (.slice la L.length lc) L ∧ Mod [] w W)) (fun s17 _ => L.length - (intOf s17).toNat)
  case atStart => exact ⟨0, ⟨0, 0, 0, 0⟩, by omega, rfl, Lib.hid ⟨metV_zero _, by rw [List.drop_zero]⟩, HA⟩
  case round =>
    clear HA
    obtain ⟨j, s, hj, rfl, hov, hS⟩ := hrel
    obtain ⟨h1, h2, h3, h4, h5⟩ := hS.out
    have hw5 := h5.size
    by_cases hlt : j < L.length
    · obtain ⟨q, cap, heq, hq, hcap⟩ := h4.at_ (show L[j]? = some L[j] from List.getElem?_eq_getElem hlt)
      simp only [Value.slice.injEq] at heq
      obtain ⟨rfl, _, rfl⟩ := heq
      obtain ⟨kv, cv, sv, ev, hvl⟩ := valZ_form (L[j]).v
      have hdrop : vs.drop j = ⟨kv, cv, sv, ev⟩ :: vs.drop (j + 1) := by
        rw [HVS.out, List.drop_eq_getElem_cons (by simpa using hlt)]
        rw [List.getElem_map, hvl]
      rw [hdrop] at hov
      have hez : encSgZ L[j] = [.int .i64 (L[j]).f, .int .i64 (L[j]).t, .int .u8 kv, .int .i64 cv, .int .i64 sv, .int .i64 ev] := by unfold encSgZ encZ; rw [hvl]
      have hrow : wr.rangeAt q (j * 6) [.int .i64 (L[j]).f, .int .i64 (L[j]).t, .int .u8 kv, .int .i64 cv, .int .i64 sv, .int .i64 ev] := fun jj u hu => (h4.cell encSgZ_len hlt (j := jj) (by have := (List.getElem?_eq_some_iff.1 hu).1; simpa using this) (u := u) (by rw [hez]; exact hu)).1
      clear hez hvl hdrop
      generalize (L[j]).f = sf at hrow
      generalize (L[j]).t = st at hrow
      have HLI := Lib.hid (run_loadAt_mid (P := Tryz.prog) _ q (j * 6) 62 _ _ hrow Tryz.underlying62 rfl (by kernel_rfl))
      obtain ⟨I1, hI1, nI, zI, mI⟩ := alloc_named2 wr (.cells #[.int .i64 sf, .int .i64 st, .int .u8 kv, .int .i64 cv, .int .i64 sv, .int .i64 ev] 62)
      have i2 := cell_blk nI 2
      have i3 := cell_blk nI 3
      have i4 := cell_blk nI 4
      have i5 := cell_blk nI 5
      simp only [List.getElem?_toArray, List.getElem?_cons_succ, List.getElem?_cons_zero] at i2 i3 i4 i5
      have hj0 : decide ((j : Int) < 0) = false := decide_eq_false (by omega)
      have hj1 : decide ((L.length : Int) ≤ (j : Int)) = false := decide_eq_false (by omega)
      have hj2 : decide ((j : Int) < (L.length : Int)) = true := decide_eq_true (by omega)
      have hlo := hob q rfl
      have HKEEP := Lib.hid (show SumAt I1 (w.heap.size + 1 + 1) s ∧ I1.heap[w.heap.size]? = some (.cells #[.int .u8 0, .int .i64 0, .int .i64 0, .int .i64 0] 35 (0, 0)) ∧ I1.heap[w.heap.size + 1]? = some (.cells #[.nilFunc, .nilFunc, .func (.func 41) #[] #[], .func (.func 42) #[] #[], .func (.func 43) #[] #[], .func (.func 44) #[] #[]] 94 (0, 0)) ∧ OwnR encSgZ 6 62 I1 base (.slice (some ⟨q, 0, none⟩) L.length lc) L ∧ Mod [] w I1 from ⟨mI.heap h1 (by simp), mI.heap h2 (by simp), mI.heap h3 (by simp), h4.kept0 mI, h5.trans mI⟩)
      have HNI := Lib.hid nI
      have hsz : w.heap.size < wr.heap.size := lt_of_heap h2
      have HSZ := Lib.hid hsz
      have HQ := Lib.hid (show q < w.heap.size from hlo)
      clear h1 h2 h3 h4 h5 hrow nI mI hsz hlo hq hcap hw5
      by_cases hk0 : kv = 0
      · subst hk0
        have hN := hov.out
        rw [overV_none rfl] at hN
        have HN := Lib.hid hN
        clear hN hov
        go_wp2_with ((with_reducible refine xLoadAt rfl HLI.out ?_ ?_ ?_); exact rfl; exact rfl)
        go_roundw
        case rel => exact ⟨j + 1, s, by omega, by go_num, HN, HKEEP⟩
        case measure => simp [intOf]; omega
      · have hd0 : (kv == 0) = false := by simpa using hk0
        have HK0 := Lib.hid hk0
        clear hk0
        by_cases hk4 : kv = 4
        · subst hk4
          have hN := hov.out.2
          rw [overV_bad rfl] at hN
          have HN := Lib.hid hN
          have nr := HKEEP.out.2.1
          have c0 := cell_blk nr 0
          have c1 := cell_blk nr 1
          have c2 := cell_blk nr 2
          have c3 := cell_blk nr 3
          have f0 := frozen_blk nr 0
          have f1 := frozen_blk nr 1
          have f2 := frozen_blk nr 2
          have f3 := frozen_blk nr 3
          simp only [List.getElem?_toArray, List.getElem?_cons_succ, List.getElem?_cons_zero] at c0 c1 c2 c3
          obtain ⟨W2, e2, m2, b2⟩ := set4 nr (.int .u8 4) (.int .i64 cv) (.int .i64 sv) (.int .i64 ev)
          have HE2 := Lib.hid e2
          have HB2 := Lib.hid b2
          have HM2 := Lib.hid (mod_over HKEEP.out.2.2.2.2 m2 (by simp))
          clear hN hov nr e2 m2 b2
          go_wp2_with ((with_reducible refine xLoadAt rfl HLI.out ?_ ?_ ?_); exact rfl; exact rfl)
          simp only [HE2.out]
          refine bodyPost_ret (results_cell_row (P := Tryz.prog) (t := 35) (cs := #[.int .u8 4, .int .i64 cv, .int .i64 sv, .int .i64 ev]) (fr := (0, 0)) (g := w.heap.size) (h := rfl) (hp := rfl) (hg := HB2.out) (hu := Tryz.underlying35) (hd := rfl) (hi := by kernel_rfl) ..) rfl ⟨by rw [HN.out]; rfl, HM2.out⟩
        · have hd4 : (kv == 4) = false := by simpa using hk4
          have HK4 := Lib.hid hk4
          clear hk4
          go_wp2_with ((with_reducible refine xLoadAt rfl HLI.out ?_ ?_ ?_); exact rfl; exact rfl)
          refine (wnNum_at kv cv sv ev _).mono ?_
          rintro e w5 ⟨rfl, m5⟩
          have HK5 := Lib.hid (show SumAt w5 (w.heap.size + 1 + 1) s ∧ w5.heap[w.heap.size]? = some (.cells #[.int .u8 0, .int .i64 0, .int .i64 0, .int .i64 0] 35 (0, 0)) ∧ w5.heap[w.heap.size + 1]? = some (.cells #[.nilFunc, .nilFunc, .func (.func 41) #[] #[], .func (.func 42) #[] #[], .func (.func 43) #[] #[], .func (.func 44) #[] #[]] 94 (0, 0)) ∧ OwnR encSgZ 6 62 w5 base (.slice (some ⟨q, 0, none⟩) L.length lc) L ∧ Mod [] w w5 from ⟨m5.heap HKEEP.out.1 (by simp), m5.heap HKEEP.out.2.1 (by simp), m5.heap HKEEP.out.2.2.1 (by simp), HKEEP.out.2.2.2.1.kept0 m5, HKEEP.out.2.2.2.2.trans m5⟩)
          have HNI5 := Lib.hid (m5.heap HNI.out (by simp))
          have HSZ5 := Lib.hid m5.size
          clear m5 i2 i3 i4 i5
          by_cases hf : numOk ⟨kv, cv, sv, ev⟩ = true
          · have hN := hov.out
            rw [overV_step HK0.out HK4.out (show fitsV 3 ⟨kv, cv, sv, ev⟩ = true from hf)] at hN
            have HN := Lib.hid (show metV 3 (stepV 3 s ⟨kv, cv, sv, ev⟩) ∧ overV 3 ⟨0, 0, 0, 0⟩ vs = overV 3 (stepV 3 s ⟨kv, cv, sv, ev⟩) (vs.drop (j + 1)) from ⟨metV_step hN.1 hf, hN.2⟩)
            have CST := Lib.hid (wnMost_at (v := ⟨kv, cv, sv, ev⟩) (show SumAt w5.drew (w.heap.size + 1 + 1) s from HK5.out.1) (hov.out.1 (by omega)) (numOk_few hf))
            rw [hf]
            have i2 := cell_blk HNI5.out 2
            have i3 := cell_blk HNI5.out 3
            have i4 := cell_blk HNI5.out 4
            have i5 := cell_blk HNI5.out 5
            have c0 := cell_blk HK5.out.2.2.1 3
            simp only [List.getElem?_toArray, List.getElem?_cons_succ, List.getElem?_cons_zero] at i2 i3 i4 i5 c0
            clear hN hov hf
            go_wp2_with fail
            refine wp_plan [([0, 3, 4, 1, 5, 2], 6, [])] [] (by kernel_rfl) (by kernel_rfl) ?_
            simp only [wpSegs, opsOf, List.map_cons, List.map_nil, opN, List.getD_cons_zero, List.getD_cons_succ]
            go_wp2_with fail
            refine ⟨by first | trivial | rfl, ?_⟩
            go_wp2_with fail
            refine CST.out.mono ?_
            rintro e w6 ⟨rfl, b6, m6⟩
            have HK6 := Lib.hid (show SumAt w6 (w.heap.size + 1 + 1) (stepV 3 s ⟨kv, cv, sv, ev⟩) ∧ w6.heap[w.heap.size]? = some (.cells #[.int .u8 0, .int .i64 0, .int .i64 0, .int .i64 0] 35 (0, 0)) ∧ w6.heap[w.heap.size + 1]? = some (.cells #[.nilFunc, .nilFunc, .func (.func 41) #[] #[], .func (.func 42) #[] #[], .func (.func 43) #[] #[], .func (.func 44) #[] #[]] 94 (0, 0)) ∧ OwnR encSgZ 6 62 w6 base (.slice (some ⟨q, 0, none⟩) L.length lc) L ∧ Mod [] w w6 from ⟨b6, m6.heap (show w5.drew.heap[w.heap.size]? = _ from HK5.out.2.1) (by simp; omega), m6.heap (show w5.drew.heap[w.heap.size + 1]? = _ from HK5.out.2.2.1) (by simp), (HK5.out.2.2.2.1.kept0 (Mod.refl [] w5).drew).kept m6 (fun k hk hm => by
              have hq := HQ.out
              cases hk
              simp at hm
              omega), mod_over HK5.out.2.2.2.2.drew m6 (by simp; omega)⟩)
            clear b6 m6 CST i2 i3 i4 i5 c0
            go_wp2_with fail
            refine ⟨again_nil, ?_⟩
            go_wp2_with fail
            refine ⟨by first | trivial | rfl, ?_⟩
            go_wp2_with fail
            go_roundw
            case rel => exact ⟨j + 1, _, by omega, by go_num, HN, HK6⟩
            case measure => simp [intOf]; omega
          · have hf' : numOk ⟨kv, cv, sv, ev⟩ = false := by simpa using hf
            have hN := hov.out.2
            rw [overV_not HK0.out HK4.out (show fitsV 3 ⟨kv, cv, sv, ev⟩ = false from hf')] at hN
            have HN := Lib.hid hN
            rw [hf']
            have nr := HK5.out.2.1
            have c0 := cell_blk nr 0
            have c1 := cell_blk nr 1
            have c2 := cell_blk nr 2
            have c3 := cell_blk nr 3
            have f0 := frozen_blk nr 0
            have f1 := frozen_blk nr 1
            have f2 := frozen_blk nr 2
            have f3 := frozen_blk nr 3
            simp only [List.getElem?_toArray, List.getElem?_cons_succ, List.getElem?_cons_zero] at c0 c1 c2 c3
            obtain ⟨W2, e2, m2, b2⟩ := set4 nr (.int .u8 4) (.int .i64 0) (.int .i64 0) (.int .i64 8)
            have HE2 := Lib.hid e2
            have HB2 := Lib.hid b2
            have HM2 := Lib.hid (mod_over HK5.out.2.2.2.2 m2 (by simp))
            clear hN hov nr e2 m2 b2 hf hf'
            go_wp2_with fail
            simp only [HE2.out]
            refine bodyPost_ret (results_cell_row (P := Tryz.prog) (t := 35) (cs := #[.int .u8 4, .int .i64 0, .int .i64 0, .int .i64 8]) (fr := (0, 0)) (g := w.heap.size) (h := rfl) (hp := rfl) (hg := HB2.out) (hu := Tryz.underlying35) (hd := rfl) (hi := by kernel_rfl) ..) rfl ⟨by rw [HN.out]; rfl, HM2.out⟩
    · have hje : j = L.length := by omega
      have hj2 : decide ((j : Int) < (L.length : Int)) = false := decide_eq_false (by omega)
      have hN := hov.out.2
      rw [List.drop_of_length_le (by rw [HVS.out, List.length_map]; omega), overV] at hN
      obtain ⟨k, c, sc, e⟩ := s
      have HN := Lib.hid hN
      unfold SumAt vlA at h1
      dsimp only at h1
      have c0 := cell_blk h2 0
      have c1 := cell_blk h2 1
      have c2 := cell_blk h2 2
      have c3 := cell_blk h2 3
      have f0 := frozen_blk h2 0
      have f1 := frozen_blk h2 1
      have f2 := frozen_blk h2 2
      have f3 := frozen_blk h2 3
      have g0 := cell_blk h1 0
      have g1 := cell_blk h1 1
      have g2 := cell_blk h1 2
      have g3 := cell_blk h1 3
      simp only [List.getElem?_toArray, List.getElem?_cons_succ, List.getElem?_cons_zero] at c0 c1 c2 c3 g0 g1 g2 g3
      obtain ⟨W2, e2, m2, b2⟩ := set4 h2 (.int .u8 k) (.int .i64 c) (.int .i64 sc) (.int .i64 e)
      have HE2 := Lib.hid e2
      have HB2 := Lib.hid b2
      have HM2 := Lib.hid (mod_over h5 m2 (by simp))
      clear hN hov e2 m2 b2 h1 h2 h3 h4 h5 hS hw5
      go_wp2_with fail
      simp only [HE2.out]
      refine bodyPost_ret (results_cell_row (P := Tryz.prog) (t := 35) (cs := #[.int .u8 k, .int .i64 c, .int .i64 sc, .int .i64 e]) (fr := (0, 0)) (g := w.heap.size) (h := rfl) (hp := rfl) (hg := HB2.out) (hu := Tryz.underlying35) (hd := rfl) (hi := by kernel_rfl) ..) rfl ⟨by rw [HN.out]; rfl, HM2.out⟩
set_option maxHeartbeats 8000000 in
theorem over4 {w : World} {v : Value} {L : List Sg} {base : Nat} (h : OwnR encSgZ 6 62 w base v L) (hl : L.length ≤ 1000000) : Calls Tryz.prog 32 #[.int .u8 4, v] w fun e w' => e = .returned (.agg (vlA (overV 4 ⟨0, 0, 0, 0⟩ (L.map fun s => vl s.v)))) ∧ Mod [] w w' := by
  have hob : ∀ k, v.ownBlock = some k → k < w.heap.size := fun k hk => (World.ownsRow.lt h k hk).2
  obtain ⟨la, lc, rfl⟩ := h.lens
  obtain ⟨A1, hA1, n1, z1, m1⟩ := alloc_named2 w (.cells #[.int .u8 0, .int .i64 0, .int .i64 0, .int .i64 0] 35)
  obtain ⟨A2, hA2, n2, z2, m2⟩ := alloc_named2 A1 (.cells #[.nilFunc, .nilFunc, .func (.func 41) #[] #[], .func (.func 42) #[] #[], .func (.func 43) #[] #[], .func (.func 44) #[] #[]] 94)
  obtain ⟨A3, hA3, n3, z3, m3⟩ := alloc_named2 A2 (.cells #[.int .u8 0, .int .i64 0, .int .i64 0, .int .i64 0] 96)
  rw [z1] at n2 z2
  rw [z2] at n3
  have HA := Lib.hid (show SumAt A3 (w.heap.size + 1 + 1) ⟨0, 0, 0, 0⟩ ∧ A3.heap[w.heap.size]? = some (.cells #[.int .u8 0, .int .i64 0, .int .i64 0, .int .i64 0] 35 (0, 0)) ∧ A3.heap[w.heap.size + 1]? = some (.cells #[.nilFunc, .nilFunc, .func (.func 41) #[] #[], .func (.func 42) #[] #[], .func (.func 43) #[] #[], .func (.func 44) #[] #[]] 94 (0, 0)) ∧ OwnR encSgZ 6 62 A3 base (.slice la L.length lc) L ∧ Mod [] w A3 from ⟨n3, (m2.trans m3).heap n1 (by simp), m3.heap n2 (by simp), h.kept0 (m1.trans (m2.trans m3)), m1.trans (m2.trans m3)⟩)
  obtain ⟨vs, hvs⟩ : ∃ vs, vs = L.map (fun s => vl s.v) := ⟨_, rfl⟩
  have HVS := Lib.hid hvs
  rw [← hvs]
  clear n1 n2 n3 m1 m2 m3 h hvs
  go_enter Tryz.func32, Tryz.ntmps32
  go_wp2_with fail
  go_loopw [17] (fun s17 W => ∃ j : Nat, ∃ s : Vl, j ≤ L.length ∧ s17 = .int .i64 j ∧ Hid (metV 4 s ∧ overV 4 ⟨0, 0, 0, 0⟩ vs = overV 4 s (vs.drop j)) ∧ Hid (SumAt W (w.heap.size + 1 + 1) s ∧ W.heap[w.heap.size]? = some (.cells #[.int .u8 0, .int .i64 0, .int .i64 0, .int .i64 0] 35 (0, 0)) ∧ W.heap[w.heap.size + 1]? = some (.cells #[.nilFunc, .nilFunc, .func (.func 41) #[] #[], .func (.func 42) #[] #[], .func (.func 43) #[] #[], .func (.func 44) #[] #[]] 94 (0, 0)) ∧ OwnR encSgZ 6 62 W base (.slice la L.length lc) L ∧ Mod [] w W)) (fun s17 _ => L.length - (intOf s17).toNat)
  case atStart => exact ⟨0, ⟨0, 0, 0, 0⟩, by omega, rfl, Lib.hid ⟨metV_zero _, by rw [List.drop_zero]⟩, HA⟩
  case round =>
    clear HA
    obtain ⟨j, s, hj, rfl, hov, hS⟩ := hrel
    obtain ⟨h1, h2, h3, h4, h5⟩ := hS.out
    have hw5 := h5.size
    by_cases hlt : j < L.length
    · obtain ⟨q, cap, heq, hq, hcap⟩ := h4.at_ (show L[j]? = some L[j] from List.getElem?_eq_getElem hlt)
      simp only [Value.slice.injEq] at heq
      obtain ⟨rfl, _, rfl⟩ := heq
      obtain ⟨kv, cv, sv, ev, hvl⟩ := valZ_form (L[j]).v
      have hdrop : vs.drop j = ⟨kv, cv, sv, ev⟩ :: vs.drop (j + 1) := by
        rw [HVS.out, List.drop_eq_getElem_cons (by simpa using hlt)]
        rw [List.getElem_map, hvl]
      rw [hdrop] at hov
      have hez : encSgZ L[j] = [.int .i64 (L[j]).f, .int .i64 (L[j]).t, .int .u8 kv, .int .i64 cv, .int .i64 sv, .int .i64 ev] := by unfold encSgZ encZ; rw [hvl]
      have hrow : wr.rangeAt q (j * 6) [.int .i64 (L[j]).f, .int .i64 (L[j]).t, .int .u8 kv, .int .i64 cv, .int .i64 sv, .int .i64 ev] := fun jj u hu => (h4.cell encSgZ_len hlt (j := jj) (by have := (List.getElem?_eq_some_iff.1 hu).1; simpa using this) (u := u) (by rw [hez]; exact hu)).1
      clear hez hvl hdrop
      generalize (L[j]).f = sf at hrow
      generalize (L[j]).t = st at hrow
      have HLI := Lib.hid (run_loadAt_mid (P := Tryz.prog) _ q (j * 6) 62 _ _ hrow Tryz.underlying62 rfl (by kernel_rfl))
      obtain ⟨I1, hI1, nI, zI, mI⟩ := alloc_named2 wr (.cells #[.int .i64 sf, .int .i64 st, .int .u8 kv, .int .i64 cv, .int .i64 sv, .int .i64 ev] 62)
      have i2 := cell_blk nI 2
      have i3 := cell_blk nI 3
      have i4 := cell_blk nI 4
      have i5 := cell_blk nI 5
      simp only [List.getElem?_toArray, List.getElem?_cons_succ, List.getElem?_cons_zero] at i2 i3 i4 i5
      have hj0 : decide ((j : Int) < 0) = false := decide_eq_false (by omega)
      have hj1 : decide ((L.length : Int) ≤ (j : Int)) = false := decide_eq_false (by omega)
      have hj2 : decide ((j : Int) < (L.length : Int)) = true := decide_eq_true (by omega)
      have hlo := hob q rfl
      have HKEEP := Lib.hid (show SumAt I1 (w.heap.size + 1 + 1) s ∧ I1.heap[w.heap.size]? = some (.cells #[.int .u8 0, .int .i64 0, .int .i64 0, .int .i64 0] 35 (0, 0)) ∧ I1.heap[w.heap.size + 1]? = some (.cells #[.nilFunc, .nilFunc, .func (.func 41) #[] #[], .func (.func 42) #[] #[], .func (.func 43) #[] #[], .func (.func 44) #[] #[]] 94 (0, 0)) ∧ OwnR encSgZ 6 62 I1 base (.slice (some ⟨q, 0, none⟩) L.length lc) L ∧ Mod [] w I1 from ⟨mI.heap h1 (by simp), mI.heap h2 (by simp), mI.heap h3 (by simp), h4.kept0 mI, h5.trans mI⟩)
      have HNI := Lib.hid nI
      have hsz : w.heap.size < wr.heap.size := lt_of_heap h2
      have HSZ := Lib.hid hsz
      have HQ := Lib.hid (show q < w.heap.size from hlo)
      clear h1 h2 h3 h4 h5 hrow nI mI hsz hlo hq hcap hw5
      by_cases hk0 : kv = 0
      · subst hk0
        have hN := hov.out
        rw [overV_none rfl] at hN
        have HN := Lib.hid hN
        clear hN hov
        go_wp2_with ((with_reducible refine xLoadAt rfl HLI.out ?_ ?_ ?_); exact rfl; exact rfl)
        go_roundw
        case rel => exact ⟨j + 1, s, by omega, by go_num, HN, HKEEP⟩
        case measure => simp [intOf]; omega
      · have hd0 : (kv == 0) = false := by simpa using hk0
        have HK0 := Lib.hid hk0
        clear hk0
        by_cases hk4 : kv = 4
        · subst hk4
          have hN := hov.out.2
          rw [overV_bad rfl] at hN
          have HN := Lib.hid hN
          have nr := HKEEP.out.2.1
          have c0 := cell_blk nr 0
          have c1 := cell_blk nr 1
          have c2 := cell_blk nr 2
          have c3 := cell_blk nr 3
          have f0 := frozen_blk nr 0
          have f1 := frozen_blk nr 1
          have f2 := frozen_blk nr 2
          have f3 := frozen_blk nr 3
          simp only [List.getElem?_toArray, List.getElem?_cons_succ, List.getElem?_cons_zero] at c0 c1 c2 c3
          obtain ⟨W2, e2, m2, b2⟩ := set4 nr (.int .u8 4) (.int .i64 cv) (.int .i64 sv) (.int .i64 ev)
          have HE2 := Lib.hid e2
          have HB2 := Lib.hid b2
          have HM2 := Lib.hid (mod_over HKEEP.out.2.2.2.2 m2 (by simp))
          clear hN hov nr e2 m2 b2
          go_wp2_with ((with_reducible refine xLoadAt rfl HLI.out ?_ ?_ ?_); exact rfl; exact rfl)
          simp only [HE2.out]
          refine bodyPost_ret (results_cell_row (P := Tryz.prog) (t := 35) (cs := #[.int .u8 4, .int .i64 cv, .int .i64 sv, .int .i64 ev]) (fr := (0, 0)) (g := w.heap.size) (h := rfl) (hp := rfl) (hg := HB2.out) (hu := Tryz.underlying35) (hd := rfl) (hi := by kernel_rfl) ..) rfl ⟨by rw [HN.out]; rfl, HM2.out⟩
        · have hd4 : (kv == 4) = false := by simpa using hk4
          have HK4 := Lib.hid hk4
          clear hk4
          go_wp2_with ((with_reducible refine xLoadAt rfl HLI.out ?_ ?_ ?_); exact rfl; exact rfl)
          refine (wnTruth_at kv cv sv ev _).mono ?_
          rintro e w5 ⟨rfl, m5⟩
          have HK5 := Lib.hid (show SumAt w5 (w.heap.size + 1 + 1) s ∧ w5.heap[w.heap.size]? = some (.cells #[.int .u8 0, .int .i64 0, .int .i64 0, .int .i64 0] 35 (0, 0)) ∧ w5.heap[w.heap.size + 1]? = some (.cells #[.nilFunc, .nilFunc, .func (.func 41) #[] #[], .func (.func 42) #[] #[], .func (.func 43) #[] #[], .func (.func 44) #[] #[]] 94 (0, 0)) ∧ OwnR encSgZ 6 62 w5 base (.slice (some ⟨q, 0, none⟩) L.length lc) L ∧ Mod [] w w5 from ⟨m5.heap HKEEP.out.1 (by simp), m5.heap HKEEP.out.2.1 (by simp), m5.heap HKEEP.out.2.2.1 (by simp), HKEEP.out.2.2.2.1.kept0 m5, HKEEP.out.2.2.2.2.trans m5⟩)
          have HNI5 := Lib.hid (m5.heap HNI.out (by simp))
          have HSZ5 := Lib.hid m5.size
          clear m5 i2 i3 i4 i5
          by_cases hf : truthOk ⟨kv, cv, sv, ev⟩ = true
          · have hN := hov.out
            rw [overV_step HK0.out HK4.out (show fitsV 4 ⟨kv, cv, sv, ev⟩ = true from hf)] at hN
            have HN := Lib.hid (show metV 4 (stepV 4 s ⟨kv, cv, sv, ev⟩) ∧ overV 4 ⟨0, 0, 0, 0⟩ vs = overV 4 (stepV 4 s ⟨kv, cv, sv, ev⟩) (vs.drop (j + 1)) from ⟨metV_step hN.1 hf, hN.2⟩)
            have CST := Lib.hid (wnAny_at (v := ⟨kv, cv, sv, ev⟩) (show SumAt w5.drew (w.heap.size + 1 + 1) s from HK5.out.1))
            rw [hf]
            have i2 := cell_blk HNI5.out 2
            have i3 := cell_blk HNI5.out 3
            have i4 := cell_blk HNI5.out 4
            have i5 := cell_blk HNI5.out 5
            have c0 := cell_blk HK5.out.2.2.1 4
            simp only [List.getElem?_toArray, List.getElem?_cons_succ, List.getElem?_cons_zero] at i2 i3 i4 i5 c0
            clear hN hov hf
            go_wp2_with fail
            refine wp_plan [([0, 3, 4, 1, 5, 2], 6, [])] [] (by kernel_rfl) (by kernel_rfl) ?_
            simp only [wpSegs, opsOf, List.map_cons, List.map_nil, opN, List.getD_cons_zero, List.getD_cons_succ]
            go_wp2_with fail
            refine ⟨by first | trivial | rfl, ?_⟩
            go_wp2_with fail
            refine CST.out.mono ?_
            rintro e w6 ⟨rfl, b6, m6⟩
            have HK6 := Lib.hid (show SumAt w6 (w.heap.size + 1 + 1) (stepV 4 s ⟨kv, cv, sv, ev⟩) ∧ w6.heap[w.heap.size]? = some (.cells #[.int .u8 0, .int .i64 0, .int .i64 0, .int .i64 0] 35 (0, 0)) ∧ w6.heap[w.heap.size + 1]? = some (.cells #[.nilFunc, .nilFunc, .func (.func 41) #[] #[], .func (.func 42) #[] #[], .func (.func 43) #[] #[], .func (.func 44) #[] #[]] 94 (0, 0)) ∧ OwnR encSgZ 6 62 w6 base (.slice (some ⟨q, 0, none⟩) L.length lc) L ∧ Mod [] w w6 from ⟨b6, m6.heap (show w5.drew.heap[w.heap.size]? = _ from HK5.out.2.1) (by simp; omega), m6.heap (show w5.drew.heap[w.heap.size + 1]? = _ from HK5.out.2.2.1) (by simp), (HK5.out.2.2.2.1.kept0 (Mod.refl [] w5).drew).kept m6 (fun k hk hm => by
              have hq := HQ.out
              cases hk
              simp at hm
              omega), mod_over HK5.out.2.2.2.2.drew m6 (by simp; omega)⟩)
            clear b6 m6 CST i2 i3 i4 i5 c0
            go_wp2_with fail
            refine ⟨again_nil, ?_⟩
            go_wp2_with fail
            refine ⟨by first | trivial | rfl, ?_⟩
            go_wp2_with fail
            go_roundw
            case rel => exact ⟨j + 1, _, by omega, by go_num, HN, HK6⟩
            case measure => simp [intOf]; omega
          · have hf' : truthOk ⟨kv, cv, sv, ev⟩ = false := by simpa using hf
            have hN := hov.out.2
            rw [overV_not HK0.out HK4.out (show fitsV 4 ⟨kv, cv, sv, ev⟩ = false from hf')] at hN
            have HN := Lib.hid hN
            rw [hf']
            have nr := HK5.out.2.1
            have c0 := cell_blk nr 0
            have c1 := cell_blk nr 1
            have c2 := cell_blk nr 2
            have c3 := cell_blk nr 3
            have f0 := frozen_blk nr 0
            have f1 := frozen_blk nr 1
            have f2 := frozen_blk nr 2
            have f3 := frozen_blk nr 3
            simp only [List.getElem?_toArray, List.getElem?_cons_succ, List.getElem?_cons_zero] at c0 c1 c2 c3
            obtain ⟨W2, e2, m2, b2⟩ := set4 nr (.int .u8 4) (.int .i64 0) (.int .i64 0) (.int .i64 8)
            have HE2 := Lib.hid e2
            have HB2 := Lib.hid b2
            have HM2 := Lib.hid (mod_over HK5.out.2.2.2.2 m2 (by simp))
            clear hN hov nr e2 m2 b2 hf hf'
            go_wp2_with fail
            simp only [HE2.out]
            refine bodyPost_ret (results_cell_row (P := Tryz.prog) (t := 35) (cs := #[.int .u8 4, .int .i64 0, .int .i64 0, .int .i64 8]) (fr := (0, 0)) (g := w.heap.size) (h := rfl) (hp := rfl) (hg := HB2.out) (hu := Tryz.underlying35) (hd := rfl) (hi := by kernel_rfl) ..) rfl ⟨by rw [HN.out]; rfl, HM2.out⟩
    · have hje : j = L.length := by omega
      have hj2 : decide ((j : Int) < (L.length : Int)) = false := decide_eq_false (by omega)
      have hN := hov.out.2
      rw [List.drop_of_length_le (by rw [HVS.out, List.length_map]; omega), overV] at hN
      obtain ⟨k, c, sc, e⟩ := s
      have HN := Lib.hid hN
      unfold SumAt vlA at h1
      dsimp only at h1
      have c0 := cell_blk h2 0
      have c1 := cell_blk h2 1
      have c2 := cell_blk h2 2
      have c3 := cell_blk h2 3
      have f0 := frozen_blk h2 0
      have f1 := frozen_blk h2 1
      have f2 := frozen_blk h2 2
      have f3 := frozen_blk h2 3
      have g0 := cell_blk h1 0
      have g1 := cell_blk h1 1
      have g2 := cell_blk h1 2
      have g3 := cell_blk h1 3
      simp only [List.getElem?_toArray, List.getElem?_cons_succ, List.getElem?_cons_zero] at c0 c1 c2 c3 g0 g1 g2 g3
      obtain ⟨W2, e2, m2, b2⟩ := set4 h2 (.int .u8 k) (.int .i64 c) (.int .i64 sc) (.int .i64 e)
      have HE2 := Lib.hid e2
      have HB2 := Lib.hid b2
      have HM2 := Lib.hid (mod_over h5 m2 (by simp))
      clear hN hov e2 m2 b2 h1 h2 h3 h4 h5 hS hw5
      go_wp2_with fail
      simp only [HE2.out]
      refine bodyPost_ret (results_cell_row (P := Tryz.prog) (t := 35) (cs := #[.int .u8 k, .int .i64 c, .int .i64 sc, .int .i64 e]) (fr := (0, 0)) (g := w.heap.size) (h := rfl) (hp := rfl) (hg := HB2.out) (hu := Tryz.underlying35) (hd := rfl) (hi := by kernel_rfl) ..) rfl ⟨by rw [HN.out]; rfl, HM2.out⟩
set_option maxHeartbeats 8000000 in
theorem over5 {w : World} {v : Value} {L : List Sg} {base : Nat} (h : OwnR encSgZ 6 62 w base v L) (hl : L.length ≤ 1000000) : Calls Tryz.prog 32 #[.int .u8 5, v] w fun e w' => e = .returned (.agg (vlA (overV 5 ⟨0, 0, 0, 0⟩ (L.map fun s => vl s.v)))) ∧ Mod [] w w' := by
  have hob : ∀ k, v.ownBlock = some k → k < w.heap.size := fun k hk => (World.ownsRow.lt h k hk).2
  obtain ⟨la, lc, rfl⟩ := h.lens
  obtain ⟨A1, hA1, n1, z1, m1⟩ := alloc_named2 w (.cells #[.int .u8 0, .int .i64 0, .int .i64 0, .int .i64 0] 35)
  obtain ⟨A2, hA2, n2, z2, m2⟩ := alloc_named2 A1 (.cells #[.nilFunc, .nilFunc, .func (.func 41) #[] #[], .func (.func 42) #[] #[], .func (.func 43) #[] #[], .func (.func 44) #[] #[]] 94)
  obtain ⟨A3, hA3, n3, z3, m3⟩ := alloc_named2 A2 (.cells #[.int .u8 0, .int .i64 0, .int .i64 0, .int .i64 0] 96)
  rw [z1] at n2 z2
  rw [z2] at n3
  have HA := Lib.hid (show SumAt A3 (w.heap.size + 1 + 1) ⟨0, 0, 0, 0⟩ ∧ A3.heap[w.heap.size]? = some (.cells #[.int .u8 0, .int .i64 0, .int .i64 0, .int .i64 0] 35 (0, 0)) ∧ A3.heap[w.heap.size + 1]? = some (.cells #[.nilFunc, .nilFunc, .func (.func 41) #[] #[], .func (.func 42) #[] #[], .func (.func 43) #[] #[], .func (.func 44) #[] #[]] 94 (0, 0)) ∧ OwnR encSgZ 6 62 A3 base (.slice la L.length lc) L ∧ Mod [] w A3 from ⟨n3, (m2.trans m3).heap n1 (by simp), m3.heap n2 (by simp), h.kept0 (m1.trans (m2.trans m3)), m1.trans (m2.trans m3)⟩)
  obtain ⟨vs, hvs⟩ : ∃ vs, vs = L.map (fun s => vl s.v) := ⟨_, rfl⟩
  have HVS := Lib.hid hvs
  rw [← hvs]
  clear n1 n2 n3 m1 m2 m3 h hvs
  go_enter Tryz.func32, Tryz.ntmps32
  go_wp2_with fail
  go_loopw [17] (fun s17 W => ∃ j : Nat, ∃ s : Vl, j ≤ L.length ∧ s17 = .int .i64 j ∧ Hid (metV 5 s ∧ overV 5 ⟨0, 0, 0, 0⟩ vs = overV 5 s (vs.drop j)) ∧ Hid (SumAt W (w.heap.size + 1 + 1) s ∧ W.heap[w.heap.size]? = some (.cells #[.int .u8 0, .int .i64 0, .int .i64 0, .int .i64 0] 35 (0, 0)) ∧ W.heap[w.heap.size + 1]? = some (.cells #[.nilFunc, .nilFunc, .func (.func 41) #[] #[], .func (.func 42) #[] #[], .func (.func 43) #[] #[], .func (.func 44) #[] #[]] 94 (0, 0)) ∧ OwnR encSgZ 6 62 W base (.slice la L.length lc) L ∧ Mod [] w W)) (fun s17 _ => L.length - (intOf s17).toNat)
  case atStart => exact ⟨0, ⟨0, 0, 0, 0⟩, by omega, rfl, Lib.hid ⟨metV_zero _, by rw [List.drop_zero]⟩, HA⟩
  case round =>
    clear HA
    obtain ⟨j, s, hj, rfl, hov, hS⟩ := hrel
    obtain ⟨h1, h2, h3, h4, h5⟩ := hS.out
    have hw5 := h5.size
    by_cases hlt : j < L.length
    · obtain ⟨q, cap, heq, hq, hcap⟩ := h4.at_ (show L[j]? = some L[j] from List.getElem?_eq_getElem hlt)
      simp only [Value.slice.injEq] at heq
      obtain ⟨rfl, _, rfl⟩ := heq
      obtain ⟨kv, cv, sv, ev, hvl⟩ := valZ_form (L[j]).v
      have hdrop : vs.drop j = ⟨kv, cv, sv, ev⟩ :: vs.drop (j + 1) := by
        rw [HVS.out, List.drop_eq_getElem_cons (by simpa using hlt)]
        rw [List.getElem_map, hvl]
      rw [hdrop] at hov
      have hez : encSgZ L[j] = [.int .i64 (L[j]).f, .int .i64 (L[j]).t, .int .u8 kv, .int .i64 cv, .int .i64 sv, .int .i64 ev] := by unfold encSgZ encZ; rw [hvl]
      have hrow : wr.rangeAt q (j * 6) [.int .i64 (L[j]).f, .int .i64 (L[j]).t, .int .u8 kv, .int .i64 cv, .int .i64 sv, .int .i64 ev] := fun jj u hu => (h4.cell encSgZ_len hlt (j := jj) (by have := (List.getElem?_eq_some_iff.1 hu).1; simpa using this) (u := u) (by rw [hez]; exact hu)).1
      clear hez hvl hdrop
      generalize (L[j]).f = sf at hrow
      generalize (L[j]).t = st at hrow
      have HLI := Lib.hid (run_loadAt_mid (P := Tryz.prog) _ q (j * 6) 62 _ _ hrow Tryz.underlying62 rfl (by kernel_rfl))
      obtain ⟨I1, hI1, nI, zI, mI⟩ := alloc_named2 wr (.cells #[.int .i64 sf, .int .i64 st, .int .u8 kv, .int .i64 cv, .int .i64 sv, .int .i64 ev] 62)
      have i2 := cell_blk nI 2
      have i3 := cell_blk nI 3
      have i4 := cell_blk nI 4
      have i5 := cell_blk nI 5
      simp only [List.getElem?_toArray, List.getElem?_cons_succ, List.getElem?_cons_zero] at i2 i3 i4 i5
      have hj0 : decide ((j : Int) < 0) = false := decide_eq_false (by omega)
      have hj1 : decide ((L.length : Int) ≤ (j : Int)) = false := decide_eq_false (by omega)
      have hj2 : decide ((j : Int) < (L.length : Int)) = true := decide_eq_true (by omega)
      have hlo := hob q rfl
      have HKEEP := Lib.hid (show SumAt I1 (w.heap.size + 1 + 1) s ∧ I1.heap[w.heap.size]? = some (.cells #[.int .u8 0, .int .i64 0, .int .i64 0, .int .i64 0] 35 (0, 0)) ∧ I1.heap[w.heap.size + 1]? = some (.cells #[.nilFunc, .nilFunc, .func (.func 41) #[] #[], .func (.func 42) #[] #[], .func (.func 43) #[] #[], .func (.func 44) #[] #[]] 94 (0, 0)) ∧ OwnR encSgZ 6 62 I1 base (.slice (some ⟨q, 0, none⟩) L.length lc) L ∧ Mod [] w I1 from ⟨mI.heap h1 (by simp), mI.heap h2 (by simp), mI.heap h3 (by simp), h4.kept0 mI, h5.trans mI⟩)
      have HNI := Lib.hid nI
      have hsz : w.heap.size < wr.heap.size := lt_of_heap h2
      have HSZ := Lib.hid hsz
      have HQ := Lib.hid (show q < w.heap.size from hlo)
      clear h1 h2 h3 h4 h5 hrow nI mI hsz hlo hq hcap hw5
      by_cases hk0 : kv = 0
      · subst hk0
        have hN := hov.out
        rw [overV_none rfl] at hN
        have HN := Lib.hid hN
        clear hN hov
        go_wp2_with ((with_reducible refine xLoadAt rfl HLI.out ?_ ?_ ?_); exact rfl; exact rfl)
        go_roundw
        case rel => exact ⟨j + 1, s, by omega, by go_num, HN, HKEEP⟩
        case measure => simp [intOf]; omega
      · have hd0 : (kv == 0) = false := by simpa using hk0
        have HK0 := Lib.hid hk0
        clear hk0
        by_cases hk4 : kv = 4
        · subst hk4
          have hN := hov.out.2
          rw [overV_bad rfl] at hN
          have HN := Lib.hid hN
          have nr := HKEEP.out.2.1
          have c0 := cell_blk nr 0
          have c1 := cell_blk nr 1
          have c2 := cell_blk nr 2
          have c3 := cell_blk nr 3
          have f0 := frozen_blk nr 0
          have f1 := frozen_blk nr 1
          have f2 := frozen_blk nr 2
          have f3 := frozen_blk nr 3
          simp only [List.getElem?_toArray, List.getElem?_cons_succ, List.getElem?_cons_zero] at c0 c1 c2 c3
          obtain ⟨W2, e2, m2, b2⟩ := set4 nr (.int .u8 4) (.int .i64 cv) (.int .i64 sv) (.int .i64 ev)
          have HE2 := Lib.hid e2
          have HB2 := Lib.hid b2
          have HM2 := Lib.hid (mod_over HKEEP.out.2.2.2.2 m2 (by simp))
          clear hN hov nr e2 m2 b2
          go_wp2_with ((with_reducible refine xLoadAt rfl HLI.out ?_ ?_ ?_); exact rfl; exact rfl)
          simp only [HE2.out]
          refine bodyPost_ret (results_cell_row (P := Tryz.prog) (t := 35) (cs := #[.int .u8 4, .int .i64 cv, .int .i64 sv, .int .i64 ev]) (fr := (0, 0)) (g := w.heap.size) (h := rfl) (hp := rfl) (hg := HB2.out) (hu := Tryz.underlying35) (hd := rfl) (hi := by kernel_rfl) ..) rfl ⟨by rw [HN.out]; rfl, HM2.out⟩
        · have hd4 : (kv == 4) = false := by simpa using hk4
          have HK4 := Lib.hid hk4
          clear hk4
          go_wp2_with ((with_reducible refine xLoadAt rfl HLI.out ?_ ?_ ?_); exact rfl; exact rfl)
          refine (wnTruth_at kv cv sv ev _).mono ?_
          rintro e w5 ⟨rfl, m5⟩
          have HK5 := Lib.hid (show SumAt w5 (w.heap.size + 1 + 1) s ∧ w5.heap[w.heap.size]? = some (.cells #[.int .u8 0, .int .i64 0, .int .i64 0, .int .i64 0] 35 (0, 0)) ∧ w5.heap[w.heap.size + 1]? = some (.cells #[.nilFunc, .nilFunc, .func (.func 41) #[] #[], .func (.func 42) #[] #[], .func (.func 43) #[] #[], .func (.func 44) #[] #[]] 94 (0, 0)) ∧ OwnR encSgZ 6 62 w5 base (.slice (some ⟨q, 0, none⟩) L.length lc) L ∧ Mod [] w w5 from ⟨m5.heap HKEEP.out.1 (by simp), m5.heap HKEEP.out.2.1 (by simp), m5.heap HKEEP.out.2.2.1 (by simp), HKEEP.out.2.2.2.1.kept0 m5, HKEEP.out.2.2.2.2.trans m5⟩)
          have HNI5 := Lib.hid (m5.heap HNI.out (by simp))
          have HSZ5 := Lib.hid m5.size
          clear m5 i2 i3 i4 i5
          by_cases hf : truthOk ⟨kv, cv, sv, ev⟩ = true
          · have hN := hov.out
            rw [overV_step HK0.out HK4.out (show fitsV 5 ⟨kv, cv, sv, ev⟩ = true from hf)] at hN
            have HN := Lib.hid (show metV 5 (stepV 5 s ⟨kv, cv, sv, ev⟩) ∧ overV 5 ⟨0, 0, 0, 0⟩ vs = overV 5 (stepV 5 s ⟨kv, cv, sv, ev⟩) (vs.drop (j + 1)) from ⟨metV_step hN.1 hf, hN.2⟩)
            have CST := Lib.hid (wnEvery_at (v := ⟨kv, cv, sv, ev⟩) (show SumAt w5.drew (w.heap.size + 1 + 1) s from HK5.out.1))
            rw [hf]
            have i2 := cell_blk HNI5.out 2
            have i3 := cell_blk HNI5.out 3
            have i4 := cell_blk HNI5.out 4
            have i5 := cell_blk HNI5.out 5
            have c0 := cell_blk HK5.out.2.2.1 5
            simp only [List.getElem?_toArray, List.getElem?_cons_succ, List.getElem?_cons_zero] at i2 i3 i4 i5 c0
            clear hN hov hf
            go_wp2_with fail
            refine wp_plan [([0, 3, 4, 1, 5, 2], 6, [])] [] (by kernel_rfl) (by kernel_rfl) ?_
            simp only [wpSegs, opsOf, List.map_cons, List.map_nil, opN, List.getD_cons_zero, List.getD_cons_succ]
            go_wp2_with fail
            refine ⟨by first | trivial | rfl, ?_⟩
            go_wp2_with fail
            refine CST.out.mono ?_
            rintro e w6 ⟨rfl, b6, m6⟩
            have HK6 := Lib.hid (show SumAt w6 (w.heap.size + 1 + 1) (stepV 5 s ⟨kv, cv, sv, ev⟩) ∧ w6.heap[w.heap.size]? = some (.cells #[.int .u8 0, .int .i64 0, .int .i64 0, .int .i64 0] 35 (0, 0)) ∧ w6.heap[w.heap.size + 1]? = some (.cells #[.nilFunc, .nilFunc, .func (.func 41) #[] #[], .func (.func 42) #[] #[], .func (.func 43) #[] #[], .func (.func 44) #[] #[]] 94 (0, 0)) ∧ OwnR encSgZ 6 62 w6 base (.slice (some ⟨q, 0, none⟩) L.length lc) L ∧ Mod [] w w6 from ⟨b6, m6.heap (show w5.drew.heap[w.heap.size]? = _ from HK5.out.2.1) (by simp; omega), m6.heap (show w5.drew.heap[w.heap.size + 1]? = _ from HK5.out.2.2.1) (by simp), (HK5.out.2.2.2.1.kept0 (Mod.refl [] w5).drew).kept m6 (fun k hk hm => by
              have hq := HQ.out
              cases hk
              simp at hm
              omega), mod_over HK5.out.2.2.2.2.drew m6 (by simp; omega)⟩)
            clear b6 m6 CST i2 i3 i4 i5 c0
            go_wp2_with fail
            refine ⟨again_nil, ?_⟩
            go_wp2_with fail
            refine ⟨by first | trivial | rfl, ?_⟩
            go_wp2_with fail
            go_roundw
            case rel => exact ⟨j + 1, _, by omega, by go_num, HN, HK6⟩
            case measure => simp [intOf]; omega
          · have hf' : truthOk ⟨kv, cv, sv, ev⟩ = false := by simpa using hf
            have hN := hov.out.2
            rw [overV_not HK0.out HK4.out (show fitsV 5 ⟨kv, cv, sv, ev⟩ = false from hf')] at hN
            have HN := Lib.hid hN
            rw [hf']
            have nr := HK5.out.2.1
            have c0 := cell_blk nr 0
            have c1 := cell_blk nr 1
            have c2 := cell_blk nr 2
            have c3 := cell_blk nr 3
            have f0 := frozen_blk nr 0
            have f1 := frozen_blk nr 1
            have f2 := frozen_blk nr 2
            have f3 := frozen_blk nr 3
            simp only [List.getElem?_toArray, List.getElem?_cons_succ, List.getElem?_cons_zero] at c0 c1 c2 c3
            obtain ⟨W2, e2, m2, b2⟩ := set4 nr (.int .u8 4) (.int .i64 0) (.int .i64 0) (.int .i64 8)
            have HE2 := Lib.hid e2
            have HB2 := Lib.hid b2
            have HM2 := Lib.hid (mod_over HK5.out.2.2.2.2 m2 (by simp))
            clear hN hov nr e2 m2 b2 hf hf'
            go_wp2_with fail
            simp only [HE2.out]
            refine bodyPost_ret (results_cell_row (P := Tryz.prog) (t := 35) (cs := #[.int .u8 4, .int .i64 0, .int .i64 0, .int .i64 8]) (fr := (0, 0)) (g := w.heap.size) (h := rfl) (hp := rfl) (hg := HB2.out) (hu := Tryz.underlying35) (hd := rfl) (hi := by kernel_rfl) ..) rfl ⟨by rw [HN.out]; rfl, HM2.out⟩
    · have hje : j = L.length := by omega
      have hj2 : decide ((j : Int) < (L.length : Int)) = false := decide_eq_false (by omega)
      have hN := hov.out.2
      rw [List.drop_of_length_le (by rw [HVS.out, List.length_map]; omega), overV] at hN
      obtain ⟨k, c, sc, e⟩ := s
      have HN := Lib.hid hN
      unfold SumAt vlA at h1
      dsimp only at h1
      have c0 := cell_blk h2 0
      have c1 := cell_blk h2 1
      have c2 := cell_blk h2 2
      have c3 := cell_blk h2 3
      have f0 := frozen_blk h2 0
      have f1 := frozen_blk h2 1
      have f2 := frozen_blk h2 2
      have f3 := frozen_blk h2 3
      have g0 := cell_blk h1 0
      have g1 := cell_blk h1 1
      have g2 := cell_blk h1 2
      have g3 := cell_blk h1 3
      simp only [List.getElem?_toArray, List.getElem?_cons_succ, List.getElem?_cons_zero] at c0 c1 c2 c3 g0 g1 g2 g3
      obtain ⟨W2, e2, m2, b2⟩ := set4 h2 (.int .u8 k) (.int .i64 c) (.int .i64 sc) (.int .i64 e)
      have HE2 := Lib.hid e2
      have HB2 := Lib.hid b2
      have HM2 := Lib.hid (mod_over h5 m2 (by simp))
      clear hN hov e2 m2 b2 h1 h2 h3 h4 h5 hS hw5
      go_wp2_with fail
      simp only [HE2.out]
      refine bodyPost_ret (results_cell_row (P := Tryz.prog) (t := 35) (cs := #[.int .u8 k, .int .i64 c, .int .i64 sc, .int .i64 e]) (fr := (0, 0)) (g := w.heap.size) (h := rfl) (hp := rfl) (hg := HB2.out) (hu := Tryz.underlying35) (hd := rfl) (hi := by kernel_rfl) ..) rfl ⟨by rw [HN.out]; rfl, HM2.out⟩
/-- over: the runs' values' answer -/
theorem over_at {w : World} {v : Value} {L : List Sg} {base : Nat} {k : Int} (hk : 2 ≤ k ∧ k ≤ 5) (h : OwnR encSgZ 6 62 w base v L) (hl : L.length ≤ 1000000) : Calls Tryz.prog 32 #[.int .u8 k, v] w fun e w' => e = .returned (valZ (ovZ k (L.map (·.v)))) ∧ Mod [] w w' := by
  rw [valZ_vlA, vl_ovZ, List.map_map]
  rcases (show k = 2 ∨ k = 3 ∨ k = 4 ∨ k = 5 by omega) with rfl | rfl | rfl | rfl
  · exact over2 h hl
  · exact over3 h hl
  · exact over4 h hl
  · exact over5 h hl
end Go.Proofs.YtngglpekdjhbdaaGreat
