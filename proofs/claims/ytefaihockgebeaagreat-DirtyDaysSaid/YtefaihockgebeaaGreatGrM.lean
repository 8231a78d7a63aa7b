/- Graph: the order laid. -/
import Derived.Test.YtefaihockgebeaaGreatGrL
import Derived.Deep.LoopGhost
namespace Go.Proofs.YtefaihockgebeaaGreat
open Go.RowKit Go.ChangeMaps Go.Deep
set_option linter.unusedSimpArgs false
set_option linter.unusedVariables false
set_option maxRecDepth 20000

/-- lists of links that lie elsewhere than in a block -/
structure OnAt (w : World) (B : Nat) (v : Value) (vs : List Value) (L : Lks) : Prop where
  parts : PartsAt w v vs L
  ne : v.ownBlock ≠ some B
  nes : ∀ j (h : j < vs.length), vs[j].ownBlock ≠ some B
theorem OnAt.kept {w w' : World} {B : Nat} {v : Value} {vs : List Value} {L : Lks} (h : OnAt w B v vs L) (hm : Mod [B] w w') : OnAt w' B v vs L :=
  ⟨⟨h.parts.row.kept hm (by simpa using h.ne), h.parts.len, fun j a b => (h.parts.part j a b).kept hm (by simpa using h.nes j a)⟩, h.ne, h.nes⟩
theorem OnAt.get {w : World} {B : Nat} {oa : Option Addr} {oc : Nat} {vs : List Value} {L : Lks} (h : OnAt w B (.slice oa vs.length oc) vs L) {i : Nat} (hi : i < vs.length) :
    ∃ b o pa pc, oa = some ⟨b, o, none⟩ ∧ vs.length ≤ oc ∧ w.cell? ⟨b, o + i, none⟩ = some (.slice pa (linksOf L i).length pc) ∧ SpansAt w (.slice pa (linksOf L i).length pc) (linksOf L i) := by
  obtain ⟨b, o, rfl, hc, hq⟩ := h.parts.row.get encV_len hi
  have q0 := hq 0 vs[i] (by omega) rfl
  rw [Nat.mul_one, Nat.add_zero] at q0
  have hi' : i < L.length := by rw [← h.parts.len]; exact hi
  have hp := h.parts.part i hi hi'
  have e : linksOf L i = L[i] := by simp [linksOf, hi']
  rw [← e] at hp
  obtain ⟨pa, pc, e2⟩ := hp.form
  rw [e2] at q0 hp
  exact ⟨b, o, pa, pc, rfl, hc, q0, hp⟩
theorem any_pTo {l : List Sp} {i : Int} : l.any (pTo i) = true ↔ ∃ x ∈ l, x.1 = i := by
  rw [List.any_eq_true]
  simp [pTo]
set_option maxHeartbeats 4000000 in
theorem grSorted_any (B : Nat) (onv : Value) (vs : List Value) (L : Lks) (w : World) (hB : w.heap[B]? = some (.cells #[onv, .slice none 0 0] 48 (0, 0))) (hP : OnAt w B onv vs L) (hu : ∀ k, k < L.length → (linksOf L k).Pairwise fun x y => x.1 < y.1) (hn : L.length ≤ 1000) (hll : ∀ k, k < L.length → (linksOf L k).length ≤ 1000000) :
    Calls Tryz.prog 18 #[.pointer (some ⟨B, 0, none⟩)] w fun e w' => e = .returned (.tuple #[]) ∧ Mod [B] w w' ∧ ∃ ov, w'.heap[B]? = some (.cells #[onv, ov] 48 (0, 0)) ∧ OwnN w' w.heap.size ov (orderR L L.length) := by
  have H := Lib.hid hP
  have HU := Lib.hid hu
  have HLL := Lib.hid hll
  have hvl : vs.length = L.length := hP.parts.len
  obtain ⟨oa, oc, rfl⟩ := hP.parts.row.form
  have c0 := cell_blk hB 0
  have c1 := cell_blk hB 1
  simp only [List.getElem?_toArray, List.getElem?_cons_succ, List.getElem?_cons_zero] at c0 c1
  have HS := Lib.hid (show SortAt w ((w.alloc (.cells (Array.replicate vs.length (.int .i64 0)) 3)).alloc (.cells #[.slice none 0 0] 71)) B (.slice oa vs.length oc) (.slice none 0 0) (.slice none 0 0) vs.length (List.replicate vs.length 0) [] [] from by
    have m1 := (Mod.refl [] w).alloc (.cells (Array.replicate vs.length (.int .i64 0)) 3)
    have m2 := (Mod.refl [] (w.alloc (.cells (Array.replicate vs.length (.int .i64 0)) 3))).alloc (.cells #[.slice none 0 0] 71)
    refine ⟨(m1.trans m2).nil, (m1.trans m2).heap hB (by simp), lt_of_heap hB, by simp, (own_zeros w vs.length w.heap.size (Nat.le_refl _) (by omega)).kept0 m2, ⟨?_, OwnR.nil_ _ _⟩, OwnR.nil_ _ _, fun k h1 h2 => by simp at h2, fun b hb => by cases hb⟩
    have h := heap_alloc_new (w.alloc (.cells (Array.replicate vs.length (.int .i64 0)) 3)) (.cells #[.slice none 0 0] 71)
    have e : (w.alloc (.cells (Array.replicate vs.length (.int .i64 0)) 3)).heap.size = w.heap.size + 1 := by simp
    rw [e] at h
    exact h)
  have d0 := cell_blk HS.out.box 0
  simp only [List.getElem?_toArray, List.getElem?_cons_succ, List.getElem?_cons_zero] at d0
  have hvn : vs.length ≤ 1000 := by omega
  have hmk : ∀ u : World, (Instr.makeSlice 46 (.int .i64 vs.length) (.int .i64 vs.length)).run Tryz.prog u = .ok (.slice (some ⟨u.heap.size, 0, none⟩) vs.length vs.length) (u.alloc (.cells (Array.replicate vs.length (.int .i64 0)) 3)) := fun u => run_makeInts vs.length (by omega) u
  have HVL := Lib.hid hvl
  clear hP hu hll hvl hB
  go_enter Tryz.func18, Tryz.ntmps18
  go_wp2_with fail
  go_loopw [22] (fun s22 wr => ∃ (i : Nat) (sv : Value) (lf hl : List Int), i ≤ vs.length ∧ s22 = .int .i64 i ∧ Hid (FirstW L vs.length i lf hl) ∧ Hid (SortAt w wr B (.slice oa vs.length oc) (.slice none 0 0) sv vs.length lf hl [])) (fun s22 _ => vs.length - (intOf s22).toNat)
  case atStart => exact ⟨0, _, _, _, by omega, rfl, Lib.hid (FirstW.nil L vs.length), HS⟩
  case round =>
    obtain ⟨i, sv, lf, hl, hi, rfl, hF, hS⟩ := hrel
    rename World => wo
    by_cases hlt : i < vs.length
    · obtain ⟨b, o, pa, pc, rfl, hc, q0, hs⟩ := (H.out.kept hS.out.mod).get hlt
      have hlm := HLL.out i (by rw [← HVL.out]; exact hlt)
      obtain ⟨l0, l1⟩ := hS.out.leftAt hlt
      have HS1 := Lib.hid (hS.out.setLeft hlt ((linksOf L i).length : Int))
      clear hs
      by_cases hz : linksOf L i = []
      · have HSP := Lib.hid (fun hl' hp => hF.out.push (hl' := hl') hlt hz hp)
        rw [hz] at q0 HS1 HSP
        have hsz : w.heap.size + 1 ≤ (wo.setCell ⟨w.heap.size, i, none⟩ (.int .i64 (([] : List Sp).length : Int))).heap.size := by
          have := lt_of_heap HS1.out.wait.box; omega
        have HPU := Lib.hid (hpPush_any (w.heap.size + 1) (w.heap.size + 1) sv hl (i : Int) _ HS1.out.wait HS1.out.heap hsz (by
          have h1 := hF.out.nodup
          have h2 := below_length h1 (n := vs.length) (fun z hz => by obtain ⟨j, e, a, b, _⟩ := (hF.out.mem z).1 hz; omega)
          omega))
        clear hz hlm hsz
        simp only [List.length_nil, Int.natCast_zero] at q0 HS1 HSP HPU
        go_wp2_with fail
        refine HPU.out.mono ?_
        rintro e w1 ⟨rfl, sv1, hl1, W1, h1, p1, m1, e1⟩
        have HS2 := Lib.hid (HS1.out.turn W1 h1 m1 e1)
        have HF2 := Lib.hid (HSP.out hl1 p1)
        clear W1 h1 p1 m1 e1 HPU
        go_wp2_with fail
        go_roundw
        case rel => exact ⟨i + 1, sv1, _, hl1, by omega, by go_num, HF2, HS2⟩
        case measure => simp [intOf]; omega
      · have HF2 := Lib.hid (hF.out.step hlt hz)
        have hz1 : 0 < (linksOf L i).length := List.length_pos_iff.2 hz
        clear hz
        generalize (linksOf L i).length = m at q0 HS1 HF2 hlm hz1
        have hb : ((m : Int) == 0) = false := beq_eq_false_iff_ne.2 (by omega)
        go_wp2_with fail
        go_roundw
        case rel => exact ⟨i + 1, sv, _, hl, by omega, by go_num, HF2, HS1⟩
        case measure => simp [intOf]; omega
    · obtain rfl : i = vs.length := by omega
      have HWT := Lib.hid (hF.out.stop)
      have HRI := Lib.hid (Ripe.nil L vs.length)
      clear hF HS
      go_wp2_with fail
      clear d0 c0 c1 hmk
      go_loopg [6] vs.length (fun gg _ wr => ∃ (ov sv : Value) (lf hl out : List Int), out.length ≤ vs.length ∧ vs.length - out.length ≤ gg ∧ Hid (Ripe L vs.length out) ∧ Hid (Waits L vs.length out lf hl) ∧ Hid (SortAt w wr B (.slice oa vs.length oc) ov sv vs.length lf hl out))
      case atStart => exact ⟨_, sv, lf, hl, [], by simp, by simp, HRI, HWT, hS⟩
      case round =>
        clear hS HWT HRI
        obtain ⟨ov, sv, lf, hl, out, ho, hgg, hR, hW, hS⟩ := hrel
        rename World => wz
        have hhl : hl.length ≤ 1000 := by
          have := below_length hW.out.nodup (n := vs.length) (fun z hz => by obtain ⟨j, e, a, _⟩ := (hW.out.mem z).1 hz; omega)
          omega
        have h0 := hS.out.wait.cell
        obtain ⟨sa, sc, rfl⟩ := hS.out.wait.own.row.form
        have HLN := Lib.hid (fun W => isLen_any sa hl.length sc W)
        by_cases hpos : 0 < hl.length
        · go_wp2_with fail
          refine (HLN.out _).mono ?_
          rintro e w1 ⟨rfl, rfl⟩
          have HPO := Lib.hid (hpPop_any (w.heap.size + 1) (w.heap.size + 1) _ hl w1 hS.out.wait hS.out.heap hpos (by omega))
          have hta := fun W => assertInt W (.int .i64 (at0 hl 0))
          go_wp2_with fail
          refine HPO.out.mono ?_
          rintro e w2 ⟨rfl, sv2, hl2, W2, h2, p2, m2, e2⟩
          have HS2 := Lib.hid (hS.out.turn W2 h2 m2 (.inl e2))
          have HST := Lib.hid (hW.out.start p2)
          have HLE := Lib.hid (hW.out.least (i := at0 hl 0) (fun y hy => hS.out.heap.least hy))
          obtain ⟨ii, hii, hin, _⟩ := HST.out.2.2
          rw [hii] at HST HLE hta ⊢
          clear W2 h2 p2 m2 e2 HPO hii h0 HLN
          have HS3 := Lib.hid (HS2.out.quiet ((Mod.refl [] w2).alloc (.cells #[.int .i64 (ii : Int)] 3)))
          have hm3 := (Mod.refl [] (w2.alloc (.cells #[.int .i64 (ii : Int)] 3))).drew
          obtain ⟨v4, w4, g1, g2, g3⟩ := own_append1 elemInt encI_len encI_one (HS3.out.ord.kept0 hm3) (by have := lt_of_heap HS2.out.wait.box; simp; omega) (ty := 46) (ii : Int) (by omega) (by omega)
          obtain ⟨a4, c4, e4⟩ := g2.row.form
          rw [List.length_append, List.length_singleton] at e4
          subst e4
          rw [show (w2.alloc (.cells #[.int .i64 (ii : Int)] 3)).drew.heap.size = w2.heap.size + 1 by simp] at g1
          have G1 := Lib.hid (show (Builtin.append_ #[46, 46] 46 #[ov, .slice (some ⟨w2.heap.size + 1, 0, none⟩) 1 1]).run Tryz.prog (((w2.alloc (.cells #[.int .i64 (ii : Int)] 3)).alloc (.cells #[.int .i64 (ii : Int)] 3)).drew) = .ok (.slice a4 (out.length + 1) c4) w4 from g1)
          have hg4 : Grew (w2.alloc (.cells #[.int .i64 (ii : Int)] 3)) ov w4 (.slice a4 (out.length + 1) c4) := (Grew.of ov hm3).trans g3
          have HS5 := Lib.hid (HS3.out.setOrd g2 hg4)
          have hB4 := HS3.out.boxGrew hg4
          have hDA := heap_alloc_new w2 (.cells #[.int .i64 (ii : Int)] 3)
          have hDB : B < w2.heap.size := by have := HS2.out.low; have := lt_of_heap HS2.out.wait.box; omega
          have HDY := Lib.hid (show DayAt (w4.setCell ⟨B, 1, none⟩ (.slice a4 (out.length + 1) c4)) w2.heap.size ii from by
            unfold DayAt
            rw [heap_setCell_ne _ _ _ (by show w2.heap.size ≠ B; omega)]
            exact hg4.mod.heap hDA fun hx => by have := (HS2.out.ord.blockLt (mem_blk.1 hx)).2; omega)
          have HSD := Lib.hid (show ∀ b, sv2.ownBlock = some b → b ≠ w2.heap.size from fun b hb e => by have := (HS2.out.wait.own.blockLt hb).2; omega)
          have HHD := Lib.hid (show w.heap.size + 1 < w2.heap.size from lt_of_heap HS2.out.wait.box)
          have b0 := cell_blk (((Mod.refl [] w2).alloc (.cells #[.int .i64 (ii : Int)] 3)).heap HS2.out.box (by simp)) 0
          have b1 := cell_blk (((Mod.refl [] w2).alloc (.cells #[.int .i64 (ii : Int)] 3)).heap HS2.out.box (by simp)) 1
          have b2 := cell_blk ((((Mod.refl [] w2).alloc (.cells #[.int .i64 (ii : Int)] 3)).alloc (.cells #[.int .i64 (ii : Int)] 3)).heap HS2.out.box (by simp)) 1
          have b3 := cell_blk hB4 1
          have b4 := frozen_blk hB4 1
          have b5 := cell_blk HS5.out.box 0
          simp only [List.getElem?_toArray, List.getElem?_cons_succ, List.getElem?_cons_zero] at b0 b1 b2 b3 b5
          have HRO := Lib.hid (show Ripe L vs.length (out ++ [(ii : Int)]) from hR.out.snoc HST.out.2.2 HLE.out)
          clear g1 g2 g3 hm3 hg4 hB4 hDA hS HS2 HS3 hDB
          go_wp2_with fail
          refine wp_plan [([0, 1, 5, 2, 3, 4], 6, [2, 3, 4]), ([], 7, []), ([8, 9], 10, [])] [] (by kernel_rfl) (by kernel_rfl) ?_
          simp only [wpSegs, opsOf, List.map_cons, List.map_nil, opN, List.getD_cons_zero, List.getD_cons_succ]
          go_wp2_with fail
          refine ⟨by first | trivial | rfl, ?_⟩
          go_wp2_with fail
          refine ⟨?ag1, ?_⟩
          case ag1 =>
            intro i hi hw
            simp only [List.mem_cons, List.not_mem_nil, or_false] at hi
            rcases hi with rfl | rfl | rfl
            all_goals (simp only [opN, List.getD_cons_zero, List.getD_cons_succ, slotOf]; go_simp)
          go_wp2_with fail
          refine ⟨by first | trivial | rfl, ?_⟩
          go_wp2_with ((with_reducible refine xAppendAt G1.out rfl rfl ?_ ?_ ?_ ?_); exact rfl; exact rfl; exact rfl)
          refine ⟨again_nil, ?_⟩
          go_wp2_with fail
          refine ⟨by first | trivial | rfl, ?_⟩
          go_wp2_with fail
          refine ⟨again_nil, ?_⟩
          go_wp2_with fail
          refine ⟨by first | trivial | rfl, ?_⟩
          go_wp2_with fail
          clear b0 b1 b2 b3 b4 b5 hta
          have HIL := Lib.hid HST.out.1
          have HIW := Lib.hid HST.out.2.1
          have HRD := Lib.hid HST.out.2.2
          have HOR := Lib.hid hR.out.1
          clear HST HLE G1 hR hW hhl hpos
          go_loopw [68] (fun s68 wr => ∃ (k : Nat) (sv : Value) (lf hl : List Int), k ≤ vs.length ∧ s68 = .int .i64 k ∧ Hid (InnerL L vs.length out ii k lf) ∧ Hid (InnerW L vs.length out ii k hl) ∧ Hid (SortAt w wr B (.slice oa vs.length oc) (.slice a4 (out.length + 1) c4) sv vs.length lf hl (out ++ [(ii : Int)])) ∧ Hid (DayAt wr w2.heap.size ii) ∧ Hid (∀ b, sv.ownBlock = some b → b ≠ w2.heap.size)) (fun s68 _ => vs.length - (intOf s68).toNat)
          case atStart => exact ⟨0, sv2, lf, hl2, by omega, rfl, HIL, HIW, HS5, HDY, HSD⟩
          case round =>
            clear HS5 HDY HSD HIL HIW
            obtain ⟨k, sv, lf, hl, hk, rfl, hIL, hIW, hS, hDY, hSD⟩ := hrel
            rename World => wo
            by_cases hlt : k < vs.length
            · obtain ⟨b, o, pa, pc, rfl, hc, q0, hs⟩ := (H.out.kept hS.out.mod).get hlt
              have hlm := HLL.out k (by rw [← HVL.out]; exact hlt)
              have HUK := Lib.hid (HU.out k (by rw [← HVL.out]; exact hlt))
              have HCT := Lib.hid (contTo_any _ (linksOf L k) ii w2.heap.size wo hs hDY.out hlm)
              have HIO := Lib.hid (show (ii : Int) ∉ out from by obtain ⟨_, _, _, h, _⟩ := HRD.out; exact h)
              by_cases ha : (linksOf L k).any (pTo (ii : Int)) = true
              · have HYS := Lib.hid (hIL.out.yes hlt HUK.out HIO.out (any_pTo.1 ha))
                have HLD := Lib.hid (show lf.getD k 0 = ((leftN (linksOf L k) (out ++ [(ii : Int)]) : Nat) : Int) + 1 from by have := HYS.out.2; omega)
                have hq0 : leftN (linksOf L k) (out ++ [(ii : Int)]) ≤ 1000000 := Nat.le_trans (leftN_le _ _) hlm
                have HWY := Lib.hid (fun hl' h0 hp => hIW.out.yes (hl' := hl') hlt (any_pTo.1 ha) h0 HOR.out HRD.out hp)
                have HWN := Lib.hid (fun h0 => hIW.out.no hlt (.inr h0) HRD.out)
                rw [ha] at HCT
                generalize leftN (linksOf L k) (out ++ [(ii : Int)]) = q at HLD hq0 HWY HWN HYS
                clear ha
                go_wp2_with fail
                refine HCT.out.mono ?_
                rintro e w6 ⟨rfl, m6⟩
                have HS6 := Lib.hid (hS.out.quiet m6)
                have hDY6 : DayAt w6 w2.heap.size ii := m6.heap hDY.out (by simp)
                obtain ⟨l0, l1⟩ := HS6.out.leftAt hlt
                rw [HLD.out] at l0
                have HS7 := Lib.hid (HS6.out.setLeft hlt (q : Int))
                have HDY7 := Lib.hid (show DayAt (w6.setCell ⟨w.heap.size, k, none⟩ (.int .i64 (q : Int))) w2.heap.size ii from by
                  unfold DayAt
                  rw [heap_setCell_ne _ _ _ (by show w2.heap.size ≠ w.heap.size; have := HHD.out; omega)]
                  exact hDY6)
                have HYL := Lib.hid (show InnerL L vs.length out ii (k + 1) (lf.set k (q : Int)) from by have := HYS.out.1; rw [HYS.out.2] at this; exact this)
                clear m6 hDY6 HCT HYS HLD hDY hS q0 hs hIL
                by_cases hq : q = 0
                · subst hq
                  have hsz : w.heap.size + 1 ≤ (w6.setCell ⟨w.heap.size, k, none⟩ (.int .i64 ((0 : Nat) : Int))).heap.size := by
                    have := lt_of_heap HS7.out.wait.box; omega
                  have HPU := Lib.hid (hpPush_any (w.heap.size + 1) (w.heap.size + 1) sv hl (k : Int) _ HS7.out.wait HS7.out.heap hsz (by
                    have h1 := hIW.out.nodup
                    have h2 := below_length h1 (n := vs.length) (fun z hz => by
                      rcases (hIW.out.mem z).1 hz with ⟨_, j, e, a, _⟩ | ⟨_, j, e, a, _⟩
                      all_goals omega)
                    omega))
                  clear hsz
                  simp only [Int.natCast_zero] at HS7 HPU l0 HDY7
                  go_wp2_with fail
                  refine HPU.out.mono ?_
                  rintro e w8 ⟨rfl, sv8, hl8, W8, h8, p8, m8, e8⟩
                  have HS8 := Lib.hid (HS7.out.turn W8 h8 m8 e8)
                  have HW8 := Lib.hid (HWY.out hl8 (by trivial) p8)
                  have hnd : w2.heap.size ∉ (w.heap.size + 1) :: blk sv := fun hx => by
                    rcases List.mem_cons.1 hx with hx | hx
                    · have := HHD.out; omega
                    · exact hSD.out _ (mem_blk.1 hx) rfl
                  have HDY8 := Lib.hid (show DayAt w8 w2.heap.size ii from m8.heap HDY7.out hnd)
                  have HSD8 := Lib.hid (show ∀ b, sv8.ownBlock = some b → b ≠ w2.heap.size from fun b hb => by
                    rcases e8 with e | e
                    · exact hSD.out b (e ▸ hb)
                    · have h1 := e b hb
                      have h2 := lt_of_heap HDY7.out
                      omega)
                  clear W8 h8 p8 m8 e8 HPU hnd
                  go_wp2_with fail
                  go_roundw
                  case rel => exact ⟨k + 1, sv8, _, hl8, by omega, by go_num, HYL, HW8, HS8, HDY8, HSD8⟩
                  case measure => simp [intOf]; omega
                · have HW8 := Lib.hid (HWN.out hq)
                  have hb : ((q : Int) == 0) = false := beq_eq_false_iff_ne.2 (by omega)
                  clear hq HWY HWN
                  go_wp2_with fail
                  go_roundw
                  case rel => exact ⟨k + 1, sv, _, hl, by omega, by go_num, HYL, HW8, HS7, HDY7, hSD⟩
                  case measure => simp [intOf]; omega
              · have hno : ¬ ∃ x ∈ linksOf L k, x.1 = (ii : Int) := fun hx => ha (any_pTo.2 hx)
                have haf : (linksOf L k).any (pTo (ii : Int)) = false := by simpa using ha
                rw [haf] at HCT
                have HYL := Lib.hid (hIL.out.no hlt HUK.out HIO.out hno)
                have HW8 := Lib.hid (hIW.out.no hlt (.inl hno) HRD.out)
                clear ha hno haf
                go_wp2_with fail
                refine HCT.out.mono ?_
                rintro e w6 ⟨rfl, m6⟩
                have HS6 := Lib.hid (hS.out.quiet m6)
                have HDY6 := Lib.hid (show DayAt w6 w2.heap.size ii from m6.heap hDY.out (by simp))
                clear m6 HCT
                go_wp2_with fail
                go_roundw
                case rel => exact ⟨k + 1, sv, _, hl, by omega, by go_num, HYL, HW8, HS6, HDY6, hSD⟩
                case measure => simp [intOf]; omega
            · obtain rfl : k = vs.length := by omega
              have HWZ := Lib.hid (hIL.out.stop hIW.out)
              have hlo : (out ++ [(ii : Int)]).length ≤ vs.length := below_length HRO.out.1.nodup HRO.out.1.below
              rw [List.length_append, List.length_singleton] at hlo
              go_wp2_with fail
              go_roundg (vs.length - (out.length + 1))
              case measure => omega
              case rel => exact ⟨_, sv, lf, hl, out ++ [(ii : Int)], by rw [List.length_append, List.length_singleton]; exact hlo, by rw [List.length_append, List.length_singleton]; omega, HRO, HWZ, hS⟩
        · have he : hl = [] := List.eq_nil_of_length_eq_zero (by omega)
          have HE := Lib.hid he
          have HDN := Lib.hid (show out = orderR L vs.length by
            refine hR.out.done ?_
            have := hW.out
            rw [he] at this
            exact this.done)
          clear he
          go_wp2_with fail
          refine (HLN.out _).mono ?_
          rintro e w1 ⟨rfl, rfl⟩
          go_wp2_with fail
          go_end0
          exact ⟨rfl, hS.out.mod, ov, hS.out.box, by rw [← HVL.out, ← HDN.out]; exact hS.out.ord.mono (by omega)⟩
end Go.Proofs.YtefaihockgebeaaGreat
