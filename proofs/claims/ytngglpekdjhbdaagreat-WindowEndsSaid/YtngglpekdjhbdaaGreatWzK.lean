/- Layer 8: a node is balanced. -/
import Derived.Test.YtngglpekdjhbdaaGreatWzJ
namespace Go.Proofs.YtngglpekdjhbdaaGreat
open Go.RowKit Go.ChangeMaps Go.Deep
set_option linter.unusedSimpArgs false
set_option linter.unusedVariables false
set_option maxRecDepth 20000

/-- a link leads nowhere, or to a node -/
def Lk (ns : List Nd) (i : Int) : Prop := i = -1 ∨ ∃ (q : Nat) (m : Nd), i = q ∧ ns[q]? = some m
theorem height_lk {w : World} {b : Nat} {nv fv : Value} {ns : List Nd} {fr : List Int} {root many : Int} (h : TreeAt w b nv fv ns fr root many) {i : Int} (hi : Lk ns i) :
    Calls Tryz.prog 88 #[.pointer (some ⟨b, 0, none⟩), .int .i64 i] w fun e w' => e = .returned (.int .i64 (htN ns i)) ∧ w' = w := by
  rcases hi with rfl | ⟨q, m, rfl, hm⟩
  · exact height_none b (-1) (by omega) _ w
  · have : htN ns (q : Int) = m.h := by
      unfold htN
      rw [if_neg (by omega), show ((q : Int).toNat) = q by omega, nodeN_some hm]
    rw [this]
    exact height_at h hm
theorem TreeAt.kept0 {w w' : World} {b : Nat} {nv fv : Value} {ns : List Nd} {fr : List Int} {root many : Int} (h : TreeAt w b nv fv ns fr root many) (hm : Mod [] w w') : TreeAt w' b nv fv ns fr root many :=
  ⟨hm.heap h.blk (by simp), h.row.kept0 hm, h.free.kept0 hm, h.bn, h.bf, h.nf⟩
theorem xIndex {P : Program} {ops : Array Oper} {rest : List Oper} {o : Oper} {a : Act} {w w' : World} {Q : Exit → Act → World → Prop} {v : Value} {t : TypeId} {x i : Operand} {X I : Value} (ho : o.op = .index t x i) (hrun : (Instr.index t X I).run P w = .ok v w') (hx : a.eval x = X) (hi : a.eval i = I)
    (hg : Region.wanted o (yielded ops a.tmps) = true) (h : wpList P ops Q rest (a.put o.dst v) w') : wpList P ops Q (o :: rest) a w := by
  subst hx hi
  exact wpList_val hg (by unfold execOp; rw [ho]; simp [Sem.run_bind, hrun, Result.andThen]) h
theorem run_index0 (x y : Int) (w : World) : (Instr.index 165 (.agg #[.int .i64 x, .int .i64 y]) (.int .i64 0)).run Tryz.prog w = .ok (.int .i64 x) w := by
  simp [Instr.index, run_underlying Tryz.underlying165, asIntOf, go_sem]
theorem run_index1 (x y : Int) (w : World) : (Instr.index 165 (.agg #[.int .i64 x, .int .i64 y]) (.int .i64 1)).run Tryz.prog w = .ok (.int .i64 y) w := by
  simp [Instr.index, run_underlying Tryz.underlying165, asIntOf, go_sem]
def topA (ns : List Nd) (n : Nd) (k : Nat) : Int := if k = 0 then n.x.t else if k = 1 then topN ns n.l n.x.t else topN ns n.r (topN ns n.l n.x.t)
set_option maxHeartbeats 4000000 in
theorem sum_at {w : World} {b : Nat} {nv fv : Value} {ns : List Nd} {fr : List Int} {root many : Int} (h : TreeAt w b nv fv ns fr root many) {p : Nat} {n : Nd} (hp : ns[p]? = some n)
    (kl : Lk ns n.l) (kr : Lk ns n.r) (nl : n.l ≠ p) (nr : n.r ≠ p) (hl0 : 0 ≤ htN ns n.l) (hl1 : htN ns n.l ≤ 1000) (hr0 : 0 ≤ htN ns n.r) (hr1 : htN ns n.r ≤ 1000) :
    Calls Tryz.prog 87 #[.pointer (some ⟨b, 0, none⟩), .int .i64 p] w fun e w' => e = .returned (.tuple #[]) ∧ TreeAt w' b nv fv (sumN ns p) fr root many ∧ Mod (blk nv) w w' := by
  have e : sumN ns p = ns.set p { n with h := 1 + max (htN ns n.l) (htN ns n.r), t := topN ns n.r (topN ns n.l n.x.t) } := by unfold sumN; rw [nodeN_some hp]
  rw [e]
  obtain ⟨g, cap, rfl, hg, hc⟩ := h.row.at_ hp
  have hlt := (List.getElem?_eq_some_iff.1 hp).1
  have c1 := cell_blk h.blk 1
  simp only [List.getElem?_toArray, List.getElem?_cons_succ, List.getElem?_cons_zero] at c1
  have hd := h.kept0 ((Mod.refl [] w).drew)
  obtain ⟨c1', f1'⟩ := nd_cells h.row hp 1 _ rfl
  have c3 := (nd_cells h.row hp 3 _ rfl).1
  have c4 := (nd_cells h.row hp 4 _ rfl).1
  obtain ⟨c5, f5⟩ := nd_cells h.row hp 5 _ rfl
  obtain ⟨c6, f6⟩ := nd_cells h.row hp 6 _ rfl
  have HL := Lib.hid (height_lk hd kl)
  have HR := Lib.hid (height_lk hd kr)
  generalize hHl : htN ns n.l = Hl at *
  generalize hHr : htN ns n.r = Hr at *
  have hmax : (Hl < Hr ∧ max Hl Hr = Hr) ∨ (Hr ≤ Hl ∧ max Hl Hr = Hl) := by omega
  generalize max Hl Hr = H at *
  obtain ⟨S5, M5⟩ := hd.set hp (m := { n with h := 1 + H }) (j := 5) (u := .int .i64 (1 + H)) (by omega) rfl
  have hp5 := set_self (m := { n with h := 1 + H }) hp
  obtain ⟨S6, M6⟩ := S5.set hp5 (m := { n with h := 1 + H, t := n.x.t }) (j := 6) (u := .int .i64 n.x.t) (by omega) rfl
  rw [List.set_set] at S6
  have hm56 : Mod [g] w (((w.drew).setCell ⟨g, p * 8 + 5, none⟩ (.int .i64 (1 + H))).setCell ⟨g, p * 8 + 6, none⟩ (.int .i64 n.x.t)) := (((Mod.refl [g] w).drew).setCell (by simp) _).setCell (by simp) _
  have HS := Lib.hid S6
  have HM := Lib.hid hm56
  have KL := Lib.hid kl
  have KR := Lib.hid kr
  have HP := Lib.hid hp
  have q5 := (nd_cells S5.row hp5 1 _ rfl).1
  have q6 := nd_cells S5.row hp5 6 _ rfl
  obtain ⟨q6, r6⟩ := q6
  have x3 := (nd_cells S6.row (by rw [← List.set_set (a := { n with h := 1 + H })]; exact set_self hp5) 3 _ rfl).1
  have x4 := (nd_cells S6.row (by rw [← List.set_set (a := { n with h := 1 + H })]; exact set_self hp5) 4 _ rfl).1
  clear S5 S6 M5 M6 h hd hm56 kl kr
  rcases hmax with ⟨hlr, hH⟩ | ⟨hlr, hH⟩
  all_goals
    subst hH
    go_enter Tryz.func87, Tryz.ntmps87
    go_wp2_with fail
    refine wp_plan [([0, 1, 2, 8, 9, 3, 10, 4, 11, 5, 12, 6, 13], 7, [10, 11, 12, 13]), ([], 14, []), ([], 15, []), ([16, 17, 18, 19], 20, [])] [] (by kernel_rfl) (by kernel_rfl) ?_
    simp only [wpSegs, opsOf, List.map_cons, List.map_nil, opN, List.getD_cons_zero, List.getD_cons_succ]
    go_wp2_with fail
    refine ⟨by first | trivial | rfl, ?_⟩
    go_wp2_with fail
    refine HL.out.mono ?_
    rintro e1 w1 ⟨rfl, rfl⟩
    go_wp2_with fail
    refine ⟨?agA, ?_⟩
    case agA =>
      intro i hi hw
      simp only [List.mem_cons, List.not_mem_nil, or_false] at hi
      rcases hi with rfl | rfl | rfl | rfl
      all_goals (simp only [opN, List.getD_cons_zero, List.getD_cons_succ, slotOf]; go_simp)
    go_wp2_with fail
    refine ⟨by first | trivial | rfl, ?_⟩
    go_wp2_with fail
    refine HR.out.mono ?_
    rintro e1 w1 ⟨rfl, rfl⟩
    go_wp2_with fail
    refine ⟨again_nil, ?_⟩
    go_wp2_with fail
    refine ⟨by first | trivial | rfl, ?_⟩
    go_wp2_with fail
    refine ⟨again_nil, ?_⟩
    go_wp2_with fail
    refine ⟨by first | trivial | rfl, ?_⟩
    go_wp2_with fail
    refine ⟨again_nil, ?_⟩
    go_wp2_with fail
    refine ⟨by first | trivial | rfl, ?_⟩
    go_wp2_with fail
    refine wp_plan [([0, 5, 11, 1, 6, 2, 7, 3, 8, 4, 9], 10, [])] [] (by kernel_rfl) (by kernel_rfl) ?_
    simp only [wpSegs, opsOf, List.map_cons, List.map_nil, opN, List.getD_cons_zero, List.getD_cons_succ]
    go_wp2_with fail
    refine ⟨by first | trivial | rfl, ?_⟩
    go_wp2_with fail
    refine ⟨again_nil, ?_⟩
    go_wp2_with fail
    refine ⟨by first | trivial | rfl, ?_⟩
    go_wp2_with fail
    clear HL HR q5 q6 r6 x3 x4 c1 c1' f1' c3 c4 c5 f5 c6 f6
    go_loopw [54] (fun s54 wj => ∃ k : Nat, k ≤ 2 ∧ s54 = .int .i64 k ∧ Hid (TreeAt wj b (.slice (some ⟨g, 0, none⟩) (ns.set p { n with h := 1 + H, t := topA ns n k }).length cap) fv (ns.set p { n with h := 1 + H, t := topA ns n k }) fr root many) ∧ Hid (Mod [g] w wj)) (fun s54 _ => 2 - (intOf s54).toNat)
    case atStart => exact ⟨0, by omega, rfl, Lib.hid (HS.out.kept0 ((Mod.refl [] _).drew)), Lib.hid (HM.out.drew)⟩
    case round =>
      obtain ⟨k, hk, rfl, hT, hM⟩ := hrel
      have hix0 := run_index0
      have hix1 := run_index1
      rcases (show k = 0 ∨ k = 1 ∨ k = 2 by omega) with rfl | rfl | rfl
      · rcases KL.out with hi | ⟨q, m, hi, hm⟩
        · have HN := Lib.hid (show topA ns n 1 = topA ns n 0 by simp [topA, hi, topN])
          have hneg : ¬ (0 : Int) ≤ -1 := by omega
          rw [hi]
          go_wp2_with fail
          go_roundw
          case rel => exact ⟨1, by omega, by go_num, by rw [HN.out, ← hi]; exact hT, hM⟩
          case measure => simp [intOf]
        · have hqp : q ≠ p := fun e => nl (by omega)
          have hmax : (topA ns n 0 < m.t ∧ max (topA ns n 0) m.t = m.t) ∨ (m.t ≤ topA ns n 0 ∧ max (topA ns n 0) m.t = topA ns n 0) := by omega
          have HN := Lib.hid (show topA ns n 1 = max (topA ns n 0) m.t by
            have : topN ns n.l (topA ns n 0) = max (topA ns n 0) m.t := by
              unfold topN
              rw [hi, if_pos (by omega), show ((q : Int).toNat) = q by omega, nodeN_some hm]
            rw [← this]; simp [topA])
          have hqlt := (List.getElem?_eq_some_iff.1 hm).1
          have hqi : ((q : Nat) : Int) < (ns.length : Int) := by omega
          have hT2 := hT.out.kept0 ((Mod.refl [] wr).drew)
          have hps := set_self (m := { n with h := 1 + H, t := topA ns n 0 }) HP.out
          obtain ⟨a6, b6⟩ := nd_cells hT2.row hps 6 _ rfl
          have d6 := (nd_cells hT2.row (by rw [set_other hqp]; exact hm) 6 _ rfl).1
          have e1 := cell_blk hT2.blk 1
          simp only [List.getElem?_toArray, List.getElem?_cons_succ, List.getElem?_cons_zero, List.length_set] at e1
          dsimp only at a6
          generalize hB : max (topA ns n 0) m.t = B at *
          have S7 := (hT.out.set hps (m := { n with h := 1 + H, t := B }) (j := 6) (u := .int .i64 B) (by omega) rfl).1
          rw [List.set_set] at S7
          have HS7 := Lib.hid (S7.kept0 ((Mod.refl [] _).drew))
          have HM7 := Lib.hid ((hM.out.setCell (p := ⟨g, p * 8 + 6, none⟩) (by simp) (.int .i64 B)).drew)
          clear S7 hT2 hps
          rw [hi]
          generalize topA ns n 0 = A at *
          rcases hmax with ⟨hAB, hB2⟩ | ⟨hAB, hB2⟩
          all_goals
            subst hB2
            go_wp2_with fail
            refine wp_plan [([0, 1, 6, 10, 2, 7, 3, 8, 4, 9, 5, 11, 12, 13, 14], 15, []), ([16, 17, 18], 19, [])] [] (by kernel_rfl) (by kernel_rfl) ?_
            simp only [wpSegs, opsOf, List.map_cons, List.map_nil, opN, List.getD_cons_zero, List.getD_cons_succ]
            go_wp2_with fail
            refine ⟨by first | trivial | rfl, ?_⟩
            go_wp2_with fail
            refine ⟨again_nil, ?_⟩
            go_wp2_with fail
            refine ⟨by first | trivial | rfl, ?_⟩
            go_wp2_with fail
            refine ⟨again_nil, ?_⟩
            go_wp2_with fail
            refine ⟨by first | trivial | rfl, ?_⟩
            go_wp2_with fail
            go_roundw
            case rel => exact ⟨1, by omega, by go_num, by rw [HN.out, ← hi]; exact HS7, HM7⟩
            case measure => simp [intOf]
      · rcases KR.out with hi | ⟨q, m, hi, hm⟩
        · have HN := Lib.hid (show topA ns n 2 = topA ns n 1 by simp [topA, hi, topN])
          have hneg : ¬ (0 : Int) ≤ -1 := by omega
          rw [hi]
          go_wp2_with fail
          go_roundw
          case rel => exact ⟨2, by omega, by go_num, by rw [HN.out, ← hi]; exact hT, hM⟩
          case measure => simp [intOf]
        · have hqp : q ≠ p := fun e => nr (by omega)
          have hmax : (topA ns n 1 < m.t ∧ max (topA ns n 1) m.t = m.t) ∨ (m.t ≤ topA ns n 1 ∧ max (topA ns n 1) m.t = topA ns n 1) := by omega
          have HN := Lib.hid (show topA ns n 2 = max (topA ns n 1) m.t by
            have : topN ns n.r (topA ns n 1) = max (topA ns n 1) m.t := by
              unfold topN
              rw [hi, if_pos (by omega), show ((q : Int).toNat) = q by omega, nodeN_some hm]
            rw [← this]; simp [topA])
          have hqlt := (List.getElem?_eq_some_iff.1 hm).1
          have hqi : ((q : Nat) : Int) < (ns.length : Int) := by omega
          have hT2 := hT.out.kept0 ((Mod.refl [] wr).drew)
          have hps := set_self (m := { n with h := 1 + H, t := topA ns n 1 }) HP.out
          obtain ⟨a6, b6⟩ := nd_cells hT2.row hps 6 _ rfl
          have d6 := (nd_cells hT2.row (by rw [set_other hqp]; exact hm) 6 _ rfl).1
          have e1 := cell_blk hT2.blk 1
          simp only [List.getElem?_toArray, List.getElem?_cons_succ, List.getElem?_cons_zero, List.length_set] at e1
          dsimp only at a6
          generalize hB : max (topA ns n 1) m.t = B at *
          have S7 := (hT.out.set hps (m := { n with h := 1 + H, t := B }) (j := 6) (u := .int .i64 B) (by omega) rfl).1
          rw [List.set_set] at S7
          have HS7 := Lib.hid (S7.kept0 ((Mod.refl [] _).drew))
          have HM7 := Lib.hid ((hM.out.setCell (p := ⟨g, p * 8 + 6, none⟩) (by simp) (.int .i64 B)).drew)
          clear S7 hT2 hps
          rw [hi]
          generalize topA ns n 1 = A at *
          rcases hmax with ⟨hAB, hB2⟩ | ⟨hAB, hB2⟩
          all_goals
            subst hB2
            go_wp2_with fail
            refine wp_plan [([0, 1, 6, 10, 2, 7, 3, 8, 4, 9, 5, 11, 12, 13, 14], 15, []), ([16, 17, 18], 19, [])] [] (by kernel_rfl) (by kernel_rfl) ?_
            simp only [wpSegs, opsOf, List.map_cons, List.map_nil, opN, List.getD_cons_zero, List.getD_cons_succ]
            go_wp2_with fail
            refine ⟨by first | trivial | rfl, ?_⟩
            go_wp2_with fail
            refine ⟨again_nil, ?_⟩
            go_wp2_with fail
            refine ⟨by first | trivial | rfl, ?_⟩
            go_wp2_with fail
            refine ⟨again_nil, ?_⟩
            go_wp2_with fail
            refine ⟨by first | trivial | rfl, ?_⟩
            go_wp2_with fail
            go_roundw
            case rel => exact ⟨2, by omega, by go_num, by rw [HN.out, ← hi]; exact HS7, HM7⟩
            case measure => simp [intOf]
      · go_wp2_with fail
        go_end0
        refine ⟨rfl, ?_, by simpa [blk, Value.ownBlock] using hM.out⟩
        have := hT.out
        rw [List.length_set] at this
        exact this
end Go.Proofs.YtngglpekdjhbdaaGreat
namespace Go.Proofs.YtngglpekdjhbdaaGreat
open Go.RowKit Go.ChangeMaps Go.Deep
set_option linter.unusedSimpArgs false
set_option linter.unusedVariables false
set_option maxRecDepth 20000

namespace Tr
theorem turnL_steps {ns : List Nd} {p q : Nat} {l a b : Tr} {x y : It} {h t h' t' : Int} (hp : ns[p]? = some ⟨x, l.at_, (q : Int), h, t, true⟩) (hq : ns[q]? = some ⟨y, a.at_, b.at_, h', t', true⟩) (hl : rep ns l) (ha : rep ns a) (hb : rep ns b)
    (hne : p ≠ q) (pl : p ∉ l.places) (pa : p ∉ a.places) (pb : p ∉ b.places) (ql : q ∉ l.places) (qa : q ∉ a.places) (qb : q ∉ b.places) :
    ∃ n1 n2 n3, sideN ns p true = (q : Int) ∧ sideN ns q false = a.at_ ∧ hangN ns p true a.at_ = n1 ∧ n1[q]? = some ⟨y, a.at_, b.at_, h', t', true⟩ ∧ hangN n1 q false p = n2 ∧
      n2[p]? = some ⟨x, l.at_, a.at_, h, t, true⟩ ∧ rep n2 l ∧ rep n2 a ∧ sumN n2 p = n3 ∧ n3[q]? = some ⟨y, (node p l x a).at_, b.at_, h', t', true⟩ ∧ rep n3 (node p l x a) ∧ rep n3 b ∧ turnN ns p true = (sumN n3 q, (q : Int)) := by
  have e1 : sideN ns p true = (q : Int) := by simp [sideN, nodeN_some hp]
  have e2 : sideN ns q false = a.at_ := by simp [sideN, nodeN_some hq]
  have e3 : hangN ns p true a.at_ = ns.set p ⟨x, l.at_, a.at_, h, t, true⟩ := by simp [hangN, nodeN_some hp]
  have hq1 : (ns.set p ⟨x, l.at_, a.at_, h, t, true⟩)[q]? = some ⟨y, a.at_, b.at_, h', t', true⟩ := by rw [set_other (Ne.symm hne)]; exact hq
  have e4 : hangN (ns.set p ⟨x, l.at_, a.at_, h, t, true⟩) q false p = (ns.set p ⟨x, l.at_, a.at_, h, t, true⟩).set q ⟨y, p, b.at_, h', t', true⟩ := by simp [hangN, nodeN_some hq1]
  have hp2 : ((ns.set p ⟨x, l.at_, a.at_, h, t, true⟩).set q ⟨y, p, b.at_, h', t', true⟩)[p]? = some ⟨x, l.at_, a.at_, h, t, true⟩ := by rw [set_other hne, set_self hp]
  have e5 := sumN_eq hp2 (rep_set (rep_set hl pl _) ql _) (rep_set (rep_set ha pa _) qa _)
  have hl2 : rep ((ns.set p ⟨x, l.at_, a.at_, h, t, true⟩).set q ⟨y, p, b.at_, h', t', true⟩) l := rep_set (rep_set hl pl _) ql _
  have ha2 : rep ((ns.set p ⟨x, l.at_, a.at_, h, t, true⟩).set q ⟨y, p, b.at_, h', t', true⟩) a := rep_set (rep_set ha pa _) qa _
  have hb2 : rep ((ns.set p ⟨x, l.at_, a.at_, h, t, true⟩).set q ⟨y, p, b.at_, h', t', true⟩) b := rep_set (rep_set hb pb _) qb _
  have hqN : ((ns.set p ⟨x, l.at_, a.at_, h, t, true⟩).set q ⟨y, p, b.at_, h', t', true⟩)[q]? = some ⟨y, p, b.at_, h', t', true⟩ := set_self hq1
  refine ⟨_, _, _, e1, e2, e3, hq1, e4, hp2, hl2, ha2, e5, ?_, ⟨set_self hp2, rep_set hl2 pl _, rep_set ha2 pa _⟩, rep_set hb2 pb _, ?_⟩
  · rw [set_other (Ne.symm hne)]; exact hqN
  · unfold turnN
    rw [e1, show ((q : Int).toNat) = q by omega, Bool.not_true, e2, e3, e4, e5]
theorem turnR_steps {ns : List Nd} {p q : Nat} {a b r : Tr} {x y : It} {h t h' t' : Int} (hp : ns[p]? = some ⟨x, (q : Int), r.at_, h, t, true⟩) (hq : ns[q]? = some ⟨y, a.at_, b.at_, h', t', true⟩) (hr : rep ns r) (ha : rep ns a) (hb : rep ns b)
    (hne : p ≠ q) (pr : p ∉ r.places) (pa : p ∉ a.places) (pb : p ∉ b.places) (qr : q ∉ r.places) (qa : q ∉ a.places) (qb : q ∉ b.places) :
    ∃ n1 n2 n3, sideN ns p false = (q : Int) ∧ sideN ns q true = b.at_ ∧ hangN ns p false b.at_ = n1 ∧ n1[q]? = some ⟨y, a.at_, b.at_, h', t', true⟩ ∧ hangN n1 q true p = n2 ∧
      n2[p]? = some ⟨x, b.at_, r.at_, h, t, true⟩ ∧ rep n2 b ∧ rep n2 r ∧ sumN n2 p = n3 ∧ n3[q]? = some ⟨y, a.at_, (node p b x r).at_, h', t', true⟩ ∧ rep n3 a ∧ rep n3 (node p b x r) ∧ turnN ns p false = (sumN n3 q, (q : Int)) := by
  have e1 : sideN ns p false = (q : Int) := by simp [sideN, nodeN_some hp]
  have e2 : sideN ns q true = b.at_ := by simp [sideN, nodeN_some hq]
  have e3 : hangN ns p false b.at_ = ns.set p ⟨x, b.at_, r.at_, h, t, true⟩ := by simp [hangN, nodeN_some hp]
  have hq1 : (ns.set p ⟨x, b.at_, r.at_, h, t, true⟩)[q]? = some ⟨y, a.at_, b.at_, h', t', true⟩ := by rw [set_other (Ne.symm hne)]; exact hq
  have e4 : hangN (ns.set p ⟨x, b.at_, r.at_, h, t, true⟩) q true p = (ns.set p ⟨x, b.at_, r.at_, h, t, true⟩).set q ⟨y, a.at_, p, h', t', true⟩ := by simp [hangN, nodeN_some hq1]
  have hp2 : ((ns.set p ⟨x, b.at_, r.at_, h, t, true⟩).set q ⟨y, a.at_, p, h', t', true⟩)[p]? = some ⟨x, b.at_, r.at_, h, t, true⟩ := by rw [set_other hne, set_self hp]
  have e5 := sumN_eq hp2 (rep_set (rep_set hb pb _) qb _) (rep_set (rep_set hr pr _) qr _)
  have hr2 : rep ((ns.set p ⟨x, b.at_, r.at_, h, t, true⟩).set q ⟨y, a.at_, p, h', t', true⟩) r := rep_set (rep_set hr pr _) qr _
  have ha2 : rep ((ns.set p ⟨x, b.at_, r.at_, h, t, true⟩).set q ⟨y, a.at_, p, h', t', true⟩) a := rep_set (rep_set ha pa _) qa _
  have hb2 : rep ((ns.set p ⟨x, b.at_, r.at_, h, t, true⟩).set q ⟨y, a.at_, p, h', t', true⟩) b := rep_set (rep_set hb pb _) qb _
  have hqN : ((ns.set p ⟨x, b.at_, r.at_, h, t, true⟩).set q ⟨y, a.at_, p, h', t', true⟩)[q]? = some ⟨y, a.at_, p, h', t', true⟩ := set_self hq1
  refine ⟨_, _, _, e1, e2, e3, hq1, e4, hp2, hb2, hr2, e5, ?_, rep_set ha2 pa _, ⟨set_self hp2, rep_set hb2 pb _, rep_set hr2 pr _⟩, ?_⟩
  · rw [set_other (Ne.symm hne)]; exact hqN
  · unfold turnN
    rw [e1, show ((q : Int).toNat) = q by omega, Bool.not_false, e2, e3, e4, e5]
theorem rep_lk {ns : List Nd} {T : Tr} (h : rep ns T) : Lk ns T.at_ := by
  cases T with
  | nil => exact .inl rfl
  | node p l x r => exact .inr ⟨p, _, rfl, h.1⟩
theorem at_ne {T : Tr} {p : Nat} (h : p ∉ T.places) : T.at_ ≠ (p : Int) := by
  cases T with
  | nil => simp [at_]
  | node q l x r =>
    simp only [places, List.mem_cons, not_or] at h
    simp only [at_]
    omega
end Tr
open Tr
/-- what a call on a tree leaves -/
def TPost (w : World) (b : Nat) (nv fv : Value) (ns : List Nd) (fr : List Int) (root many : Int) (v : Value) (e : Ending) (w' : World) : Prop := e = .returned v ∧ TreeAt w' b nv fv ns fr root many ∧ Mod (blk nv) w w'
theorem sum_rep {w : World} {b : Nat} {nv fv : Value} {ns : List Nd} {fr : List Int} {root many : Int} (h : TreeAt w b nv fv ns fr root many) {p : Nat} {l r : Tr} {x : It} {hh t : Int} (hp : ns[p]? = some ⟨x, l.at_, r.at_, hh, t, true⟩) (hl : rep ns l) (hr : rep ns r) (pl : p ∉ l.places) (pr : p ∉ r.places) (bl : l.ht ≤ 1000) (br : r.ht ≤ 1000) :
    Calls Tryz.prog 87 #[.pointer (some ⟨b, 0, none⟩), .int .i64 p] w (TPost w b nv fv (sumN ns p) fr root many (.tuple #[])) :=
  sum_at h hp (rep_lk hl) (rep_lk hr) (at_ne pl) (at_ne pr) (by rw [htN_rep hl]; exact ht_nonneg l) (by rw [htN_rep hl]; exact bl) (by rw [htN_rep hr]; exact ht_nonneg r) (by rw [htN_rep hr]; exact br)
set_option maxHeartbeats 2000000 in
theorem turnL_at {w : World} {b0 : Nat} {nv fv : Value} {ns : List Nd} {fr : List Int} {root many : Int} (h0 : TreeAt w b0 nv fv ns fr root many) {p q : Nat} {l a b : Tr} {x y : It} {h t h' t' : Int} (hp : ns[p]? = some ⟨x, l.at_, (q : Int), h, t, true⟩) (hq : ns[q]? = some ⟨y, a.at_, b.at_, h', t', true⟩) (hl : rep ns l) (ha : rep ns a) (hb : rep ns b)
    (hne : p ≠ q) (pl : p ∉ l.places) (pa : p ∉ a.places) (pb : p ∉ b.places) (ql : q ∉ l.places) (qa : q ∉ a.places) (qb : q ∉ b.places) (bl : l.ht ≤ 900) (ba : a.ht ≤ 900) (bb : b.ht ≤ 900) :
    Calls Tryz.prog 94 #[.pointer (some ⟨b0, 0, none⟩), .int .i64 p, .bool true] w (TPost w b0 nv fv (turnN ns p true).1 fr root many (.int .i64 (turnN ns p true).2)) := by
  obtain ⟨n1, n2, n3, e1, e2, e3, hq1, e4, hp2, hl2, ha2, e5, hq3, hP, hb3, eT⟩ := turnL_steps hp hq hl ha hb hne pl pa pb ql qa qb
  have C1 := Lib.hid (side_at h0 hp true)
  have C2 := Lib.hid (side_at h0 hq false)
  have C3 := Lib.hid (hang_at h0 hp true a.at_)
  rw [e1] at C1
  rw [e2] at C2
  rw [e3] at C3
  have HQ1 := Lib.hid hq1
  have E4 := Lib.hid e4
  have S1 := Lib.hid (fun (W : World) (T2 : TreeAt W b0 nv fv n2 fr root many) => sum_rep T2 hp2 hl2 ha2 pl pa (by omega) (by omega))
  have S2 := Lib.hid (fun (W : World) (T3 : TreeAt W b0 nv fv n3 fr root many) => sum_rep T3 hq3 hP hb3 (by simp [places, Ne.symm hne, ql, qa]) qb (by simp only [ht]; omega) (by omega))
  rw [e5] at S1
  rw [eT]
  unfold TPost at S1 S2 ⊢
  dsimp only
  clear hp hq hl ha hb hl2 ha2 hP hb3 e1 e2 e3 hq1 e4 hp2 e5 hq3 eT h0
  go_enter Tryz.func94, Tryz.ntmps94
  go_wp2_with fail
  refine C1.out.mono ?_
  rintro e w1 ⟨rfl, rfl⟩
  go_wp2_with fail
  refine C2.out.mono ?_
  rintro e w1 ⟨rfl, rfl⟩
  go_wp2_with fail
  refine C3.out.mono ?_
  rintro e w2 ⟨rfl, T1, m1⟩
  have C4 := Lib.hid (hang_at T1 HQ1.out false (p : Int))
  rw [E4.out] at C4
  clear T1
  go_wp2_with fail
  refine C4.out.mono ?_
  rintro e w3 ⟨rfl, T2, m2⟩
  have C5 := Lib.hid (S1.out _ T2)
  clear T2
  go_wp2_with fail
  refine C5.out.mono ?_
  rintro e w4 ⟨rfl, T3, m3⟩
  have C6 := Lib.hid (S2.out _ T3)
  clear T3
  go_wp2_with fail
  refine C6.out.mono ?_
  rintro e w5 ⟨rfl, T4, m4⟩
  have HT := Lib.hid T4
  have HM := Lib.hid (((m1.trans m2).trans m3).trans m4)
  clear T4 m1 m2 m3 m4
  go_wp2_with fail
  go_ret
  exact ⟨rfl, HT.out, HM.out⟩
set_option maxHeartbeats 2000000 in
theorem turnR_at {w : World} {b0 : Nat} {nv fv : Value} {ns : List Nd} {fr : List Int} {root many : Int} (h0 : TreeAt w b0 nv fv ns fr root many) {p q : Nat} {a b r : Tr} {x y : It} {h t h' t' : Int} (hp : ns[p]? = some ⟨x, (q : Int), r.at_, h, t, true⟩) (hq : ns[q]? = some ⟨y, a.at_, b.at_, h', t', true⟩) (hr : rep ns r) (ha : rep ns a) (hb : rep ns b)
    (hne : p ≠ q) (pr : p ∉ r.places) (pa : p ∉ a.places) (pb : p ∉ b.places) (qr : q ∉ r.places) (qa : q ∉ a.places) (qb : q ∉ b.places) (br : r.ht ≤ 900) (ba : a.ht ≤ 900) (bb : b.ht ≤ 900) :
    Calls Tryz.prog 94 #[.pointer (some ⟨b0, 0, none⟩), .int .i64 p, .bool false] w (TPost w b0 nv fv (turnN ns p false).1 fr root many (.int .i64 (turnN ns p false).2)) := by
  obtain ⟨n1, n2, n3, e1, e2, e3, hq1, e4, hp2, hb2, hr2, e5, hq3, ha3, hP, eT⟩ := turnR_steps hp hq hr ha hb hne pr pa pb qr qa qb
  have C1 := Lib.hid (side_at h0 hp false)
  have C2 := Lib.hid (side_at h0 hq true)
  have C3 := Lib.hid (hang_at h0 hp false b.at_)
  rw [e1] at C1
  rw [e2] at C2
  rw [e3] at C3
  have HQ1 := Lib.hid hq1
  have E4 := Lib.hid e4
  have S1 := Lib.hid (fun (W : World) (T2 : TreeAt W b0 nv fv n2 fr root many) => sum_rep T2 hp2 hb2 hr2 pb pr (by omega) (by omega))
  have S2 := Lib.hid (fun (W : World) (T3 : TreeAt W b0 nv fv n3 fr root many) => sum_rep T3 hq3 ha3 hP qa (by simp [places, Ne.symm hne, qr, qb]) (by omega) (by simp only [ht]; omega))
  rw [e5] at S1
  rw [eT]
  unfold TPost at S1 S2 ⊢
  dsimp only
  clear hp hq hr ha hb hb2 hr2 ha3 hP e1 e2 e3 hq1 e4 hp2 e5 hq3 eT h0
  go_enter Tryz.func94, Tryz.ntmps94
  go_wp2_with fail
  refine C1.out.mono ?_
  rintro e w1 ⟨rfl, rfl⟩
  go_wp2_with fail
  refine C2.out.mono ?_
  rintro e w1 ⟨rfl, rfl⟩
  go_wp2_with fail
  refine C3.out.mono ?_
  rintro e w2 ⟨rfl, T1, m1⟩
  have C4 := Lib.hid (hang_at T1 HQ1.out true (p : Int))
  rw [E4.out] at C4
  clear T1
  go_wp2_with fail
  refine C4.out.mono ?_
  rintro e w3 ⟨rfl, T2, m2⟩
  have C5 := Lib.hid (S1.out _ T2)
  clear T2
  go_wp2_with fail
  refine C5.out.mono ?_
  rintro e w4 ⟨rfl, T3, m3⟩
  have C6 := Lib.hid (S2.out _ T3)
  clear T3
  go_wp2_with fail
  refine C6.out.mono ?_
  rintro e w5 ⟨rfl, T4, m4⟩
  have HT := Lib.hid T4
  have HM := Lib.hid (((m1.trans m2).trans m3).trans m4)
  clear T4 m1 m2 m3 m4
  go_wp2_with fail
  go_ret
  exact ⟨rfl, HT.out, HM.out⟩
theorem toLeft_at {w w0 : World} {b0 p : Nat} {nv fv : Value} {ns : List Nd} {fr : List Int} {root many i : Int} (h : Calls Tryz.prog 94 #[.pointer (some ⟨b0, 0, none⟩), .int .i64 p, .bool true] w (TPost w0 b0 nv fv ns fr root many (.int .i64 i))) :
    Calls Tryz.prog 90 #[.pointer (some ⟨b0, 0, none⟩), .int .i64 p] w (TPost w0 b0 nv fv ns fr root many (.int .i64 i)) := by
  unfold TPost at h ⊢
  have H := Lib.hid h
  clear h
  go_enter Tryz.func90, Tryz.ntmps90
  go_wp2_with fail
  refine H.out.mono ?_
  rintro e w1 ⟨rfl, hk⟩
  have HK := Lib.hid hk
  clear hk
  go_wp2_with fail
  go_ret
  exact ⟨rfl, HK.out⟩
theorem toRight_at {w w0 : World} {b0 p : Nat} {nv fv : Value} {ns : List Nd} {fr : List Int} {root many i : Int} (h : Calls Tryz.prog 94 #[.pointer (some ⟨b0, 0, none⟩), .int .i64 p, .bool false] w (TPost w0 b0 nv fv ns fr root many (.int .i64 i))) :
    Calls Tryz.prog 89 #[.pointer (some ⟨b0, 0, none⟩), .int .i64 p] w (TPost w0 b0 nv fv ns fr root many (.int .i64 i)) := by
  unfold TPost at h ⊢
  have H := Lib.hid h
  clear h
  go_enter Tryz.func89, Tryz.ntmps89
  go_wp2_with fail
  refine H.out.mono ?_
  rintro e w1 ⟨rfl, hk⟩
  have HK := Lib.hid hk
  clear hk
  go_wp2_with fail
  go_ret
  exact ⟨rfl, HK.out⟩
end Go.Proofs.YtngglpekdjhbdaaGreat
namespace Go.Proofs.YtngglpekdjhbdaaGreat
open Go.RowKit Go.ChangeMaps Go.Deep Tr
set_option linter.unusedSimpArgs false
set_option linter.unusedVariables false
set_option maxRecDepth 20000

/-- the node's own sums, and how it leans -/
structure Lean (ns : List Nd) (p : Nat) (l : Tr) (x : It) (r : Tr) : Prop where
  nd : (sumN ns p)[p]? = some (nd l x r)
  l : rep (sumN ns p) l
  r : rep (sumN ns p) r
theorem lean_of {ns : List Nd} {p : Nat} {l r : Tr} {x : It} {h t : Int} (hp : ns[p]? = some ⟨x, l.at_, r.at_, h, t, true⟩) (hl : rep ns l) (hr : rep ns r) (pl : p ∉ l.places) (pr : p ∉ r.places) : Lean ns p l x r := by
  have e1 := sumN_eq hp hl hr
  refine ⟨?_, ?_, ?_⟩
  · rw [e1]; exact set_self hp
  · rw [e1]; exact rep_set hl pl _
  · rw [e1]; exact rep_set hr pr _
theorem Lean.side {ns : List Nd} {p : Nat} {l r : Tr} {x : It} (h : Lean ns p l x r) (d : Bool) : sideN (sumN ns p) p d = if d = true then r.at_ else l.at_ := by
  cases d <;> simp [sideN, nodeN_some h.nd, Tr.nd]
theorem Lean.eq {ns : List Nd} {p : Nat} {l r : Tr} {x : It} (h : Lean ns p l x r) : leanN (sumN ns p) p = r.ht - l.ht := by
  unfold leanN; rw [h.side, h.side, if_pos rfl, if_neg (by simp), htN_rep h.r, htN_rep h.l]
set_option maxHeartbeats 4000000 in
theorem mended_even {w : World} {b0 : Nat} {nv fv : Value} {ns : List Nd} {fr : List Int} {root many : Int} (h0 : TreeAt w b0 nv fv ns fr root many) {p : Nat} {l r : Tr} {x : It} {h t : Int} (hp : ns[p]? = some ⟨x, l.at_, r.at_, h, t, true⟩) (hl : rep ns l) (hr : rep ns r) (pl : p ∉ l.places) (pr : p ∉ r.places) (bl : l.ht ≤ 800) (br : r.ht ≤ 800)
    (hb1 : -1 ≤ r.ht - l.ht) (hb2 : r.ht - l.ht ≤ 1) :
    Calls Tryz.prog 80 #[.pointer (some ⟨b0, 0, none⟩), .int .i64 p] w (TPost w b0 nv fv (mendedN ns p).1 fr root many (.int .i64 (mendedN ns p).2)) := by
  have hs := Lib.hid (sum_rep h0 hp hl hr pl pr (by omega) (by omega))
  have HLN := lean_of hp hl hr pl pr
  have eM : mendedN ns p = (sumN ns p, (p : Int)) := by
    unfold mendedN
    simp only [HLN.eq]
    rw [if_pos ⟨hb1, hb2⟩]
  rw [eM]
  have C1 := Lib.hid (fun (W : World) (T : TreeAt W b0 nv fv (sumN ns p) fr root many) => height_lk T (rep_lk HLN.l))
  have C2 := Lib.hid (fun (W : World) (T : TreeAt W b0 nv fv (sumN ns p) fr root many) => height_lk T (rep_lk HLN.r))
  rw [htN_rep HLN.l] at C1
  rw [htN_rep HLN.r] at C2
  have hnd := HLN.nd
  have hlt := (List.getElem?_eq_some_iff.1 hnd).1
  have hL0 := ht_nonneg l
  have hR0 := ht_nonneg r
  have HND := Lib.hid hnd
  unfold TPost at hs ⊢
  dsimp only
  unfold Tr.nd at HND
  generalize l.ht = L at *
  generalize r.ht = R at *
  generalize l.at_ = li at *
  generalize r.at_ = ri at *
  clear h0 hp hl hr pl pr HLN eM hnd
  generalize sumN ns p = N at *
  go_enter Tryz.func80, Tryz.ntmps80
  go_wp2_with fail
  refine hs.out.mono ?_
  rintro e w1 ⟨rfl, T1, m1⟩
  obtain ⟨g, cap, rfl, hg, hcap⟩ := T1.row.at_ HND.out
  have c1 := cell_blk T1.blk 1
  simp only [List.getElem?_toArray, List.getElem?_cons_succ, List.getElem?_cons_zero] at c1
  have c3 := (nd_cells T1.row HND.out 3 _ rfl).1
  have c4 := (nd_cells T1.row HND.out 4 _ rfl).1
  have T2 := T1.kept0 ((Mod.refl [] w1).drew)
  have D1 := Lib.hid (C1.out _ T2)
  have D2 := Lib.hid (C2.out _ T2)
  have HT := Lib.hid T2
  have HM := Lib.hid m1.drew
  clear T1 m1 T2 hs
  go_wp2_with fail
  refine wp_plan [([0, 1, 5, 11, 12, 16, 2, 13, 3, 14, 4, 15, 6, 17, 7, 18, 8, 19, 9, 20], 10, [13, 14, 15, 17, 18, 19, 20]), ([], 21, [])] [22, 23] (by kernel_rfl) (by kernel_rfl) ?_
  simp only [wpSegs, opsOf, List.map_cons, List.map_nil, opN, List.getD_cons_zero, List.getD_cons_succ]
  go_wp2_with fail
  refine ⟨by first | trivial | rfl, ?_⟩
  go_wp2_with fail
  refine D2.out.mono ?_
  rintro e w2 ⟨rfl, rfl⟩
  go_wp2_with fail
  refine ⟨?agA, ?_⟩
  case agA =>
    intro i hi hw
    simp only [List.mem_cons, List.not_mem_nil, or_false] at hi
    rcases hi with rfl | rfl | rfl | rfl | rfl | rfl | rfl
    all_goals (simp only [opN, List.getD_cons_zero, List.getD_cons_succ, slotOf]; go_simp)
  go_wp2_with fail
  refine ⟨by first | trivial | rfl, ?_⟩
  go_wp2_with fail
  refine D1.out.mono ?_
  rintro e w2 ⟨rfl, rfl⟩
  go_wp2_with fail
  refine ⟨again_nil, ?_⟩
  go_wp2_with fail
  refine ⟨by first | trivial | rfl, ?_⟩
  go_wp2_with fail
  go_ret
  exact ⟨rfl, HT.out, HM.out⟩
end Go.Proofs.YtngglpekdjhbdaaGreat
