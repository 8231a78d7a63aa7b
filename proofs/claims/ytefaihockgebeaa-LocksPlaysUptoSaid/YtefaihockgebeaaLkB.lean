/- Locks: fails, an iterator over runs; the closure that takes the least. -/
import Derived.RangeFuncNested
import Derived.RangeFuncBound
import Derived.RangeFuncCalls
import Derived.RangeFuncLeaves
import Derived.Shelf.Abstract
import Derived.Shelf.RegionOpen
import Derived.WalkKit
import Derived.OwnWalkIn
import Derived.TacticsInMore
import Derived.LoopNIn
import Derived.LoopIn
import Derived.Test.YtefaihockgebeaaLkA
namespace Go.Proofs.Ytefaihockgebeaa
open Go.RowKit Go.ChangeMaps Go.Deep
set_option linter.unusedSimpArgs false
set_option linter.unusedVariables false
set_option maxRecDepth 20000
attribute [local go_sem] Oper.semAt_some

def encF (x : Int × Int) : Value := .agg #[.int .i64 x.1, .int .i64 x.2]
/-- each rule's first day on which it fails -/
def failsL (f t : Int) : List Rn → List (Int × Int)
  | [] => []
  | r :: rs => (if firstG r.segs f < t then [(firstG r.segs f, r.rule)] else []) ++ failsL f t rs
theorem failsL_append (f t : Int) (a b : List Rn) : failsL f t (a ++ b) = failsL f t a ++ failsL f t b := by
  induction a with
  | nil => rfl
  | cons x a ih => rw [List.cons_append, failsL, failsL, ih, List.append_assoc]
theorem failsL_len (f t : Int) (rs : List Rn) : (failsL f t rs).length ≤ rs.length := by
  induction rs with
  | nil => exact Nat.le_refl _
  | cons x a ih =>
    rw [failsL, List.length_append, List.length_cons]
    split <;> simp <;> omega
theorem Mod.grown {w w' : World} (h : Mod [] w w') : w.grownBy w' none := ⟨h.os, h.tape, h.output, h.size, fun k hk _ => h.block k hk (by simp)⟩
theorem Mod.low {w w' : World} (h : Mod [] w w') : Below w.heap.size w w' := ⟨h.os, h.tape, h.output, h.size, fun k hk => h.block k hk (by simp)⟩
theorem Mod.ofBelow {w w' : World} (h : Below w.heap.size w w') : Mod [] w w' := ⟨h.os, h.tape, h.output, h.size, fun k hk _ => h.block k hk⟩
set_option maxHeartbeats 4000000 in
theorem fails1_in (n : Nat) (hn : 1 ≤ n) (l Br Bd : Nat) (f t : Int) (v : Value) (us : List (Int × Value)) (rs : List Rn) (w0 : World) (hr : RunsAt w0 v us rs) (hlen : rs.length ≤ 140737488355328) (hsl : ∀ r ∈ rs, r.segs.length ≤ 140737488355328) (J Jx : List (Int × Int) → World → Prop) (W : World)
    (hY : ∀ pre x W, J pre W → pre.length < rs.length → YieldAt Fence.wide (n - 1) Try.prog l #[encF x] W fun e W' =>
      (e = .returned (.bool true) ∧ J (pre ++ [x]) W' ∧ (Below w0.heap.size W W' ∧ W'.heap[Bd]? = W.heap[Bd]?)) ∨ (e = .returned (.bool false) ∧ Jx (pre ++ [x]) W'))
    (hJ' : AbidesFrom W.heap.size J) (hW : Mod [] w0 W) (hBr : W.heap[Br]? = some (.cells #[v] 65 (0, 0))) (hBd : W.heap[Bd]? = some (.cells #[.int .i64 f, .int .i64 t] 64 (0, 0))) (h0 : J [] W) :
    CallsIn Fence.wide n Try.prog 104 #[.func (.yield l) #[] #[], .pointer (some ⟨Br, 0, none⟩), .pointer (some ⟨Bd, 0, none⟩)] W fun e W' => (∃ v, e = .returned v) ∧
      ((∃ ys, ys = failsL f t rs ∧ J ys W') ∨ (∃ pre, True ∧ Jx pre W')) := by
  obtain ⟨a, c, rfl⟩ := hr.form
  have cr := cell_blk hBr 0
  simp only [List.getElem?_toArray, List.getElem?_cons_zero] at cr
  have HR := Lib.hid hr
  have HSL := Lib.hid hsl
  have HW := Lib.hid hW
  have HBd := Lib.hid hBd
  clear hr hsl hW hBd hBr
  refine callsIn_of_wp Try.func104 rfl trivial ?_ rfl
  simp only [Try.ntmps104, List.size_toArray, List.length_cons, List.length_nil, Nat.reduceAdd, Nat.reduceSub, Array.replicate_succ, Array.replicate_zero, List.push_toArray, List.append_toArray, List.nil_append, List.cons_append]
  gi_wp2
  gi_loopw [10] (fun s10 wr => ∃ i : Nat, i ≤ rs.length ∧ s10 = .int .i64 i ∧ Hid (J (failsL f t (rs.take i)) wr) ∧ Hid (Mod [] w0 wr) ∧ Hid (wr.heap[Bd]? = some (.cells #[.int .i64 f, .int .i64 t] 64 (0, 0)))) (fun s10 _ => rs.length - (intOf s10).toNat)
  case atStart => exact ⟨0, by omega, rfl, Lib.hid h0, HW, HBd⟩
  case round =>
    obtain ⟨i, hi, rfl, hJw, hM, hBw⟩ := hrel
    by_cases hlt : i < rs.length
    · obtain ⟨b, o, s, rfl, he, hc, e0, e1, hs⟩ := (HR.out.kept0 hM.out).get hlt
      obtain ⟨sa, sc, rfl⟩ := hs.form
      have hlr : rs[i].segs.length ≤ 140737488355328 := HSL.out _ (List.getElem_mem hlt)
      have hT : rs.take (i + 1) = rs.take i ++ [rs[i]] := List.take_succ_eq_append_getElem hlt
      have hpl : (failsL f t (rs.take i)).length < rs.length := by
        have := failsL_len f t (rs.take i)
        rw [List.length_take] at this
        omega
      have HPL := Lib.hid hpl
      have HF := Lib.hid (show failsL f t (rs.take (i + 1)) = failsL f t (rs.take i) ++ (if firstG rs[i].segs f < t then [(firstG rs[i].segs f, rs[i].rule)] else []) by
        rw [hT, failsL_append, failsL, failsL, List.append_nil])
      clear hT hpl
      generalize rs[i] = r at e0 e1 hs hlr HF
      obtain ⟨rule, segs⟩ := r
      dsimp only at e0 e1 hs hlr HF
      have HC := Lib.hid (lkFirst_any f t rule (.slice sa segs.length sc) segs (wr.alloc (.cells #[.int .i64 rule, .slice sa segs.length sc] 80)) (hs.kept0 ((Mod.refl [] wr).alloc _)) hlr)
      have hma := (Mod.refl [] wr).alloc (.cells #[.int .i64 rule, .slice sa segs.length sc] 80)
      have hbd := hma.heap hBw.out (by simp)
      have d0 := cell_blk hbd 0
      have d1 := cell_blk hbd 1
      simp only [List.getElem?_toArray, List.getElem?_cons_succ, List.getElem?_cons_zero] at d0 d1
      have HBA := Lib.hid hbd
      have HMA := Lib.hid hma
      have HNB := Lib.hid (heap_alloc_new wr (.cells #[.int .i64 rule, .slice sa segs.length sc] 80))
      clear hs hma hbd
      gi_wp2_with fail
      refine ⟨trivial, (callsIn_wide.2 HC.out).mono ?_⟩
      rintro e w2 ⟨rfl, m2⟩
      have hm2 := HMA.out.trans m2
      have hj2 := hJ' _ _ _ _ hJw.out hm2.grown (by simp)
      have HB2 := Lib.hid (m2.heap HBA.out (by simp))
      have hn2 := m2.heap HNB.out (by simp)
      have q0 := cell_blk hn2 0
      simp only [List.getElem?_toArray, List.getElem?_cons_zero] at q0
      have HM2 := Lib.hid (hM.out.trans hm2)
      clear HC hn2 hm2 m2 HBA HMA HNB d0 d1
      generalize firstG segs f = d at HF
      by_cases h1 : d < t
      · rw [if_pos h1] at HF
        obtain ⟨fn, tmps, assign, body, hy, hR⟩ := hY _ (d, rule) w2 hj2 HPL.out
        dsimp only [encF] at hy
        gi_wp2
        refine hR.mono ?_
        rintro e W3 (⟨rfl, hJ3, hk3, hbd3⟩ | ⟨rfl, hJx3⟩)
        · gi_wp2
          go_roundw
          case rel => exact ⟨i + 1, by omega, by go_num, Lib.hid (by rw [HF.out]; exact hJ3), Lib.hid (Mod.ofBelow (HM2.out.low.trans hk3)), Lib.hid (hbd3.trans HB2.out)⟩
          case measure => simp [intOf]; omega
        · gi_wp2
          refine bodyPost_ret (results_none rfl _ _ _) rfl ?_
          exact ⟨⟨_, rfl⟩, .inr ⟨_, trivial, hJx3⟩⟩
      · rw [if_neg h1, List.append_nil] at HF
        gi_wp2
        refine ⟨fun _ h => (by cases h), ?_⟩
        gi_wp2
        go_roundw
        case rel => exact ⟨i + 1, by omega, by go_num, Lib.hid (by rw [HF.out]; exact hj2), HM2, HB2⟩
        case measure => simp [intOf]; omega
    · have HE := Lib.hid (show failsL f t (rs.take i) = failsL f t rs by rw [List.take_of_length_le (by omega)])
      gi_wp2_with fail
      go_end0
      exact ⟨⟨_, rfl⟩, .inl ⟨_, rfl, by rw [← HE.out]; exact hJw.out⟩⟩
/-! ### the closure that takes the least -/
def takeO (o : Option (Int × Int)) (x : Int × Int) : Option (Int × Int) :=
  match o with
  | none => some x
  | some y => if x.1 < y.1 then some x else some y
structure TakeAt (w : World) (Bf Bl : Nat) (o : Option (Int × Int)) : Prop where
  f : w.heap[Bf]? = some (.cells #[.bool o.isSome] 4 (0, 0))
  l : w.heap[Bl]? = some (.cells #[.int .i64 (o.getD (0, 0)).1, .int .i64 (o.getD (0, 0)).2] 75 (0, 0))
theorem takeAt_set {W : World} {Bf Bl : Nat} {o : Option (Int × Int)} (h : TakeAt W Bf Bl o) (hne : Bf ≠ Bl) (x1 x2 : Int) :
    TakeAt (((W.setCell ⟨Bl, 0, none⟩ (.int .i64 x1)).setCell ⟨Bl, 1, none⟩ (.int .i64 x2)).setCell ⟨Bf, 0, none⟩ (.bool true)) Bf Bl (some (x1, x2)) := by
  have h1 := heap_setCell_blk h.l 0 (.int .i64 x1)
  have h2 := heap_setCell_blk h1 1 (.int .i64 x2)
  have h3 : ((W.setCell ⟨Bl, 0, none⟩ (.int .i64 x1)).setCell ⟨Bl, 1, none⟩ (.int .i64 x2)).heap[Bf]? = some (.cells #[.bool o.isSome] 4 (0, 0)) := by
    rw [heap_setCell_ne _ _ _ (by exact hne), heap_setCell_ne _ _ _ (by exact hne)]
    exact h.f
  refine ⟨by have := heap_setCell_blk h3 0 (.bool true); simpa using this, ?_⟩
  rw [heap_setCell_ne _ _ _ (by exact fun e => hne e.symm)]
  simpa using h2
theorem lkTake_any (x : Int × Int) (Bf Bl : Nat) (o : Option (Int × Int)) (w : World) (h : TakeAt w Bf Bl o) (hne : Bf ≠ Bl) :
    Calls Try.prog 83 #[encF x, .pointer (some ⟨Bf, 0, none⟩), .pointer (some ⟨Bl, 0, none⟩)] w fun e w' => (∃ v, e = .returned v) ∧ TakeAt w' Bf Bl (takeO o x) ∧ Mod [Bf, Bl] w w' := by
  obtain ⟨x1, x2⟩ := x
  unfold encF
  dsimp only
  have hm := (Mod.refl [] w).alloc (.cells #[.int .i64 x1, .int .i64 x2] 75)
  have hf1 := hm.heap h.f (by simp)
  have hl1 := hm.heap h.l (by simp)
  have p0 := cell_blk hf1 0
  have p1 := frozen_blk hf1 0
  have q0 := cell_blk hl1 0
  have q1 := cell_blk hl1 1
  have q2 := frozen_blk hl1 0
  have q3 := frozen_blk hl1 1
  simp only [List.getElem?_toArray, List.getElem?_cons_succ, List.getElem?_cons_zero] at p0 q0 q1
  have HF1 := Lib.hid hf1
  have HL1 := Lib.hid hl1
  have HM := Lib.hid hm
  clear h hf1 hl1 hm
  have HT := Lib.hid (takeAt_set (W := w.alloc (.cells #[.int .i64 x1, .int .i64 x2] 75)) ⟨HF1.out, HL1.out⟩ hne x1 x2)
  have HMS := Lib.hid (show Mod [Bf, Bl] w ((((w.alloc (.cells #[.int .i64 x1, .int .i64 x2] 75)).setCell ⟨Bl, 0, none⟩ (.int .i64 x1)).setCell ⟨Bl, 1, none⟩ (.int .i64 x2)).setCell ⟨Bf, 0, none⟩ (.bool true)) from
    (((HM.out.nil (l := [Bf, Bl])).setCell (p := ⟨Bl, 0, none⟩) (by simp) _).setCell (p := ⟨Bl, 1, none⟩) (by simp) _).setCell (p := ⟨Bf, 0, none⟩) (by simp) _)
  cases o with
  | none =>
    simp only [Option.isSome_none, Option.getD_none] at p0 q0 q1
    go_enter Try.func83, Try.ntmps83
    go_wp2_with fail
    go_end0
    exact ⟨⟨_, rfl⟩, HT.out, HMS.out⟩
  | some y =>
    obtain ⟨y1, y2⟩ := y
    simp only [Option.isSome_some, Option.getD_some] at p0 q0 q1
    by_cases hlt : x1 < y1
    · have HR := Lib.hid (show takeO (some (y1, y2)) (x1, x2) = some (x1, x2) by simp [takeO, hlt])
      go_enter Try.func83, Try.ntmps83
      go_wp2_with fail
      go_end0
      exact ⟨⟨_, rfl⟩, by rw [HR.out]; exact HT.out, HMS.out⟩
    · have HR := Lib.hid (show takeO (some (y1, y2)) (x1, x2) = some (y1, y2) by simp [takeO, hlt])
      go_enter Try.func83, Try.ntmps83
      go_wp2_with fail
      go_end0
      exact ⟨⟨_, rfl⟩, by rw [HR.out]; exact ⟨HF1.out, HL1.out⟩, HM.out.nil⟩
theorem lkFails_any (f t : Int) (v : Value) (w : World) (hv : ∃ a n c, v = .slice a n c) :
    Calls Try.prog 84 #[.agg #[.int .i64 f, .int .i64 t], v] w fun e w' =>
      e = .returned (.func (.func 104) #[] #[.pointer (some ⟨w.heap.size + 1, 0, none⟩), .pointer (some ⟨w.heap.size, 0, none⟩)]) ∧ w' = (w.alloc (.cells #[.int .i64 f, .int .i64 t] 64)).alloc (.cells #[v] 65) := by
  obtain ⟨a, n, c, rfl⟩ := hv
  go_enter Try.func84, Try.ntmps84
  go_wp2_with fail
  go_ret
  exact ⟨rfl, rfl⟩
end Go.Proofs.Ytefaihockgebeaa
