/- Locks: Submit. -/
import Derived.Laws.EntriesVeiled
import Derived.Test.YtefaihockgebeaaLkB
import Derived.Test.YtefaihockgebeaaLkC
namespace Go.Proofs.Ytefaihockgebeaa
open Go.RowKit Go.ChangeMaps Go.Deep
set_option linter.unusedSimpArgs false
set_option linter.unusedVariables false
set_option maxRecDepth 20000
attribute [local go_sem] Oper.semAt_some

def KpL (m Bd : Nat) (W W' : World) : Prop := Below m W W' ∧ W'.heap[Bd]? = W.heap[Bd]?
theorem fails_stops (n : Nat) (hn : 1 ≤ n) (Br Bd : Nat) (f t : Int) (v : Value) (us : List (Int × Value)) (rs : List Rn) (w0 w : World) (hr : RunsAt w0 v us rs) (hlen : rs.length ≤ 140737488355328) (hsl : ∀ r ∈ rs, r.segs.length ≤ 140737488355328)
    (hW : Mod [] w0 w) (hBr : w.heap[Br]? = some (.cells #[v] 65 (0, 0))) (hBd : w.heap[Bd]? = some (.cells #[.int .i64 f, .int .i64 t] 64 (0, 0))) :
    SeqStopsK Fence.wide n Try.prog 104 #[.pointer (some ⟨Br, 0, none⟩), .pointer (some ⟨Bd, 0, none⟩)] (fun x => #[encF x]) (KpL w0.heap.size Bd) (fun ys => ys = failsL f t rs) (fun _ => True) rs.length w :=
  fun l J Jx W hw hJ hJx hY h0 => fails1_in n hn l Br Bd f t v us rs w0 hr hlen hsl J Jx W hY hJ (hW.trans (Mod.ofBelow hw)) ((hw.block _ (lt_of_heap hBr)).trans hBr) ((hw.block _ (lt_of_heap hBd)).trans hBd) h0
theorem KpL.t {m Bd : Nat} {A B C : World} (h : KpL m Bd A B) (k : KpL m Bd B C) : KpL m Bd A C := ⟨h.1.trans k.1, k.2.trans h.2⟩
theorem KpL.b {m Bd : Nat} {w : World} (hm : m ≤ w.heap.size) (hb : Bd < w.heap.size) (W : World) (l : Nat) (o o' : Obj) (hl : w.heap.size ≤ l) (h : W.heap[l]? = some o) (h1 : o.isCells = false) (h2 : o.isWalk = false) : KpL m Bd W (W.putObj l o') :=
  ⟨belowK_b hm W l o o' hl h h1 h2, World.putObj_heap_other (by omega)⟩
theorem TakeAt.own {Bf Bl B : Nat} (hf : Bf < B) (hl : Bl < B) (g : List (Int × Int) → Option (Int × Int)) : OwnFrom B (fun pre W => TakeAt W Bf Bl (g pre)) := fun s W W' row hs hg hr =>
  ⟨(hg.block _ (lt_of_heap hs.f) (fun e => by have := (hr _ e.symm).1; omega)).trans hs.f, (hg.block _ (lt_of_heap hs.l) (fun e => by have := (hr _ e.symm).1; omega)).trans hs.l⟩
theorem Mod.own {ks : List Nat} {W0 : World} {B : Nat} (hB : W0.heap.size ≤ B) : OwnFrom B (fun (_ : List (Int × Int)) W => Mod ks W0 W) := fun s W W' row hs hg hr =>
  ⟨hg.os.trans hs.os, hg.tape.trans hs.tape, hg.output.trans hs.output, Nat.le_trans hs.size hg.size, fun k hk hn => (hg.block k (Nat.lt_of_lt_of_le hk hs.size) (fun e => by have := (hr _ e.symm).1; omega)).trans (hs.block k hk hn)⟩
theorem alloc_named (w : World) (o : Obj) : ∃ A, w.alloc o = A ∧ A.heap[w.heap.size]? = some o ∧ A.heap.size = w.heap.size + 1 ∧ Mod [] w A :=
  ⟨_, rfl, heap_alloc_new w o, by simp, (Mod.refl [] w).alloc o⟩
theorem Mod.putObjNew {ks : List Nat} {w W : World} (h : Mod ks w W) {D : Nat} (hD : w.heap.size ≤ D) (o : Obj) : Mod ks w (W.putObj D o) :=
  ⟨h.os, h.tape, h.output, by simpa using h.size, fun k hk hn => (World.putObj_heap_other (by omega)).trans (h.block k hk hn)⟩
def leastL (l : List (Int × Int)) : Option (Int × Int) := l.foldl takeO none
theorem leastL_snoc (l : List (Int × Int)) (x : Int × Int) : leastL (l ++ [x]) = takeO (leastL l) x := by simp [leastL]
set_option maxHeartbeats 4000000 in
theorem lkSubmit_go (B : Nat) (f t : Int) (v sv : Value) (A : List Sp) (us : List (Int × Value)) (rs : List Rn) (w : World) (hB : w.heap[B]? = some (.cells #[sv] 119 (0, 0))) (hA : SpansAt w sv A) (hlA : A.length ≤ 100000)
    (hr : RunsAt w v us rs) (hlen : rs.length ≤ 140737488355328) (hsl : ∀ r ∈ rs, r.segs.length ≤ 140737488355328) (hmay : mayD f t = true) (hris : runsOk none rs = true) :
    Calls Try.prog 50 #[.pointer (some ⟨B, 0, none⟩), .agg #[.int .i64 f, .int .i64 t], v] w fun e w' =>
      (∃ x, leastL (failsL f t rs) = some x ∧ e = .returned (.tuple #[encF x, .bool false, .int .i64 0]) ∧ Mod [] w w') ∨
      (leastL (failsL f t rs) = none ∧ e = .returned (.tuple #[encF (0, 0), .bool true, .int .i64 0]) ∧ Mod [B] w w' ∧ ∃ sv' out, w'.heap[B]? = some (.cells #[sv'] 119 (0, 0)) ∧ OwnS w' w.heap.size sv' out ∧ IsBoth (· || ·) A [(f, t)] out ∧ out.length ≤ 2 * (A.length + 1)) := by
  obtain ⟨a, c, rfl⟩ := hr.form
  have HR := Lib.hid hr
  have HSL := Lib.hid hsl
  have HB := Lib.hid hB
  have HA := Lib.hid hA
  have HMAY := Lib.hid hmay
  have HRIS := Lib.hid hris
  clear hr hsl hB hA hmay hris
  have hm0 := (((Mod.refl [] w).alloc (.cells #[.int .i64 f, .int .i64 t] 64)).alloc (.cells #[.int .i64 0, .int .i64 0] 75))
  have HM0 := Lib.hid hm0
  have hx0 : ((w.alloc (.cells #[.int .i64 f, .int .i64 t] 64)).alloc (.cells #[.int .i64 0, .int .i64 0] 75)).heap[w.heap.size]? = some (.cells #[.int .i64 f, .int .i64 t] 64 (0, 0)) := by
    rw [heap_alloc_ne _ _ (by simp), heap_alloc_new w _]
  have hx1 : ((w.alloc (.cells #[.int .i64 f, .int .i64 t] 64)).alloc (.cells #[.int .i64 0, .int .i64 0] 75)).heap[w.heap.size + 1]? = some (.cells #[.int .i64 0, .int .i64 0] 75 (0, 0)) := by
    have := heap_alloc_new (w.alloc (.cells #[.int .i64 f, .int .i64 t] 64)) (.cells #[.int .i64 0, .int .i64 0] 75)
    rwa [World.size_alloc] at this
  have HX0 := Lib.hid hx0
  have HX1 := Lib.hid hx1
  have HC1 := Lib.hid (lkMay_any f t ((w.alloc (.cells #[.int .i64 f, .int .i64 t] 64)).alloc (.cells #[.int .i64 0, .int .i64 0] 75)))
  clear hm0 hx0 hx1
  refine (callsIn_wide (n := 5)).1 ?_
  refine callsIn_of_wp_marks Try.func50 rfl trivial ?_ rfl
  simp only [Try.ntmps50, List.size_toArray, List.length_cons, List.length_nil, Nat.reduceAdd, Nat.reduceSub, Array.replicate_succ, Array.replicate_zero, List.push_toArray, List.append_toArray, List.nil_append, List.cons_append]
  gi_wp2_with fail
  refine ⟨trivial, (callsIn_wide.2 HC1.out).mono ?_⟩
  rintro e w1 ⟨rfl, m1⟩
  rw [HMAY.out]
  have HM1 := Lib.hid (HM0.out.trans m1)
  have HX0a := Lib.hid (m1.heap HX0.out (by simp))
  have HX1a := Lib.hid (m1.heap HX1.out (by simp))
  have HC2 := Lib.hid (lkRises_any _ us rs w1 (HR.out.kept0 HM1.out) hlen HSL.out)
  clear m1 HC1 HX0 HX1 HM0
  gi_wp2_with fail
  refine ⟨trivial, (callsIn_wide.2 HC2.out).mono ?_⟩
  rintro e w2 ⟨rfl, m2⟩
  rw [HRIS.out]
  have HM2 := Lib.hid (HM1.out.trans m2)
  have HX0 := Lib.hid (m2.heap HX0a.out (by simp))
  have HX1 := Lib.hid (m2.heap HX1a.out (by simp))
  clear m2 HC2 HX0a HX1a HM1
  have hm3 := (((Mod.refl [] w2).alloc (.cells #[.int .i64 0, .int .i64 0] 75)).alloc (.cells #[.bool false] 4)).alloc (.cells #[.func (.func 83) #[] #[.pointer (some ⟨w2.heap.size + 1, 0, none⟩), .pointer (some ⟨w2.heap.size, 0, none⟩)]] 120)
  have hy0 := hm3.heap HX0.out (by simp)
  have d0 := cell_blk hy0 0
  have d1 := cell_blk hy0 1
  simp only [List.getElem?_toArray, List.getElem?_cons_succ, List.getElem?_cons_zero] at d0 d1
  have HM3 := Lib.hid hm3
  have HCF := Lib.hid (fun W => lkFails_any f t (.slice a rs.length c) W ⟨_, _, _, rfl⟩)
  clear hm3 hy0
  gi_wp2_with fail
  refine ⟨trivial, (callsIn_wide.2 (HCF.out _)).mono ?_⟩
  rintro e w' ⟨rfl, rfl⟩
  gi_wp2_with fail
  have HM2' := HM2
  obtain ⟨A1, hA1, n1, s1, m1⟩ := alloc_named w2 (.cells #[.int .i64 0, .int .i64 0] 75)
  obtain ⟨A2, hA2, n2, s2, m2⟩ := alloc_named A1 (.cells #[.bool false] 4)
  obtain ⟨A3, hA3, n3, s3, m3⟩ := alloc_named A2 (.cells #[.func (.func 83) #[] #[.pointer (some ⟨w2.heap.size + 1, 0, none⟩), .pointer (some ⟨w2.heap.size, 0, none⟩)]] 120)
  obtain ⟨A4, hA4, n4, s4, m4⟩ := alloc_named A3 (.cells #[.int .i64 f, .int .i64 t] 64)
  obtain ⟨W0, hA5, n5, s5, m5⟩ := alloc_named A4 (.cells #[.slice a rs.length c] 65)
  rw [hA1, hA2, hA3, hA4, hA5]
  rw [s1] at n2 s2
  rw [s2] at n3 s3
  rw [s3] at n4 s4
  rw [s4] at n5 s5
  clear hA1 hA2 hA3 hA4 hA5 HM3 HCF d0 d1
  have HN1 := Lib.hid ((m2.trans (m3.trans (m4.trans m5))).heap n1 (by simp))
  have HN2 := Lib.hid ((m3.trans (m4.trans m5)).heap n2 (by simp))
  have HN3 := Lib.hid ((m4.trans m5).heap n3 (by simp))
  have HN4 := Lib.hid (m5.heap n4 (by simp))
  have HN5 := Lib.hid n5
  have HMW2 := Lib.hid (m1.trans (m2.trans (m3.trans (m4.trans m5))))
  have HMW := Lib.hid (HM2.out.trans HMW2.out)
  have HSZ := Lib.hid s5
  have HX0b := Lib.hid (HMW2.out.heap HX0.out (by simp))
  have HX1b := Lib.hid (HMW2.out.heap HX1.out (by simp))
  have HS2 := Lib.hid (show w.heap.size + 1 < w2.heap.size from lt_of_heap HX1.out)
  clear n1 s1 m1 n2 s2 m2 n3 s3 m3 n4 s4 m4 n5 s5 m5 HX0 HX1 HM2 HM2'
  refine wpIn_rangeFunc_ownH rfl (by omega) (gf := 104) (lb := #[.pointer (some ⟨w2.heap.size + 1 + 1 + 1 + 1, 0, none⟩), .pointer (some ⟨w2.heap.size + 1 + 1 + 1, 0, none⟩)]) rfl trivial (enters_of Try.func104 (by kernel_rfl) rfl)
    (fails_stops _ (by omega) _ _ f t _ us rs w W0 HR.out hlen HSL.out HMW.out HN5.out HN4.out) KpL.t (KpL.b HMW.out.size (lt_of_heap HN4.out)) (Below.refl _ _) (fun _ => rfl)
    (fun pre W => TakeAt W (w2.heap.size + 1) w2.heap.size (leastL pre) ∧ Mod [w2.heap.size + 1, w2.heap.size] W0 W)
    (fun _ _ _ => False)
    (OwnFrom.and (TakeAt.own (lt_of_heap HN2.out) (lt_of_heap HN1.out) _) (Mod.own (Nat.le_refl _)))
    (fun _ _ _ _ _ hs _ _ => hs)
    ⟨⟨HN2.out, HN1.out⟩, Mod.refl _ _⟩
    (fun x a' W => ∃ Bx, W0.heap.size ≤ Bx ∧ W.heap[Bx]? = some (.cells #[.int .i64 x.1, .int .i64 x.2] 75 (0, 0)) ∧ a' = { tmps := #[.pointer (some ⟨B, 0, none⟩), .agg #[.int .i64 f, .int .i64 t], .slice a rs.length c, undef, .pointer (some ⟨w.heap.size, 0, none⟩), undef, .pointer (some ⟨w.heap.size + 1, 0, none⟩), .bool false, .int .i64 0, .pointer (some ⟨w2.heap.size, 0, none⟩), .pointer (some ⟨w2.heap.size + 1, 0, none⟩), .pointer (some ⟨w2.heap.size + 1 + 1, 0, none⟩), .pointer (some ⟨Bx, 0, none⟩), .bool false, .pointer (some ⟨B, 0, none⟩), .bool false, undef, .bool false, .agg #[.int .i64 f, .int .i64 t], .bool true, .bool false, undef, .bool false, .slice a rs.length c, .bool true, .bool false, undef, .agg #[.int .i64 0, .int .i64 0], .func (.func 83) #[] #[.pointer (some ⟨w2.heap.size + 1, 0, none⟩), .pointer (some ⟨w2.heap.size, 0, none⟩)], .agg #[.int .i64 f, .int .i64 t], .slice a rs.length c, .func (.func 104) #[] #[.pointer (some ⟨w2.heap.size + 1 + 1 + 1 + 1, 0, none⟩), .pointer (some ⟨w2.heap.size + 1 + 1 + 1, 0, none⟩)], .agg #[.int .i64 x.1, .int .i64 x.2], undef, undef, undef, undef, undef, undef, undef, undef, undef, undef, undef, undef, undef, undef, undef, undef], defers := [] })
    (fun x a' _ X Y row hs hg hr => by
      obtain ⟨Bx, h1, h2, h3⟩ := hs
      exact ⟨Bx, h1, (hg.block _ (lt_of_heap h2) (fun e => by obtain ⟨_, o, ho, hc⟩ := hr _ e.symm; rw [h2] at ho; cases ho; cases hc)).trans h2, h3⟩)
    ?assign ?body ?done ?stop
  case assign =>
    rintro l pre ⟨x1, x2⟩ W K ⟨hT, hMM⟩ hK
    dsimp only [encF]
    have hsz := Nat.le_trans HMW.out.size hMM.size
    have hbl := Nat.lt_of_lt_of_le (lt_of_heap HN4.out) hMM.size
    have hma := (Mod.refl [] W).alloc (.cells #[.int .i64 x1, .int .i64 x2] 75)
    have HT2 := Lib.hid (show TakeAt (W.alloc (.cells #[.int .i64 x1, .int .i64 x2] 75)) (w2.heap.size + 1) w2.heap.size (leastL pre) from ⟨hma.heap hT.f (by simp), hma.heap hT.l (by simp)⟩)
    have HK2 := Lib.hid (show KpL w.heap.size (w2.heap.size + 1 + 1 + 1) W (W.alloc (.cells #[.int .i64 x1, .int .i64 x2] 75)) from ⟨(Below.refl _ W).alloc hsz _, hma.block _ hbl (by simp)⟩)
    have HB2 := Lib.hid (heap_alloc_new W (.cells #[.int .i64 x1, .int .i64 x2] 75))
    have HS3 := Lib.hid hMM.size
    have HMM2 := Lib.hid (hMM.alloc (.cells #[.int .i64 x1, .int .i64 x2] 75))
    clear hma hsz hbl hT hMM
    gi_wp2
    exact hK _ _ ((KeepsOthers.alloc _ _).from _) HK2.out ⟨HT2.out, HMM2.out⟩ ⟨W.heap.size, HS3.out, HB2.out, rfl⟩
  case body =>
    rintro l pre ⟨x1, x2⟩ a' W hl ⟨r, hr⟩ ⟨hT, hMM⟩ ⟨Bx, hBx, hx, rfl⟩ hlt
    dsimp only at hx ⊢
    have h3 := (hMM.block _ (lt_of_heap HN3.out) (by simp <;> omega)).trans HN3.out
    have k0 := cell_blk h3 0
    have e0 := cell_blk hx 0
    have e1 := cell_blk hx 1
    simp only [List.getElem?_toArray, List.getElem?_cons_succ, List.getElem?_cons_zero] at k0 e0 e1
    have HC := Lib.hid (lkTake_any (x1, x2) (w2.heap.size + 1) w2.heap.size (leastL pre) W hT (by omega))
    have HMM := Lib.hid hMM
    have HBL := Lib.hid (Nat.lt_of_lt_of_le (lt_of_heap HN4.out) hMM.size)
    clear h3 hT hMM hx
    gi_wp2_with fail
    refine ⟨trivial, (CallsIn.inRound l (callsIn_wide.2 HC.out)).mono ?_⟩
    rintro e W' ⟨⟨v, rfl⟩, hT', hM'⟩
    gi_wp2_with fail
    have hs2 := HS2.out
    have hsz := HSZ.out
    have hs0 := HMM.out.size
    exact ⟨⟨hM'.size, fun k o hk ho _ => (hM'.block k (lt_of_heap ho) (by simp; omega)).trans ho⟩,
      ⟨⟨hM'.os, hM'.tape, hM'.output, hM'.size, fun k hk => hM'.block k (by omega) (by simp; omega)⟩, hM'.block _ HBL.out (by simp <;> omega)⟩,
      by rw [leastL_snoc]; exact hT', HMM.out.trans hM'⟩
  case done =>
    rintro D ys W hD rfl ⟨hT, hMM⟩ hK
    have hs2 := HS2.out
    have hsz := HSZ.out
    have hs0 := hMM.size
    have HMWW := Lib.hid (HMW.out.newer hMM (by simp; omega))
    have hx1 := (hMM.block _ (lt_of_heap HX1b.out) (by simp; omega)).trans HX1b.out
    have hx0 := (hMM.block _ (lt_of_heap HX0b.out) (by simp; omega)).trans HX0b.out
    have f0 := cell_blk hT.f 0
    have l0 := cell_blk hT.l 0
    have l1 := cell_blk hT.l 1
    have r0 := cell_blk hx1 0
    have r1 := cell_blk hx1 1
    have r2 := frozen_blk hx1 0
    have r3 := frozen_blk hx1 1
    have x0 := cell_blk hx0 0
    have x1 := cell_blk hx0 1
    simp only [List.getElem?_toArray, List.getElem?_cons_succ, List.getElem?_cons_zero] at f0 l0 l1 r0 r1 x0 x1
    cases hle : leastL (failsL f t rs) with
    | some x =>
      obtain ⟨x1, x2⟩ := x
      rw [hle] at f0 l0 l1
      simp only [Option.isSome_some, Option.getD_some] at f0 l0 l1
      have hms := ((HMWW.out.setCellNew (p := ⟨w.heap.size + 1, 0, none⟩) (by simp) (.int .i64 x1)).setCellNew (p := ⟨w.heap.size + 1, 1, none⟩) (by simp) (.int .i64 x2)).putObjNew (D := D) (by have := HMW.out.size; omega) (.deferred none)
      have hd : ((W.setCell ⟨w.heap.size + 1, 0, none⟩ (.int .i64 x1)).setCell ⟨w.heap.size + 1, 1, none⟩ (.int .i64 x2)).heap[D]? = some (.deferred (some [])) := by
        rw [heap_setCell_ne _ _ _ (by show D ≠ w.heap.size + 1; omega), heap_setCell_ne _ _ _ (by show D ≠ w.heap.size + 1; omega)]
        exact hK
      have hy1 := heap_setCell_blk (heap_setCell_blk hx1 0 (.int .i64 x1)) 1 (.int .i64 x2)
      have hy2 : (((W.setCell ⟨w.heap.size + 1, 0, none⟩ (.int .i64 x1)).setCell ⟨w.heap.size + 1, 1, none⟩ (.int .i64 x2)).putObj D (.deferred none)).heap[w.heap.size + 1]? = some (.cells #[.int .i64 x1, .int .i64 x2] 75 (0, 0)) := by
        rw [World.putObj_heap_other (by omega)]
        simpa using hy1
      have q0 := cell_blk hy2 0
      have q1 := cell_blk hy2 1
      simp only [List.getElem?_toArray, List.getElem?_cons_succ, List.getElem?_cons_zero] at q0 q1
      have HMS := Lib.hid hms
      have HD := Lib.hid hd
      clear hx0 hx1 hT hms hd hy1 hy2 hK
      gi_wp2_with fail
      refine ⟨by simp, .inl ⟨_, _, rfl, run_takeDeferred HD.out, ?_⟩⟩
      exact ⟨.tuple #[.agg #[.int .i64 x1, .int .i64 x2], .bool false, .int .i64 0], by simp [results, Try.results50, go_sem, q0, q1], .inl ⟨(x1, x2), hle, rfl, HMS.out⟩⟩
    | none =>
      rw [hle] at f0
      simp only [Option.isSome_none] at f0
      have hB := HMWW.out.heap HB.out (by simp)
      have b0 := cell_blk hB 0
      simp only [List.getElem?_toArray, List.getElem?_cons_zero] at b0
      have hmu := ((Mod.refl [] W).alloc (.cells #[.int .i64 f, .int .i64 t] 64)).drew
      have HCU := Lib.hid (spUnion_any sv (.slice (some ⟨W.heap.size, 0, none⟩) 1 1) A [(f, t)] ((W.alloc (.cells #[.int .i64 f, .int .i64 t] 64)).drew) ((HA.out.kept0 HMWW.out).kept0 hmu) ((spans_lit W [(f, t)] _ 1 rfl rfl).kept0 ((Mod.refl [] _).drew)) hlA (by simp))
      have hmo := (Mod.refl [] W).alloc (.cells #[.int .i64 f, .int .i64 t] 64)
      have b0a := cell_blk (hmo.heap hB (by simp)) 0
      have x0a := cell_blk (hmo.heap hx0 (by simp)) 0
      have x1a := cell_blk (hmo.heap hx0 (by simp)) 1
      simp only [List.getElem?_toArray, List.getElem?_cons_succ, List.getElem?_cons_zero] at b0a x0a x1a
      have HHB := Lib.hid hB
      have HHX := Lib.hid hx1
      have HMU := Lib.hid hmu
      have HHK := Lib.hid hK
      clear l0 l1 hmo hB hmu hx1 hx0 hT hK
      gi_wp2_with fail
      refine wpIn_wide.2 ?_
      refine wp_plan [([0, 1, 5, 2, 3, 4], 6, [2, 3, 4]), ([], 7, []), ([8, 9], 10, [])] [] (by kernel_rfl) (by kernel_rfl) ?_
      simp only [wpSegs, opsOf, List.map_cons, List.map_nil, opN, List.getD_cons_zero, List.getD_cons_succ]
      go_wp2_with fail
      refine ⟨by first | trivial | rfl, ?_⟩
      go_wp2_with fail
      refine ⟨?ag1, ?_⟩
      case ag1 =>
        intro i hi hw
        simp only [List.mem_cons, List.not_mem_nil, or_false] at hi
        rcases hi with rfl | rfl | rfl
        all_goals (simp only [opN, List.getD_cons_zero, List.getD_cons_succ, slotOf]; go_simp)
      go_wp2_with fail
      refine ⟨by first | trivial | rfl, ?_⟩
      go_wp2_with fail
      refine HCU.out.mono ?_
      rintro e w5 ⟨v5, out, rfl, o5, m5, h5, l5⟩
      obtain ⟨a5, c5, rfl⟩ := o5.row.form
      have hm5 := HMU.out.trans m5
      have hB5 := hm5.heap HHB.out (by simp)
      have hx5 := hm5.heap HHX.out (by simp)
      have g0 := cell_blk hB5 0
      have g1 := frozen_blk hB5 0
      have hBl : B < w.heap.size := lt_of_heap HB.out
      have hwl : w.heap.size ≤ W.heap.size := HMWW.out.size
      have hDl : D < W.heap.size := lt_of_heap HHK.out
      have hx6 : (w5.setCell ⟨B, 0, none⟩ (.slice a5 out.length c5)).heap[w.heap.size + 1]? = some (.cells #[.int .i64 0, .int .i64 0] 75 (0, 0)) := by
        rw [heap_setCell_ne _ _ _ (by show w.heap.size + 1 ≠ B; omega)]; exact hx5
      have r0 := cell_blk hx6 0
      have r1 := cell_blk hx6 1
      have r2 := frozen_blk hx6 0
      have r3 := frozen_blk hx6 1
      simp only [List.getElem?_toArray, List.getElem?_cons_succ, List.getElem?_cons_zero] at g0 r0 r1
      have hK6 : (((w5.setCell ⟨B, 0, none⟩ (.slice a5 out.length c5)).setCell ⟨w.heap.size + 1, 0, none⟩ (.int .i64 0)).setCell ⟨w.heap.size + 1, 1, none⟩ (.int .i64 0)).heap[D]? = some (.deferred (some [])) := by
        rw [heap_setCell_ne _ _ _ (by show D ≠ w.heap.size + 1; omega), heap_setCell_ne _ _ _ (by show D ≠ w.heap.size + 1; omega), heap_setCell_ne _ _ _ (by show D ≠ B; omega)]
        exact hm5.heap HHK.out (by simp)
      have hy7 := heap_setCell_blk (heap_setCell_blk hx6 0 (.int .i64 0)) 1 (.int .i64 0)
      have hy8 : ((((w5.setCell ⟨B, 0, none⟩ (.slice a5 out.length c5)).setCell ⟨w.heap.size + 1, 0, none⟩ (.int .i64 0)).setCell ⟨w.heap.size + 1, 1, none⟩ (.int .i64 0)).putObj D (.deferred none)).heap[w.heap.size + 1]? = some (.cells #[.int .i64 0, .int .i64 0] 75 (0, 0)) := by
        rw [World.putObj_heap_other (by omega)]
        simpa using hy7
      have hB8 : ((((w5.setCell ⟨B, 0, none⟩ (.slice a5 out.length c5)).setCell ⟨w.heap.size + 1, 0, none⟩ (.int .i64 0)).setCell ⟨w.heap.size + 1, 1, none⟩ (.int .i64 0)).putObj D (.deferred none)).heap[B]? = some (.cells #[.slice a5 out.length c5] 119 (0, 0)) := by
        rw [World.putObj_heap_other (by omega), heap_setCell_ne _ _ _ (by show B ≠ w.heap.size + 1; omega), heap_setCell_ne _ _ _ (by show B ≠ w.heap.size + 1; omega)]
        have := heap_setCell_blk hB5 0 (.slice a5 out.length c5)
        simpa using this
      have hmq : ∀ ks : List Nat, B ∈ ks → w.heap.size + 1 ∈ ks → D ∈ ks → Mod ks w5 ((((w5.setCell ⟨B, 0, none⟩ (.slice a5 out.length c5)).setCell ⟨w.heap.size + 1, 0, none⟩ (.int .i64 0)).setCell ⟨w.heap.size + 1, 1, none⟩ (.int .i64 0)).putObj D (.deferred none)) := fun ks h1 h2 h3 =>
        ⟨rfl, rfl, rfl, by simp, fun k hk hn => by
          rw [World.putObj_heap_other (fun e => hn (by first | (rw [e]; exact h3) | (rw [← e]; exact h3))), heap_setCell_ne _ _ _ (fun e => hn (by rw [e]; exact h2)), heap_setCell_ne _ _ _ (fun e => hn (by rw [e]; exact h2)), heap_setCell_ne _ _ _ (fun e => hn (by rw [e]; exact h1))]⟩
      have HO8 := Lib.hid (show OwnS ((((w5.setCell ⟨B, 0, none⟩ (.slice a5 out.length c5)).setCell ⟨w.heap.size + 1, 0, none⟩ (.int .i64 0)).setCell ⟨w.heap.size + 1, 1, none⟩ (.int .i64 0)).putObj D (.deferred none)) w.heap.size (.slice a5 out.length c5) out from
        (o5.kept (hmq [B, w.heap.size + 1, D] (by simp) (by simp) (by simp)) (fun b hb hm => by
          have h1 := (World.ownsRow.lt o5 b hb).1
          have h2 : W.heap.size + 1 ≤ b := by simpa using h1
          simp at hm
          omega)).mono (by show w.heap.size ≤ (W.alloc _).heap.size; simp; omega))
      have HM8 := Lib.hid (show Mod [B] w ((((w5.setCell ⟨B, 0, none⟩ (.slice a5 out.length c5)).setCell ⟨w.heap.size + 1, 0, none⟩ (.int .i64 0)).setCell ⟨w.heap.size + 1, 1, none⟩ (.int .i64 0)).putObj D (.deferred none)) from
        (((((HMWW.out.trans hm5).nil (l := [B])).setCell (p := ⟨B, 0, none⟩) (by simp) _).setCellNew (p := ⟨w.heap.size + 1, 0, none⟩) (by simp) _).setCellNew (p := ⟨w.heap.size + 1, 1, none⟩) (by simp) _).putObjNew (by omega) _)
      have q0 := cell_blk hy8 0
      have q1 := cell_blk hy8 1
      simp only [List.getElem?_toArray, List.getElem?_cons_succ, List.getElem?_cons_zero] at q0 q1
      have HK6 := Lib.hid hK6
      have HB8 := Lib.hid hB8
      have HF5 := Lib.hid h5
      have HL5 := Lib.hid l5
      clear HCU b0a x0a x1a hK6 hy7 hy8 hB8 hmq hm5 hB5 hx5 hx6 o5 m5 h5 l5
      go_wp2_with fail
      refine ⟨again_nil, ?_⟩
      go_wp2_with fail
      refine ⟨by first | trivial | rfl, ?_⟩
      go_wp2_with fail
      refine ⟨again_nil, ?_⟩
      go_wp2_with fail
      refine ⟨by first | trivial | rfl, ?_⟩
      go_wp2_with fail
      refine wpIn_wide.2 ?_
      go_wp2_with fail
      refine ⟨by simp, .inl ⟨_, _, rfl, run_takeDeferred HK6.out, ?_⟩⟩
      exact ⟨.tuple #[.agg #[.int .i64 0, .int .i64 0], .bool true, .int .i64 0], by simp [results, Try.results50, go_sem, q0, q1], .inr ⟨hle, rfl, HM8.out, _, out, HB8.out, HO8.out, HF5.out, HL5.out⟩⟩
  case stop =>
    rintro D c pre W _ _ h _
    exact h.elim
end Go.Proofs.Ytefaihockgebeaa
