/- Spans: Union, Meet, Less, Wide, Days, All; own memory. -/
import Derived.Test.YtefaihockgebeaaSpO
namespace Go.Proofs.Ytefaihockgebeaa
open Go.RowKit Go.ChangeMaps Go.Deep
set_option linter.unusedSimpArgs false
set_option linter.unusedVariables false
set_option maxRecDepth 20000

theorem spUnion1_any (x y : Bool) (W : World) : Calls Try.prog 69 #[.bool x, .bool y] W fun e w' => e = .returned (.bool (x || y)) ∧ w' = W := by
  cases x <;> (go_enter Try.func69, Try.ntmps69; go_wp2; go_ret; exact ⟨rfl, rfl⟩)
theorem spMeet1_any (x y : Bool) (W : World) : Calls Try.prog 70 #[.bool x, .bool y] W fun e w' => e = .returned (.bool (x && y)) ∧ w' = W := by
  cases x <;> (go_enter Try.func70, Try.ntmps70; go_wp2; go_ret; exact ⟨rfl, rfl⟩)
theorem spLess1_any (x y : Bool) (W : World) : Calls Try.prog 71 #[.bool x, .bool y] W fun e w' => e = .returned (.bool (x && !y)) ∧ w' = W := by
  cases x <;> (go_enter Try.func71, Try.ntmps71; go_wp2; go_ret; exact ⟨rfl, rfl⟩)
theorem spUnion_any (va vb : Value) (a b : List Sp) (w : World) (ha : SpansAt w va a) (hb : SpansAt w vb b) (hla : a.length ≤ 100000) (hlb : b.length ≤ 100000) :
    Calls Try.prog 28 #[va, vb] w fun e w' => ∃ v' out, e = .returned v' ∧ OwnS w' w.heap.size v' out ∧ Mod [] w w' ∧ IsBoth (· || ·) a b out ∧ out.length ≤ 2 * (a.length + b.length) := by
  have HC := Lib.hid (spBoth_any 69 (· || ·) rfl (enters_of Try.func69 (by kernel_rfl) rfl) spUnion1_any va vb a b w ha hb hla hlb)
  clear ha hb
  go_enter Try.func28, Try.ntmps28
  go_wp2_with fail
  refine HC.out.mono ?_
  rintro e w1 ⟨v1, out, rfl, h⟩
  have H := Lib.hid h
  clear h
  go_wp2_with fail
  go_ret
  exact ⟨_, out, rfl, H.out⟩
theorem spMeet_any (va vb : Value) (a b : List Sp) (w : World) (ha : SpansAt w va a) (hb : SpansAt w vb b) (hla : a.length ≤ 100000) (hlb : b.length ≤ 100000) :
    Calls Try.prog 29 #[va, vb] w fun e w' => ∃ v' out, e = .returned v' ∧ OwnS w' w.heap.size v' out ∧ Mod [] w w' ∧ IsBoth (· && ·) a b out ∧ out.length ≤ 2 * (a.length + b.length) := by
  have HC := Lib.hid (spBoth_any 70 (· && ·) rfl (enters_of Try.func70 (by kernel_rfl) rfl) spMeet1_any va vb a b w ha hb hla hlb)
  clear ha hb
  go_enter Try.func29, Try.ntmps29
  go_wp2_with fail
  refine HC.out.mono ?_
  rintro e w1 ⟨v1, out, rfl, h⟩
  have H := Lib.hid h
  clear h
  go_wp2_with fail
  go_ret
  exact ⟨_, out, rfl, H.out⟩
theorem spLess_any (va vb : Value) (a b : List Sp) (w : World) (ha : SpansAt w va a) (hb : SpansAt w vb b) (hla : a.length ≤ 100000) (hlb : b.length ≤ 100000) :
    Calls Try.prog 30 #[va, vb] w fun e w' => ∃ v' out, e = .returned v' ∧ OwnS w' w.heap.size v' out ∧ Mod [] w w' ∧ IsBoth (fun x y => x && !y) a b out ∧ out.length ≤ 2 * (a.length + b.length) := by
  have HC := Lib.hid (spBoth_any 71 (fun x y => x && !y) rfl (enters_of Try.func71 (by kernel_rfl) rfl) spLess1_any va vb a b w ha hb hla hlb)
  clear ha hb
  go_enter Try.func30, Try.ntmps30
  go_wp2_with fail
  refine HC.out.mono ?_
  rintro e w1 ⟨v1, out, rfl, h⟩
  have H := Lib.hid h
  clear h
  go_wp2_with fail
  go_ret
  exact ⟨_, out, rfl, H.out⟩
theorem spAll_any (w : World) : Calls Try.prog 35 #[] w fun e w' => ∃ v, e = .returned v ∧ SpansAt w' v [(1, 3652060)] ∧ Mod [] w w' := by
  have hm := (Mod.refl [] w).alloc (.cells #[.int .i64 1, .int .i64 3652060] 64)
  have HS : Hid (SpansAt (w.alloc (.cells #[.int .i64 1, .int .i64 3652060] 64)) (.slice (some ⟨w.heap.size, 0, none⟩) 1 1) [(1, 3652060)]) := Lib.hid (.at_ _ 0 1 [(1, 3652060)] (by simp) (fun j u hu => by
    rw [Nat.zero_add, cell_blk (heap_alloc_new w _)]
    simpa [flat, encS] using hu))
  have HM := Lib.hid hm
  clear hm
  go_enter Try.func35, Try.ntmps35
  go_wp2
  go_ret
  exact ⟨_, rfl, HS.out, HM.out⟩
theorem own07_any (v : Value) (l : List Sp) (w : World) (h : SpansAt w v l) (hl : l.length ≤ 1000000) :
    Calls Try.prog 38 #[v] w fun e w' => ∃ v', e = .returned v' ∧ OwnS w' w.heap.size v' l ∧ Mod [] w w' := by
  have H := Lib.hid h
  have hm := (Mod.refl [] w).alloc (.cells #[] 64)
  obtain ⟨v', w', g1, g2, g3⟩ := own_append elemSpan encS_len (OwnR.fresh (enc := encS) (k := 2) (E := 64) w w.heap.size (Nat.le_refl _)) (by simp) (ty := 51) ((H.out.kept0 hm).src encS_len encS_one Try.underlying51) (by simp; omega) (by omega)
  have G1 := Lib.hid g1
  have G2 := Lib.hid g2
  have G3 := Lib.hid (g3.intoNil (OwnR.fresh (enc := encS) (k := 2) (E := 64) w w.heap.size (Nat.le_refl _)) (Nat.le_refl _) hm)
  clear g1 g2 g3 hm h
  go_enter Try.func38, Try.ntmps38
  go_wp2_with (((with_reducible refine xAppendAt G1.out rfl rfl ?_ ?_ ?_ ?_); exact rfl; exact rfl; exact rfl))
  go_ret
  exact ⟨_, rfl, by simpa using G2.out, G3.out⟩
set_option maxHeartbeats 2000000 in
theorem spDays_any (v : Value) (l : List Sp) (w : World) (h : SpansAt w v l) (hl : l.length ≤ 100000) :
    Calls Try.prog 33 #[v] w fun e w' => ∃ out, e = .returned (.int .i64 (daysL out)) ∧ IsOf l out ∧ Mod [] w w' := by
  have HC := Lib.hid (spOf_any v l w h (by omega))
  clear h
  go_enter Try.func33, Try.ntmps33
  go_wp2_with fail
  refine HC.out.mono ?_
  rintro e w1 ⟨v1, m, rfl, o1, m1, f1, l1⟩
  have HO := Lib.hid o1.row
  have HM := Lib.hid m1
  have HF := Lib.hid f1
  have HRT := Lib.hid f1.1
  have hml : m.length ≤ 100000 := by omega
  obtain ⟨a1, c1, rfl⟩ := o1.row.form
  clear o1 m1 f1 l1 HC
  go_wp2_with fail
  go_loopw [2, 8] (fun s2 s8 wr => ∃ (i : Nat) (z : Int), i ≤ m.length ∧ s8 = .int .i64 i ∧ s2 = .int .i64 z ∧ Hid (z = daysL (m.take i)) ∧ Hid (Mod [] w1 wr)) (fun _ s8 _ => m.length - (intOf s8).toNat)
  case atStart => exact ⟨0, 0, by omega, rfl, rfl, Lib.hid (by simp [daysL]), Lib.hid (Mod.refl _ _)⟩
  case round =>
    obtain ⟨i, z, hi, rfl, rfl, hz, hM⟩ := hrel
    have hzr := daysL_take HRT.out i
    rw [← hz.out] at hzr
    by_cases hlt : i < m.length
    · obtain ⟨b, o, rfl, hc, c0, c1⟩ := (HO.out.kept0 hM.out).get2 hlt
      have hR := HRT.out.wide (Int.le_refl 0) m[i] (List.getElem_mem hlt)
      have HT := Lib.hid (show daysL (m.take (i + 1)) = z + (m[i].2 - m[i].1) by rw [List.take_succ_eq_append_getElem hlt, daysL_append, ← hz.out]; simp [daysL])
      generalize m[i] = x at c0 c1 hR HT
      obtain ⟨x1, x2⟩ := x
      dsimp only at c0 c1 hR HT
      have HM2 := Lib.hid (hM.out.trans ((Mod.refl [] wr).alloc (.cells #[.int .i64 x1, .int .i64 x2] 64)))
      go_wp2_with fail
      go_roundw
      case rel => exact ⟨i + 1, _, by omega, by go_num, rfl, Lib.hid (by rw [HT.out]), HM2⟩
      case measure => simp [intOf]; omega
    · have HR := Lib.hid (show z = daysL m by rw [hz.out, List.take_of_length_le (by omega)])
      go_wp2_with fail
      go_ret
      exact ⟨m, by rw [← HR.out]; rfl, HF.out, HM.out.trans hM.out⟩
set_option maxHeartbeats 4000000 in
theorem spWide_any (v : Value) (l : List Sp) (k : Int) (w : World) (h : SpansAt w v l) (hl : l.length ≤ 100000) :
    Calls Try.prog 34 #[v, .int .i64 k] w fun e w' => ∃ v' m out, e = .returned v' ∧ OwnS w' w.heap.size v' out ∧ Mod [] w w' ∧ IsOf l m ∧ IsOf (wideL m (clampK k)) out ∧ out.length ≤ l.length := by
  have HC := Lib.hid (spOf_any v l w h (by omega))
  have hkk := clampK_range k
  have HKK := Lib.hid (show min (max k 0) 3652060 = clampK k from rfl)
  clear h
  go_enter Try.func34, Try.ntmps34
  go_wp2_with fail
  refine HC.out.mono ?_
  rintro e w1 ⟨v1, m, rfl, o1, m1, f1, l1⟩
  have HO := Lib.hid o1
  have HM := Lib.hid m1
  have HF := Lib.hid f1
  have HRT := Lib.hid (f1.1.wide (Int.le_refl 0))
  have HL1 := Lib.hid l1
  have hml : m.length ≤ 100000 := by omega
  obtain ⟨a1, c1, rfl⟩ := o1.row.form
  clear o1 m1 f1 l1 HC
  go_wp2_with fail
  obtain ⟨kk, hk2⟩ : ∃ kk, kk = clampK k := ⟨_, rfl⟩
  rw [HKK.out, ← hk2]
  rw [← hk2] at hkk
  have HK2 := Lib.hid hk2
  clear hk2
  go_loopw [13] (fun s13 wr => ∃ i : Nat, i ≤ m.length ∧ s13 = .int .i64 i ∧ Hid (OwnS wr w.heap.size (.slice a1 m.length c1) (wideTo m kk i)) ∧ Hid (Mod [] w wr)) (fun s13 _ => m.length - (intOf s13).toNat)
  case atStart => exact ⟨0, by omega, rfl, Lib.hid (by rw [wideTo_zero]; exact HO.out), HM⟩
  case round =>
    obtain ⟨i, hi, rfl, hown, hM⟩ := hrel
    by_cases hlt : i < m.length
    · have ho := hown.out
      have hl' := wideTo_length m kk i
      rw [← hl'] at ho
      obtain ⟨g, rfl, hc, S⟩ := ho.span (i := i) (by rw [hl']; exact hlt)
      rw [wideTo_get m kk i hlt, hl'] at S
      rw [hl'] at hc
      have hR := HRT.out m[i] (List.getElem_mem hlt)
      have HST := Lib.hid (fun u (hu : u = m[i].2 + kk) => show OwnS (wr.setCell ⟨g, i * 2 + 1, none⟩ (.int .i64 u)) w.heap.size (.slice (some ⟨g, 0, none⟩) m.length c1) (wideTo m kk (i + 1)) by
        subst hu
        rw [← wideTo_set m kk i hlt]
        exact S.set _)
      have HMD := Lib.hid (fun u => S.mod w u (Nat.le_refl _) hM.out)
      have q0 := S.c0
      have q1 := S.c1
      have q2 := S.f1
      generalize m[i] = x at q0 q1 hR HST
      obtain ⟨x1, x2⟩ := x
      dsimp only at q0 q1 hR HST
      have HS2 := Lib.hid (HST.out (x2 + kk) rfl)
      clear ho hl' S HST
      go_wp2_with fail
      go_roundw
      case rel => exact ⟨i + 1, by omega, by go_num, HS2, Lib.hid (HMD.out _)⟩
      case measure => simp [intOf]; omega
    · have HR := Lib.hid (show wideTo m kk i = wideL m kk by rw [show i = m.length by omega, wideTo_all])
      have ho := hown.out
      rw [HR.out] at ho
      have HQ := Lib.hid (spOf_any (.slice a1 m.length c1) (wideL m kk) wr ho.row (by simp [wideL]; omega))
      clear ho HR
      go_wp2_with fail
      refine HQ.out.mono ?_
      rintro e w2 ⟨v2, out, rfl, o2, m2, f2, l2⟩
      have HO2 := Lib.hid (o2.mono hM.out.size)
      have HM2 := Lib.hid (hM.out.trans m2)
      have HF2 := Lib.hid f2
      have HL2 := Lib.hid l2
      clear o2 m2 f2 l2
      go_wp2_with fail
      go_ret
      exact ⟨_, m, out, rfl, HO2.out, HM2.out, HF.out, by rw [← HK2.out]; exact HF2.out, by have h1 := HL2.out; have h2 := HL1.out; simp [wideL] at h1; omega⟩
end Go.Proofs.Ytefaihockgebeaa
