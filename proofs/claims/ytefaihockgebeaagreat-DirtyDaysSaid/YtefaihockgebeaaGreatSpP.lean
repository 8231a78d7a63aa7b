/- Spans: Union, Meet, Less, Wide, Days, All; own memory. -/
import Derived.Test.YtefaihockgebeaaGreatSpO
namespace Go.Proofs.YtefaihockgebeaaGreat
open Go.RowKit Go.ChangeMaps Go.Deep
set_option linter.unusedSimpArgs false
set_option linter.unusedVariables false
set_option maxRecDepth 20000

theorem spUnion1_any (x y : Bool) (W : World) : Calls Tryz.prog 45 #[.bool x, .bool y] W fun e w' => e = .returned (.bool (x || y)) ∧ w' = W := by
  cases x <;> (go_enter Tryz.func45, Tryz.ntmps45; go_wp2; go_ret; exact ⟨rfl, rfl⟩)
theorem spUnion_any (va vb : Value) (a b : List Sp) (w : World) (ha : SpansAt w va a) (hb : SpansAt w vb b) (hla : a.length ≤ 100000) (hlb : b.length ≤ 100000) :
    Calls Tryz.prog 22 #[va, vb] w fun e w' => ∃ v' out, e = .returned v' ∧ OwnS w' w.heap.size v' out ∧ Mod [] w w' ∧ IsBoth (· || ·) a b out ∧ out.length ≤ 2 * (a.length + b.length) := by
  have HC := Lib.hid (spBoth_any 45 (· || ·) rfl (enters_of Tryz.func45 (by kernel_rfl) rfl) spUnion1_any va vb a b w ha hb hla hlb)
  clear ha hb
  go_enter Tryz.func22, Tryz.ntmps22
  go_wp2_with fail
  refine HC.out.mono ?_
  rintro e w1 ⟨v1, out, rfl, h⟩
  have H := Lib.hid h
  clear h
  go_wp2_with fail
  go_ret
  exact ⟨_, out, rfl, H.out⟩
set_option maxHeartbeats 4000000 in
theorem spWide_any (v : Value) (l : List Sp) (k : Int) (w : World) (h : SpansAt w v l) (hl : l.length ≤ 100000) :
    Calls Tryz.prog 23 #[v, .int .i64 k] w fun e w' => ∃ v' m out, e = .returned v' ∧ OwnS w' w.heap.size v' out ∧ Mod [] w w' ∧ IsOf l m ∧ IsOf (wideL m (clampK k)) out ∧ out.length ≤ l.length := by
  have HC := Lib.hid (spOf_any v l w h (by omega))
  have hkk := clampK_range k
  have HKK := Lib.hid (show min (max k 0) 3652060 = clampK k from rfl)
  clear h
  go_enter Tryz.func23, Tryz.ntmps23
  go_wp2_with fail
  refine HC.out.mono ?_
  rintro e w1 ⟨v1, m, rfl, o1, m1, f1, l1⟩
  have HO := Lib.hid o1
  have HM := Lib.hid m1
  have HF := Lib.hid f1
  have HRT := Lib.hid (f1.1.wide (Int.le_refl 0))
  have HL1 := Lib.hid l1
  have hml : m.length ≤ 100000 := by omega
  obtain ⟨a1, c1, rfl⟩ := o1.row.form
  clear o1 m1 f1 l1 HC
  go_wp2_with fail
  obtain ⟨kk, hk2⟩ : ∃ kk, kk = clampK k := ⟨_, rfl⟩
  rw [HKK.out, ← hk2]
  rw [← hk2] at hkk
  have HK2 := Lib.hid hk2
  clear hk2
  go_loopw [13] (fun s13 wr => ∃ i : Nat, i ≤ m.length ∧ s13 = .int .i64 i ∧ Hid (OwnS wr w.heap.size (.slice a1 m.length c1) (wideTo m kk i)) ∧ Hid (Mod [] w wr)) (fun s13 _ => m.length - (intOf s13).toNat)
  case atStart => exact ⟨0, by omega, rfl, Lib.hid (by rw [wideTo_zero]; exact HO.out), HM⟩
  case round =>
    obtain ⟨i, hi, rfl, hown, hM⟩ := hrel
    by_cases hlt : i < m.length
    · have ho := hown.out
      have hl' := wideTo_length m kk i
      rw [← hl'] at ho
      obtain ⟨g, rfl, hc, S⟩ := ho.span (i := i) (by rw [hl']; exact hlt)
      rw [wideTo_get m kk i hlt, hl'] at S
      rw [hl'] at hc
      have hR := HRT.out m[i] (List.getElem_mem hlt)
      have HST := Lib.hid (fun u (hu : u = m[i].2 + kk) => show OwnS (wr.setCell ⟨g, i * 2 + 1, none⟩ (.int .i64 u)) w.heap.size (.slice (some ⟨g, 0, none⟩) m.length c1) (wideTo m kk (i + 1)) by
        subst hu
        rw [← wideTo_set m kk i hlt]
        exact S.set _)
      have HMD := Lib.hid (fun u => S.mod w u (Nat.le_refl _) hM.out)
      have q0 := S.c0
      have q1 := S.c1
      have q2 := S.f1
      generalize m[i] = x at q0 q1 hR HST
      obtain ⟨x1, x2⟩ := x
      dsimp only at q0 q1 hR HST
      have HS2 := Lib.hid (HST.out (x2 + kk) rfl)
      clear ho hl' S HST
      go_wp2_with fail
      go_roundw
      case rel => exact ⟨i + 1, by omega, by go_num, HS2, Lib.hid (HMD.out _)⟩
      case measure => simp [intOf]; omega
    · have HR := Lib.hid (show wideTo m kk i = wideL m kk by rw [show i = m.length by omega, wideTo_all])
      have ho := hown.out
      rw [HR.out] at ho
      have HQ := Lib.hid (spOf_any (.slice a1 m.length c1) (wideL m kk) wr ho.row (by simp [wideL]; omega))
      clear ho HR
      go_wp2_with fail
      refine HQ.out.mono ?_
      rintro e w2 ⟨v2, out, rfl, o2, m2, f2, l2⟩
      have HO2 := Lib.hid (o2.mono hM.out.size)
      have HM2 := Lib.hid (hM.out.trans m2)
      have HF2 := Lib.hid f2
      have HL2 := Lib.hid l2
      clear o2 m2 f2 l2
      go_wp2_with fail
      go_ret
      exact ⟨_, m, out, rfl, HO2.out, HM2.out, HF.out, by rw [← HK2.out]; exact HF2.out, by have h1 := HL2.out; have h2 := HL1.out; simp [wideL] at h1; omega⟩
end Go.Proofs.YtefaihockgebeaaGreat
