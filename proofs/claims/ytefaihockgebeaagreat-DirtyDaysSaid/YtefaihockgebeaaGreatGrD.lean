/- Graph: what may be a link; the first of some links for which one of graph's three closures holds. Printed by gen/grd.py. -/
import Derived.Test.YtefaihockgebeaaGreatSpE
import Derived.Test.YtefaihockgebeaaGreatGrB
namespace Go.Proofs.YtefaihockgebeaaGreat
open Go.RowKit Go.ChangeMaps Go.Deep
set_option linter.unusedSimpArgs false
set_option linter.unusedVariables false
set_option maxRecDepth 20000

def isLinkB (n : Int) (x : Sp) : Bool := decide (0 ≤ x.1) && decide (x.1 < n) && decide (0 ≤ x.2) && decide (x.2 ≤ 3660)
theorem grIsLink_any (x1 x2 n : Int) (w : World) : Calls Tryz.prog 16 #[.agg #[.int .i64 x1, .int .i64 x2], .int .i64 n] w fun e w' => e = .returned (.bool (isLinkB n (x1, x2))) ∧ Mod [] w w' := by
  have HM := Lib.hid ((Mod.refl [] w).alloc (.cells #[.int .i64 x1, .int .i64 x2] 41))
  by_cases h0 : 0 ≤ x1
  · by_cases h1 : x1 < n
    · by_cases h2 : 0 ≤ x2
      · by_cases h3 : x2 ≤ 3660
        · have HR := Lib.hid (show isLinkB n (x1, x2) = true by simp [isLinkB, h0, h1, h2, h3])
          go_enter Tryz.func16, Tryz.ntmps16
          go_wp2
          go_ret
          exact ⟨by rw [HR.out]; rfl, HM.out⟩
        · have HR := Lib.hid (show isLinkB n (x1, x2) = false by simp [isLinkB, h0, h1, h2, h3])
          go_enter Tryz.func16, Tryz.ntmps16
          go_wp2
          go_ret
          exact ⟨by rw [HR.out]; rfl, HM.out⟩
      · have HR := Lib.hid (show isLinkB n (x1, x2) = false by simp [isLinkB, h0, h1, h2])
        go_enter Tryz.func16, Tryz.ntmps16
        go_wp2
        go_ret
        exact ⟨by rw [HR.out]; rfl, HM.out⟩
    · have HR := Lib.hid (show isLinkB n (x1, x2) = false by simp [isLinkB, h0, h1])
      go_enter Tryz.func16, Tryz.ntmps16
      go_wp2
      go_ret
      exact ⟨by rw [HR.out]; rfl, HM.out⟩
  · have HR := Lib.hid (show isLinkB n (x1, x2) = false by simp [isLinkB, h0])
    go_enter Tryz.func16, Tryz.ntmps16
    go_wp2
    go_ret
    exact ⟨by rw [HR.out]; rfl, HM.out⟩
def pOf (n : Int) (x : Sp) : Bool := !isLinkB n x
theorem grOf1_any (x1 x2 n : Int) (B : Nat) (w : World) (h : DayAt w B n) :
    Calls Tryz.prog 15 #[.agg #[.int .i64 x1, .int .i64 x2], .pointer (some ⟨B, 0, none⟩)] w fun e w' => e = .returned (.bool (pOf n (x1, x2))) ∧ Mod [] w w' := by
  have HB := lt_of_heap h
  have c0 := cell_blk h 0
  simp at c0
  have c0' := (World.cell?_alloc_lt w (.cells #[.int .i64 x1, .int .i64 x2] 41) ⟨B, 0, none⟩ HB).trans c0
  have HM := Lib.hid ((Mod.refl [] w).alloc (.cells #[.int .i64 x1, .int .i64 x2] 41))
  have HC := Lib.hid (grIsLink_any x1 x2 n (w.alloc (.cells #[.int .i64 x1, .int .i64 x2] 41)))
  clear h
  go_enter Tryz.func15, Tryz.ntmps15
  go_wp2_with fail
  refine HC.out.mono ?_
  rintro e w1 ⟨rfl, m1⟩
  have HM1 := Lib.hid (HM.out.trans m1)
  clear m1
  go_wp2_with fail
  go_ret
  exact ⟨rfl, HM1.out⟩
def pTo (i : Int) (x : Sp) : Bool := decide (x.1 = i)
theorem grSorted1_any (x1 x2 i : Int) (B : Nat) (w : World) (h : DayAt w B i) :
    Calls Tryz.prog 37 #[.agg #[.int .i64 x1, .int .i64 x2], .pointer (some ⟨B, 0, none⟩)] w fun e w' => e = .returned (.bool (pTo i (x1, x2))) ∧ Mod [] w w' := by
  have HB := lt_of_heap h
  have c0 := cell_blk h 0
  simp at c0
  have c0' := (World.cell?_alloc_lt w (.cells #[.int .i64 x1, .int .i64 x2] 41) ⟨B, 0, none⟩ HB).trans c0
  have HM := Lib.hid ((Mod.refl [] w).alloc (.cells #[.int .i64 x1, .int .i64 x2] 41))
  clear h
  have HR := Lib.hid (show pTo i (x1, x2) = (x1 == i) by unfold pTo; by_cases h : x1 = i <;> simp [h])
  go_enter Tryz.func37, Tryz.ntmps37
  go_wp2
  go_ret
  exact ⟨by rw [HR.out]; rfl, HM.out⟩
def pAb (A : List Bool) (x : Sp) : Bool := A.getD x.1.toNat false
/-- a row of bools in a block of its own, in a variable's block -/
def BoolsAt (w : World) (B g : Nat) (A : List Bool) (cap : Nat) : Prop := w.heap[B]? = some (.cells #[.slice (some ⟨g, 0, none⟩) A.length cap] 83 (0, 0)) ∧ ∃ cs : Array Value, w.heap[g]? = some (.cells cs 4 (0, 0)) ∧ ∀ j, j < A.length → cs[j]? = some (.bool (A.getD j false))
theorem BoolsAt.kept {ks : List Nat} {w w' : World} {B g cap : Nat} {A : List Bool} (h : BoolsAt w B g A cap) (hm : Mod ks w w') (h1 : B ∉ ks) (h2 : g ∉ ks) : BoolsAt w' B g A cap := ⟨hm.heap h.1 h1, let ⟨cs, a, b⟩ := h.2; ⟨cs, hm.heap a h2, b⟩⟩
set_option maxHeartbeats 1000000 in
theorem indexOf_any (v : Value) (l : List Sp) (n : Int) (B : Nat) (w : World) (h : SpansAt w v l) (hB : DayAt w B n) (hl : l.length ≤ 1000000) :
    Calls Tryz.prog 26 #[v, .func (.func 15) #[] #[.pointer (some ⟨B, 0, none⟩)]] w fun e w' => ∃ r, e = .returned (.int .i64 r) ∧ decide (0 ≤ r) = l.any (pOf n) ∧ Mod [] w w' := by
  have H := Lib.hid h
  have HB := Lib.hid hB
  obtain ⟨a, c, rfl⟩ := h.form
  clear h hB
  go_enter Tryz.func26, Tryz.ntmps26
  go_wp2_with fail
  go_loopw [8] (fun s8 wr => ∃ i : Nat, i ≤ l.length ∧ s8 = .int .i64 i ∧ Hid (Mod [] w wr) ∧ Hid ((l.drop i).any (pOf n) = l.any (pOf n))) (fun s8 _ => l.length - (intOf s8).toNat)
  case atStart => exact ⟨0, by omega, rfl, Lib.hid (Mod.refl _ _), Lib.hid rfl⟩
  case round =>
    obtain ⟨i, hi, rfl, hM, hv⟩ := hrel
    by_cases hlt : i < l.length
    · obtain ⟨b, o, rfl, hc, c0, c1⟩ := (H.out.kept0 hM.out).get2 hlt
      have hd := hv.out
      rw [← List.getElem_cons_drop hlt] at hd
      have HD := Lib.hid (show ((pOf n) l[i] || (l.drop (i + 1)).any (pOf n)) = l.any (pOf n) by rw [← hd]; rfl)
      clear hd
      generalize l[i] = x at c0 c1 HD
      obtain ⟨x1, x2⟩ := x
      dsimp only at c0 c1 HD
      have HC := Lib.hid (fun W (k : Mod [] w W) => grOf1_any x1 x2 n B W (k.heap HB.out (by simp)))
      have HQ : Hid ((pOf n) (x1, x2) = true ∨ (pOf n) (x1, x2) = false) := Lib.hid (by cases (pOf n) (x1, x2) <;> simp)
      rcases HQ.out with hq | hq
      · rw [hq] at HC HD
        have HR := Lib.hid (show l.any (pOf n) = true by rw [← HD.out]; rfl)
        clear hq HQ HD
        go_wp2_with fail
        refine (HC.out _ hM.out).mono ?_
        rintro x w1 ⟨rfl, h1⟩
        have HM := Lib.hid (hM.out.trans h1)
        clear h1 c0 c1
        go_wp2_with fail
        go_ret
        exact ⟨i, rfl, by rw [HR.out]; simp, HM.out⟩
      · rw [hq] at HC HD
        have HR := Lib.hid (show (l.drop (i + 1)).any (pOf n) = l.any (pOf n) by rw [← HD.out]; rfl)
        clear hq HQ HD
        go_wp2_with fail
        refine (HC.out _ hM.out).mono ?_
        rintro x w1 ⟨rfl, h1⟩
        have HM := Lib.hid (hM.out.trans h1)
        clear h1 c0 c1
        go_wp2_with fail
        go_roundw
        case rel => exact ⟨i + 1, by omega, by go_num, HM, HR⟩
        case measure => simp [intOf]; omega
    · have HR := Lib.hid (show l.any (pOf n) = false by rw [← hv.out, List.drop_of_length_le (by omega)]; rfl)
      go_wp2_with fail
      go_ret
      exact ⟨-1, rfl, by rw [HR.out]; simp, hM.out⟩
theorem contOf_any (v : Value) (l : List Sp) (n : Int) (B : Nat) (w : World) (h : SpansAt w v l) (hB : DayAt w B n) (hl : l.length ≤ 1000000) :
    Calls Tryz.prog 14 #[v, .func (.func 15) #[] #[.pointer (some ⟨B, 0, none⟩)]] w fun e w' => e = .returned (.bool (l.any (pOf n))) ∧ Mod [] w w' := by
  have HC := Lib.hid (indexOf_any v l n B w h hB hl)
  clear h hB
  go_enter Tryz.func14, Tryz.ntmps14
  go_wp2_with fail
  refine HC.out.mono ?_
  rintro e w1 ⟨r, rfl, hr, hm⟩
  have HR := Lib.hid hr
  have HM := Lib.hid hm
  clear hr hm
  go_wp2_with fail
  go_ret
  exact ⟨by rw [← HR.out]; rfl, HM.out⟩
set_option maxHeartbeats 1000000 in
theorem indexTo_any (v : Value) (l : List Sp) (z : Int) (B : Nat) (w : World) (h : SpansAt w v l) (hB : DayAt w B z) (hl : l.length ≤ 1000000) :
    Calls Tryz.prog 26 #[v, .func (.func 37) #[] #[.pointer (some ⟨B, 0, none⟩)]] w fun e w' => ∃ r, e = .returned (.int .i64 r) ∧ decide (0 ≤ r) = l.any (pTo z) ∧ Mod [] w w' := by
  have H := Lib.hid h
  have HB := Lib.hid hB
  obtain ⟨a, c, rfl⟩ := h.form
  clear h hB
  go_enter Tryz.func26, Tryz.ntmps26
  go_wp2_with fail
  go_loopw [8] (fun s8 wr => ∃ i : Nat, i ≤ l.length ∧ s8 = .int .i64 i ∧ Hid (Mod [] w wr) ∧ Hid ((l.drop i).any (pTo z) = l.any (pTo z))) (fun s8 _ => l.length - (intOf s8).toNat)
  case atStart => exact ⟨0, by omega, rfl, Lib.hid (Mod.refl _ _), Lib.hid rfl⟩
  case round =>
    obtain ⟨i, hi, rfl, hM, hv⟩ := hrel
    by_cases hlt : i < l.length
    · obtain ⟨b, o, rfl, hc, c0, c1⟩ := (H.out.kept0 hM.out).get2 hlt
      have hd := hv.out
      rw [← List.getElem_cons_drop hlt] at hd
      have HD := Lib.hid (show ((pTo z) l[i] || (l.drop (i + 1)).any (pTo z)) = l.any (pTo z) by rw [← hd]; rfl)
      clear hd
      generalize l[i] = x at c0 c1 HD
      obtain ⟨x1, x2⟩ := x
      dsimp only at c0 c1 HD
      have HC := Lib.hid (fun W (k : Mod [] w W) => grSorted1_any x1 x2 z B W (k.heap HB.out (by simp)))
      have HQ : Hid ((pTo z) (x1, x2) = true ∨ (pTo z) (x1, x2) = false) := Lib.hid (by cases (pTo z) (x1, x2) <;> simp)
      rcases HQ.out with hq | hq
      · rw [hq] at HC HD
        have HR := Lib.hid (show l.any (pTo z) = true by rw [← HD.out]; rfl)
        clear hq HQ HD
        go_wp2_with fail
        refine (HC.out _ hM.out).mono ?_
        rintro x w1 ⟨rfl, h1⟩
        have HM := Lib.hid (hM.out.trans h1)
        clear h1 c0 c1
        go_wp2_with fail
        go_ret
        exact ⟨i, rfl, by rw [HR.out]; simp, HM.out⟩
      · rw [hq] at HC HD
        have HR := Lib.hid (show (l.drop (i + 1)).any (pTo z) = l.any (pTo z) by rw [← HD.out]; rfl)
        clear hq HQ HD
        go_wp2_with fail
        refine (HC.out _ hM.out).mono ?_
        rintro x w1 ⟨rfl, h1⟩
        have HM := Lib.hid (hM.out.trans h1)
        clear h1 c0 c1
        go_wp2_with fail
        go_roundw
        case rel => exact ⟨i + 1, by omega, by go_num, HM, HR⟩
        case measure => simp [intOf]; omega
    · have HR := Lib.hid (show l.any (pTo z) = false by rw [← hv.out, List.drop_of_length_le (by omega)]; rfl)
      go_wp2_with fail
      go_ret
      exact ⟨-1, rfl, by rw [HR.out]; simp, hM.out⟩
theorem contTo_any (v : Value) (l : List Sp) (z : Int) (B : Nat) (w : World) (h : SpansAt w v l) (hB : DayAt w B z) (hl : l.length ≤ 1000000) :
    Calls Tryz.prog 14 #[v, .func (.func 37) #[] #[.pointer (some ⟨B, 0, none⟩)]] w fun e w' => e = .returned (.bool (l.any (pTo z))) ∧ Mod [] w w' := by
  have HC := Lib.hid (indexTo_any v l z B w h hB hl)
  clear h hB
  go_enter Tryz.func14, Tryz.ntmps14
  go_wp2_with fail
  refine HC.out.mono ?_
  rintro e w1 ⟨r, rfl, hr, hm⟩
  have HR := Lib.hid hr
  have HM := Lib.hid hm
  clear hr hm
  go_wp2_with fail
  go_ret
  exact ⟨by rw [← HR.out]; rfl, HM.out⟩
end Go.Proofs.YtefaihockgebeaaGreat
