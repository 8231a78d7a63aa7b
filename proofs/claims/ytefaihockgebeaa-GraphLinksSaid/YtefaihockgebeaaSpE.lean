/- Spans: May, own, All, Has. -/
import Derived.Test.YtefaihockgebeaaSpD
namespace Go.Proofs.Ytefaihockgebeaa
open Go.RowKit Go.ChangeMaps Go.Deep
set_option linter.unusedSimpArgs false
set_option linter.unusedVariables false
set_option maxRecDepth 20000

theorem RowAt.get2 {w : World} {a : Option Addr} {c : Nat} {l : List Sp} (h : SpansAt w (.slice a l.length c) l) {i : Nat} (hi : i < l.length) :
    ∃ b o, a = some ⟨b, o, none⟩ ∧ l.length ≤ c ∧ w.cell? ⟨b, o + i * 2, none⟩ = some (.int .i64 l[i].1) ∧ w.cell? ⟨b, o + i * 2 + 1, none⟩ = some (.int .i64 l[i].2) := by
  obtain ⟨b, o, e, hc, hg⟩ := h.get encS_len hi
  have h0 := hg 0 (.int .i64 l[i].1) (by omega) rfl
  have h1 := hg 1 (.int .i64 l[i].2) (by omega) rfl
  exact ⟨b, o, e, hc, h0, by rw [Nat.add_assoc]; exact h1⟩
theorem RowAt.get1 {w : World} {a : Option Addr} {c : Nat} {l : List Int} (h : IntsIn w (.slice a l.length c) l) {i : Nat} (hi : i < l.length) :
    ∃ b o, a = some ⟨b, o, none⟩ ∧ l.length ≤ c ∧ w.cell? ⟨b, o + i, none⟩ = some (.int .i64 l[i]) := by
  obtain ⟨b, o, e, hc, hg⟩ := h.get encI_len hi
  have h0 := hg 0 (.int .i64 l[i]) (by omega) rfl
  exact ⟨b, o, e, hc, by simpa using h0⟩
def mayB : Int → List Sp → Bool
  | _, [] => true
  | a, x :: l => decide (a < x.1) && decide (x.1 < x.2) && decide (x.2 ≤ 3652060) && mayB x.2 l
theorem mayB_iff {l : List Sp} : ∀ {a : Int}, mayB a l = true ↔ Right a l := by
  induction l with
  | nil => intro a; simp [mayB, Right]
  | cons x l ih => intro a; simp [mayB, Right, ih, and_assoc]
/-- the numbers of a span's slice are such as int64 holds -/
def Wide64 (l : List Sp) : Prop := ∀ x ∈ l, -9223372036854775808 ≤ x.1 ∧ x.1 ≤ 9223372036854775807 ∧ -9223372036854775808 ≤ x.2 ∧ x.2 ≤ 9223372036854775807
theorem Right.wide {a : Int} {l : List Sp} (h0 : 0 ≤ a) (h : Right a l) : ∀ x ∈ l, 0 ≤ x.1 ∧ x.1 < x.2 ∧ x.2 ≤ 3652060 := by
  induction l generalizing a with
  | nil => intro _ h; cases h
  | cons y l ih =>
    obtain ⟨h1, h2, h3, h4⟩ := h
    intro x hx
    rcases List.mem_cons.1 hx with rfl | hx
    · exact ⟨by omega, h2, h3⟩
    · exact ih (by omega) h4 x hx
set_option maxHeartbeats 1000000 in
theorem spMay_any (v : Value) (l : List Sp) (w : World) (h : SpansAt w v l) (hl : l.length ≤ 1000000) :
    Calls Try.prog 37 #[v] w fun e w' => e = .returned (.bool (mayB 0 l)) ∧ Mod [] w w' := by
  have H := Lib.hid h
  obtain ⟨a, c, rfl⟩ := h.form
  clear h
  go_enter Try.func37, Try.ntmps37
  go_wp2_with fail
  go_loopw [3, 8] (fun s3 s8 wr => ∃ (i : Nat) (z : Int), i ≤ l.length ∧ s8 = .int .i64 i ∧ s3 = .int .i64 z ∧ Hid (Mod [] w wr) ∧ Hid (mayB z (l.drop i) = mayB 0 l)) (fun _ s8 _ => l.length - (intOf s8).toNat)
  case atStart => exact ⟨0, 0, by omega, rfl, rfl, Lib.hid (Mod.refl _ _), Lib.hid rfl⟩
  case round =>
    obtain ⟨i, z, hi, rfl, rfl, hM, hv⟩ := hrel
    by_cases hlt : i < l.length
    · obtain ⟨b, o, rfl, hc, c0, c1⟩ := (H.out.kept0 hM.out).get2 hlt
      have hd := hv.out
      rw [← List.getElem_cons_drop hlt, mayB] at hd
      have HM := Lib.hid (hM.out.alloc (.cells #[.int .i64 l[i].1, .int .i64 l[i].2] 64))
      have HD := Lib.hid hd
      clear hd
      generalize l[i] = x at c0 c1 HM HD
      obtain ⟨x1, x2⟩ := x
      dsimp only at c0 c1 HM HD
      by_cases h1 : x1 ≤ z
      · have HR := Lib.hid (show mayB 0 l = false by
            have e : ¬ z < x1 := by omega
            rw [← HD.out]
            simp [e])
        go_wp2_with fail
        go_ret
        exact ⟨by rw [HR.out]; rfl, HM.out⟩
      · by_cases h2 : x2 ≤ x1
        · have HR := Lib.hid (show mayB 0 l = false by
            have e : ¬ x1 < x2 := by omega
            rw [← HD.out]
            simp [e])
          go_wp2_with fail
          go_ret
          exact ⟨by rw [HR.out]; rfl, HM.out⟩
        · by_cases h3 : 3652060 < x2
          · have HR := Lib.hid (show mayB 0 l = false by
            have e : ¬ x2 ≤ 3652060 := by omega
            rw [← HD.out]
            simp [e])
            go_wp2_with fail
            go_ret
            exact ⟨by rw [HR.out]; rfl, HM.out⟩
          · have HR := Lib.hid (show mayB x2 (l.drop (i + 1)) = mayB 0 l by
              rw [← HD.out]
              have e1 : z < x1 := by omega
              have e2 : x1 < x2 := by omega
              have e3 : x2 ≤ 3652060 := by omega
              simp [e1, e2, e3])
            go_wp2_with fail
            go_roundw
            case rel => exact ⟨i + 1, x2, by omega, by go_num, rfl, HM, HR⟩
            case measure => simp [intOf]; omega
    · have HR := Lib.hid (show mayB 0 l = true by rw [← hv.out, List.drop_of_length_le (by omega)]; rfl)
      go_wp2_with fail
      go_ret
      exact ⟨by rw [HR.out]; rfl, hM.out⟩
def inOne (d : Int) (x : Sp) : Bool := decide (x.1 ≤ d) && decide (d < x.2)
theorem inB_eq (l : List Sp) (d : Int) : inB l d = l.any (inOne d) := rfl
/-- .. the day lies in a block of its own -/
def DayAt (w : World) (B : Nat) (d : Int) : Prop := w.heap[B]? = some (.cells #[.int .i64 d] 3 (0, 0))
theorem spHas1_any (x1 x2 d : Int) (B : Nat) (w : World) (h : DayAt w B d) :
    Calls Try.prog 77 #[.agg #[.int .i64 x1, .int .i64 x2], .pointer (some ⟨B, 0, none⟩)] w fun e w' => e = .returned (.bool (inOne d (x1, x2))) ∧ Mod [] w w' := by
  have HB := lt_of_heap h
  have c0 := cell_blk h 0
  simp at c0
  have c0' := (World.cell?_alloc_lt w (.cells #[.int .i64 x1, .int .i64 x2] 64) ⟨B, 0, none⟩ HB).trans c0
  have HM := Lib.hid ((Mod.refl [] w).alloc (.cells #[.int .i64 x1, .int .i64 x2] 64))
  clear h
  by_cases h1 : x1 ≤ d
  · by_cases h2 : d < x2
    · have HR := Lib.hid (show inOne d (x1, x2) = true by simp [inOne, h1, h2])
      go_enter Try.func77, Try.ntmps77
      go_wp2
      go_ret
      exact ⟨by rw [HR.out]; rfl, HM.out⟩
    · have HR := Lib.hid (show inOne d (x1, x2) = false by simp [inOne, h1, h2])
      go_enter Try.func77, Try.ntmps77
      go_wp2
      go_ret
      exact ⟨by rw [HR.out]; rfl, HM.out⟩
  · have HR := Lib.hid (show inOne d (x1, x2) = false by simp [inOne, h1])
    go_enter Try.func77, Try.ntmps77
    go_wp2
    go_ret
    exact ⟨by rw [HR.out]; rfl, HM.out⟩
set_option maxHeartbeats 1000000 in
theorem indexSpan_any (v : Value) (l : List Sp) (d : Int) (B : Nat) (w : World) (h : SpansAt w v l) (hB : DayAt w B d) (hl : l.length ≤ 1000000) :
    Calls Try.prog 101 #[v, .func (.func 77) #[] #[.pointer (some ⟨B, 0, none⟩)]] w fun e w' => ∃ r, e = .returned (.int .i64 r) ∧ decide (0 ≤ r) = inB l d ∧ Mod [] w w' := by
  have H := Lib.hid h
  have HB := Lib.hid hB
  obtain ⟨a, c, rfl⟩ := h.form
  clear h hB
  go_enter Try.func101, Try.ntmps101
  go_wp2_with fail
  go_loopw [8] (fun s8 wr => ∃ i : Nat, i ≤ l.length ∧ s8 = .int .i64 i ∧ Hid (Mod [] w wr) ∧ Hid (inB (l.drop i) d = inB l d)) (fun s8 _ => l.length - (intOf s8).toNat)
  case atStart => exact ⟨0, by omega, rfl, Lib.hid (Mod.refl _ _), Lib.hid rfl⟩
  case round =>
    obtain ⟨i, hi, rfl, hM, hv⟩ := hrel
    by_cases hlt : i < l.length
    · obtain ⟨b, o, rfl, hc, c0, c1⟩ := (H.out.kept0 hM.out).get2 hlt
      have hd := hv.out
      rw [← List.getElem_cons_drop hlt] at hd
      have HD := Lib.hid (show (inOne d l[i] || inB (l.drop (i + 1)) d) = inB l d by rw [← hd, inB_eq, inB_eq]; rfl)
      clear hd
      generalize l[i] = x at c0 c1 HD
      obtain ⟨x1, x2⟩ := x
      dsimp only at c0 c1 HD
      have HC := Lib.hid (fun W (k : Mod [] w W) => spHas1_any x1 x2 d B W (k.heap HB.out (by simp)))
      have HQ : Hid (inOne d (x1, x2) = true ∨ inOne d (x1, x2) = false) := Lib.hid (by cases inOne d (x1, x2) <;> simp)
      rcases HQ.out with hq | hq
      · rw [hq] at HC HD
        have HR := Lib.hid (show inB l d = true by rw [← HD.out]; rfl)
        clear hq HQ HD
        go_wp2_with fail
        refine (HC.out _ hM.out).mono ?_
        rintro x w1 ⟨rfl, h1⟩
        have HM := Lib.hid (hM.out.trans h1)
        clear h1 c0 c1
        go_wp2_with fail
        go_ret
        exact ⟨i, rfl, by rw [HR.out]; simp, HM.out⟩
      · rw [hq] at HC HD
        have HR := Lib.hid (show inB (l.drop (i + 1)) d = inB l d by rw [← HD.out]; rfl)
        clear hq HQ HD
        go_wp2_with fail
        refine (HC.out _ hM.out).mono ?_
        rintro x w1 ⟨rfl, h1⟩
        have HM := Lib.hid (hM.out.trans h1)
        clear h1 c0 c1
        go_wp2_with fail
        go_roundw
        case rel => exact ⟨i + 1, by omega, by go_num, HM, HR⟩
        case measure => simp [intOf]; omega
    · have HR := Lib.hid (show inB l d = false by rw [← hv.out, List.drop_of_length_le (by omega)]; rfl)
      go_wp2_with fail
      go_ret
      exact ⟨-1, rfl, by rw [HR.out]; simp, hM.out⟩
theorem contSpan_any (v : Value) (l : List Sp) (d : Int) (B : Nat) (w : World) (h : SpansAt w v l) (hB : DayAt w B d) (hl : l.length ≤ 1000000) :
    Calls Try.prog 76 #[v, .func (.func 77) #[] #[.pointer (some ⟨B, 0, none⟩)]] w fun e w' => e = .returned (.bool (inB l d)) ∧ Mod [] w w' := by
  have HC := Lib.hid (indexSpan_any v l d B w h hB hl)
  clear h hB
  go_enter Try.func76, Try.ntmps76
  go_wp2_with fail
  refine HC.out.mono ?_
  rintro e w1 ⟨r, rfl, hr, hm⟩
  have HR := Lib.hid hr
  have HM := Lib.hid hm
  clear hr hm
  go_wp2_with fail
  go_ret
  exact ⟨by rw [← HR.out]; rfl, HM.out⟩
set_option maxHeartbeats 1000000 in
theorem spHas_any (v : Value) (l : List Sp) (d : Int) (w : World) (h : SpansAt w v l) (hl : l.length ≤ 1000000) :
    Calls Try.prog 36 #[v, .int .i64 d] w fun e w' => e = .returned (.bool (hasB l d)) ∧ Mod [] w w' := by
  have HM := Lib.hid ((Mod.refl [] w).alloc (.cells #[.int .i64 d] 3))
  by_cases h1 : 1 ≤ d
  · by_cases h2 : d < 3652060
    · have HR := Lib.hid (hasB_in (l := l) h1 h2)
      have HC := Lib.hid (contSpan_any v l d w.heap.size (w.alloc (.cells #[.int .i64 d] 3)) (h.kept0 HM.out) (heap_alloc_new w _) hl)
      clear h
      go_enter Try.func36, Try.ntmps36
      go_wp2_with fail
      refine HC.out.mono ?_
      rintro e w1 ⟨rfl, hm⟩
      have HM1 := Lib.hid (HM.out.trans hm)
      clear hm
      go_wp2_with fail
      go_ret
      exact ⟨by rw [HR.out]; rfl, HM1.out⟩
    · have HR := Lib.hid (hasB_out (l := l) (d := d) (.inr (by omega)))
      clear h
      go_enter Try.func36, Try.ntmps36
      go_wp2
      go_ret
      exact ⟨by rw [HR.out]; rfl, HM.out⟩
  · have HR := Lib.hid (hasB_out (l := l) (d := d) (.inl (by omega)))
    clear h
    go_enter Try.func36, Try.ntmps36
    go_wp2
    go_ret
    exact ⟨by rw [HR.out]; rfl, HM.out⟩
end Go.Proofs.Ytefaihockgebeaa
