/- The document's spans: Wide, Days. -/
import Derived.Test.YtefaihockgebeaaGreatSpI
namespace Go.Proofs.YtefaihockgebeaaGreat
open Go.RowKit Go.ChangeMaps Go.Deep
set_option linter.unusedSimpArgs false
set_option linter.unusedVariables false
set_option maxRecDepth 20000

/-- A span of a row of the call's own: read; its end written. -/
structure SpanOwn (w : World) (base : Nat) (v : Value) (l : List Sp) (i : Nat) (x : Sp) (g : Nat) : Prop where
  low : base ≤ g
  c0 : w.cell? ⟨g, i * 2, none⟩ = some (.int .i64 x.1)
  c1 : w.cell? ⟨g, i * 2 + 1, none⟩ = some (.int .i64 x.2)
  f1 : w.frozen? ⟨g, i * 2 + 1, none⟩ = false
  set : ∀ u, OwnS (w.setCell ⟨g, i * 2 + 1, none⟩ (.int .i64 u)) base v (l.set i (x.1, u))
  mod : ∀ w0 u, w0.heap.size ≤ base → Mod [] w0 w → Mod [] w0 (w.setCell ⟨g, i * 2 + 1, none⟩ u)
theorem OwnR.span {w : World} {base : Nat} {a : Option Addr} {c : Nat} {l : List Sp} (h : OwnS w base (.slice a l.length c) l) {i : Nat} (hi : i < l.length) : ∃ g, a = some ⟨g, 0, none⟩ ∧ l.length ≤ c ∧ SpanOwn w base (.slice a l.length c) l i l[i] g := by
  rcases h.form with ⟨_, e⟩ | ⟨g, cap, e, hb, hg, hc⟩
  · subst e; simp at hi
  · simp only [Value.slice.injEq, true_and] at e
    obtain ⟨rfl, rfl⟩ := e
    have h0 := h.cell encS_len (i := i) (j := 0) hi (by omega) (u := .int .i64 l[i].1) rfl
    have h1 := h.cell encS_len (i := i) (j := 1) hi (by omega) (u := .int .i64 l[i].2) rfl
    exact ⟨g, rfl, hc, hb, h0.1, h1.1, h1.2, fun u => h.set encS_len (i := i) (j := 1) hi (by omega) (u := .int .i64 u) (y := (l[i].1, u)) rfl, fun w0 u h0 hm => hm.setCellNew (by show w0.heap.size ≤ g; omega) u⟩
def wideTo (m : List Sp) (k : Int) (i : Nat) : List Sp := wideL (m.take i) k ++ m.drop i
theorem wideTo_length (m : List Sp) (k : Int) (i : Nat) : (wideTo m k i).length = m.length := by simp [wideTo, wideL]; omega
theorem wideTo_zero (m : List Sp) (k : Int) : wideTo m k 0 = m := by simp [wideTo, wideL]
theorem wideTo_all (m : List Sp) (k : Int) : wideTo m k m.length = wideL m k := by simp [wideTo]
theorem wideTo_get (m : List Sp) (k : Int) (i : Nat) (h : i < m.length) : (wideTo m k i)[i]'(by rw [wideTo_length]; exact h) = m[i] := by
  unfold wideTo
  have e : (wideL (m.take i) k).length = i := by simp [wideL]; omega
  rw [List.getElem_append_right (by omega)]
  simp [e]
theorem wideTo_set (m : List Sp) (k : Int) (i : Nat) (h : i < m.length) : (wideTo m k i).set i (m[i].1, m[i].2 + k) = wideTo m k (i + 1) := by
  unfold wideTo
  have e : (wideL (m.take i) k).length = i := by simp [wideL]; omega
  rw [List.set_append_right _ _ (by omega), e, Nat.sub_self, List.take_succ_eq_append_getElem h, ← List.getElem_cons_drop h, List.set_cons_zero]
  simp only [wideL, List.map_append, List.map_cons, List.map_nil, List.append_assoc, List.cons_append, List.nil_append]
def clampK (k : Int) : Int := min (max k 0) 3652060
theorem clampK_range (k : Int) : 0 ≤ clampK k ∧ clampK k ≤ 3652060 := by unfold clampK; omega
theorem twoS_len (l : List Sp) : (twoS l [] 0).length ≤ 2 * l.length := by
  have h1 := mergeS_len ((pairs (endsS (endsS [] l) [])).filter fun x => twoF l [] 0 x.1)
  have h2 := List.length_filter_le (fun x : Sp => twoF l [] 0 x.1) (pairs (endsS (endsS [] l) []))
  have h3 := pairs_length (endsS (endsS [] l) [])
  have h4 := length_endsS [] (endsS [] l)
  have h5 := length_endsS l []
  rw [twoS_eq]
  simp at h4 h5
  omega
set_option maxHeartbeats 4000000 in
theorem rWide_any (v : Value) (l : List Sp) (k : Int) (w : World) (h : SpansAt w v l) (hl : l.length ≤ 5000) :
    Calls Tryz.prog 25 #[v, .int .i64 k] w fun e w' => ∃ v', e = .returned v' ∧ OwnS w' w.heap.size v' (twoS (wideL (twoS l [] 0) (clampK k)) [] 0) ∧ Mod [] w w' := by
  have HC := Lib.hid (rOf_any v l w h (by omega))
  have HLN := Lib.hid (twoS_len l)
  have HRT := Lib.hid ((twoS_of l).1.wide (Int.le_refl 0))
  clear h
  generalize twoS l [] 0 = m at HC HLN HRT
  have hkk := clampK_range k
  have HKK : Hid (k < 0 ∨ 3652060 < k ∨ (0 ≤ k ∧ k ≤ 3652060)) := Lib.hid (by omega)
  have HK1 : Hid (k < 0 → clampK k = 0) := Lib.hid (by intro h; unfold clampK; omega)
  have HK2 : Hid (3652060 < k → clampK k = 3652060) := Lib.hid (by intro h; unfold clampK; omega)
  have HK3 : Hid (0 ≤ k ∧ k ≤ 3652060 → clampK k = k) := Lib.hid (by intro h; unfold clampK; omega)
  have hml : m.length ≤ 10000 := by have := HLN.out; omega
  rcases HKK.out with hk | hk | hk
  · have HE := HK1.out hk
    rw [HE]
    rw [HE] at hkk
    clear HE HKK HK1 HK2 HK3
    go_enter Tryz.func25, Tryz.ntmps25
    go_wp2_with fail
    refine HC.out.mono ?_
    rintro e w1 ⟨v1, rfl, o1, m1⟩
    have HO := Lib.hid o1
    have HM := Lib.hid m1
    obtain ⟨a1, c1, rfl⟩ := o1.row.form
    clear o1 m1
    go_wp2_with fail
    go_loopw [6] (fun s6 wr => ∃ i : Nat, i ≤ m.length ∧ s6 = .int .i64 i ∧ Hid (OwnS wr w.heap.size (.slice a1 m.length c1) (wideTo m 0 i)) ∧ Hid (Mod [] w wr)) (fun s6 _ => m.length - (intOf s6).toNat)
    case atStart => exact ⟨0, by omega, rfl, Lib.hid (by rw [wideTo_zero]; exact HO.out), HM⟩
    case round =>
      obtain ⟨i, hi, rfl, hown, hM⟩ := hrel
      by_cases hlt : i < m.length
      · have ho := hown.out
        have hl' := wideTo_length m 0 i
        rw [← hl'] at ho
        obtain ⟨g, rfl, hc, S⟩ := ho.span (i := i) (by rw [hl']; exact hlt)
        rw [wideTo_get m 0 i hlt, hl'] at S
        rw [hl'] at hc
        have hR := HRT.out m[i] (List.getElem_mem hlt)
        have HST := Lib.hid (fun u (hu : u = m[i].2 + 0) => show OwnS (wr.setCell ⟨g, i * 2 + 1, none⟩ (.int .i64 u)) w.heap.size (.slice (some ⟨g, 0, none⟩) m.length c1) (wideTo m 0 (i + 1)) by
          subst hu
          rw [← wideTo_set m 0 i hlt]
          exact S.set _)
        have HMD := Lib.hid (fun u => S.mod w u (Nat.le_refl _) hM.out)
        have q0 := S.c0
        have q1 := S.c1
        have q2 := S.f1
        generalize m[i] = x at q0 q1 hR HST
        obtain ⟨x1, x2⟩ := x
        dsimp only at q0 q1 hR HST
        have HS2 := Lib.hid (HST.out x2 (by first | rfl | omega))
        clear ho hl' S HST
        go_wp2_with fail
        go_roundw
        case rel => exact ⟨i + 1, by omega, by go_num, HS2, Lib.hid (HMD.out _)⟩
        case measure => simp [intOf]; omega
      · have HR := Lib.hid (show wideTo m 0 i = wideL m 0 by rw [show i = m.length by omega, wideTo_all])
        have ho := hown.out
        rw [HR.out] at ho
        have HQ := Lib.hid (rOf_any (.slice a1 m.length c1) (wideL m 0) wr ho.row (by simp [wideL]; omega))
        clear ho HR
        go_wp2_with fail
        refine HQ.out.mono ?_
        rintro e w2 ⟨v2, rfl, o2, m2⟩
        have HO2 := Lib.hid (o2.mono hM.out.size)
        have HM2 := Lib.hid (hM.out.trans m2)
        clear o2 m2
        go_wp2_with fail
        go_ret
        exact ⟨_, rfl, HO2.out, HM2.out⟩
  · have HE := HK2.out hk
    rw [HE]
    rw [HE] at hkk
    clear HE HKK HK1 HK2 HK3
    go_enter Tryz.func25, Tryz.ntmps25
    go_wp2_with fail
    refine HC.out.mono ?_
    rintro e w1 ⟨v1, rfl, o1, m1⟩
    have HO := Lib.hid o1
    have HM := Lib.hid m1
    obtain ⟨a1, c1, rfl⟩ := o1.row.form
    clear o1 m1
    go_wp2_with fail
    go_loopw [6] (fun s6 wr => ∃ i : Nat, i ≤ m.length ∧ s6 = .int .i64 i ∧ Hid (OwnS wr w.heap.size (.slice a1 m.length c1) (wideTo m 3652060 i)) ∧ Hid (Mod [] w wr)) (fun s6 _ => m.length - (intOf s6).toNat)
    case atStart => exact ⟨0, by omega, rfl, Lib.hid (by rw [wideTo_zero]; exact HO.out), HM⟩
    case round =>
      obtain ⟨i, hi, rfl, hown, hM⟩ := hrel
      by_cases hlt : i < m.length
      · have ho := hown.out
        have hl' := wideTo_length m 3652060 i
        rw [← hl'] at ho
        obtain ⟨g, rfl, hc, S⟩ := ho.span (i := i) (by rw [hl']; exact hlt)
        rw [wideTo_get m 3652060 i hlt, hl'] at S
        rw [hl'] at hc
        have hR := HRT.out m[i] (List.getElem_mem hlt)
        have HST := Lib.hid (fun u (hu : u = m[i].2 + 3652060) => show OwnS (wr.setCell ⟨g, i * 2 + 1, none⟩ (.int .i64 u)) w.heap.size (.slice (some ⟨g, 0, none⟩) m.length c1) (wideTo m 3652060 (i + 1)) by
          subst hu
          rw [← wideTo_set m 3652060 i hlt]
          exact S.set _)
        have HMD := Lib.hid (fun u => S.mod w u (Nat.le_refl _) hM.out)
        have q0 := S.c0
        have q1 := S.c1
        have q2 := S.f1
        generalize m[i] = x at q0 q1 hR HST
        obtain ⟨x1, x2⟩ := x
        dsimp only at q0 q1 hR HST
        have HS2 := Lib.hid (HST.out (x2 + 3652060) (by first | rfl | omega))
        clear ho hl' S HST
        go_wp2_with fail
        go_roundw
        case rel => exact ⟨i + 1, by omega, by go_num, HS2, Lib.hid (HMD.out _)⟩
        case measure => simp [intOf]; omega
      · have HR := Lib.hid (show wideTo m 3652060 i = wideL m 3652060 by rw [show i = m.length by omega, wideTo_all])
        have ho := hown.out
        rw [HR.out] at ho
        have HQ := Lib.hid (rOf_any (.slice a1 m.length c1) (wideL m 3652060) wr ho.row (by simp [wideL]; omega))
        clear ho HR
        go_wp2_with fail
        refine HQ.out.mono ?_
        rintro e w2 ⟨v2, rfl, o2, m2⟩
        have HO2 := Lib.hid (o2.mono hM.out.size)
        have HM2 := Lib.hid (hM.out.trans m2)
        clear o2 m2
        go_wp2_with fail
        go_ret
        exact ⟨_, rfl, HO2.out, HM2.out⟩
  · have HE := HK3.out hk
    rw [HE]
    rw [HE] at hkk
    clear HE HKK HK1 HK2 HK3
    obtain ⟨hk, hk'⟩ := hk
    go_enter Tryz.func25, Tryz.ntmps25
    go_wp2_with fail
    refine HC.out.mono ?_
    rintro e w1 ⟨v1, rfl, o1, m1⟩
    have HO := Lib.hid o1
    have HM := Lib.hid m1
    obtain ⟨a1, c1, rfl⟩ := o1.row.form
    clear o1 m1
    go_wp2_with fail
    go_loopw [6] (fun s6 wr => ∃ i : Nat, i ≤ m.length ∧ s6 = .int .i64 i ∧ Hid (OwnS wr w.heap.size (.slice a1 m.length c1) (wideTo m k i)) ∧ Hid (Mod [] w wr)) (fun s6 _ => m.length - (intOf s6).toNat)
    case atStart => exact ⟨0, by omega, rfl, Lib.hid (by rw [wideTo_zero]; exact HO.out), HM⟩
    case round =>
      obtain ⟨i, hi, rfl, hown, hM⟩ := hrel
      by_cases hlt : i < m.length
      · have ho := hown.out
        have hl' := wideTo_length m k i
        rw [← hl'] at ho
        obtain ⟨g, rfl, hc, S⟩ := ho.span (i := i) (by rw [hl']; exact hlt)
        rw [wideTo_get m k i hlt, hl'] at S
        rw [hl'] at hc
        have hR := HRT.out m[i] (List.getElem_mem hlt)
        have HST := Lib.hid (fun u (hu : u = m[i].2 + k) => show OwnS (wr.setCell ⟨g, i * 2 + 1, none⟩ (.int .i64 u)) w.heap.size (.slice (some ⟨g, 0, none⟩) m.length c1) (wideTo m k (i + 1)) by
          subst hu
          rw [← wideTo_set m k i hlt]
          exact S.set _)
        have HMD := Lib.hid (fun u => S.mod w u (Nat.le_refl _) hM.out)
        have q0 := S.c0
        have q1 := S.c1
        have q2 := S.f1
        generalize m[i] = x at q0 q1 hR HST
        obtain ⟨x1, x2⟩ := x
        dsimp only at q0 q1 hR HST
        have HS2 := Lib.hid (HST.out (x2 + k) (by first | rfl | omega))
        clear ho hl' S HST
        go_wp2_with fail
        go_roundw
        case rel => exact ⟨i + 1, by omega, by go_num, HS2, Lib.hid (HMD.out _)⟩
        case measure => simp [intOf]; omega
      · have HR := Lib.hid (show wideTo m k i = wideL m k by rw [show i = m.length by omega, wideTo_all])
        have ho := hown.out
        rw [HR.out] at ho
        have HQ := Lib.hid (rOf_any (.slice a1 m.length c1) (wideL m k) wr ho.row (by simp [wideL]; omega))
        clear ho HR
        go_wp2_with fail
        refine HQ.out.mono ?_
        rintro e w2 ⟨v2, rfl, o2, m2⟩
        have HO2 := Lib.hid (o2.mono hM.out.size)
        have HM2 := Lib.hid (hM.out.trans m2)
        clear o2 m2
        go_wp2_with fail
        go_ret
        exact ⟨_, rfl, HO2.out, HM2.out⟩
theorem daysL_take {l : List Sp} (h : Right 0 l) (i : Nat) : 0 ≤ daysL (l.take i) ∧ daysL (l.take i) ≤ 3652060 := by
  have hr : ∀ {l : List Sp} {a : Int}, Right a l → ∀ i, Right a (l.take i) := by
    intro l
    induction l with
    | nil => intro a h i; simpa using h
    | cons x l ih =>
      intro a h i
      cases i with
      | zero => trivial
      | succ i => exact ⟨h.1, h.2.1, h.2.2.1, ih h.2.2.2 i⟩
  have := daysL_le (hr h i)
  rcases this with ⟨h1, h2 | h2⟩
  · exact ⟨h1, by omega⟩
  · rw [h2] at h1 ⊢; exact ⟨h1, by simp [daysL]⟩
end Go.Proofs.YtefaihockgebeaaGreat
