/- Layer 7's statements: great, known. -/
import Derived.Test.YtefaihockgebeaaSpP
namespace Go.Proofs.Ytefaihockgebeaa
open Go.RowKit Go.ChangeMaps Go.Deep
set_option linter.unusedSimpArgs false
set_option linter.unusedVariables false
set_option maxRecDepth 20000

theorem row_lit {α : Type} {enc : α → List Value} {E : TypeId} (w : World) (l : List α) (c : Array Value) (n : Nat) (hc : c = (flat enc l).toArray) (hn : n = l.length) : RowAt enc (w.alloc (.cells c E)) (.slice (some ⟨w.heap.size, 0, none⟩) n n) l := by
  subst hc; subst hn
  exact .at_ _ 0 _ l (Nat.le_refl _) (fun j u hu => by
    rw [Nat.zero_add, cell_blk (heap_alloc_new w _)]
    simpa using hu)
theorem row_lit' {α : Type} {enc : α → List Value} {E : TypeId} (w : World) (l : List α) (c : Array Value) (n b : Nat) (hc : c = (flat enc l).toArray) (hn : n = l.length) (hb : b = w.heap.size) : RowAt enc (w.alloc (.cells c E)) (.slice (some ⟨b, 0, none⟩) n n) l := by
  subst hb
  exact row_lit w l c n hc hn
abbrev spans_lit (w : World) (l : List Sp) (c : Array Value) (n : Nat) (hc : c = (flat encS l).toArray) (hn : n = l.length) := row_lit (enc := encS) (E := 64) w l c n hc hn
def manyL (ls : List (List Sp)) : Bool := ls.any fun l => decide (60 < l.length)
theorem manyL_take (ls : List (List Sp)) (j : Nat) (h : j < ls.length) : manyL (ls.take (j + 1)) = (manyL (ls.take j) || decide (60 < ls[j].length)) := by
  rw [List.take_succ_eq_append_getElem h]
  simp only [manyL, List.any_append, List.any_cons, List.any_nil, Bool.or_false]
theorem great07_any (v : Value) (vs : List Value) (ls : List (List Sp)) (w : World) (h : PartsAt w v vs ls) (hn : vs.length ≤ 1000000) :
    Calls Try.prog 26 #[v] w fun e w' => e = .returned (.bool (manyL ls)) ∧ w' = w := by
  have H := Lib.hid h
  have HL := Lib.hid h.len
  obtain ⟨a, c, rfl⟩ := h.row.form
  clear h
  go_enter Try.func26, Try.ntmps26
  go_wp2_with fail
  go_loop [7] (fun s7 => ∃ j : Nat, j ≤ vs.length ∧ s7 = .int .i64 j ∧ Hid (manyL (ls.take j) = false)) (fun s7 => vs.length - (intOf s7).toNat)
  case atStart => exact ⟨0, by omega, rfl, Lib.hid rfl⟩
  case round =>
    obtain ⟨j, hj, rfl, hm⟩ := hrel
    by_cases hlt : j < vs.length
    · have hlt' : j < ls.length := by rw [← HL.out]; exact hlt
      obtain ⟨b, o, rfl, hc, hq⟩ := H.out.row.get encV_len hlt
      have q0 := hq 0 vs[j] (by omega) rfl
      rw [Nat.mul_one, Nat.add_zero] at q0
      have hP := H.out.part j hlt hlt'
      have HT := Lib.hid (manyL_take ls j hlt')
      have HG := Lib.hid (show 60 < ls[j].length → manyL ls = true from fun h => by
        unfold manyL
        rw [List.any_eq_true]
        exact ⟨ls[j], List.getElem_mem hlt', by simpa using h⟩)
      generalize vs[j] = p at q0 hP
      generalize ls[j] = l at hP HT HG
      obtain ⟨pa, pc, rfl⟩ := hP.form
      clear hq hP hlt'
      by_cases hg : 60 < l.length
      · have HR := Lib.hid (HG.out hg)
        go_wp2_with fail
        go_ret
        exact ⟨by rw [HR.out]; rfl, rfl⟩
      · have HR := Lib.hid (show manyL (ls.take (j + 1)) = false by rw [HT.out, hm.out]; simp; omega)
        go_wp2_with fail
        go_round
        case rel => exact ⟨j + 1, by omega, by go_num, HR⟩
        case measure => simp [intOf]; omega
    · have HR := Lib.hid (show manyL ls = false by rw [← hm.out, List.take_of_length_le (by rw [← HL.out]; omega)])
      go_wp2_with fail
      go_ret
      exact ⟨by rw [HR.out]; rfl, rfl⟩
/-- two slices in a literal -/
theorem parts_lit (w : World) (va vb : Value) (a b : List Sp) (ha : SpansAt w va a) (hb : SpansAt w vb b) : PartsAt (w.alloc (.cells #[va, vb] 51)) (.slice (some ⟨w.heap.size, 0, none⟩) 2 2) [va, vb] [a, b] :=
  have hm := (Mod.refl [] w).alloc (.cells #[va, vb] 51)
  ⟨row_lit w _ _ _ rfl rfl, rfl, fun j h1 h2 => match j, h1, h2 with
    | 0, _, _ => ha.kept0 hm
    | 1, _, _ => hb.kept0 hm⟩
theorem known_of : IsOf [(5, 7), (1, 3), (7, 9)] [(1, 3), (5, 9)] := ⟨by simp [Right], fun d => by simp [In]; omega⟩
theorem known_less : IsBoth (fun x y => x && !y) [(1, 9)] [(3, 5)] [(1, 3), (5, 9)] := ⟨by simp [Right], fun d => by simp [In, inB]; omega⟩
theorem known_one : IsOf [(1, 3)] [(1, 3)] := ⟨by simp [Right], fun d => by simp [In]; omega⟩
theorem known_wide : IsOf [(1, 7)] [(1, 7)] := ⟨by simp [Right], fun d => by simp [In]; omega⟩
theorem IsOf.only {l a b : List Sp} (h : IsOf l a) (k : IsOf l b) : a = b := h.one k fun _ _ _ => Iff.rfl
theorem IsBoth.only {op : Bool → Bool → Bool} {a b l m : List Sp} (h : IsBoth op a b l) (k : IsBoth op a b m) : l = m := h.one k fun _ _ _ => rfl
set_option maxHeartbeats 4000000 in
theorem known07_any (w : World) : Calls Try.prog 27 #[] w fun e w' => e = .returned (.bool true) ∧ Mod [] w w' := by
  have HM0 := Lib.hid ((Mod.refl [] w).alloc (.cells #[.int .i64 5, .int .i64 7, .int .i64 1, .int .i64 3, .int .i64 7, .int .i64 9] 64))
  have HC1 := Lib.hid (spOf_any _ [(5, 7), (1, 3), (7, 9)] (w.alloc (.cells #[.int .i64 5, .int .i64 7, .int .i64 1, .int .i64 3, .int .i64 7, .int .i64 9] 64)) (spans_lit w _ _ 3 rfl rfl) (by simp))
  go_enter Try.func27, Try.ntmps27
  go_wp2_with fail
  refine HC1.out.mono ?_
  rintro e w1 ⟨v1, l1, rfl, o1, m1, f1, _⟩
  obtain rfl := f1.only known_of
  have HR1 := Lib.hid o1.row
  have HM1 := Lib.hid (HM0.out.trans m1)
  obtain ⟨a1, c1, rfl⟩ := o1.row.form
  clear o1 m1 f1 HM0 HC1
  have hA := (Mod.refl [] w1).alloc (.cells #[.int .i64 1, .int .i64 9] 64)
  have hB := (Mod.refl [] (w1.alloc (.cells #[.int .i64 1, .int .i64 9] 64))).alloc (.cells #[.int .i64 3, .int .i64 5] 64)
  have HC2 := Lib.hid (spLess_any _ _ [(1, 9)] [(3, 5)] _ ((spans_lit w1 [(1, 9)] #[.int .i64 1, .int .i64 9] 1 rfl rfl).kept0 hB) (row_lit' (enc := encS) (E := 64) (w1.alloc (.cells #[.int .i64 1, .int .i64 9] 64)) [(3, 5)] #[.int .i64 3, .int .i64 5] 1 (w1.heap.size + 1) rfl rfl (by simp)) (by simp) (by simp))
  have HMB := Lib.hid (hA.trans hB)
  clear hA hB
  go_wp2_with fail
  refine HC2.out.mono ?_
  rintro e w2 ⟨v2, l2, rfl, o2, m2, f2, _⟩
  obtain rfl := f2.only known_less
  have HR2 := Lib.hid o2.row
  have HM2 := Lib.hid (HMB.out.trans m2)
  obtain ⟨a2, c2, rfl⟩ := o2.row.form
  clear o2 m2 f2 HMB HC2
  have hA := (Mod.refl [] w2).alloc (.cells #[.int .i64 1, .int .i64 3] 64)
  have HC3 := Lib.hid (spWide_any _ [(1, 3)] 4 _ (spans_lit w2 [(1, 3)] #[.int .i64 1, .int .i64 3] 1 rfl rfl) (by simp))
  have HMB := Lib.hid hA
  clear hA
  go_wp2_with fail
  refine HC3.out.mono ?_
  rintro e w3 ⟨v3, l3', l3, rfl, o3, m3, f3', f3, _⟩
  obtain rfl := f3'.only known_one
  obtain rfl := f3.only known_wide
  have HR3 := Lib.hid o3.row
  have HM3 := Lib.hid (HMB.out.trans m3)
  obtain ⟨a3, c3, rfl⟩ := o3.row.form
  clear o3 m3 f3 f3' HMB HC3
  have hA := (Mod.refl [] w3).alloc (.cells #[.int .i64 1, .int .i64 3, .int .i64 5, .int .i64 9] 64)
  have HC4 := Lib.hid (rSame_any _ _ [(1, 3), (5, 9)] [(1, 3), (5, 9)] _ (HR1.out.kept0 ((HM2.out.trans HM3.out).trans hA)) (spans_lit w3 [(1, 3), (5, 9)] #[.int .i64 1, .int .i64 3, .int .i64 5, .int .i64 9] 2 rfl rfl) (by simp) (by simp))
  have HMB := Lib.hid hA
  clear hA
  go_wp2_with fail
  refine HC4.out.mono ?_
  rintro e w4 ⟨rfl, m4⟩
  have HM4 := Lib.hid (HMB.out.trans m4)
  have HC5 := Lib.hid (rSame_any _ _ [(1, 3), (5, 9)] [(1, 3), (5, 9)] w4 (HR2.out.kept0 (HM3.out.trans (HMB.out.trans m4))) (HR1.out.kept0 ((HM2.out.trans HM3.out).trans (HMB.out.trans m4))) (by simp) (by simp))
  clear m4 HMB HC4
  go_wp2_with fail
  refine HC5.out.mono ?_
  rintro e w5 ⟨rfl, m5⟩
  have hA := (Mod.refl [] w5).alloc (.cells #[.int .i64 1, .int .i64 7] 64)
  have HC6 := Lib.hid (rSame_any _ _ [(1, 7)] [(1, 7)] _ (HR3.out.kept0 ((HM4.out.trans m5).trans hA)) (spans_lit w5 [(1, 7)] #[.int .i64 1, .int .i64 7] 1 rfl rfl) (by simp) (by simp))
  have HM5 := Lib.hid ((HM4.out.trans m5).trans hA)
  clear m5 hA HC5
  go_wp2_with fail
  refine HC6.out.mono ?_
  rintro e w6 ⟨rfl, m6⟩
  have HM6 := Lib.hid (HM5.out.trans m6)
  clear m6 HC6
  go_wp2_with fail
  refine (spAll_any w6).mono ?_
  rintro e w7 ⟨v7, rfl, r7, m7⟩
  have hA := (Mod.refl [] w7).alloc (.cells #[.int .i64 1, .int .i64 3652060] 64)
  have HC7 := Lib.hid (rSame_any _ _ [(1, 3652060)] [(1, 3652060)] _ (r7.kept0 hA) (spans_lit w7 [(1, 3652060)] #[.int .i64 1, .int .i64 3652060] 1 rfl rfl) (by simp) (by simp))
  have HM7 := Lib.hid ((HM6.out.trans m7).trans hA)
  obtain ⟨a7, c7, rfl⟩ := r7.form
  clear m7 hA r7
  go_wp2_with fail
  refine HC7.out.mono ?_
  rintro e w8 ⟨rfl, m8⟩
  have HM8 := Lib.hid (HM7.out.trans m8)
  clear m8
  go_wp2_with fail
  go_ret
  exact ⟨rfl, HM1.out.trans (HM2.out.trans (HM3.out.trans HM8.out))⟩
end Go.Proofs.Ytefaihockgebeaa
