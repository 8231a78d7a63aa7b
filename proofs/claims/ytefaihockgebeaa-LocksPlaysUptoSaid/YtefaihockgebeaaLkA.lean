/- Locks: how runs lie; may, first, and the document's True. -/
import Derived.Test.YtefaihockgebeaaSpR
namespace Go.Proofs.Ytefaihockgebeaa
open Go.RowKit Go.ChangeMaps Go.Deep
set_option linter.unusedSimpArgs false
set_option linter.unusedVariables false
set_option maxRecDepth 20000

theorem Mod.drewN {w w' : World} {ks : List Nat} (h : Mod ks w w') (n : Nat) : Mod ks w (w'.drewN n) := ⟨h.os, h.tape, h.output, h.size, h.block⟩
structure Sg where
  f : Int
  t : Int
  k : Int
  c : Int
  s : Int
  e : Int
structure Rn where
  rule : Int
  segs : List Sg
def encG (x : Sg) : List Value := [.int .i64 x.f, .int .i64 x.t, .int .u8 x.k, .int .i64 x.c, .int .i64 x.s, .int .i64 x.e]
theorem encG_len (x : Sg) : (encG x).length = 6 := rfl
def encU (x : Int × Value) : List Value := [.int .i64 x.1, x.2]
theorem encU_len (x : Int × Value) : (encU x).length = 2 := rfl
abbrev SegsAt (w : World) (v : Value) (l : List Sg) : Prop := RowAt encG w v l
/-- A slice of runs. -/
structure RunsAt (w : World) (v : Value) (us : List (Int × Value)) (rs : List Rn) : Prop where
  row : RowAt encU w v us
  len : us.length = rs.length
  part : ∀ j (h : j < us.length) (h' : j < rs.length), us[j].1 = rs[j].rule ∧ SegsAt w us[j].2 rs[j].segs
theorem RunsAt.kept0 {w w' : World} {v : Value} {us : List (Int × Value)} {rs : List Rn} (h : RunsAt w v us rs) (hm : Mod [] w w') : RunsAt w' v us rs :=
  ⟨h.row.kept0 hm, h.len, fun j a b => ⟨(h.part j a b).1, (h.part j a b).2.kept0 hm⟩⟩
structure SegAt (w : World) (b o : Nat) (x : Sg) : Prop where
  c0 : w.cell? ⟨b, o, none⟩ = some (.int .i64 x.f)
  c1 : w.cell? ⟨b, o + 1, none⟩ = some (.int .i64 x.t)
  c2 : w.cell? ⟨b, o + 2, none⟩ = some (.int .u8 x.k)
  c3 : w.cell? ⟨b, o + 3, none⟩ = some (.int .i64 x.c)
  c4 : w.cell? ⟨b, o + 4, none⟩ = some (.int .i64 x.s)
  c5 : w.cell? ⟨b, o + 5, none⟩ = some (.int .i64 x.e)
theorem RowAt.get6 {w : World} {a : Option Addr} {c : Nat} {l : List Sg} (h : SegsAt w (.slice a l.length c) l) {i : Nat} (hi : i < l.length) :
    ∃ b o, a = some ⟨b, o, none⟩ ∧ l.length ≤ c ∧ SegAt w b (o + i * 6) l[i] := by
  obtain ⟨b, o, e, hc, hg⟩ := h.get encG_len hi
  exact ⟨b, o, e, hc, hg 0 _ (by omega) rfl, by rw [Nat.add_assoc]; exact hg 1 _ (by omega) rfl, by rw [Nat.add_assoc]; exact hg 2 _ (by omega) rfl, by rw [Nat.add_assoc]; exact hg 3 _ (by omega) rfl, by rw [Nat.add_assoc]; exact hg 4 _ (by omega) rfl, by rw [Nat.add_assoc]; exact hg 5 _ (by omega) rfl⟩
theorem RunsAt.get {w : World} {a : Option Addr} {n c : Nat} {us : List (Int × Value)} {rs : List Rn} (h : RunsAt w (.slice a n c) us rs) {i : Nat} (hi : i < rs.length) :
    ∃ b o s, a = some ⟨b, o, none⟩ ∧ n = rs.length ∧ rs.length ≤ c ∧ w.cell? ⟨b, o + i * 2, none⟩ = some (.int .i64 rs[i].rule) ∧ w.cell? ⟨b, o + i * 2 + 1, none⟩ = some s ∧ SegsAt w s rs[i].segs := by
  obtain ⟨a', c', e⟩ := h.row.form
  simp only [Value.slice.injEq] at e
  obtain ⟨rfl, rfl, rfl⟩ := e
  have hi' : i < us.length := by rw [h.len]; exact hi
  obtain ⟨b, o, e, hc, hg⟩ := h.row.get encU_len hi'
  obtain ⟨p1, p2⟩ := h.part i hi' hi
  refine ⟨b, o, us[i].2, e, h.len, by rw [← h.len]; exact hc, ?_, by rw [Nat.add_assoc]; exact hg 1 _ (by omega) rfl, p2⟩
  rw [← p1]
  exact hg 0 _ (by omega) rfl
theorem RunsAt.form {w : World} {v : Value} {us : List (Int × Value)} {rs : List Rn} (h : RunsAt w v us rs) : ∃ a c, v = .slice a rs.length c := by
  obtain ⟨a, c, e⟩ := h.row.form
  exact ⟨a, c, by rw [e, h.len]⟩

/-! ### may -/
def mayD (f t : Int) : Bool := decide (1 ≤ f) && decide (f < t) && decide (t ≤ 3652060)
theorem lkMay_any (f t : Int) (w : World) : Calls Try.prog 81 #[.agg #[.int .i64 f, .int .i64 t]] w fun e w' => e = .returned (.bool (mayD f t)) ∧ Mod [] w w' := by
  have HM := Lib.hid ((Mod.refl [] w).alloc (.cells #[.int .i64 f, .int .i64 t] 64))
  by_cases h1 : 1 ≤ f
  · by_cases h2 : f < t
    · by_cases h3 : t ≤ 3652060
      · have HR := Lib.hid (show mayD f t = true by simp [mayD, h1, h2, h3])
        go_enter Try.func81, Try.ntmps81
        go_wp2
        go_ret
        exact ⟨by rw [HR.out]; rfl, HM.out⟩
      · have HR := Lib.hid (show mayD f t = false by simp [mayD, h1, h2, h3])
        go_enter Try.func81, Try.ntmps81
        go_wp2
        go_ret
        exact ⟨by rw [HR.out]; rfl, HM.out⟩
    · have HR := Lib.hid (show mayD f t = false by simp [mayD, h1, h2])
      go_enter Try.func81, Try.ntmps81
      go_wp2
      go_ret
      exact ⟨by rw [HR.out]; rfl, HM.out⟩
  · have HR := Lib.hid (show mayD f t = false by simp [mayD, h1])
    go_enter Try.func81, Try.ntmps81
    go_wp2
    go_ret
    exact ⟨by rw [HR.out]; rfl, HM.out⟩
theorem rMay28_any (f t : Int) (w : World) : Calls Try.prog 46 #[.agg #[.int .i64 f, .int .i64 t]] w fun e w' => e = .returned (.bool (mayD f t)) ∧ Mod [] w w' := by
  have HM := Lib.hid ((Mod.refl [] w).alloc (.cells #[.int .i64 f, .int .i64 t] 64))
  by_cases h1 : 1 ≤ f
  · by_cases h2 : f < t
    · by_cases h3 : t ≤ 3652060
      · have HR := Lib.hid (show mayD f t = true by simp [mayD, h1, h2, h3])
        go_enter Try.func46, Try.ntmps46
        go_wp2
        go_ret
        exact ⟨by rw [HR.out]; rfl, HM.out⟩
      · have HR := Lib.hid (show mayD f t = false by simp [mayD, h1, h2, h3])
        go_enter Try.func46, Try.ntmps46
        go_wp2
        go_ret
        exact ⟨by rw [HR.out]; rfl, HM.out⟩
    · have HR := Lib.hid (show mayD f t = false by simp [mayD, h1, h2])
      go_enter Try.func46, Try.ntmps46
      go_wp2
      go_ret
      exact ⟨by rw [HR.out]; rfl, HM.out⟩
  · have HR := Lib.hid (show mayD f t = false by simp [mayD, h1])
    go_enter Try.func46, Try.ntmps46
    go_wp2
    go_ret
    exact ⟨by rw [HR.out]; rfl, HM.out⟩
/-! ### first -/
def firstG : List Sg → Int → Int
  | [], d => d
  | x :: l, d => if d < x.f then d else firstG l (if d < x.t ∧ x.k = 2 then x.t else d)
set_option maxHeartbeats 2000000 in
theorem lkFirst_any (f t rule : Int) (v : Value) (l : List Sg) (w : World) (h : SegsAt w v l) (hl : l.length ≤ 140737488355328) :
    Calls Try.prog 105 #[.agg #[.int .i64 f, .int .i64 t], .agg #[.int .i64 rule, v]] w fun e w' => e = .returned (.tuple #[.int .i64 (firstG l f), .bool (decide (firstG l f < t))]) ∧ Mod [] w w' := by
  obtain ⟨a, c, rfl⟩ := h.form
  have hm := (((Mod.refl [] w).alloc (.cells #[.int .i64 f, .int .i64 t] 64)).alloc (.cells #[.int .i64 rule, .slice a l.length c] 80))
  have HM := Lib.hid hm
  have HS := Lib.hid (h.kept0 hm)
  have HX := Lib.hid (show ((w.alloc (.cells #[.int .i64 f, .int .i64 t] 64)).alloc (.cells #[.int .i64 rule, .slice a l.length c] 80)).heap[w.heap.size]? = some (.cells #[.int .i64 f, .int .i64 t] 64 (0, 0)) by
    rw [heap_alloc_ne _ _ (by simp), heap_alloc_new w _])
  clear h hm
  go_enter Try.func105, Try.ntmps105
  go_wp2_with fail
  go_loopw [6, 14] (fun s6 s14 wr => ∃ (i : Nat) (d : Int), i ≤ l.length ∧ s14 = .int .i64 i ∧ s6 = .int .i64 d ∧ Hid (Mod [] ((w.alloc (.cells #[.int .i64 f, .int .i64 t] 64)).alloc (.cells #[.int .i64 rule, .slice a l.length c] 80)) wr) ∧ Hid (firstG (l.drop i) d = firstG l f)) (fun _ s14 _ => l.length - (intOf s14).toNat)
  case atStart => exact ⟨0, f, by omega, rfl, rfl, Lib.hid (Mod.refl _ _), Lib.hid rfl⟩
  case round =>
    obtain ⟨i, d, hi, rfl, rfl, hM, hv⟩ := hrel
    have HMA := Lib.hid (HM.out.trans hM.out)
    by_cases hlt : i < l.length
    · obtain ⟨b, o, rfl, hc, hseg⟩ := (HS.out.kept0 hM.out).get6 hlt
      have hd := hv.out
      rw [← List.getElem_cons_drop hlt, firstG] at hd
      have HD := Lib.hid hd
      clear hd
      generalize l[i] = x at hseg HD
      obtain ⟨x1, x2, x3, x4, x5, x6⟩ := x
      obtain ⟨c0, c1, c2, c3, c4, c5⟩ := hseg
      dsimp only at c0 c1 c2 c3 c4 c5 HD
      have hma := hM.out.alloc (.cells #[.int .i64 x1, .int .i64 x2, .int .u8 x3, .int .i64 x4, .int .i64 x5, .int .i64 x6] 116)
      have HMB := Lib.hid hma
      have hx := hma.heap HX.out (by simp)
      have e1 := cell_blk hx 1
      simp only [List.getElem?_toArray, List.getElem?_cons_succ, List.getElem?_cons_zero] at e1
      clear hma hx
      by_cases h1 : d < x1
      · have HE := Lib.hid (show d = firstG l f by rw [← HD.out, if_pos h1])
        go_wp2_with fail
        go_quiet (fail)
        go_wp2_with fail
        go_ret2
        exact ⟨by rw [← HE.out]; rfl, HMA.out.trans (((Mod.refl [] wr).alloc _).drewN _)⟩
      · by_cases h2 : d < x2
        · by_cases h3 : x3 = 2
          · subst h3
            have HR := Lib.hid (show firstG (l.drop (i + 1)) x2 = firstG l f by rw [← HD.out, if_neg h1, if_pos ⟨h2, rfl⟩])
            go_wp2_with fail
            go_roundw
            case rel => exact ⟨i + 1, x2, by omega, by go_num, rfl, HMB, HR⟩
            case measure => simp [intOf]; omega
          · have HR := Lib.hid (show firstG (l.drop (i + 1)) d = firstG l f by rw [← HD.out, if_neg h1, if_neg (fun h => h3 h.2)])
            go_wp2_with fail
            go_roundw
            case rel => exact ⟨i + 1, d, by omega, by go_num, rfl, HMB, HR⟩
            case measure => simp [intOf]; omega
        · have HR := Lib.hid (show firstG (l.drop (i + 1)) d = firstG l f by rw [← HD.out, if_neg h1, if_neg (fun h => h2 h.1)])
          go_wp2_with fail
          go_roundw
          case rel => exact ⟨i + 1, d, by omega, by go_num, rfl, HMB, HR⟩
          case measure => simp [intOf]; omega
    · have HE := Lib.hid (show d = firstG l f by rw [← hv.out, List.drop_of_length_le (by omega)]; rfl)
      have hx := hM.out.heap HX.out (by simp)
      have e1 := cell_blk hx 1
      simp only [List.getElem?_toArray, List.getElem?_cons_succ, List.getElem?_cons_zero] at e1
      clear hx
      go_wp2_with fail
      go_quiet (fail)
      go_wp2_with fail
      go_ret2
      exact ⟨by rw [← HE.out]; rfl, HMA.out.drewN _⟩
/-! ### the document's True; a segment -/
def trueG : List Sg → Int → Bool
  | [], _ => false
  | x :: l, d => if x.f ≤ d ∧ d < x.t then decide (x.k = 2) else trueG l d
set_option maxHeartbeats 2000000 in
theorem rTrue_any (d rule : Int) (v : Value) (l : List Sg) (w : World) (h : SegsAt w v l) (hl : l.length ≤ 140737488355328) :
    Calls Try.prog 51 #[.agg #[.int .i64 rule, v], .int .i64 d] w fun e w' => e = .returned (.bool (trueG l d)) ∧ Mod [] w w' := by
  obtain ⟨a, c, rfl⟩ := h.form
  have hm := ((Mod.refl [] w).alloc (.cells #[.int .i64 rule, .slice a l.length c] 80))
  have HM := Lib.hid hm
  have HS := Lib.hid (h.kept0 hm)
  have hx := heap_alloc_new w (.cells #[.int .i64 rule, .slice a l.length c] 80)
  have c1 := cell_blk hx 1
  simp only [List.getElem?_toArray, List.getElem?_cons_succ, List.getElem?_cons_zero] at c1
  clear h hm hx
  go_enter Try.func51, Try.ntmps51
  go_wp2_with fail
  go_loop [5] (fun s5 => ∃ i : Nat, i ≤ l.length ∧ s5 = .int .i64 i ∧ Hid (trueG (l.drop i) d = trueG l d)) (fun s5 => l.length - (intOf s5).toNat)
  case atStart => exact ⟨0, by omega, rfl, Lib.hid rfl⟩
  case round =>
    obtain ⟨i, hi, rfl, hv⟩ := hrel
    by_cases hlt : i < l.length
    · obtain ⟨b, o, rfl, hc, hseg⟩ := HS.out.get6 hlt
      have hd := hv.out
      rw [← List.getElem_cons_drop hlt, trueG] at hd
      have HD := Lib.hid hd
      clear hd
      generalize l[i] = x at hseg HD
      obtain ⟨x1, x2, x3, x4, x5, x6⟩ := x
      obtain ⟨e0, e1, e2, e3, e4, e5⟩ := hseg
      dsimp only at e0 e1 e2 e3 e4 e5 HD
      by_cases h1 : x1 ≤ d
      · by_cases h2 : d < x2
        · by_cases h3 : x3 = 2
          · subst h3
            have HR := Lib.hid (show trueG l d = true by rw [← HD.out, if_pos ⟨h1, h2⟩]; rfl)
            go_wp2_with fail
            go_ret
            exact ⟨by rw [HR.out]; rfl, HM.out⟩
          · have HR := Lib.hid (show trueG l d = false by rw [← HD.out, if_pos ⟨h1, h2⟩]; simpa using h3)
            go_wp2_with fail
            go_ret
            exact ⟨by rw [HR.out]; simp [h3], HM.out⟩
        · have HR := Lib.hid (show trueG (l.drop (i + 1)) d = trueG l d by rw [← HD.out, if_neg (fun h => h2 h.2)])
          go_wp2_with fail
          go_round
          case rel => exact ⟨i + 1, by omega, by go_num, HR⟩
          case measure => simp [intOf]; omega
      · have HR := Lib.hid (show trueG (l.drop (i + 1)) d = trueG l d by rw [← HD.out, if_neg (fun h => h1 h.1)])
        go_wp2_with fail
        go_round
        case rel => exact ⟨i + 1, by omega, by go_num, HR⟩
        case measure => simp [intOf]; omega
    · have HR := Lib.hid (show trueG l d = false by rw [← hv.out, List.drop_of_length_le (by omega)]; rfl)
      go_wp2_with fail
      go_ret
      exact ⟨by rw [HR.out]; rfl, HM.out⟩
theorem seg28_any (f t k : Int) (w : World) : Calls Try.prog 80 #[.int .i64 f, .int .i64 t, .int .u8 k] w fun e w' => e = .returned (.agg #[.int .i64 f, .int .i64 t, .int .u8 k, .int .i64 0, .int .i64 0, .int .i64 0]) ∧ Mod [] w w' := by
  go_enter Try.func80, Try.ntmps80
  go_wp2
  exact bodyPost_ret (v := .agg #[.int .i64 f, .int .i64 t, .int .u8 k, .int .i64 0, .int .i64 0, .int .i64 0]) (by simp [results, Try.results80, go_sem]) rfl ⟨rfl, (Mod.refl [] w).alloc _⟩
end Go.Proofs.Ytefaihockgebeaa
