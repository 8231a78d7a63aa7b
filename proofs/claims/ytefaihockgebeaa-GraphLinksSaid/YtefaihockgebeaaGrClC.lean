/- The links of any nodes among any names, or that one is none, are the document's; a graph that is not there has no fields. No condition. -/
import Derived.Test.YtefaihockgebeaaGrP
import Derived.Test.YtefaihockgebeaaSpQ
import Derived.Test.YtefaihockgebeaaArgSp
import Derived.Deep.Strs
import Derived.Laws.IdiomArrays
import Derived.Test.YtefaihockgebeaaLift
namespace Go.Proofs.Ytefaihockgebeaa
open Go.RowKit Go.ChangeMaps Go.Deep
set_option linter.unusedSimpArgs false
set_option linter.unusedVariables false
set_option maxRecDepth 20000

theorem neq_link (x y : Sp) (w : World) : (binOp .neq 41 (.agg #[.int .i64 x.1, .int .i64 x.2]) (.agg #[.int .i64 y.1, .int .i64 y.2])).run Try.prog w = .ok (.bool (!decide (x = y))) w := by
  obtain ⟨a, b⟩ := x
  obtain ⟨c, d⟩ := y
  go_simp
  repeat' split
  all_goals simp [*]
theorem guard_link : Try.prog.eqGuardType Try.prog.depth 41 = false := by kernel_rfl
/-- is a number among some? -/
def amongB (l : List Int) (z : Int) : Bool := l.contains z
theorem amongB_iff {l : List Int} {z : Int} : amongB l z = true ↔ z ∈ l := by simp [amongB]
set_option maxHeartbeats 1000000 in
theorem rIn_any (v : Value) (l : List Int) (z : Int) (w : World) (h : IntsIn w v l) (hl : l.length ≤ 100000000) :
    Calls Try.prog 62 #[v, .int .i64 z] w fun e w' => e = .returned (.bool (amongB l z)) ∧ w' = w := by
  have H := Lib.hid h
  obtain ⟨a, c, rfl⟩ := h.form
  clear h
  go_enter Try.func62, Try.ntmps62
  go_wp2_with fail
  go_loop [5] (fun s5 => ∃ i : Nat, i ≤ l.length ∧ s5 = .int .i64 i ∧ Hid (amongB (l.drop i) z = amongB l z)) (fun s5 => l.length - (intOf s5).toNat)
  case atStart => exact ⟨0, by omega, rfl, Lib.hid rfl⟩
  case round =>
    obtain ⟨i, hi, rfl, hv⟩ := hrel
    by_cases hlt : i < l.length
    · obtain ⟨b, o, rfl, hc, c0⟩ := H.out.get1 hlt
      have hd := hv.out
      rw [← List.getElem_cons_drop hlt, amongB, List.contains_cons] at hd
      have HD := Lib.hid hd
      clear hd
      generalize l[i] = x at c0 HD
      by_cases hq : x = z
      · have hb : (x == z) = true := by simp [hq]
        have HR := Lib.hid (show amongB l z = true by rw [← HD.out]; simp [hq])
        clear hq
        go_wp2_with fail
        go_ret
        exact ⟨by rw [HR.out]; rfl, rfl⟩
      · have hb : (x == z) = false := by simp [hq]
        have HR := Lib.hid (show amongB (l.drop (i + 1)) z = amongB l z by rw [← HD.out, show (z == x) = false by simp [Ne.symm hq]]; rfl)
        clear hq
        go_wp2_with fail
        go_round
        case rel => exact ⟨i + 1, by omega, by go_num, HR⟩
        case measure => simp [intOf]; omega
    · have HR := Lib.hid (show amongB l z = false by rw [← hv.out, List.drop_of_length_le (by omega)]; rfl)
      go_wp2_with fail
      go_ret
      exact ⟨by rw [HR.out]; rfl, rfl⟩
set_option maxHeartbeats 1000000 in
theorem rFree_any (v u : Value) (l : List Sp) (out : List Int) (w : World) (h : SpansAt w v l) (hu : IntsIn w u out) (hl : l.length ≤ 100000000) (ho : out.length ≤ 100000000) :
    Calls Try.prog 63 #[v, u] w fun e w' => e = .returned (.bool (freeB l out)) ∧ w' = w := by
  have H := Lib.hid h
  have HI := Lib.hid (fun z => rIn_any u out z w hu ho)
  obtain ⟨a, c, rfl⟩ := h.form
  clear h hu
  go_enter Try.func63, Try.ntmps63
  go_wp2_with fail
  go_loopw [5] (fun s5 wr => wr = w ∧ ∃ i : Nat, i ≤ l.length ∧ s5 = .int .i64 i ∧ Hid (freeB (l.drop i) out = freeB l out)) (fun s5 _ => l.length - (intOf s5).toNat)
  case atStart => exact ⟨rfl, 0, by omega, rfl, Lib.hid rfl⟩
  case round =>
    obtain ⟨rfl, i, hi, rfl, hv⟩ := hrel
    by_cases hlt : i < l.length
    · obtain ⟨b, o, rfl, hc, c0, c1⟩ := H.out.get2 hlt
      have hd := hv.out
      rw [← List.getElem_cons_drop hlt] at hd
      have HD := Lib.hid (show (amongB out l[i].1 && freeB (l.drop (i + 1)) out) = freeB l out from hd)
      clear hd
      generalize l[i] = x at c0 c1 HD
      obtain ⟨x1, x2⟩ := x
      dsimp only at c0 c1 HD
      have HC := Lib.hid (HI.out x1)
      by_cases hq : amongB out x1 = true
      · rw [hq] at HC HD
        rw [Bool.true_and] at HD
        clear hq
        go_wp2_with fail
        refine HC.out.mono ?_
        rintro e w1 ⟨rfl, rfl⟩
        go_wp2_with fail
        go_roundw
        case rel => exact ⟨trivial, i + 1, by omega, by go_num, HD⟩
        case measure => simp [intOf]; omega
      · have hq' : amongB out x1 = false := Bool.eq_false_iff.2 hq
        rw [hq'] at HC HD
        rw [Bool.false_and] at HD
        clear hq hq'
        go_wp2_with fail
        refine HC.out.mono ?_
        rintro e w1 ⟨rfl, rfl⟩
        go_wp2_with fail
        go_ret
        exact ⟨by rw [← HD.out]; rfl, rfl⟩
    · have HR := Lib.hid (show freeB l out = true by rw [← hv.out, List.drop_of_length_le (by omega)]; rfl)
      go_wp2_with fail
      go_ret
      exact ⟨by rw [HR.out]; rfl, rfl⟩
set_option maxHeartbeats 2000000 in
theorem rSame21_any (u v : Value) (a b : List Sp) (w : World) (hu : SpansAt w u a) (hv : SpansAt w v b) (ha : a.length ≤ 100000000) (hb : b.length ≤ 100000000) :
    Calls Try.prog 21 #[u, v] w fun e w' => e = .returned (.bool (decide (a = b))) ∧ Mod [] w w' := by
  have HU := Lib.hid hu
  have HV := Lib.hid hv
  obtain ⟨ua, uc, rfl⟩ := hu.form
  obtain ⟨va, vc, rfl⟩ := hv.form
  clear hu hv
  by_cases hlen : a.length = b.length
  · have HL := Lib.hid hlen
    clear hlen
    rw [HL.out] at HU
    rw [HL.out]
    go_enter Try.func21, Try.ntmps21
    go_wp2_with fail
    go_loopw [5] (fun s5 wr => ∃ i : Nat, i ≤ b.length ∧ s5 = .int .i64 i ∧ Hid (Mod [] w wr) ∧ Hid (a.take i = b.take i)) (fun s5 _ => b.length - (intOf s5).toNat)
    case atStart => exact ⟨0, by omega, rfl, Lib.hid (Mod.refl _ _), Lib.hid rfl⟩
    case round =>
      obtain ⟨i, hi, rfl, hM, hall⟩ := hrel
      by_cases hlt : i < b.length
      · have hU := HU.out.kept0 hM.out
        rw [← HL.out] at hU
        obtain ⟨b1, o1, rfl, hc1, p0, p1⟩ := hU.get2 (i := i) (by rw [HL.out]; exact hlt)
        obtain ⟨b2, o2, rfl, hc2, q0, q1⟩ := (HV.out.kept0 hM.out).get2 hlt
        rw [HL.out] at hc1
        have HT1 := Lib.hid (show a.take (i + 1) = a.take i ++ [a[i]'(by rw [HL.out]; exact hlt)] from List.take_succ_eq_append_getElem _)
        have HT2 := Lib.hid (show b.take (i + 1) = b.take i ++ [b[i]] from List.take_succ_eq_append_getElem hlt)
        have HNE : Hid (a[i]'(by rw [HL.out]; exact hlt) ≠ b[i] → a ≠ b) := Lib.hid (fun h e => h (by subst e; rfl))
        generalize a[i]'(by rw [HL.out]; exact hlt) = x at p0 p1 HT1 HNE
        generalize b[i] = y at q0 q1 HT2 HNE
        have HQ := Lib.hid (neq_link x y)
        have HM0 := Lib.hid (hM.out.trans ((Mod.refl [] wr).drew))
        clear hU
        by_cases hde : x = y
        · rw [decide_eq_true hde] at HQ
          have HDE := Lib.hid hde
          obtain ⟨x1, x2⟩ := x
          obtain ⟨y1, y2⟩ := y
          dsimp only at p0 p1 q0 q1 HQ
          clear hde HNE
          go_wp2_with fail
          refine wp_plan [] [0, 1, 4, 5, 2, 6, 3, 7, 8] (by kernel_rfl) (by kernel_rfl) ?_
          simp only [wpSegs, opsOf, List.map_cons, List.map_nil, opN, List.getD_cons_zero, List.getD_cons_succ]
          go_wp2_with ((with_reducible refine xEqAgg (t := 41) rfl (HQ.out _) guard_link ?_ ?_ ?_ ?_); exact rfl; exact rfl; exact rfl)
          refine ⟨by first | trivial | rfl, ?_⟩
          go_wp2_with fail
          go_roundw
          case rel => exact ⟨i + 1, by omega, by go_num, HM0, Lib.hid (by rw [HT1.out, HT2.out, hall.out, HDE.out])⟩
          case measure => simp [intOf]; omega
        · rw [decide_eq_false hde] at HQ
          have HDE := Lib.hid (HNE.out hde)
          obtain ⟨x1, x2⟩ := x
          obtain ⟨y1, y2⟩ := y
          dsimp only at p0 p1 q0 q1 HQ
          clear hde HNE
          go_wp2_with fail
          refine wp_plan [] [0, 1, 4, 5, 2, 6, 3, 7, 8] (by kernel_rfl) (by kernel_rfl) ?_
          simp only [wpSegs, opsOf, List.map_cons, List.map_nil, opN, List.getD_cons_zero, List.getD_cons_succ]
          go_wp2_with ((with_reducible refine xEqAgg (t := 41) rfl (HQ.out _) guard_link ?_ ?_ ?_ ?_); exact rfl; exact rfl; exact rfl)
          refine ⟨by first | trivial | rfl, ?_⟩
          go_wp2_with fail
          go_ret
          exact ⟨by rw [decide_eq_false HDE.out]; rfl, HM0.out⟩
      · have HE : Hid (a = b) := Lib.hid (by
          have h1 := hall.out
          rw [List.take_of_length_le (by rw [HL.out]; omega), List.take_of_length_le (by omega)] at h1
          exact h1)
        go_wp2_with fail
        go_ret
        exact ⟨by rw [decide_eq_true HE.out]; rfl, hM.out⟩
  · have HNE := Lib.hid (show a ≠ b from fun e => hlen (by rw [e]))
    have hn : ((a.length : Int) == (b.length : Int)) = false := by simp; omega
    have hn2 : ((a.length : Int) != (b.length : Int)) = true := by simp; omega
    go_enter Try.func21, Try.ntmps21
    go_wp2
    go_ret
    exact ⟨by rw [decide_eq_false HNE.out]; rfl, Mod.refl _ _⟩
set_option maxHeartbeats 2000000 in
theorem rSameInts_any (u v : Value) (a b : List Int) (w : World) (hu : IntsIn w u a) (hv : IntsIn w v b) (ha : a.length ≤ 100000000) (hb : b.length ≤ 100000000) :
    Calls Try.prog 18 #[u, v] w fun e w' => e = .returned (.bool (decide (a = b))) ∧ Mod [] w w' := by
  have HU := Lib.hid hu
  have HV := Lib.hid hv
  obtain ⟨ua, uc, rfl⟩ := hu.form
  obtain ⟨va, vc, rfl⟩ := hv.form
  clear hu hv
  by_cases hlen : a.length = b.length
  · have HL := Lib.hid hlen
    clear hlen
    rw [HL.out] at HU
    rw [HL.out]
    go_enter Try.func18, Try.ntmps18
    go_wp2_with fail
    go_loopw [5] (fun s5 wr => ∃ i : Nat, i ≤ b.length ∧ s5 = .int .i64 i ∧ Hid (Mod [] w wr) ∧ Hid (a.take i = b.take i)) (fun s5 _ => b.length - (intOf s5).toNat)
    case atStart => exact ⟨0, by omega, rfl, Lib.hid (Mod.refl _ _), Lib.hid rfl⟩
    case round =>
      obtain ⟨i, hi, rfl, hM, hall⟩ := hrel
      by_cases hlt : i < b.length
      · have hU := HU.out.kept0 hM.out
        rw [← HL.out] at hU
        obtain ⟨b1, o1, rfl, hc1, p0⟩ := hU.get1 (i := i) (by rw [HL.out]; exact hlt)
        obtain ⟨b2, o2, rfl, hc2, q0⟩ := (HV.out.kept0 hM.out).get1 hlt
        rw [HL.out] at hc1
        have HT1 := Lib.hid (show a.take (i + 1) = a.take i ++ [a[i]'(by rw [HL.out]; exact hlt)] from List.take_succ_eq_append_getElem _)
        have HT2 := Lib.hid (show b.take (i + 1) = b.take i ++ [b[i]] from List.take_succ_eq_append_getElem hlt)
        have HNE : Hid (a[i]'(by rw [HL.out]; exact hlt) ≠ b[i] → a ≠ b) := Lib.hid (fun h e => h (by subst e; rfl))
        generalize a[i]'(by rw [HL.out]; exact hlt) = x at p0 HT1 HNE
        generalize b[i] = y at q0 HT2 HNE
        have HM0 := Lib.hid (hM.out.trans ((Mod.refl [] wr).drew))
        clear hU
        by_cases hde : x = y
        · have hq : (x != y) = false := by simp [hde]
          have HDE := Lib.hid hde
          clear hde HNE
          go_wp2_with fail
          refine wp_plan [] [0, 1, 4, 5, 2, 6, 3, 7, 8] (by kernel_rfl) (by kernel_rfl) ?_
          simp only [wpSegs, opsOf, List.map_cons, List.map_nil, opN, List.getD_cons_zero, List.getD_cons_succ]
          go_wp2_with fail
          refine ⟨by first | trivial | rfl, ?_⟩
          go_wp2_with fail
          go_roundw
          case rel => exact ⟨i + 1, by omega, by go_num, HM0, Lib.hid (by rw [HT1.out, HT2.out, hall.out, HDE.out])⟩
          case measure => simp [intOf]; omega
        · have hq : (x != y) = true := by simpa using hde
          have HDE := Lib.hid (HNE.out hde)
          clear hde HNE
          go_wp2_with fail
          refine wp_plan [] [0, 1, 4, 5, 2, 6, 3, 7, 8] (by kernel_rfl) (by kernel_rfl) ?_
          simp only [wpSegs, opsOf, List.map_cons, List.map_nil, opN, List.getD_cons_zero, List.getD_cons_succ]
          go_wp2_with fail
          refine ⟨by first | trivial | rfl, ?_⟩
          go_wp2_with fail
          go_ret
          exact ⟨by rw [decide_eq_false HDE.out]; rfl, HM0.out⟩
      · have HE : Hid (a = b) := Lib.hid (by
          have h1 := hall.out
          rw [List.take_of_length_le (by rw [HL.out]; omega), List.take_of_length_le (by omega)] at h1
          exact h1)
        go_wp2_with fail
        go_ret
        exact ⟨by rw [decide_eq_true HE.out]; rfl, hM.out⟩
  · have HNE := Lib.hid (show a ≠ b from fun e => hlen (by rw [e]))
    have hn : ((a.length : Int) == (b.length : Int)) = false := by simp; omega
    have hn2 : ((a.length : Int) != (b.length : Int)) = true := by simp; omega
    go_enter Try.func18, Try.ntmps18
    go_wp2
    go_ret
    exact ⟨by rw [decide_eq_false HNE.out]; rfl, Mod.refl _ _⟩
end Go.Proofs.Ytefaihockgebeaa
namespace Go.Proofs.Ytefaihockgebeaa
open Go.RowKit Go.ChangeMaps Go.Deep
set_option linter.unusedSimpArgs false
set_option linter.unusedVariables false
set_option maxRecDepth 20000

theorem rMay21_arg (n : Int) (v : Value) (us : List Value) (L : Lks) (w : World) (h : PartsAt w v us L) (hl : L.length ≤ 1000000) (hn : n < 0 ∨ 64 < n ∨ (L.length : Int) ≠ n) :
    Calls Try.prog 15 #[.int .i64 n, v] w fun e w' => e = .returned (.bool (mayL n L)) ∧ Mod [] w w' := by
  have HF := Lib.hid (show mayL n L = false by
    unfold mayL
    rcases hn with hn | hn | hn
    · rw [decide_eq_false (by omega : ¬ 0 ≤ n)]; rfl
    · rw [decide_eq_false (by omega : ¬ n ≤ 64)]; simp
    · rw [decide_eq_false hn]; simp)
  rw [HF.out]
  have HL := Lib.hid h.len
  have hul : us.length ≤ 1000000 := by rw [h.len]; exact hl
  obtain ⟨a, c, rfl⟩ := h.row.form
  clear h HF
  rw [← HL.out] at hn hl
  by_cases h0 : n < 0
  · go_enter Try.func15, Try.ntmps15
    go_wp2_with fail
    go_ret
    exact ⟨rfl, Mod.refl _ _⟩
  · by_cases h1 : 64 < n
    · go_enter Try.func15, Try.ntmps15
      go_wp2_with fail
      go_ret
      exact ⟨rfl, Mod.refl _ _⟩
    · have hne : ((us.length : Int) != n) = true := by
        rw [bne_iff_ne]
        rcases hn with h | h | h
        · exact (h0 h).elim
        · exact (h1 h).elim
        · exact h
      go_enter Try.func15, Try.ntmps15
      go_wp2_with fail
      go_ret
      exact ⟨rfl, Mod.refl _ _⟩
set_option maxHeartbeats 4000000 in
theorem rMay21_main (N : Nat) (v : Value) (us : List Value) (L : Lks) (w : World) (h : PartsAt w v us L) (hN : N ≤ 64) (hl : L.length = N) (hll : ∀ k, k < L.length → (linksOf L k).length ≤ 140737488355328) :
    Calls Try.prog 15 #[.int .i64 N, v] w fun e w' => e = .returned (.bool (mayL N L)) ∧ Mod [] w w' := by
  have hul : us.length = N := by rw [h.len]; exact hl
  have HP := Lib.hid h
  have HLL := Lib.hid hll
  have HL := Lib.hid hl
  have HUL := Lib.hid hul
  obtain ⟨a, c, rfl⟩ := h.row.form
  rw [hul] at HP ⊢
  have hne : ((N : Int) != N) = false := by simp
  clear h hll hl hul
  generalize HR : mayL N L = r
  have HMY := Lib.hid HR
  clear HR
  go_enter Try.func15, Try.ntmps15
  go_wp2_with fail
  go_loopw [5] (fun s5 wr => ∃ i : Nat, i ≤ N ∧ s5 = .int .i64 i ∧ Hid (∀ j, j < i → (linksOf L j).all (isLinkB N) = true) ∧ Hid (Mod [] w wr)) (fun s5 _ => N - (intOf s5).toNat)
  case atStart => exact ⟨0, by omega, rfl, Lib.hid (fun j hj => by omega), Lib.hid (Mod.refl _ _)⟩
  case round =>
    obtain ⟨i, hi, rfl, hA, hM⟩ := hrel
    rename World => wo
    by_cases hlt : i < N
    · have HGT := Lib.hid (fun W (k : Mod [] w W) => (show PartsAt W (.slice a N c) us L from ⟨HP.out.row.kept0 k, HP.out.len, fun j a b => (HP.out.part j a b).kept0 k⟩).get HUL.out hlt)
      have hlm := HLL.out i (by rw [HL.out]; exact hlt)
      have HNO := Lib.hid (fun h => not_all_links (f := isLinkB N) (L := L) (j := i) (by rw [HL.out]; exact hlt) h)
      obtain ⟨l, HLI⟩ : ∃ l, Hid (linksOf L i = l) := ⟨_, Lib.hid rfl⟩
      rw [HLI.out] at HGT hlm HNO
      go_wp2_with fail
      go_loopw [6] (fun s6 wr => ∃ k : Nat, k ≤ l.length ∧ s6 = .int .i64 k ∧ Hid ((l.drop k).all (isLinkB N) = l.all (isLinkB N)) ∧ Hid (Mod [] w wr)) (fun s6 _ => l.length - (intOf s6).toNat)
      case atStart => exact ⟨0, by omega, rfl, Lib.hid rfl, hM⟩
      case round =>
        obtain ⟨k, hk, rfl, hv, hM2⟩ := hrel
        obtain ⟨b, o, pa, pc, rfl, hc, q0, hs⟩ := HGT.out _ hM2.out
        by_cases hlt2 : k < l.length
        · obtain ⟨b2, o2, rfl, hc2, c0, c1⟩ := hs.get2 hlt2
          have hd := hv.out
          rw [← List.getElem_cons_drop hlt2, List.all_cons] at hd
          have HD := Lib.hid hd
          clear hd hs
          generalize l[k] = x at c0 c1 HD
          obtain ⟨x1, x2⟩ := x
          dsimp only at c0 c1 HD
          have HMZ := Lib.hid (hM2.out.alloc (.cells #[.int .i64 x1, .int .i64 x2] 41))
          by_cases hb : isLinkB N (x1, x2) = true
          · rw [hb, Bool.true_and] at HD
            simp [isLinkB] at hb
            obtain ⟨⟨⟨hb0, hb1⟩, hb2⟩, hb3⟩ := hb
            go_wp2_with fail
            go_roundw
            case rel => exact ⟨k + 1, by omega, by go_num, HD, HMZ⟩
            case measure => simp [intOf]; omega
          · have hbf : isLinkB N (x1, x2) = false := by simpa using hb
            rw [hbf, Bool.false_and] at HD
            have HF := Lib.hid (show mayL N L = false by
              unfold mayL
              rw [HNO.out HD.out.symm]
              simp)
            clear HNO hbf
            by_cases h0 : x1 < 0
            · go_wp2_with fail
              go_ret
              exact ⟨by rw [← HMY.out, HF.out]; rfl, HMZ.out⟩
            · skip
              by_cases h1 : (N : Int) ≤ x1
              · go_wp2_with fail
                go_ret
                exact ⟨by rw [← HMY.out, HF.out]; rfl, HMZ.out⟩
              · skip
                by_cases h2 : x2 < 0
                · go_wp2_with fail
                  go_ret
                  exact ⟨by rw [← HMY.out, HF.out]; rfl, HMZ.out⟩
                · skip
                  by_cases h3 : 3660 < x2
                  · go_wp2_with fail
                    go_ret
                    exact ⟨by rw [← HMY.out, HF.out]; rfl, HMZ.out⟩
                  · skip
                    exfalso
                    simp [isLinkB] at hb
                    omega
        · have HD := Lib.hid (show l.all (isLinkB N) = true by rw [← hv.out, List.drop_of_length_le (by omega)]; rfl)
          go_wp2_with fail
          go_roundw
          case rel => exact ⟨i + 1, by omega, by go_num, Lib.hid (fun j hj => by
            by_cases e : j = i
            · rw [e, HLI.out]; exact HD.out
            · exact hA.out j (by omega)), hM2⟩
          case measure => simp [intOf]; omega
    · have HT := Lib.hid (show mayL N L = true by
        unfold mayL
        rw [all_links (fun j hj => hA.out j (by rw [HL.out] at hj; omega)), HL.out]
        simp
        omega)
      go_wp2_with fail
      go_ret
      exact ⟨by rw [← HMY.out, HT.out]; rfl, hM.out⟩
theorem rMay21_any (n : Int) (v : Value) (us : List Value) (L : Lks) (w : World) (h : PartsAt w v us L) (hl : L.length ≤ 1000000) (hll : ∀ k, k < L.length → (linksOf L k).length ≤ 140737488355328) :
    Calls Try.prog 15 #[.int .i64 n, v] w fun e w' => e = .returned (.bool (mayL n L)) ∧ Mod [] w w' := by
  by_cases hn : n < 0 ∨ 64 < n ∨ (L.length : Int) ≠ n
  · exact rMay21_arg n v us L w h hl hn
  · obtain ⟨N, rfl⟩ : ∃ N : Nat, n = N := ⟨n.toNat, by omega⟩
    exact rMay21_main N v us L w h (by omega) (by omega) hll
end Go.Proofs.Ytefaihockgebeaa
namespace Go.Proofs.Ytefaihockgebeaa
open Go.RowKit Go.ChangeMaps Go.Deep
set_option linter.unusedSimpArgs false
set_option linter.unusedVariables false
set_option maxRecDepth 20000

/-- a field that comes next, as a number -/
def nxI : Option Int → Int
  | none => -1
  | some z => z
theorem nextR_low {L : Lks} {out : List Int} {m i : Nat} {z : Int} (h : nextR L out i m = some z) : 0 ≤ z ∧ z < i + m := by
  obtain ⟨⟨k, e, h1, h2, _⟩, _⟩ := nextR_some h
  omega
theorem nextR_first {L : Lks} {n : Nat} {out : List Int} {z : Int} (h : nextR L out 0 n = some z) : ∀ y, Ready L n out y → z ≤ y := by
  rintro y ⟨k, rfl, h1, h2, h3⟩
  obtain ⟨_, h4⟩ := nextR_some h
  refine Classical.byContradiction fun hlt => h4 k (by omega) (by omega) ⟨h2, h3⟩
set_option maxHeartbeats 4000000 in
theorem rOrder21_any (N : Nat) (v : Value) (us : List Value) (L : Lks) (w : World) (h : PartsAt w v us L) (hN : N ≤ 64) (hl : L.length = N) (hll : ∀ k, k < L.length → (linksOf L k).length ≤ 100000000) :
    Calls Try.prog 16 #[.int .i64 N, v] w fun e w' => ∃ v', e = .returned v' ∧ OwnN w' w.heap.size v' (orderR L N) ∧ Mod [] w w' := by
  have hul : us.length = N := by rw [h.len]; exact hl
  have HP := Lib.hid h
  have HLL := Lib.hid hll
  have HL := Lib.hid hl
  have HUL := Lib.hid hul
  obtain ⟨a, c, rfl⟩ := h.row.form
  rw [hul] at HP ⊢
  clear h hll hl hul
  go_enter Try.func16, Try.ntmps16
  go_wp2_with fail
  go_loopg [5] N (fun gg s5 wr => ∃ out : List Int, out.length ≤ N ∧ N - out.length ≤ gg ∧ Hid (OwnN wr w.heap.size s5 out) ∧ Hid (Ripe L N out) ∧ Hid (Mod [] w wr))
  case atStart => exact ⟨[], by simp, by simp, Lib.hid (OwnR.nil_ _ _), Lib.hid (Ripe.nil L N), Lib.hid (Mod.refl _ _)⟩
  case round =>
    obtain ⟨out, ho, hgg, hO, hR, hM⟩ := hrel
    rename World => wo
    have HI := Lib.hid (fun z => rIn_any u5 out z wo hO.out.row (by omega))
    have HGT := Lib.hid (fun i (k : i < N) => (show PartsAt wo (.slice a N c) us L from ⟨HP.out.row.kept0 hM.out, HP.out.len, fun j a b => (HP.out.part j a b).kept0 hM.out⟩).get HUL.out k)
    have HFR := Lib.hid (fun v (l : List Sp) (hs : SpansAt wo v l) (hl : l.length ≤ 100000000) => rFree_any v u5 l out wo hs hO.out.row hl (by omega))
    obtain ⟨oa, oc, rfl⟩ := hO.out.row.form
    go_wp2_with fail
    go_loopw [6, 7] (fun s6 s7 wr => wr = wo ∧ ∃ i : Nat, i ≤ N ∧ s7 = .int .i64 ((i : Int) - 1) ∧ s6 = .int .i64 (nxI (nextR L out i (N - i)))) (fun _ s7 _ => ((intOf s7) + 1).toNat)
    case atStart => exact ⟨rfl, N, by omega, rfl, by simp [nextR, nxI]⟩
    case round =>
      obtain ⟨rfl, i, hi, rfl, rfl⟩ := hrel
      by_cases hlt : 0 < i
      · obtain ⟨i, rfl⟩ : ∃ j, i = j + 1 := ⟨i - 1, by omega⟩
        have e1 : (((i + 1 : Nat) : Int) - 1) = i := by omega
        rw [e1]
        clear e1
        have HNX := Lib.hid (show nextR L out i (N - i) = if (!amongB out i && freeB (linksOf L i) out) = true then some (i : Int) else nextR L out (i + 1) (N - (i + 1)) by
          rw [show N - i = (N - (i + 1)) + 1 by omega, nextR]; rfl)
        obtain ⟨b, o, pa, pc, rfl, hc, q0, hs⟩ := HGT.out i (by omega)
        have HC1 := Lib.hid (HI.out i)
        have HC2 := Lib.hid (HFR.out _ (linksOf L i) hs (HLL.out i (by rw [HL.out]; omega)))
        clear hs
        generalize nextR L out (i + 1) (N - (i + 1)) = nx at HNX ⊢
        obtain ⟨nxv, HNV⟩ : ∃ q, Hid (nxI nx = q) := ⟨_, Lib.hid rfl⟩
        rw [HNV.out]
        by_cases hq : amongB out i = true
        · rw [hq] at HC1 HNX
          have HN := Lib.hid (show nxI (nextR L out i (N - i)) = nxv by rw [HNX.out]; exact HNV.out)
          clear hq
          go_wp2_with fail
          refine HC1.out.mono ?_
          rintro e w1 ⟨rfl, rfl⟩
          go_wp2_with fail
          go_roundw
          case rel => exact ⟨trivial, i, by omega, rfl, by rw [HN.out]⟩
          case measure => simp [intOf]
        · have hq' : amongB out i = false := Bool.eq_false_iff.2 hq
          rw [hq'] at HC1 HNX
          clear hq hq'
          by_cases hf : freeB (linksOf L i) out = true
          · rw [hf] at HC2 HNX
            have HN := Lib.hid (show nxI (nextR L out i (N - i)) = (i : Int) by rw [HNX.out]; rfl)
            clear hf
            go_wp2_with fail
            refine HC1.out.mono ?_
            rintro e w1 ⟨rfl, rfl⟩
            go_wp2_with fail
            refine HC2.out.mono ?_
            rintro e w1 ⟨rfl, rfl⟩
            go_wp2_with fail
            go_roundw
            case rel => exact ⟨trivial, i, by omega, rfl, by rw [HN.out]⟩
            case measure => simp [intOf]
          · have hf' : freeB (linksOf L i) out = false := Bool.eq_false_iff.2 hf
            rw [hf'] at HC2 HNX
            have HN := Lib.hid (show nxI (nextR L out i (N - i)) = nxv by rw [HNX.out]; exact HNV.out)
            clear hf hf'
            go_wp2_with fail
            refine HC1.out.mono ?_
            rintro e w1 ⟨rfl, rfl⟩
            go_wp2_with fail
            refine HC2.out.mono ?_
            rintro e w1 ⟨rfl, rfl⟩
            go_wp2_with fail
            go_roundw
            case rel => exact ⟨trivial, i, by omega, rfl, by rw [HN.out]⟩
            case measure => simp [intOf]
      · obtain rfl : i = 0 := by omega
        rw [show (((0 : Nat) : Int) - 1) = -1 by omega, Nat.sub_zero]
        cases hnx : nextR L out 0 N with
        | none =>
          have HD := Lib.hid (hR.out.done (nextR_dry hnx))
          clear hnx
          show Code.wp Try.prog _ _ _ _
          simp only [nxI]
          go_wp2_with fail
          go_ret
          exact ⟨_, rfl, by rw [← HD.out]; exact hO.out, hM.out⟩
        | some z =>
          have hz := nextR_low hnx
          have HRO := Lib.hid (hR.out.snoc (nextR_ready hnx) (nextR_first hnx))
          have hlo : (out ++ [z]).length ≤ N := below_length HRO.out.1.nodup HRO.out.1.below
          rw [List.length_append, List.length_singleton] at hlo
          obtain ⟨v4, w4, g1, g2, g3⟩ := own_append1 elemInt encI_len encI_one hO.out (by have := hM.out.size; omega) (ty := 30) z (by omega) (by omega)
          have HO4 := Lib.hid g2
          have HM4 := Lib.hid (g3.intoNil hO.out (Nat.le_refl _) hM.out)
          have G1 := Lib.hid g1
          clear hnx g1 g2 g3
          simp only [nxI]
          go_wp2_with ((with_reducible refine xAppendAt G1.out rfl rfl ?_ ?_ ?_ ?_); exact rfl; exact rfl; exact rfl)
          go_roundg (N - (out.length + 1))
          case measure => omega
          case rel => exact ⟨out ++ [z], by rw [List.length_append, List.length_singleton]; exact hlo, by rw [List.length_append, List.length_singleton]; omega, HO4, HRO, HM4⟩
end Go.Proofs.Ytefaihockgebeaa
namespace Go.Proofs.Ytefaihockgebeaa
open Go.RowKit Go.ChangeMaps Go.Deep
set_option linter.unusedSimpArgs false
set_option linter.unusedVariables false
set_option maxRecDepth 20000

theorem backR_step (t : Int) (x : Sp) (b : Int) (l : List Sp) : backR t (x :: l) b = backR t l (if x.1 = t ∧ b < x.2 then x.2 else b) := rfl
set_option maxHeartbeats 4000000 in
theorem rOn21_any (N : Nat) (v : Value) (l : List Sp) (w : World) (h : SpansAt w v l) (hN : N ≤ 64) (hl : l.length ≤ 100000000) :
    Calls Try.prog 22 #[.int .i64 N, v] w fun e w' => ∃ v', e = .returned v' ∧ OwnL w' w.heap.size v' (onR l N) ∧ Mod [] w w' := by
  have H := Lib.hid h
  obtain ⟨a, c, rfl⟩ := h.form
  clear h
  go_enter Try.func22, Try.ntmps22
  go_wp2_with fail
  go_loopw [5, 6] (fun s5 s6 wr => ∃ t : Nat, t ≤ N ∧ s6 = .int .i64 t ∧ Hid (OwnL wr w.heap.size s5 (onR l t)) ∧ Hid (Mod [] w wr)) (fun _ s6 _ => N - (intOf s6).toNat)
  case atStart => exact ⟨0, by omega, rfl, Lib.hid (OwnR.nil_ _ _), Lib.hid (Mod.refl _ _)⟩
  case round =>
    obtain ⟨t, ht, rfl, hO, hM⟩ := hrel
    rename World => wo
    by_cases hlt : t < N
    · have HGT := Lib.hid (H.out.kept0 hM.out)
      have HON := Lib.hid (show onR l (t + 1) = onR l t ++ (if 0 ≤ backR t l (-1) then [((t : Int), backR t l (-1))] else []) from rfl)
      have hol := onR_len l t
      go_wp2_with fail
      go_loopw [7, 8] (fun s7 s8 wr => wr = wo ∧ ∃ (i : Nat) (b : Int), i ≤ l.length ∧ s8 = .int .i64 i ∧ s7 = .int .i64 b ∧ Hid (backR t (l.drop i) b = backR t l (-1))) (fun _ s8 _ => l.length - (intOf s8).toNat)
      case atStart => exact ⟨rfl, 0, -1, by omega, rfl, rfl, Lib.hid rfl⟩
      case round =>
        obtain ⟨rfl, i, b, hi, rfl, rfl, hv⟩ := hrel
        by_cases hlt2 : i < l.length
        · obtain ⟨b2, o2, rfl, hc, c0, c1⟩ := HGT.out.get2 hlt2
          have hd := hv.out
          rw [← List.getElem_cons_drop hlt2, backR_step] at hd
          have HD := Lib.hid hd
          clear hd
          generalize l[i] = x at c0 c1 HD
          obtain ⟨x1, x2⟩ := x
          dsimp only at c0 c1 HD
          by_cases h1 : x1 = t
          · have hb : (x1 == (t : Int)) = true := by simp [h1]
            by_cases h2 : b < x2
            · rw [if_pos ⟨h1, h2⟩] at HD
              clear h1
              go_wp2_with fail
              go_roundw
              case rel => exact ⟨trivial, i + 1, x2, by omega, by go_num, rfl, HD⟩
              case measure => simp [intOf]; omega
            · rw [if_neg (fun h => h2 h.2)] at HD
              clear h1
              go_wp2_with fail
              go_roundw
              case rel => exact ⟨trivial, i + 1, b, by omega, by go_num, rfl, HD⟩
              case measure => simp [intOf]; omega
          · have hb : (x1 == (t : Int)) = false := by simp [h1]
            rw [if_neg (fun h => h1 h.1)] at HD
            clear h1
            go_wp2_with fail
            go_roundw
            case rel => exact ⟨trivial, i + 1, b, by omega, by go_num, rfl, HD⟩
            case measure => simp [intOf]; omega
        · have HB := Lib.hid (show backR t l (-1) = b by rw [← hv.out, List.drop_of_length_le (by omega)]; rfl)
          rw [HB.out] at HON
          by_cases hb : 0 ≤ b
          · rw [if_pos hb] at HON
            obtain ⟨v4, w4, g1, g2, g3⟩ := own_append1 elemLink encS_len encS_one hO.out (by have := hM.out.size; omega) (ty := 34) ((t : Int), b) (by omega) (by omega)
            have HO4 := Lib.hid (show OwnL w4 w.heap.size v4 (onR l (t + 1)) by rw [HON.out]; exact g2)
            have HM4 := Lib.hid (g3.intoNil hO.out (Nat.le_refl _) hM.out)
            have G1 := Lib.hid g1
            clear g1 g2 g3
            go_wp2_with ((with_reducible refine xAppendAt G1.out rfl rfl ?_ ?_ ?_ ?_); exact rfl; exact rfl; exact rfl)
            go_roundw
            case rel => exact ⟨t + 1, by omega, by go_num, HO4, HM4⟩
            case measure => simp [intOf]; omega
          · rw [if_neg hb, List.append_nil] at HON
            have HO4 := Lib.hid (show OwnL wr w.heap.size u5 (onR l (t + 1)) by rw [HON.out]; exact hO.out)
            go_wp2_with fail
            go_roundw
            case rel => exact ⟨t + 1, by omega, by go_num, HO4, hM⟩
            case measure => simp [intOf]; omega
    · obtain rfl : t = N := by omega
      go_wp2_with fail
      go_ret
      exact ⟨_, rfl, hO.out, hM.out⟩
/-! ### Above -/
/-- a pass over the fields, k done: what was found, and whether more was found -/
structure PassK (L : Lks) (f : List Int) (k : Nat) (f' : List Int) (more : Bool) : Prop where
  le : f.length ≤ f'.length
  lt : more = true → f.length < f'.length
  no : more = false → f' = f ∧ ∀ k', k' < k → ∀ x ∈ linksOf L k', x.1 ∈ f → (k' : Int) ∈ f
structure PassJ (L : Lks) (f : List Int) (k : Nat) (l : List Sp) (f' : List Int) (more : Bool) : Prop where
  pass : PassK L f k f' more
  no : more = false → ∀ x ∈ l, x.1 ∈ f → (k : Int) ∈ f
theorem PassK.start (L : Lks) (f : List Int) : PassK L f 0 f false := ⟨Nat.le_refl _, (fun h => by cases h), fun _ => ⟨rfl, fun k h => by omega⟩⟩
theorem PassK.enter {L : Lks} {f f' : List Int} {k : Nat} {more : Bool} (h : PassK L f k f' more) : PassJ L f k [] f' more := ⟨h, (fun _ x hx => by cases hx)⟩
theorem PassJ.leave {L : Lks} {f f' : List Int} {k : Nat} {more : Bool} (h : PassJ L f k (linksOf L k) f' more) : PassK L f (k + 1) f' more :=
  ⟨h.pass.le, h.pass.lt, fun hm => ⟨(h.pass.no hm).1, fun k' hk x hx hf => by
    by_cases e : k' = k
    · subst e; exact h.no hm x hx hf
    · exact (h.pass.no hm).2 k' (by omega) x hx hf⟩⟩
theorem PassJ.skip {L : Lks} {f f' : List Int} {k : Nat} {more : Bool} {l : List Sp} {x : Sp} (h : PassJ L f k l f' more) (hx : amongB f' x.1 = false ∨ amongB f' k = true) : PassJ L f k (l ++ [x]) f' more :=
  ⟨h.pass, fun hm y hy hf => by
    have he := (h.pass.no hm).1
    rcases List.mem_append.1 hy with hy | hy
    · exact h.no hm y hy hf
    · rw [List.mem_singleton.1 hy] at hf
      rw [he] at hx
      rcases hx with hx | hx
      · rw [← amongB_iff] at hf; rw [hf] at hx; cases hx
      · exact amongB_iff.1 hx⟩
theorem PassJ.more {L : Lks} {f f' : List Int} {k : Nat} {more : Bool} {l : List Sp} {x : Sp} (h : PassJ L f k l f' more) : PassJ L f k (l ++ [x]) (f' ++ [(k : Int)]) true :=
  ⟨⟨(by have := h.pass.le; simp; omega), (fun _ => by have := h.pass.le; simp; omega), (fun h => by cases h)⟩, (fun h => by cases h)⟩
theorem PassK.done {L : Lks} {f f' : List Int} {n : Nat} (h : PassK L f n f' false) : f' = f ∧ ∀ k : Nat, k < n → ∀ x ∈ linksOf L k, x.1 ∈ f' → (k : Int) ∈ f' := by
  obtain ⟨h1, h2⟩ := h.no rfl
  exact ⟨h1, by rw [h1]; exact h2⟩
theorem own_one (w : World) (z : Int) : OwnN (w.alloc (.cells #[.int .i64 z] 3)) w.heap.size (.slice (some ⟨w.heap.size, 0, none⟩) [z].length 1) [z] := by
  refine ⟨flat_length encI_len _, .inr ⟨w.heap.size, 1, _, rfl, Nat.le_refl _, heap_alloc_new w _, by simp, by unfold maxLen; omega, by simp, by simp [flat, encI]⟩⟩
set_option maxHeartbeats 4000000 in
theorem rAbove21_any (N i : Nat) (v : Value) (us : List Value) (L : Lks) (w : World) (h : PartsAt w v us L) (hN : N ≤ 64) (hl : L.length = N) (hi : i < N) (hLI : LinksIn L N) (hll : ∀ k, k < L.length → (linksOf L k).length ≤ 100000000) :
    Calls Try.prog 23 #[.int .i64 N, v, .int .i64 i] w fun e w' => ∃ v' p, e = .returned v' ∧ OwnN w' w.heap.size v' (selU p N) ∧ Mod [] w w' ∧ ∀ k, k < N → (p k = true ↔ ((k : Int) ≠ i ∧ Stands L k i)) := by
  have hul : us.length = N := by rw [h.len]; exact hl
  have HP := Lib.hid h
  have HLL := Lib.hid hll
  have HL := Lib.hid hl
  have HUL := Lib.hid hul
  have HLI := Lib.hid hLI
  obtain ⟨a, c, rfl⟩ := h.row.form
  rw [hul] at HP ⊢
  have HOW := Lib.hid (own_one w i)
  have HM0 := Lib.hid ((Mod.refl [] w).alloc (.cells #[.int .i64 (i : Int)] 3))
  have HFD := Lib.hid (Found.start L (n := N) (i := (i : Int)) (by omega) (by omega))
  clear h hll hl hul hLI
  go_enter Try.func23, Try.ntmps23
  go_wp2_with fail
  go_loopg [7] N (fun gg s7 wr => ∃ f : List Int, N - f.length ≤ gg ∧ Hid (Found L N i f) ∧ Hid (OwnN wr w.heap.size s7 f) ∧ Hid (Mod [] w wr))
  case atStart => exact ⟨[(i : Int)], by omega, HFD, HOW, HM0⟩
  case round =>
    clear HFD HOW HM0
    obtain ⟨f, hgg, hF, hO, hM⟩ := hrel
    rename World => wo
    have HFL := Lib.hid hF.out.len
    go_wp2_with fail
    go_loopw [7, 8, 9] (fun s7 s8 s9 wr => ∃ (k : Nat) (f' : List Int) (more : Bool), k ≤ N ∧ s9 = .int .i64 k ∧ s8 = .bool more ∧ Hid (PassK L f k f' more) ∧ Hid (Found L N i f') ∧ Hid (OwnN wr w.heap.size s7 f') ∧ Hid (Mod [] w wr)) (fun _ _ s9 _ => N - (intOf s9).toNat)
    case atStart => exact ⟨0, f, false, by omega, rfl, rfl, Lib.hid (PassK.start L f), hF, hO, hM⟩
    case round =>
      clear hF hO hM
      obtain ⟨k, f1, more, hk, rfl, rfl, hP, hF, hO, hM⟩ := hrel
      rename World => wp
      by_cases hlt : k < N
      · have HGT := Lib.hid (fun W (q : Mod [] w W) => (show PartsAt W (.slice a N c) us L from ⟨HP.out.row.kept0 q, HP.out.len, fun j a b => (HP.out.part j a b).kept0 q⟩).get HUL.out hlt)
        have hlm := HLL.out k (by rw [HL.out]; exact hlt)
        obtain ⟨l, HLK⟩ : ∃ l, Hid (linksOf L k = l) := ⟨_, Lib.hid rfl⟩
        rw [HLK.out] at HGT hlm
        go_wp2_with fail
        go_loopw [7, 8, 10] (fun s7 s8 s10 wr => ∃ (j : Nat) (f' : List Int) (more : Bool), j ≤ l.length ∧ s10 = .int .i64 j ∧ s8 = .bool more ∧ Hid (PassJ L f k (l.take j) f' more) ∧ Hid (Found L N i f') ∧ Hid (OwnN wr w.heap.size s7 f') ∧ Hid (Mod [] w wr)) (fun _ _ s10 _ => l.length - (intOf s10).toNat)
        case atStart => exact ⟨0, f1, more, by omega, rfl, rfl, Lib.hid hP.out.enter, hF, hO, hM⟩
        case round =>
          clear hP hF hO hM
          obtain ⟨j, f2, more2, hj, rfl, rfl, hP, hF, hO, hM⟩ := hrel
          obtain ⟨b, o, pa, pc, rfl, hc, q0, hs⟩ := HGT.out _ hM.out
          have hfl := hF.out.len
          by_cases hlt2 : j < l.length
          · obtain ⟨b2, o2, rfl, hc2, c0, c1⟩ := hs.get2 hlt2
            have HTK := Lib.hid (show l.take (j + 1) = l.take j ++ [l[j]] from List.take_succ_eq_append_getElem hlt2)
            have HXM := Lib.hid (show l[j] ∈ linksOf L k by rw [HLK.out]; exact List.getElem_mem hlt2)
            clear hs
            generalize l[j] = x at c0 c1 HTK HXM
            obtain ⟨x1, x2⟩ := x
            dsimp only at c0 c1 HTK HXM
            have HC1 := Lib.hid (rIn_any u7 f2 x1 wr hO.out.row (by omega))
            have HC2 := Lib.hid (rIn_any u7 f2 k wr hO.out.row (by omega))
            by_cases hq : amongB f2 x1 = true
            · have hqm := amongB_iff.1 hq
              rw [hq] at HC1
              by_cases hk2 : amongB f2 k = true
              · have HPS := Lib.hid (hP.out.skip (x := (x1, x2)) (.inr hk2))
                rw [hk2] at HC2
                clear hq hqm hk2
                go_wp2_with fail
                refine HC1.out.mono ?_
                rintro e w1 ⟨rfl, rfl⟩
                go_wp2_with fail
                refine HC2.out.mono ?_
                rintro e w1 ⟨rfl, rfl⟩
                go_wp2_with fail
                go_roundw
                case rel => exact ⟨j + 1, f2, more2, by omega, by go_num, rfl, Lib.hid (by rw [HTK.out]; exact HPS.out), hF, hO, hM⟩
                case measure => simp [intOf]; omega
              · have hkf : amongB f2 k = false := Bool.eq_false_iff.2 hk2
                have HPS := Lib.hid (hP.out.more (x := (x1, x2)))
                have HFA := Lib.hid (hF.out.add hlt (fun hm => hk2 (amongB_iff.2 hm)) HXM.out hqm)
                obtain ⟨v4, w4, g1, g2, g3⟩ := own_append1 elemInt encI_len encI_one hO.out (by have := hM.out.size; omega) (ty := 30) (k : Int) (by omega) (by omega)
                have HO4 := Lib.hid g2
                have HM4 := Lib.hid (g3.intoNil hO.out (Nat.le_refl _) hM.out)
                have G1 := Lib.hid g1
                rw [hkf] at HC2
                clear hq hqm hk2 hkf g1 g2 g3
                go_wp2_with fail
                refine HC1.out.mono ?_
                rintro e w1 ⟨rfl, rfl⟩
                go_wp2_with fail
                refine HC2.out.mono ?_
                rintro e w1 ⟨rfl, rfl⟩
                go_wp2_with ((with_reducible refine xAppendAt G1.out rfl rfl ?_ ?_ ?_ ?_); exact rfl; exact rfl; exact rfl)
                go_roundw
                case rel => exact ⟨j + 1, _, true, by omega, by go_num, rfl, Lib.hid (by rw [HTK.out]; exact HPS.out), HFA, HO4, HM4⟩
                case measure => simp [intOf]; omega
            · have hqf : amongB f2 x1 = false := Bool.eq_false_iff.2 hq
              have HPS := Lib.hid (hP.out.skip (x := (x1, x2)) (.inl hqf))
              rw [hqf] at HC1
              clear hq hqf
              go_wp2_with fail
              refine HC1.out.mono ?_
              rintro e w1 ⟨rfl, rfl⟩
              go_wp2_with fail
              go_roundw
              case rel => exact ⟨j + 1, f2, more2, by omega, by go_num, rfl, Lib.hid (by rw [HTK.out]; exact HPS.out), hF, hO, hM⟩
              case measure => simp [intOf]; omega
          · have HPK := Lib.hid (show PassK L f (k + 1) f2 more2 from by
              have h1 := hP.out
              rw [List.take_of_length_le (by omega), ← HLK.out] at h1
              exact h1.leave)
            go_wp2_with fail
            go_roundw
            case rel => exact ⟨k + 1, f2, more2, by omega, by go_num, rfl, HPK, hF, hO, hM⟩
            case measure => simp [intOf]; omega
      · obtain rfl : k = N := by omega
        have hfl := hF.out.len
        cases more with
        | true =>
          have hlt3 := hP.out.lt rfl
          go_wp2_with fail
          go_roundg (k - f1.length)
          case measure => have := HFL.out; omega
          case rel => exact ⟨f1, Nat.le_refl _, hF, hO, hM⟩
        | false =>
          have HDN := Lib.hid (hP.out.done)
          have HSD := Lib.hid (fun k' (hk' : k' < k) => hF.out.done HLI.out HDN.out.2 (z := ((k' : Nat) : Int)) (by omega) (by omega))
          go_wp2_with fail
          go_loopw [11, 12] (fun s11 s12 wr => ∃ m : Nat, m ≤ k ∧ s12 = .int .i64 m ∧ Hid (OwnN wr wp.heap.size s11 (selU (fun q => !decide (q = i) && amongB f1 q) m)) ∧ Hid (Mod [] wp wr)) (fun _ s12 _ => k - (intOf s12).toNat)
          case atStart => exact ⟨0, by omega, rfl, Lib.hid (OwnR.nil_ _ _), Lib.hid (Mod.refl _ _)⟩
          case round =>
            obtain ⟨m, hm, rfl, hown, hMm⟩ := hrel
            have hsl := selU_len (fun q => !decide (q = i) && amongB f1 q) m
            by_cases hlt4 : m < k
            · have HSU := Lib.hid (show selU (fun q => !decide (q = i) && amongB f1 q) (m + 1) = selU (fun q => !decide (q = i) && amongB f1 q) m ++ (if (!decide (m = i) && amongB f1 m) = true then [(m : Int)] else []) from rfl)
              have HC := Lib.hid (rIn_any u7 f1 m wr (hO.out.kept0 hMm.out).row (by omega))
              by_cases hmi : m = i
              · have HN := Lib.hid (show OwnN wr wp.heap.size u11 (selU (fun q => !decide (q = i) && amongB f1 q) (m + 1)) by
                  rw [HSU.out, if_neg (by simp [hmi]), List.append_nil]; exact hown.out)
                have hb : ((m : Int) != (i : Int)) = false := by simp [hmi]
                clear hmi
                go_wp2_with fail
                go_roundw
                case rel => exact ⟨m + 1, by omega, by go_num, HN, hMm⟩
                case measure => simp [intOf]; omega
              · have hb : ((m : Int) != (i : Int)) = true := by rw [bne_iff_ne]; omega
                by_cases hq : amongB f1 m = true
                · obtain ⟨v4, w4, g1, g2, g3⟩ := own_append1 elemInt encI_len encI_one hown.out (by have := hMm.out.size; omega) (ty := 30) (m : Int) (by omega) (by omega)
                  have HN := Lib.hid (show OwnN w4 wp.heap.size v4 (selU (fun q => !decide (q = i) && amongB f1 q) (m + 1)) by
                    rw [HSU.out, if_pos (by rw [hq]; simp [hmi])]; exact g2)
                  have HM4 := Lib.hid (g3.intoNil hown.out (Nat.le_refl _) hMm.out)
                  have G1 := Lib.hid g1
                  rw [hq] at HC
                  clear g1 g2 g3 hmi hq
                  go_wp2_with fail
                  refine HC.out.mono ?_
                  rintro e w1 ⟨rfl, rfl⟩
                  go_wp2_with ((with_reducible refine xAppendAt G1.out rfl rfl ?_ ?_ ?_ ?_); exact rfl; exact rfl; exact rfl)
                  go_roundw
                  case rel => exact ⟨m + 1, by omega, by go_num, HN, HM4⟩
                  case measure => simp [intOf]; omega
                · have hqf : amongB f1 m = false := Bool.eq_false_iff.2 hq
                  have HN := Lib.hid (show OwnN wr wp.heap.size u11 (selU (fun q => !decide (q = i) && amongB f1 q) (m + 1)) by
                    rw [HSU.out, hqf, if_neg (by simp), List.append_nil]; exact hown.out)
                  rw [hqf] at HC
                  clear hmi hq hqf
                  go_wp2_with fail
                  refine HC.out.mono ?_
                  rintro e w1 ⟨rfl, rfl⟩
                  go_wp2_with fail
                  go_roundw
                  case rel => exact ⟨m + 1, by omega, by go_num, HN, hMm⟩
                  case measure => simp [intOf]; omega
            · obtain rfl : m = k := by omega
              have HPP := Lib.hid (show ∀ q, q < m → ((!decide (q = i) && amongB f1 q) = true ↔ ((q : Int) ≠ i ∧ Stands L q i)) from fun q hq => by
                rw [Bool.and_eq_true, amongB_iff, HSD.out q hq]
                simp only [Bool.not_eq_true', decide_eq_false_iff_not]
                constructor
                · rintro ⟨a, b⟩; exact ⟨fun e => a (by omega), b⟩
                · rintro ⟨a, b⟩; exact ⟨fun e => a (by omega), b⟩)
              go_wp2_with fail
              go_ret
              exact ⟨_, _, rfl, hown.out.mono hM.out.size, hM.out.trans hMm.out, HPP.out⟩
end Go.Proofs.Ytefaihockgebeaa
namespace Go.Proofs.Ytefaihockgebeaa
open Go.RowKit Go.ChangeMaps Go.Deep
set_option linter.unusedSimpArgs false
set_option linter.unusedVariables false
set_option maxRecDepth 20000

def linkN (L : Lks) : Nat := (L.map List.length).sum
def greatG (L : Lks) : Bool := decide (70 < L.length) || decide (400 < linkN L)
theorem linkN_take {L : Lks} {i : Nat} (h : i < L.length) : linkN (L.take (i + 1)) = linkN (L.take i) + (linksOf L i).length := by
  unfold linkN
  rw [List.take_succ_eq_append_getElem h, List.map_append, List.sum_append]
  simp [linksOf, h]
theorem linkN_take_le (L : Lks) (i : Nat) : linkN (L.take i) ≤ linkN L := by
  unfold linkN
  conv => rhs; rw [← List.take_append_drop i L, List.map_append, List.sum_append]
  omega
theorem linkN_mem {L : Lks} {i : Nat} (h : i < L.length) : (linksOf L i).length ≤ linkN L := by
  have h1 := linkN_take h
  have h2 := linkN_take_le L (i + 1)
  omega
theorem linkN_bound {L : Lks} {b : Nat} (h : ∀ k, k < L.length → (linksOf L k).length ≤ b) : ∀ i, i ≤ L.length → linkN (L.take i) ≤ i * b
  | 0, _ => by simp [linkN]
  | i + 1, hi => by
    have h1 := linkN_bound h i (by omega)
    have h2 := h i (by omega)
    rw [linkN_take (by omega), Nat.add_mul]
    omega
set_option maxHeartbeats 2000000 in
theorem great21_any (v : Value) (us : List Value) (L : Lks) (w : World) (h : PartsAt w v us L) (hl : L.length ≤ 140737488355328) (hll : ∀ k, k < L.length → (linksOf L k).length ≤ 140737488355328) :
    Calls Try.prog 12 #[v] w fun e w' => e = .returned (.bool (greatG L)) ∧ w' = w := by
  have HP := Lib.hid h
  have hul := h.len
  have HLL := Lib.hid hll
  have HL := Lib.hid hul
  have hus : us.length ≤ 140737488355328 := by omega
  obtain ⟨a, c, rfl⟩ := h.row.form
  clear h hll
  by_cases hm : 70 < us.length
  · have HT := Lib.hid (show greatG L = true by unfold greatG; rw [decide_eq_true (by omega)]; rfl)
    clear hul hl
    go_enter Try.func12, Try.ntmps12
    go_wp2_with fail
    go_loop [3, 7] (fun s3 s7 => ∃ (i : Nat) (z : Int), i ≤ us.length ∧ s7 = .int .i64 i ∧ s3 = .int .i64 z) (fun _ s7 => us.length - (intOf s7).toNat)
    case atStart => exact ⟨0, 0, by omega, rfl, rfl⟩
    case round =>
      obtain ⟨i, z, hi, rfl, rfl⟩ := hrel
      by_cases hlt : i < us.length
      · obtain ⟨b, o, pa, pc, rfl, hc, q0, hs⟩ := HP.out.get rfl hlt
        clear hs
        generalize (linksOf L i).length = m at q0
        go_wp2_with fail
        go_round
        case rel => exact ⟨i + 1, _, by omega, by go_num, rfl⟩
        case measure => simp [intOf]; omega
      · go_wp2_with fail
        go_ret
        exact ⟨by rw [HT.out]; rfl, rfl⟩
  · have HB := Lib.hid (show ∀ i, i ≤ us.length → linkN (L.take i) ≤ 9851624184872960 from fun i hi => by
      have h1 := linkN_bound HLL.out i (by omega)
      have h2 : i * 140737488355328 ≤ 70 * 140737488355328 := Nat.mul_le_mul_right _ (by omega)
      omega)
    clear hul hl
    go_enter Try.func12, Try.ntmps12
    go_wp2_with fail
    go_loop [3, 7] (fun s3 s7 => ∃ i : Nat, i ≤ us.length ∧ s7 = .int .i64 i ∧ s3 = .int .i64 (linkN (L.take i))) (fun _ s7 => us.length - (intOf s7).toNat)
    case atStart => exact ⟨0, by omega, rfl, rfl⟩
    case round =>
      obtain ⟨i, hi, rfl, rfl⟩ := hrel
      by_cases hlt : i < us.length
      · obtain ⟨b, o, pa, pc, rfl, hc, q0, hs⟩ := HP.out.get rfl hlt
        have HT := Lib.hid (linkN_take (L := L) (i := i) (by rw [← HL.out]; exact hlt))
        have hb1 := HB.out (i + 1) (by omega)
        rw [HT.out] at hb1
        clear hs
        generalize (linksOf L i).length = m at q0 HT hb1
        generalize linkN (L.take i) = z at HT hb1 ⊢
        go_wp2_with fail
        go_round
        case rel => exact ⟨i + 1, by omega, by go_num, by rw [HT.out]; go_num⟩
        case measure => simp [intOf]; omega
      · have HE := Lib.hid (show linkN (L.take i) = linkN L by rw [List.take_of_length_le (by rw [← HL.out]; omega)])
        have HG := Lib.hid (show greatG L = (decide ((70 : Int) < us.length) || decide ((400 : Int) < linkN L)) by
          unfold greatG
          rw [← HL.out]
          congr 1 <;> (apply decide_eq_decide.2; omega))
        rw [HE.out]
        generalize linkN L = z at HG ⊢
        have hdn : decide ((70 : Int) < us.length) = false := by simp; omega
        rw [hdn, Bool.false_or] at HG
        go_wp2_with fail
        go_ret
        exact ⟨by rw [HG.out]; rfl, rfl⟩
/-! ### known -/
theorem OfPost.ring {w w' : World} {n : Int} {L : Lks} {e : Ending} (h : OfPost w n L e w') (h1 : mayL n L = true) (h2 : (orderR L n.toNat).length < n.toNat) : e = .returned (.tuple #[.pointer none, .int .i64 9]) ∧ Mod [] w w' := by
  obtain ⟨hm, ⟨h3, _⟩ | ⟨_, _, h4⟩ | ⟨_, h4, _⟩⟩ := h
  · rw [h1] at h3; cases h3
  · exact ⟨h4, hm⟩
  · omega
theorem OfPost.good {w w' : World} {n : Int} {L : Lks} {e : Ending} (h : OfPost w n L e w') (h1 : mayL n L = true) (h2 : n.toNat ≤ (orderR L n.toNat).length) : Mod [] w w' ∧ ∃ B R, e = .returned (.tuple #[.pointer (some ⟨B, 0, none⟩), .int .i64 0]) ∧ GraphAt w' w.heap.size B R (orderR L n.toNat) ∧ R.length = L.length ∧ ∀ j, j < L.length → IsOnce (linksOf L j) (linksOf R j) := by
  obtain ⟨hm, ⟨h3, _⟩ | ⟨_, h4, _⟩ | ⟨_, _, h4⟩⟩ := h
  · rw [h1] at h3; cases h3
  · omega
  · exact ⟨hm, h4⟩
set_option maxHeartbeats 2000000 in
theorem known21_any (w : World) : Calls Try.prog 13 #[] w fun e w' => e = .returned (.bool true) ∧ Mod [] w w' := by
  have hA := (Mod.refl [] w).alloc (.cells #[.int .i64 2, .int .i64 0] 41)
  have hB := (Mod.refl [] (w.alloc (.cells #[.int .i64 2, .int .i64 0] 41))).alloc (.cells #[.slice (some ⟨w.heap.size, 0, none⟩) 1 1, .slice none 0 0, .slice none 0 0] 34)
  have HC1 := Lib.hid (grOf_any 3 _ [.slice (some ⟨w.heap.size, 0, none⟩) 1 1, .slice none 0 0, .slice none 0 0] [[(2, 0)], [], []] _ ⟨row_lit' (enc := encV) (E := 34) (w.alloc (.cells #[.int .i64 2, .int .i64 0] 41)) [.slice (some ⟨w.heap.size, 0, none⟩) 1 1, .slice none 0 0, .slice none 0 0] #[.slice (some ⟨w.heap.size, 0, none⟩) 1 1, .slice none 0 0, .slice none 0 0] 3 (w.heap.size + 1) rfl rfl (by simp), rfl, fun j h1 h2 => by
    rcases (show j = 0 ∨ j = 1 ∨ j = 2 by simp at h1; omega) with rfl | rfl | rfl
    · exact (row_lit (enc := encS) (E := 41) w [(2, 0)] #[.int .i64 2, .int .i64 0] 1 rfl rfl).kept0 hB
    · exact .nil _ _
    · exact .nil _ _⟩ (by simp) (fun k hk => by
      rcases (show k = 0 ∨ k = 1 ∨ k = 2 by simp at hk; omega) with rfl | rfl | rfl <;> simp [linksOf]))
  have HMB := Lib.hid (hA.trans hB)
  clear hA hB
  go_enter Try.func13, Try.ntmps13
  go_wp2_with fail
  refine HC1.out.mono ?_
  intro e w1 hp
  obtain ⟨m1, B, R, rfl, hg, _⟩ := hp.good (by decide) (by decide)
  have e0 : orderR [[(2, 0)], [], []] (Int.toNat 3) = [1, 2, 0] := by decide
  rw [e0] at hg
  have HG := Lib.hid (show ∃ base, GraphAt w1 base B R [1, 2, 0] from ⟨_, hg⟩)
  have HM1 := Lib.hid (HMB.out.trans m1)
  clear hp m1 hg HC1 HMB e0
  have hA := (Mod.refl [] w1).alloc (.cells #[.int .i64 1, .int .i64 0] 41)
  have hB := (Mod.refl [] (w1.alloc (.cells #[.int .i64 1, .int .i64 0] 41))).alloc (.cells #[.int .i64 0, .int .i64 0] 41)
  have hC := (Mod.refl [] ((w1.alloc (.cells #[.int .i64 1, .int .i64 0] 41)).alloc (.cells #[.int .i64 0, .int .i64 0] 41))).alloc (.cells #[.slice (some ⟨w1.heap.size, 0, none⟩) 1 1, .slice (some ⟨w1.heap.size + 1, 0, none⟩) 1 1] 34)
  have HC2 := Lib.hid (grOf_any 2 _ [.slice (some ⟨w1.heap.size, 0, none⟩) 1 1, .slice (some ⟨w1.heap.size + 1, 0, none⟩) 1 1] [[(1, 0)], [(0, 0)]] _ ⟨row_lit' (enc := encV) (E := 34) ((w1.alloc (.cells #[.int .i64 1, .int .i64 0] 41)).alloc (.cells #[.int .i64 0, .int .i64 0] 41)) [.slice (some ⟨w1.heap.size, 0, none⟩) 1 1, .slice (some ⟨w1.heap.size + 1, 0, none⟩) 1 1] #[.slice (some ⟨w1.heap.size, 0, none⟩) 1 1, .slice (some ⟨w1.heap.size + 1, 0, none⟩) 1 1] 2 (w1.heap.size + 1 + 1) rfl rfl (by simp), rfl, fun j h1 h2 => by
    rcases (show j = 0 ∨ j = 1 by simp at h1; omega) with rfl | rfl
    · exact ((row_lit (enc := encS) (E := 41) w1 [(1, 0)] #[.int .i64 1, .int .i64 0] 1 rfl rfl).kept0 hB).kept0 hC
    · exact (row_lit' (enc := encS) (E := 41) (w1.alloc (.cells #[.int .i64 1, .int .i64 0] 41)) [(0, 0)] #[.int .i64 0, .int .i64 0] 1 (w1.heap.size + 1) rfl rfl (by simp)).kept0 hC⟩ (by simp) (fun k hk => by
      rcases (show k = 0 ∨ k = 1 by simp at hk; omega) with rfl | rfl <;> simp [linksOf]))
  have HMB := Lib.hid ((hA.trans hB).trans hC)
  clear hA hB hC
  go_wp2_with fail
  refine HC2.out.mono ?_
  intro e w2 hp
  obtain ⟨rfl, m2⟩ := hp.ring (by decide) (by decide)
  have HM12 := Lib.hid (HMB.out.trans m2)
  clear hp m2 HC2 HMB
  have hA := (Mod.refl [] w2).alloc (.cells #[.int .i64 0, .int .i64 5] 41)
  have hB := (Mod.refl [] (w2.alloc (.cells #[.int .i64 0, .int .i64 5] 41))).alloc (.cells #[.slice (some ⟨w2.heap.size, 0, none⟩) 1 1] 34)
  have HC3 := Lib.hid (grOf_any 1 _ [.slice (some ⟨w2.heap.size, 0, none⟩) 1 1] [[(0, 5)]] _ ⟨row_lit' (enc := encV) (E := 34) (w2.alloc (.cells #[.int .i64 0, .int .i64 5] 41)) [.slice (some ⟨w2.heap.size, 0, none⟩) 1 1] #[.slice (some ⟨w2.heap.size, 0, none⟩) 1 1] 1 (w2.heap.size + 1) rfl rfl (by simp), rfl, fun j h1 h2 => by
    obtain rfl : j = 0 := by simp at h1; omega
    exact (row_lit (enc := encS) (E := 41) w2 [(0, 5)] #[.int .i64 0, .int .i64 5] 1 rfl rfl).kept0 hB⟩ (by simp) (fun k hk => by
      obtain rfl : k = 0 := by simp at hk; omega
      simp [linksOf]))
  have HMB := Lib.hid (hA.trans hB)
  clear hA hB
  go_wp2_with fail
  refine HC3.out.mono ?_
  intro e w3 hp
  obtain ⟨rfl, m3⟩ := hp.ring (by decide) (by decide)
  have HM13 := Lib.hid (HM12.out.trans (HMB.out.trans m3))
  clear hp m3 HC3 HMB
  obtain ⟨base, hg⟩ := HG.out
  have HC4 := Lib.hid (grOrder_any base B R [1, 2, 0] w3 (hg.kept0 HM13.out) (by simp))
  clear hg
  go_wp2_with fail
  refine HC4.out.mono ?_
  rintro e w4 ⟨v4, rfl, o4, m4⟩
  have hD := (Mod.refl [] w4).alloc (.cells #[.int .i64 1, .int .i64 2, .int .i64 0] 3)
  have HC5 := Lib.hid (rSameInts_any v4 (.slice (some ⟨w4.heap.size, 0, none⟩) 3 3) [1, 2, 0] [1, 2, 0] (w4.alloc (.cells #[.int .i64 1, .int .i64 2, .int .i64 0] 3)) (o4.row.kept0 hD) (row_lit (enc := encI) (E := 3) w4 [1, 2, 0] #[.int .i64 1, .int .i64 2, .int .i64 0] 3 rfl rfl) (by simp) (by simp))
  have HM4 := Lib.hid (((HM1.out.trans HM13.out).trans m4).trans hD)
  rw [decide_eq_true rfl] at HC5
  clear o4 m4 hD HC4
  go_wp2_with fail
  refine HC5.out.mono ?_
  rintro e w5 ⟨rfl, m5⟩
  have HM5 := Lib.hid (HM4.out.trans m5)
  clear m5 HC5
  go_wp2_with fail
  go_ret
  exact ⟨rfl, HM5.out⟩
end Go.Proofs.Ytefaihockgebeaa
namespace Go.Proofs.Ytefaihockgebeaa
open Go.RowKit Go.ChangeMaps Go.Deep
set_option linter.unusedSimpArgs false
set_option linter.unusedVariables false
set_option maxRecDepth 20000

theorem grAbove_nil (i : Int) (w : World) : Calls Try.prog 20 #[.pointer none, .int .i64 i] w fun e w' => e = .returned (.slice none 0 0) ∧ w' = w := by
  go_enter Try.func20, Try.ntmps20
  go_wp2
  go_ret
  exact ⟨rfl, rfl⟩
theorem grAbove_out (i : Int) (base B : Nat) (R : Lks) (out : List Int) (w : World) (h : GraphAt w base B R out) (hi : i < 0 ∨ (R.length : Int) ≤ i) (hl : R.length ≤ 1000000) :
    Calls Try.prog 20 #[.pointer (some ⟨B, 0, none⟩), .int .i64 i] w fun e w' => e = .returned (.slice none 0 0) ∧ w' = w := by
  obtain ⟨onv, ov, vs, hB, hon, hov⟩ := h.ex
  have hvl := hon.len
  rw [← hvl] at hi
  obtain ⟨oa, oc, rfl⟩ := hon.row.row.form
  have c0 := cell_blk hB 0
  simp only [List.getElem?_toArray, List.getElem?_cons_succ, List.getElem?_cons_zero] at c0
  clear h hB hon hov hvl
  by_cases h0 : i < 0
  · clear hi
    go_enter Try.func20, Try.ntmps20
    go_wp2_with fail
    go_ret
    exact ⟨rfl, rfl⟩
  · have hi : (vs.length : Int) ≤ i := by omega
    go_enter Try.func20, Try.ntmps20
    go_wp2_with fail
    go_ret
    exact ⟨rfl, rfl⟩
theorem stands_lift {L M : Lks} (h : ∀ k x, x ∈ linksOf L k → ∃ y ∈ linksOf M k, y.1 = x.1) {a b : Int} (hs : Stands L a b) : Stands M a b := by
  induction hs with
  | self => exact .self _
  | step hx e _ ih =>
    obtain ⟨y, hy, e2⟩ := h _ _ hx
    exact .step hy (e2.trans e) ih
/-- lists of links, each once, beside the ones they came from -/
structure OnceOf (L R : Lks) : Prop where
  len : R.length = L.length
  once : ∀ j, j < L.length → IsOnce (linksOf L j) (linksOf R j)
theorem OnceOf.stands {L R : Lks} (h : OnceOf L R) {a b : Int} : Stands R a b ↔ Stands L a b := by
  constructor
  · refine stands_lift fun k x hx => ?_
    by_cases hk : k < L.length
    · exact ((h.once k hk).to x.1).1 ⟨x, hx, rfl⟩
    · rw [show linksOf R k = [] by simp [linksOf, h.len, Nat.le_of_not_lt hk]] at hx
      cases hx
  · refine stands_lift fun k x hx => ?_
    by_cases hk : k < L.length
    · exact ((h.once k hk).to x.1).2 ⟨x, hx, rfl⟩
    · rw [show linksOf L k = [] by simp [linksOf, Nat.le_of_not_lt hk]] at hx
      cases hx
theorem OnceOf.order {L R : Lks} (h : OnceOf L R) {n : Nat} (hn : n ≤ L.length) : orderR R n = orderR L n := orderR_congr fun k hk t => (h.once k (by omega)).to t
theorem mayL_links {n : Int} {L : Lks} (h : mayL n L = true) : (0 ≤ n ∧ n ≤ 64) ∧ (L.length : Int) = n ∧ ∀ k, k < L.length → ∀ x ∈ linksOf L k, 0 ≤ x.1 ∧ x.1 < n ∧ 0 ≤ x.2 ∧ x.2 ≤ 3660 := by
  unfold mayL at h
  simp only [Bool.and_eq_true, decide_eq_true_eq, List.all_eq_true] at h
  obtain ⟨⟨⟨h1, h2⟩, h3⟩, h4⟩ := h
  refine ⟨⟨h1, h2⟩, h3, fun k hk x hx => ?_⟩
  rw [show linksOf L k = L[k] by simp [linksOf, hk]] at hx
  have := h4 _ (List.getElem_mem hk) x hx
  simp [isLinkB] at this
  omega
theorem OnceOf.on {n : Nat} {L R : Lks} (h : OnceOf L R) (hm : mayL n L = true) {k : Nat} (hk : k < L.length) : onR (linksOf L k) n = linksOf R k :=
  (onR_once fun x hx => by have := (mayL_links hm).2.2 k hk x hx; omega).one (h.once k hk)
theorem OnceOf.linksIn {n : Nat} {L R : Lks} (h : OnceOf L R) (hm : mayL n L = true) : LinksIn R n := fun k hk x hx => by
  have hl := (mayL_links hm).2.1
  have := (mayL_links hm).2.2 k (by omega) x (((h.once k (by omega)).mem x).1 hx).1
  omega
theorem order_full {L : Lks} {n : Nat} (h : n ≤ (orderR L n).length) : ∀ z : Int, 0 ≤ z → z < n → z ∈ orderR L n := fun z h0 h1 => below_full (orderR_ordered L n).nodup (orderR_ordered L n).below h h0 h1
/-- a row's numbers are written over -/
theorem ownN_set {w : World} {base g c : Nat} {l m : List Int} (h : OwnN w base (.slice (some ⟨g, 0, none⟩) l.length c) m) (hl : m.length = l.length) {i : Nat} (hi : i < l.length) (z : Int) : OwnN (w.setCell ⟨g, i, none⟩ (.int .i64 z)) base (.slice (some ⟨g, 0, none⟩) l.length c) (m.set i z) := by
  rw [← hl] at h ⊢
  exact own_setInt h (by omega) z
/-! ### the ways that end early -/
set_option maxHeartbeats 4000000 in
theorem graphOf_any (n i : Int) (v : Value) (us : List Value) (L : Lks) (w : World) (h : PartsAt w v us L) (hl : L.length ≤ 140737488355328) (hll : ∀ k, k < L.length → (linksOf L k).length ≤ 140737488355328) :
    Calls Try.prog 3 #[.int .i64 n, v, .int .i64 i] w fun e w' => e = .returned (.bool true) ∧ Mod [] w w' := by
  have HP := Lib.hid h
  have HG := Lib.hid (great21_any v us L w h hl hll)
  by_cases hgr : greatG L = true
  · rw [hgr] at HG
    obtain ⟨a, c, rfl⟩ := h.row.form
    clear h hgr hl hll
    go_enter Try.func3, Try.ntmps3
    go_wp2_with fail
    refine HG.out.mono ?_
    rintro e w1 ⟨rfl, rfl⟩
    go_wp2_with fail
    refine (known21_any _).mono ?_
    rintro e w2 ⟨rfl, m⟩
    have HM := Lib.hid m
    clear m
    go_wp2_with fail
    go_ret
    exact ⟨rfl, HM.out⟩
  · have hgf : greatG L = false := Bool.eq_false_iff.2 hgr
    have hsm : L.length ≤ 70 ∧ linkN L ≤ 400 := by
      unfold greatG at hgf
      simp at hgf
      omega
    have HLN := Lib.hid (show ∀ k, k < L.length → (linksOf L k).length ≤ 400 from fun k hk => by have := linkN_mem hk; omega)
    rw [hgf] at HG
    have HOF := Lib.hid (grOf_any n v us L w h (by omega) (fun k hk => by have := HLN.out k hk; omega))
    have HMY := Lib.hid (fun W (k : Mod [] w W) => rMay21_any n v us L W ⟨h.row.kept0 k, h.len, fun j a b => (h.part j a b).kept0 k⟩ (by omega) (fun k hk => by have := HLN.out k hk; omega))
    have hl70 := hsm.1
    clear hgr hgf hl hll hsm
    by_cases hm : mayL n L = true
    · rw [hm] at HMY
      obtain ⟨⟨hn0, hn64⟩, hln, _⟩ := mayL_links hm
      obtain ⟨N, rfl⟩ : ∃ N : Nat, n = N := ⟨n.toNat, by omega⟩
      have hN64 : N ≤ 64 := by omega
      have hLN : L.length = N := by omega
      have HLEN := Lib.hid hLN
      have HMM := Lib.hid hm
      have HRO := Lib.hid (fun W (k : Mod [] w W) => rOrder21_any N v us L W ⟨h.row.kept0 k, h.len, fun j a b => (h.part j a b).kept0 k⟩ hN64 hLN (fun k hk => by have := HLN.out k hk; omega))
      obtain ⟨a, c, rfl⟩ := h.row.form
      clear h hm hn0 hn64 hln hLN
      by_cases hor : (orderR L N).length < N
      · go_enter Try.func3, Try.ntmps3
        go_wp2_with fail
        refine HG.out.mono ?_
        rintro e w1 ⟨rfl, rfl⟩
        go_wp2_with fail
        refine HOF.out.mono ?_
        intro e w2 hp
        obtain ⟨rfl, m2⟩ := hp.ring HMM.out (by simpa using hor)
        have HM2 := Lib.hid m2
        clear hp m2
        go_wp2_with fail
        refine (HMY.out _ HM2.out).mono ?_
        rintro e w3 ⟨rfl, m3⟩
        have HM3 := Lib.hid (HM2.out.trans m3)
        clear m3
        go_wp2_with fail
        refine (HRO.out _ HM3.out).mono ?_
        rintro e w4 ⟨v4, rfl, o4, m4⟩
        have HM4 := Lib.hid (HM3.out.trans m4)
        obtain ⟨a4, c4, rfl⟩ := o4.row.form
        clear m4 o4
        go_wp2_with fail
        refine (known21_any _).mono ?_
        rintro e w5 ⟨rfl, m⟩
        have HM := Lib.hid (HM4.out.trans m)
        clear m
        go_wp2_with fail
        go_ret
        exact ⟨rfl, HM.out⟩
      · have HOR := Lib.hid (Nat.le_of_not_lt hor)
        have hoq : (orderR L N).length = N := by have := orderR_length L N; omega
        have HOQ := Lib.hid hoq
        clear hor hoq
        go_enter Try.func3, Try.ntmps3
        go_wp2_with fail
        refine HG.out.mono ?_
        rintro e w1 ⟨rfl, rfl⟩
        go_wp2_with fail
        refine HOF.out.mono ?_
        intro e w2 hp
        obtain ⟨m2, B, R, rfl, hg, hrl, hro⟩ := hp.good HMM.out (by simpa using HOR.out)
        have HM2 := Lib.hid m2
        have HGA := Lib.hid hg
        have HON := Lib.hid (show OnceOf L R from ⟨hrl, hro⟩)
        clear hp m2 hg hrl hro
        rw [Int.toNat_natCast] at HGA
        go_wp2_with fail
        refine (HMY.out _ HM2.out).mono ?_
        rintro e w3 ⟨rfl, m3⟩
        have HM3 := Lib.hid (HM2.out.trans m3)
        have HGA3 := Lib.hid (HGA.out.kept0 m3)
        clear m3
        go_wp2_with fail
        refine (HRO.out _ HM3.out).mono ?_
        rintro e w4 ⟨v4, rfl, o4, m4⟩
        have HM4 := Lib.hid (HM3.out.trans m4)
        have HGA4 := Lib.hid (HGA3.out.kept0 m4)
        have HO4 := Lib.hid o4
        obtain ⟨a4, c4, rfl⟩ := o4.row.form
        rw [HOQ.out] at HO4 ⊢
        clear m4 o4 HGA HGA3 HM2 HM3 HRO HMY HOF HG
        go_wp2_with fail
        have HAL := Lib.hid (fun z h0 hz => order_full HOR.out z h0 hz)
        have HRL := Lib.hid (show R.length = N from by rw [HON.out.len]; exact HLEN.out)
        have HORD := Lib.hid (show Ordered R R.length (orderR L N) from by rw [HRL.out, ← HON.out.order (n := N) (by rw [HLEN.out]; omega)]; exact orderR_ordered R N)
        have HRN := Lib.hid (show ∀ k, k < R.length → (linksOf R k).length ≤ 64 from fun k hk => by
          have h1 := HON.out.on HMM.out (k := k) (by rw [← HON.out.len]; exact hk)
          have h2 := onR_len (linksOf L k) N
          rw [h1] at h2; omega)
        go_loopw [60] (fun s60 wr => ∃ r : Nat, r ≤ 2 ∧ s60 = .int .i64 r ∧ Hid (Mod [] w4 wr)) (fun s60 _ => 2 - (intOf s60).toNat)
        case atStart => exact ⟨0, by omega, rfl, Lib.hid (Mod.refl _ _)⟩
        case round =>
          obtain ⟨r, hr, rfl, hM⟩ := hrel
          rename World => wo
          by_cases hlt : r < 2
          · have HGO := Lib.hid (HGA4.out.kept0 hM.out)
            have HVO := Lib.hid (HO4.out.kept0 hM.out)
            have HC1 := Lib.hid (grOrder_any _ B R (orderR L N) wo HGO.out (by rw [HOQ.out]; omega))
            go_wp2_with fail
            refine HC1.out.mono ?_
            rintro e x1 ⟨v1, rfl, o1, m1⟩
            have HC2 := Lib.hid (rSameInts_any _ _ (orderR L N) (orderR L N) x1 o1.row (HVO.out.kept0 m1).row (by rw [HOQ.out]; omega) (by rw [HOQ.out]; omega))
            rw [decide_eq_true rfl] at HC2
            have HO1 := Lib.hid o1
            have HM1 := Lib.hid m1
            obtain ⟨a1, c1, rfl⟩ := o1.row.form
            rw [HOQ.out] at HO1 HC2 ⊢
            clear o1 m1 HC1
            go_wp2_with fail
            refine HC2.out.mono ?_
            rintro e x2 ⟨rfl, m2⟩
            have HM2 := Lib.hid (HM1.out.trans m2)
            have HO2 := Lib.hid (HO1.out.kept0 m2)
            clear m2 HC2 HO1 HM1
            go_wp2_with fail
            go_loopw [70] (fun s70 wr => ∃ (k : Nat) (l : List Int), k ≤ N ∧ s70 = .int .i64 k ∧ l.length = N ∧ Hid (OwnN wr wo.heap.size (.slice a1 N c1) l) ∧ Hid (Mod [] wo wr)) (fun s70 _ => N - (intOf s70).toNat)
            case atStart => exact ⟨0, orderR L N, by omega, rfl, HOQ.out, HO2, HM2⟩
            case round =>
              clear HO2 HM2
              obtain ⟨k, l, hk, rfl, hll, hown, hM2⟩ := hrel
              rename World => wz
              by_cases hlt2 : k < N
              · have h1 : OwnN wz wo.heap.size (.slice a1 l.length c1) l := by rw [hll]; exact hown.out
                obtain ⟨g, rfl, hg1, hg2, hg3⟩ := own_at h1 (by omega)
                obtain ⟨c0, f0⟩ := RowAt.own1 h1 (i := k) (by omega)
                have HO3 := Lib.hid (show OwnN (wz.setCell ⟨g, k, none⟩ (.int .i64 (-1))) wo.heap.size (.slice (some ⟨g, 0, none⟩) N c1) (l.set k (-1)) from by rw [← hll]; exact own_setInt h1 (by omega) (-1))
                have HM3 := Lib.hid (hM2.out.setCellNew (p := ⟨g, k, none⟩) hg1 (.int .i64 (-1)))
                have HLL3 := Lib.hid (show (l.set k (-1)).length = N by rw [List.length_set]; exact hll)
                clear h1 hll hg1 hg2 hg3
                go_wp2_with fail
                go_roundw
                case rel => exact ⟨k + 1, _, by omega, by go_num, HLL3.out, HO3, HM3⟩
                case measure => simp [intOf]; omega
              · obtain rfl : N = k := by omega
                clear hown hll
                have HGZ := Lib.hid (HGO.out.kept0 hM2.out)
                have HMZ := Lib.hid (hM.out.trans hM2.out)
                by_cases hi : 0 ≤ i ∧ i < N
                · obtain ⟨hi0, hiN⟩ := hi
                  obtain ⟨q, rfl⟩ : ∃ q : Nat, i = q := ⟨i.toNat, by omega⟩
                  have hqN : q < N := by omega
                  have HC3 := Lib.hid (grOn_any q _ B R (orderR L N) wz HGZ.out (by rw [HRL.out]; exact hqN) (by rw [HRL.out]; omega) (by have := HRN.out q (by rw [HRL.out]; exact hqN); omega))
                  go_wp2_with fail
                  refine HC3.out.mono ?_
                  rintro e y1 ⟨v5, rfl, o5, m5⟩
                  have HC4 := Lib.hid (grAbove_any q _ B R (orderR L N) y1 (HGZ.out.kept0 m5) (by rw [HRL.out]; exact hqN) (by rw [HRL.out]; omega) HORD.out (by rw [HRL.out]; exact HAL.out) (fun k hk => by have := HRN.out k hk; omega) (by rw [HRL.out]; exact HON.out.linksIn HMM.out))
                  have HO5 := Lib.hid o5
                  have HM5 := Lib.hid m5
                  clear o5 m5 HC3
                  go_wp2_with fail
                  refine HC4.out.mono ?_
                  rintro e y2 ⟨v6, p6, rfl, o6, m6, hp6⟩
                  rw [HRL.out] at o6 hp6
                  have HP6 := Lib.hid hp6
                  have HO6 := Lib.hid o6
                  have HO56 := Lib.hid (HO5.out.kept0 m6)
                  have HMY2 := Lib.hid (hM2.out.trans (HM5.out.trans m6))
                  have HPW := Lib.hid (fun W (k : Mod [] wo W) => (show PartsAt W (.slice a us.length c) us L from ⟨HP.out.row.kept0 ((HM4.out.trans hM.out).trans k), HP.out.len, fun j a b => (HP.out.part j a b).kept0 ((HM4.out.trans hM.out).trans k)⟩))
                  obtain ⟨b8, o8, pa8, pc8, rfl, hc8, q8, hs8⟩ := (HPW.out _ HMY2.out).get rfl (i := q) (by rw [HP.out.len, HLEN.out]; exact hqN)
                  have HC7 := Lib.hid (rOn21_any N _ (linksOf L q) y2 hs8 hN64 (by have := HLN.out q (by rw [HLEN.out]; exact hqN); omega))
                  rw [HON.out.on HMM.out (k := q) (by rw [HLEN.out]; exact hqN)] at HC7
                  have hus : us.length = N := by rw [HP.out.len, HLEN.out]
                  obtain ⟨a5, c5, rfl⟩ := HO5.out.row.form
                  obtain ⟨a6, c6, rfl⟩ := o6.row.form
                  have hr64 := HRN.out q (by rw [HRL.out]; exact hqN)
                  have hs64 := selU_len p6 N
                  have HUS := Lib.hid hus
                  have hqu : q < us.length := by rw [hus]; exact hqN
                  clear o6 m6 hp6 hs8 HC4 hus HO5
                  go_wp2_with fail
                  refine HC7.out.mono ?_
                  rintro e y3 ⟨v7, rfl, o7, m7⟩
                  have HC8 := Lib.hid (rSame21_any _ v7 (linksOf R q) (linksOf R q) y3 (HO56.out.row.kept0 m7) o7.row (by omega) (by omega))
                  rw [decide_eq_true rfl] at HC8
                  have HM7 := Lib.hid m7
                  clear o7 m7 HC7
                  go_wp2_with fail
                  refine HC8.out.mono ?_
                  rintro e y4 ⟨rfl, m8⟩
                  have HM8 := Lib.hid (HM7.out.trans m8)
                  have HC9 := Lib.hid (rAbove21_any N q _ us L y4 (HPW.out _ (HMY2.out.trans HM8.out)) hN64 HLEN.out hqN (fun k hk x hx => by have := (mayL_links HMM.out).2.2 k (by rw [HLEN.out]; exact hk) x hx; omega) (fun k hk => by have := HLN.out k hk; omega))
                  clear m8 HC8 HM7
                  go_wp2_with fail
                  refine HC9.out.mono ?_
                  rintro e y5 ⟨v9, p9, rfl, o9, m9, hp9⟩
                  have hpe : selU p9 N = selU p6 N := selU_congr N fun k hk => by
                    rw [Bool.eq_iff_iff, hp9 k hk, HP6.out k hk, HON.out.stands]
                  rw [hpe] at o9
                  have HM9 := Lib.hid (HM8.out.trans m9)
                  have HC10 := Lib.hid (rSameInts_any _ v9 (selU p6 N) (selU p6 N) y5 (HO6.out.row.kept0 HM9.out) o9.row (by omega) (by omega))
                  rw [decide_eq_true rfl] at HC10
                  clear o9 m9 hp9 hpe HC9 HM8
                  go_wp2_with fail
                  refine HC10.out.mono ?_
                  rintro e y6 ⟨rfl, m10⟩
                  have HM10 := Lib.hid (HM9.out.trans m10)
                  have HO5a := Lib.hid (show OwnL y6 wo.heap.size (.slice a5 (linksOf R q).length c5) (linksOf R q) from (HO56.out.kept0 HM10.out).mono hM2.out.size)
                  have HO6a := Lib.hid (show OwnN y6 wo.heap.size (.slice a6 (selU p6 N).length c6) (selU p6 N) from (HO6.out.kept0 HM10.out).mono (Nat.le_trans hM2.out.size HM5.out.size))
                  have HAP := Lib.hid (show ∀ b, (Value.slice a5 (linksOf R q).length c5).ownBlock = some b → (Value.slice a6 (selU p6 N).length c6).ownBlock ≠ some b from fun b hb e => by
                    have h1 := (HO56.out.kept0 HM10.out)
                    rcases h1.2 with ⟨e1, _⟩ | ⟨g, cap, cur, e1, _, hg, _⟩
                    · rw [e1] at hb; cases hb
                    · rw [e1] at hb
                      simp only [Value.ownBlock, Option.some.injEq] at hb
                      subst hb
                      exact (HO6.out.kept0 HM10.out).typed hg (by decide) e)
                  have HMW := Lib.hid (HMY2.out.trans HM10.out)
                  obtain ⟨lq, HLQ⟩ : ∃ l, Hid (linksOf R q = l) := ⟨_, Lib.hid rfl⟩
                  obtain ⟨la, HLA⟩ : ∃ l, Hid (selU p6 N = l) := ⟨_, Lib.hid rfl⟩
                  rw [HLQ.out] at HO5a HAP hr64 ⊢
                  rw [HLA.out] at HO6a HAP hs64 ⊢
                  clear m10 HC10 HM9 HO56 HO6 HM10 HMY2 hM2 HGZ HMZ
                  go_wp2_with fail
                  go_loopw [120] (fun s120 wr => ∃ (k : Nat) (l : List Sp), k ≤ lq.length ∧ s120 = .int .i64 k ∧ l.length = lq.length ∧ Hid (OwnL wr wo.heap.size (.slice a5 lq.length c5) l) ∧ Hid (OwnN wr wo.heap.size (.slice a6 la.length c6) la) ∧ Hid (Mod [] wo wr)) (fun s120 _ => lq.length - (intOf s120).toNat)
                  case atStart => exact ⟨0, lq, by omega, rfl, rfl, HO5a, HO6a, HMW⟩
                  case round =>
                    clear HO5a HO6a HMW
                    obtain ⟨k, l, hk, rfl, hll, hown, ho6, hM2⟩ := hrel
                    rename World => wz
                    by_cases hlt3 : k < lq.length
                    · have h1 : OwnL wz wo.heap.size (.slice a5 l.length c5) l := by rw [hll]; exact hown.out
                      rcases h1.form with ⟨_, h2⟩ | ⟨g, cap, e2, hg1, hg2, hg3⟩
                      · exfalso; rw [h2] at hll; simp at hll; omega
                      · simp only [Value.slice.injEq, true_and] at e2
                        obtain ⟨rfl, rfl⟩ := e2
                        obtain ⟨c0, f0⟩ := OwnR.cell encS_len h1 (i := k) (j := 0) (by omega) (by omega) (u := .int .i64 (l[k]'(by omega)).1) rfl
                        have h3 := OwnR.set encS_len h1 (i := k) (j := 0) (by omega) (by omega) (u := .int .i64 (-1)) (y := (-1, (l[k]'(by omega)).2)) rfl
                        have hm3 := hM2.out.setCellNew (p := ⟨g, k * 2 + 0, none⟩) hg1 (.int .i64 (-1))
                        simp only [Nat.add_zero] at c0 f0 h3 hm3
                        have HO3 := Lib.hid (show OwnL (wz.setCell ⟨g, k * 2, none⟩ (.int .i64 (-1))) wo.heap.size (.slice (some ⟨g, 0, none⟩) lq.length c5) (l.set k (-1, (l[k]'(by omega)).2)) from by rw [← hll]; exact h3)
                        have HO63 := Lib.hid (ho6.out.kept (show Mod [g] wz (wz.setCell ⟨g, k * 2, none⟩ (.int .i64 (-1))) from (Mod.refl _ _).setCell (by simp) _) fun b hb hx => by
                          simp at hx; subst hx
                          exact HAP.out b rfl hb)
                        have HM3 := Lib.hid hm3
                        obtain ⟨l3, hl3, HO3b⟩ : ∃ l3 : List Sp, l3.length = lq.length ∧ Hid (OwnL (wz.setCell ⟨g, k * 2, none⟩ (.int .i64 (-1))) wo.heap.size (.slice (some ⟨g, 0, none⟩) lq.length c5) l3) := ⟨_, by rw [List.length_set]; exact hll, HO3⟩
                        have HL3 := Lib.hid hl3
                        generalize (l[k]'(by omega)).1 = z0 at c0
                        clear h1 h3 hm3 HO3 hl3 hll hg1 hg2 hg3
                        go_wp2_with fail
                        go_roundw
                        case rel => exact ⟨k + 1, l3, by omega, by go_num, HL3.out, HO3b, HO63, HM3⟩
                        case measure => simp [intOf]; omega
                    · obtain rfl : lq.length = k := by omega
                      clear hown hll
                      go_wp2_with fail
                      go_loopw [130] (fun s130 wr => ∃ (k : Nat) (l : List Int), k ≤ la.length ∧ s130 = .int .i64 k ∧ l.length = la.length ∧ Hid (OwnN wr wo.heap.size (.slice a6 la.length c6) l) ∧ Hid (Mod [] wo wr)) (fun s130 _ => la.length - (intOf s130).toNat)
                      case atStart => exact ⟨0, la, by omega, rfl, rfl, ho6, hM2⟩
                      case round =>
                        clear ho6 hM2
                        obtain ⟨k, l, hk, rfl, hll, hown, hM2⟩ := hrel
                        rename World => wy
                        by_cases hlt4 : k < la.length
                        · have h1 : OwnN wy wo.heap.size (.slice a6 l.length c6) l := by rw [hll]; exact hown.out
                          obtain ⟨g, rfl, hg1, hg2, hg3⟩ := own_at h1 (by omega)
                          obtain ⟨c0, f0⟩ := RowAt.own1 h1 (i := k) (by omega)
                          have HO3 := Lib.hid (show OwnN (wy.setCell ⟨g, k, none⟩ (.int .i64 (-1))) wo.heap.size (.slice (some ⟨g, 0, none⟩) la.length c6) (l.set k (-1)) from by rw [← hll]; exact own_setInt h1 (by omega) (-1))
                          have HM3 := Lib.hid (hM2.out.setCellNew (p := ⟨g, k, none⟩) hg1 (.int .i64 (-1)))
                          have HLL3 := Lib.hid (show (l.set k (-1)).length = la.length by rw [List.length_set]; exact hll)
                          clear h1 hll hg1 hg2 hg3
                          go_wp2_with fail
                          go_roundw
                          case rel => exact ⟨k + 1, _, by omega, by go_num, HLL3.out, HO3, HM3⟩
                          case measure => simp [intOf]; omega
                        · have HMZ := Lib.hid (hM.out.trans hM2.out)
                          go_wp2_with fail
                          go_roundw
                          case rel => exact ⟨r + 1, by omega, by go_num, HMZ⟩
                          case measure => simp [intOf]; omega
                · have hio : i < 0 ∨ (R.length : Int) ≤ i := by have := HRL.out; omega
                  have HC3 := Lib.hid (grOn_out i _ B R (orderR L N) wz HGZ.out hio (by rw [HRL.out]; omega))
                  have HC4 := Lib.hid (grAbove_out i _ B R (orderR L N) wz HGZ.out hio (by rw [HRL.out]; omega))
                  clear hio
                  by_cases hi0 : i < 0
                  · go_wp2_with fail
                    refine HC3.out.mono ?_
                    rintro e y1 ⟨rfl, rfl⟩
                    go_wp2_with fail
                    refine HC4.out.mono ?_
                    rintro e y1 ⟨rfl, rfl⟩
                    go_wp2_with fail
                    go_roundw
                    case rel => exact ⟨r + 1, by omega, by go_num, HMZ⟩
                    case measure => simp [intOf]; omega
                  · have hi1 : (N : Int) ≤ i := by omega
                    clear hi
                    go_wp2_with fail
                    refine HC3.out.mono ?_
                    rintro e y1 ⟨rfl, rfl⟩
                    go_wp2_with fail
                    refine HC4.out.mono ?_
                    rintro e y1 ⟨rfl, rfl⟩
                    go_wp2_with fail
                    go_roundw
                    case rel => exact ⟨r + 1, by omega, by go_num, HMZ⟩
                    case measure => simp [intOf]; omega
          · go_wp2_with fail
            refine (known21_any _).mono ?_
            rintro e w5 ⟨rfl, m⟩
            have HMX := Lib.hid ((HM4.out.trans hM.out).trans m)
            clear m
            go_wp2_with fail
            go_ret
            exact ⟨rfl, HMX.out⟩
    · have hmf : mayL n L = false := Bool.eq_false_iff.2 hm
      rw [hmf] at HMY
      have HMF := Lib.hid hmf
      obtain ⟨a, c, rfl⟩ := h.row.form
      clear h hm hmf
      go_enter Try.func3, Try.ntmps3
      go_wp2_with fail
      refine HG.out.mono ?_
      rintro e w1 ⟨rfl, rfl⟩
      go_wp2_with fail
      refine HOF.out.mono ?_
      intro e w2 hp
      obtain ⟨m2, ⟨_, rfl⟩ | ⟨h3, _⟩ | ⟨h3, _⟩⟩ := hp
      · have HM2 := Lib.hid m2
        clear m2
        go_wp2_with fail
        refine (HMY.out _ HM2.out).mono ?_
        rintro e w3 ⟨rfl, m3⟩
        have HM3 := Lib.hid (HM2.out.trans m3)
        clear m3
        go_wp2_with fail
        refine (known21_any _).mono ?_
        rintro e w4 ⟨rfl, m⟩
        have HM := Lib.hid (HM3.out.trans m)
        clear m
        go_wp2_with fail
        go_ret
        exact ⟨rfl, HM.out⟩
      · rw [HMF.out] at h3; cases h3
      · rw [HMF.out] at h3; cases h3
end Go.Proofs.Ytefaihockgebeaa
namespace Go.Proofs.Ytefaihockgebeaa
open Go.RowKit Go.ChangeMaps Go.Deep
set_option linter.unusedSimpArgs false
set_option linter.unusedVariables false
set_option maxRecDepth 20000

/-- a node of a tree -/
structure Nd where
  op : Int
  c : Int
  s : Int
  name : ByteArray
  k : Int
  k0 : Int
  k1 : Int
  k2 : Int
  place : Int
def encNd (x : Nd) : List Value := [.int .u8 x.op, .int .i64 x.c, .int .i64 x.s, .string x.name, .int .i64 x.k, .int .i64 x.k0, .int .i64 x.k1, .int .i64 x.k2, .int .i64 x.place]
theorem encNd_len (x : Nd) : (encNd x).length = 9 := rfl
def encStr (s : ByteArray) : List Value := [.string s]
theorem encStr_len (s : ByteArray) : (encStr s).length = 1 := rfl
abbrev NodesAt (w : World) (v : Value) (l : List Nd) : Prop := RowAt encNd w v l
abbrev StrsAt (w : World) (v : Value) (l : List ByteArray) : Prop := RowAt encStr w v l
theorem RowAt.get9 {w : World} {a : Option Addr} {c : Nat} {l : List Nd} (h : NodesAt w (.slice a l.length c) l) {i : Nat} (hi : i < l.length) :
    ∃ b o, a = some ⟨b, o, none⟩ ∧ l.length ≤ c ∧ w.cell? ⟨b, o + i * 9, none⟩ = some (.int .u8 l[i].op) ∧ w.cell? ⟨b, o + i * 9 + 1, none⟩ = some (.int .i64 l[i].c) ∧ w.cell? ⟨b, o + i * 9 + 2, none⟩ = some (.int .i64 l[i].s) ∧ w.cell? ⟨b, o + i * 9 + 3, none⟩ = some (.string l[i].name) ∧ w.cell? ⟨b, o + i * 9 + 4, none⟩ = some (.int .i64 l[i].k) ∧ w.cell? ⟨b, o + i * 9 + 5, none⟩ = some (.int .i64 l[i].k0) ∧ w.cell? ⟨b, o + i * 9 + 6, none⟩ = some (.int .i64 l[i].k1) ∧ w.cell? ⟨b, o + i * 9 + 7, none⟩ = some (.int .i64 l[i].k2) ∧ w.cell? ⟨b, o + i * 9 + 8, none⟩ = some (.int .i64 l[i].place) := by
  obtain ⟨b, o, e, hc, hg⟩ := h.get encNd_len hi
  refine ⟨b, o, e, hc, hg 0 _ (by omega) rfl, ?_, ?_, ?_, ?_, ?_, ?_, ?_, ?_⟩
  all_goals rw [Nat.add_assoc]
  · exact hg 1 _ (by omega) rfl
  · exact hg 2 _ (by omega) rfl
  · exact hg 3 _ (by omega) rfl
  · exact hg 4 _ (by omega) rfl
  · exact hg 5 _ (by omega) rfl
  · exact hg 6 _ (by omega) rfl
  · exact hg 7 _ (by omega) rfl
  · exact hg 8 _ (by omega) rfl
theorem RowAt.getS {w : World} {a : Option Addr} {c : Nat} {l : List ByteArray} (h : StrsAt w (.slice a l.length c) l) {i : Nat} (hi : i < l.length) :
    ∃ b o, a = some ⟨b, o, none⟩ ∧ l.length ≤ c ∧ w.cell? ⟨b, o + i, none⟩ = some (.string l[i]) := by
  obtain ⟨b, o, e, hc, hg⟩ := h.get encStr_len hi
  have h0 := hg 0 (.string l[i]) (by omega) rfl
  exact ⟨b, o, e, hc, by simpa using h0⟩
/-- where a name stands among some -/
def nmIdx (names : List ByteArray) (x : ByteArray) : Int := Lib.idxOfS names x
theorem indexStr_any (v : Value) (zs : List ByteArray) (x : ByteArray) (w : World) (h : StrsAt w v zs) (hl : zs.length ≤ 1000000) :
    Calls Try.prog 67 #[v, .string x] w fun e w' => e = .returned (.int .i64 (nmIdx zs x)) ∧ w' = w := by
  by_cases h0 : zs = []
  · subst h0
    obtain ⟨a, c, rfl⟩ := h.form
    exact Try.slices_Index_string_empty a c x w
  · obtain ⟨a, c, rfl⟩ := h.form
    obtain ⟨b, o, rfl, _, _⟩ := h.getS (i := 0) (List.length_pos_iff.2 h0)
    have := Try.slices_Index_string b o zs.length c zs x w (Nat.le_refl _) (by omega) (fun j hj => by
      obtain ⟨b', o', e, _, hq⟩ := h.getS hj
      simp only [Option.some.injEq, Addr.mk.injEq, and_true] at e
      obtain ⟨rfl, rfl⟩ := e
      rw [hq]; simp [hj])
    rw [List.take_length] at this
    exact this
/-- how far back a node asks: nothing at all, if it is no link -/
def backOf (x : Nd) : Option Int :=
  if x.op = 4 ∨ x.op = 24 ∨ x.op = 25 then some 0
  else if x.op = 26 ∨ x.op = 27 ∨ x.op = 28 ∨ x.op = 29 ∨ x.op = 30 then some x.k
  else none
def linksT (names : List ByteArray) : List Nd → List Sp → Option (List Sp)
  | [], acc => some acc
  | x :: r, acc => match backOf x with
    | none => linksT names r acc
    | some b => if nmIdx names x.name < 0 then none else linksT names r (acc ++ [(nmIdx names x.name, b)])
def errT (r : Option (List Sp)) : Int := if r.isSome then 0 else 5
set_option maxHeartbeats 8000000 in
theorem grLinks_any (v u : Value) (t : List Nd) (names : List ByteArray) (w : World) (h : NodesAt w v t) (hu : StrsAt w u names) (hl : t.length ≤ 200) (hn : names.length ≤ 70) :
    Calls Try.prog 24 #[v, u] w fun e w' => ∃ v', e = .returned (.tuple #[v', .int .i64 (errT (linksT names t []))]) ∧ OwnL w' w.heap.size v' ((linksT names t []).getD []) ∧ Mod [] w w' := by
  have H := Lib.hid h
  have HU := Lib.hid hu
  obtain ⟨a, c, rfl⟩ := h.form
  obtain ⟨na, nc, rfl⟩ := hu.form
  clear h hu
  go_enter Try.func24, Try.ntmps24
  go_wp2_with fail
  go_loopw [4, 11] (fun s4 s11 wr => ∃ (i : Nat) (acc : List Sp), i ≤ t.length ∧ acc.length ≤ i ∧ s11 = .int .i64 i ∧ Hid (linksT names (t.drop i) acc = linksT names t []) ∧ Hid (OwnL wr w.heap.size s4 acc) ∧ Hid (Mod [] w wr)) (fun _ s11 _ => t.length - (intOf s11).toNat)
  case atStart => exact ⟨0, [], by omega, by simp, rfl, Lib.hid rfl, Lib.hid (OwnR.nil_ _ _), Lib.hid (Mod.refl _ _)⟩
  case round =>
    obtain ⟨i, acc, hi, hai, rfl, hv, hO, hM⟩ := hrel
    by_cases hlt : i < t.length
    · obtain ⟨b, o, rfl, hc, c0, c1, c2, c3, c4, c5, c6, c7, c8⟩ := (H.out.kept0 hM.out).get9 hlt
      have hd := hv.out
      rw [← List.getElem_cons_drop hlt, linksT] at hd
      have HD := Lib.hid hd
      clear hd
      generalize t[i] = x at c0 c1 c2 c3 c4 c5 c6 c7 c8 HD
      obtain ⟨op, xc, xs, nm, xk, k0, k1, k2, pl⟩ := x
      dsimp only at c0 c1 c2 c3 c4 c5 c6 c7 c8
      have m1 := (Mod.refl [] wr).alloc (.cells #[.int .u8 op, .int .i64 xc, .int .i64 xs, .string nm, .int .i64 xk, .int .i64 k0, .int .i64 k1, .int .i64 k2, .int .i64 pl] 102)
      have hmx : ∀ b : Int, Mod [] w ((wr.alloc (.cells #[.int .u8 op, .int .i64 xc, .int .i64 xs, .string nm, .int .i64 xk, .int .i64 k0, .int .i64 k1, .int .i64 k2, .int .i64 pl] 102)).alloc (.cells #[.int .i64 0, .int .i64 b] 41)) := fun b => (hM.out.alloc _).alloc _
      have HMX := Lib.hid hmx
      have hmy : ∀ z b : Int, Mod [] wr ((wr.alloc (.cells #[.int .u8 op, .int .i64 xc, .int .i64 xs, .string nm, .int .i64 xk, .int .i64 k0, .int .i64 k1, .int .i64 k2, .int .i64 pl] 102)).alloc (.cells #[.int .i64 z, .int .i64 b] 41)) := fun z b => m1.alloc _
      have HMY := Lib.hid hmy
      have HIX := Lib.hid (fun W (z : Mod [] w W) => indexStr_any _ names nm W (HU.out.kept0 z) (by omega))
      clear m1 hmx hmy
      by_cases hk0 : op = 4 ∨ op = 24 ∨ op = 25
      · have HB := Lib.hid (show backOf ⟨op, xc, xs, nm, xk, k0, k1, k2, pl⟩ = some 0 from if_pos hk0)
        rw [HB.out] at HD
        dsimp only at HD
        rcases hk0 with rfl | rfl | rfl
        · go_wp2_with fail
          refine (HIX.out _ (HMX.out 0)).mono ?_
          rintro e w1 ⟨rfl, rfl⟩
          clear HIX
          generalize nmIdx names nm = z at HD ⊢
          by_cases hz : z < 0
          · rw [if_pos hz] at HD
            have HE := Lib.hid (show linksT names t [] = none from HD.out.symm)
            have HMZ := Lib.hid (hM.out.trans (HMY.out z 0))
            clear HD HMX HMY
            go_wp2_with fail
            go_ret2
            exact ⟨_, by rw [HE.out]; rfl, by rw [HE.out]; exact OwnR.nil_ _ _, HMZ.out⟩
          · rw [if_neg hz] at HD
            have hmz := HMY.out z 0
            obtain ⟨v4, w4, g1, g2, g3⟩ := own_append1 elemLink encS_len encS_one (hO.out.kept0 hmz) (by have := hM.out.size; have := hmz.size; omega) (ty := 34) (z, 0) (by omega) (by omega)
            rw [show ((wr.alloc (.cells #[.int .u8 4, .int .i64 xc, .int .i64 xs, .string nm, .int .i64 xk, .int .i64 k0, .int .i64 k1, .int .i64 k2, .int .i64 pl] 102)).alloc (.cells #[.int .i64 z, .int .i64 0] 41)).heap.size = wr.heap.size + 1 + 1 by simp] at g1
            have HO4 := Lib.hid g2
            have HM4 := Lib.hid (g3.intoNil (hO.out.kept0 hmz) (Nat.le_refl _) (hM.out.trans hmz))
            have G1 := Lib.hid g1
            clear g1 g2 g3 hmz HMX HMY
            go_wp2_with ((with_reducible refine xAppendAt G1.out rfl rfl ?_ ?_ ?_ ?_); exact rfl; exact rfl; exact rfl)
            go_roundw
            case rel => exact ⟨i + 1, acc ++ [(z, 0)], by omega, by simp; omega, by go_num, HD, HO4, HM4⟩
            case measure => simp [intOf]; omega
        · go_wp2_with fail
          refine (HIX.out _ (HMX.out 0)).mono ?_
          rintro e w1 ⟨rfl, rfl⟩
          clear HIX
          generalize nmIdx names nm = z at HD ⊢
          by_cases hz : z < 0
          · rw [if_pos hz] at HD
            have HE := Lib.hid (show linksT names t [] = none from HD.out.symm)
            have HMZ := Lib.hid (hM.out.trans (HMY.out z 0))
            clear HD HMX HMY
            go_wp2_with fail
            go_ret2
            exact ⟨_, by rw [HE.out]; rfl, by rw [HE.out]; exact OwnR.nil_ _ _, HMZ.out⟩
          · rw [if_neg hz] at HD
            have hmz := HMY.out z 0
            obtain ⟨v4, w4, g1, g2, g3⟩ := own_append1 elemLink encS_len encS_one (hO.out.kept0 hmz) (by have := hM.out.size; have := hmz.size; omega) (ty := 34) (z, 0) (by omega) (by omega)
            rw [show ((wr.alloc (.cells #[.int .u8 24, .int .i64 xc, .int .i64 xs, .string nm, .int .i64 xk, .int .i64 k0, .int .i64 k1, .int .i64 k2, .int .i64 pl] 102)).alloc (.cells #[.int .i64 z, .int .i64 0] 41)).heap.size = wr.heap.size + 1 + 1 by simp] at g1
            have HO4 := Lib.hid g2
            have HM4 := Lib.hid (g3.intoNil (hO.out.kept0 hmz) (Nat.le_refl _) (hM.out.trans hmz))
            have G1 := Lib.hid g1
            clear g1 g2 g3 hmz HMX HMY
            go_wp2_with ((with_reducible refine xAppendAt G1.out rfl rfl ?_ ?_ ?_ ?_); exact rfl; exact rfl; exact rfl)
            go_roundw
            case rel => exact ⟨i + 1, acc ++ [(z, 0)], by omega, by simp; omega, by go_num, HD, HO4, HM4⟩
            case measure => simp [intOf]; omega
        · go_wp2_with fail
          refine (HIX.out _ (HMX.out 0)).mono ?_
          rintro e w1 ⟨rfl, rfl⟩
          clear HIX
          generalize nmIdx names nm = z at HD ⊢
          by_cases hz : z < 0
          · rw [if_pos hz] at HD
            have HE := Lib.hid (show linksT names t [] = none from HD.out.symm)
            have HMZ := Lib.hid (hM.out.trans (HMY.out z 0))
            clear HD HMX HMY
            go_wp2_with fail
            go_ret2
            exact ⟨_, by rw [HE.out]; rfl, by rw [HE.out]; exact OwnR.nil_ _ _, HMZ.out⟩
          · rw [if_neg hz] at HD
            have hmz := HMY.out z 0
            obtain ⟨v4, w4, g1, g2, g3⟩ := own_append1 elemLink encS_len encS_one (hO.out.kept0 hmz) (by have := hM.out.size; have := hmz.size; omega) (ty := 34) (z, 0) (by omega) (by omega)
            rw [show ((wr.alloc (.cells #[.int .u8 25, .int .i64 xc, .int .i64 xs, .string nm, .int .i64 xk, .int .i64 k0, .int .i64 k1, .int .i64 k2, .int .i64 pl] 102)).alloc (.cells #[.int .i64 z, .int .i64 0] 41)).heap.size = wr.heap.size + 1 + 1 by simp] at g1
            have HO4 := Lib.hid g2
            have HM4 := Lib.hid (g3.intoNil (hO.out.kept0 hmz) (Nat.le_refl _) (hM.out.trans hmz))
            have G1 := Lib.hid g1
            clear g1 g2 g3 hmz HMX HMY
            go_wp2_with ((with_reducible refine xAppendAt G1.out rfl rfl ?_ ?_ ?_ ?_); exact rfl; exact rfl; exact rfl)
            go_roundw
            case rel => exact ⟨i + 1, acc ++ [(z, 0)], by omega, by simp; omega, by go_num, HD, HO4, HM4⟩
            case measure => simp [intOf]; omega
      · by_cases hk1 : op = 26 ∨ op = 27 ∨ op = 28 ∨ op = 29 ∨ op = 30
        · have HB := Lib.hid (show backOf ⟨op, xc, xs, nm, xk, k0, k1, k2, pl⟩ = some xk from by unfold backOf; rw [if_neg hk0, if_pos hk1])
          rw [HB.out] at HD
          dsimp only at HD
          clear hk0
          rcases hk1 with rfl | rfl | rfl | rfl | rfl
          · go_wp2_with fail
            refine (HIX.out _ (HMX.out xk)).mono ?_
            rintro e w1 ⟨rfl, rfl⟩
            clear HIX
            generalize nmIdx names nm = z at HD ⊢
            by_cases hz : z < 0
            · rw [if_pos hz] at HD
              have HE := Lib.hid (show linksT names t [] = none from HD.out.symm)
              have HMZ := Lib.hid (hM.out.trans (HMY.out z xk))
              clear HD HMX HMY
              go_wp2_with fail
              go_ret2
              exact ⟨_, by rw [HE.out]; rfl, by rw [HE.out]; exact OwnR.nil_ _ _, HMZ.out⟩
            · rw [if_neg hz] at HD
              have hmz := HMY.out z xk
              obtain ⟨v4, w4, g1, g2, g3⟩ := own_append1 elemLink encS_len encS_one (hO.out.kept0 hmz) (by have := hM.out.size; have := hmz.size; omega) (ty := 34) (z, xk) (by omega) (by omega)
              rw [show ((wr.alloc (.cells #[.int .u8 26, .int .i64 xc, .int .i64 xs, .string nm, .int .i64 xk, .int .i64 k0, .int .i64 k1, .int .i64 k2, .int .i64 pl] 102)).alloc (.cells #[.int .i64 z, .int .i64 xk] 41)).heap.size = wr.heap.size + 1 + 1 by simp] at g1
              have HO4 := Lib.hid g2
              have HM4 := Lib.hid (g3.intoNil (hO.out.kept0 hmz) (Nat.le_refl _) (hM.out.trans hmz))
              have G1 := Lib.hid g1
              clear g1 g2 g3 hmz HMX HMY
              go_wp2_with ((with_reducible refine xAppendAt G1.out rfl rfl ?_ ?_ ?_ ?_); exact rfl; exact rfl; exact rfl)
              go_roundw
              case rel => exact ⟨i + 1, acc ++ [(z, xk)], by omega, by simp; omega, by go_num, HD, HO4, HM4⟩
              case measure => simp [intOf]; omega
          · go_wp2_with fail
            refine (HIX.out _ (HMX.out xk)).mono ?_
            rintro e w1 ⟨rfl, rfl⟩
            clear HIX
            generalize nmIdx names nm = z at HD ⊢
            by_cases hz : z < 0
            · rw [if_pos hz] at HD
              have HE := Lib.hid (show linksT names t [] = none from HD.out.symm)
              have HMZ := Lib.hid (hM.out.trans (HMY.out z xk))
              clear HD HMX HMY
              go_wp2_with fail
              go_ret2
              exact ⟨_, by rw [HE.out]; rfl, by rw [HE.out]; exact OwnR.nil_ _ _, HMZ.out⟩
            · rw [if_neg hz] at HD
              have hmz := HMY.out z xk
              obtain ⟨v4, w4, g1, g2, g3⟩ := own_append1 elemLink encS_len encS_one (hO.out.kept0 hmz) (by have := hM.out.size; have := hmz.size; omega) (ty := 34) (z, xk) (by omega) (by omega)
              rw [show ((wr.alloc (.cells #[.int .u8 27, .int .i64 xc, .int .i64 xs, .string nm, .int .i64 xk, .int .i64 k0, .int .i64 k1, .int .i64 k2, .int .i64 pl] 102)).alloc (.cells #[.int .i64 z, .int .i64 xk] 41)).heap.size = wr.heap.size + 1 + 1 by simp] at g1
              have HO4 := Lib.hid g2
              have HM4 := Lib.hid (g3.intoNil (hO.out.kept0 hmz) (Nat.le_refl _) (hM.out.trans hmz))
              have G1 := Lib.hid g1
              clear g1 g2 g3 hmz HMX HMY
              go_wp2_with ((with_reducible refine xAppendAt G1.out rfl rfl ?_ ?_ ?_ ?_); exact rfl; exact rfl; exact rfl)
              go_roundw
              case rel => exact ⟨i + 1, acc ++ [(z, xk)], by omega, by simp; omega, by go_num, HD, HO4, HM4⟩
              case measure => simp [intOf]; omega
          · go_wp2_with fail
            refine (HIX.out _ (HMX.out xk)).mono ?_
            rintro e w1 ⟨rfl, rfl⟩
            clear HIX
            generalize nmIdx names nm = z at HD ⊢
            by_cases hz : z < 0
            · rw [if_pos hz] at HD
              have HE := Lib.hid (show linksT names t [] = none from HD.out.symm)
              have HMZ := Lib.hid (hM.out.trans (HMY.out z xk))
              clear HD HMX HMY
              go_wp2_with fail
              go_ret2
              exact ⟨_, by rw [HE.out]; rfl, by rw [HE.out]; exact OwnR.nil_ _ _, HMZ.out⟩
            · rw [if_neg hz] at HD
              have hmz := HMY.out z xk
              obtain ⟨v4, w4, g1, g2, g3⟩ := own_append1 elemLink encS_len encS_one (hO.out.kept0 hmz) (by have := hM.out.size; have := hmz.size; omega) (ty := 34) (z, xk) (by omega) (by omega)
              rw [show ((wr.alloc (.cells #[.int .u8 28, .int .i64 xc, .int .i64 xs, .string nm, .int .i64 xk, .int .i64 k0, .int .i64 k1, .int .i64 k2, .int .i64 pl] 102)).alloc (.cells #[.int .i64 z, .int .i64 xk] 41)).heap.size = wr.heap.size + 1 + 1 by simp] at g1
              have HO4 := Lib.hid g2
              have HM4 := Lib.hid (g3.intoNil (hO.out.kept0 hmz) (Nat.le_refl _) (hM.out.trans hmz))
              have G1 := Lib.hid g1
              clear g1 g2 g3 hmz HMX HMY
              go_wp2_with ((with_reducible refine xAppendAt G1.out rfl rfl ?_ ?_ ?_ ?_); exact rfl; exact rfl; exact rfl)
              go_roundw
              case rel => exact ⟨i + 1, acc ++ [(z, xk)], by omega, by simp; omega, by go_num, HD, HO4, HM4⟩
              case measure => simp [intOf]; omega
          · go_wp2_with fail
            refine (HIX.out _ (HMX.out xk)).mono ?_
            rintro e w1 ⟨rfl, rfl⟩
            clear HIX
            generalize nmIdx names nm = z at HD ⊢
            by_cases hz : z < 0
            · rw [if_pos hz] at HD
              have HE := Lib.hid (show linksT names t [] = none from HD.out.symm)
              have HMZ := Lib.hid (hM.out.trans (HMY.out z xk))
              clear HD HMX HMY
              go_wp2_with fail
              go_ret2
              exact ⟨_, by rw [HE.out]; rfl, by rw [HE.out]; exact OwnR.nil_ _ _, HMZ.out⟩
            · rw [if_neg hz] at HD
              have hmz := HMY.out z xk
              obtain ⟨v4, w4, g1, g2, g3⟩ := own_append1 elemLink encS_len encS_one (hO.out.kept0 hmz) (by have := hM.out.size; have := hmz.size; omega) (ty := 34) (z, xk) (by omega) (by omega)
              rw [show ((wr.alloc (.cells #[.int .u8 29, .int .i64 xc, .int .i64 xs, .string nm, .int .i64 xk, .int .i64 k0, .int .i64 k1, .int .i64 k2, .int .i64 pl] 102)).alloc (.cells #[.int .i64 z, .int .i64 xk] 41)).heap.size = wr.heap.size + 1 + 1 by simp] at g1
              have HO4 := Lib.hid g2
              have HM4 := Lib.hid (g3.intoNil (hO.out.kept0 hmz) (Nat.le_refl _) (hM.out.trans hmz))
              have G1 := Lib.hid g1
              clear g1 g2 g3 hmz HMX HMY
              go_wp2_with ((with_reducible refine xAppendAt G1.out rfl rfl ?_ ?_ ?_ ?_); exact rfl; exact rfl; exact rfl)
              go_roundw
              case rel => exact ⟨i + 1, acc ++ [(z, xk)], by omega, by simp; omega, by go_num, HD, HO4, HM4⟩
              case measure => simp [intOf]; omega
          · go_wp2_with fail
            refine (HIX.out _ (HMX.out xk)).mono ?_
            rintro e w1 ⟨rfl, rfl⟩
            clear HIX
            generalize nmIdx names nm = z at HD ⊢
            by_cases hz : z < 0
            · rw [if_pos hz] at HD
              have HE := Lib.hid (show linksT names t [] = none from HD.out.symm)
              have HMZ := Lib.hid (hM.out.trans (HMY.out z xk))
              clear HD HMX HMY
              go_wp2_with fail
              go_ret2
              exact ⟨_, by rw [HE.out]; rfl, by rw [HE.out]; exact OwnR.nil_ _ _, HMZ.out⟩
            · rw [if_neg hz] at HD
              have hmz := HMY.out z xk
              obtain ⟨v4, w4, g1, g2, g3⟩ := own_append1 elemLink encS_len encS_one (hO.out.kept0 hmz) (by have := hM.out.size; have := hmz.size; omega) (ty := 34) (z, xk) (by omega) (by omega)
              rw [show ((wr.alloc (.cells #[.int .u8 30, .int .i64 xc, .int .i64 xs, .string nm, .int .i64 xk, .int .i64 k0, .int .i64 k1, .int .i64 k2, .int .i64 pl] 102)).alloc (.cells #[.int .i64 z, .int .i64 xk] 41)).heap.size = wr.heap.size + 1 + 1 by simp] at g1
              have HO4 := Lib.hid g2
              have HM4 := Lib.hid (g3.intoNil (hO.out.kept0 hmz) (Nat.le_refl _) (hM.out.trans hmz))
              have G1 := Lib.hid g1
              clear g1 g2 g3 hmz HMX HMY
              go_wp2_with ((with_reducible refine xAppendAt G1.out rfl rfl ?_ ?_ ?_ ?_); exact rfl; exact rfl; exact rfl)
              go_roundw
              case rel => exact ⟨i + 1, acc ++ [(z, xk)], by omega, by simp; omega, by go_num, HD, HO4, HM4⟩
              case measure => simp [intOf]; omega
        · have HB := Lib.hid (show backOf ⟨op, xc, xs, nm, xk, k0, k1, k2, pl⟩ = none from by unfold backOf; rw [if_neg hk0, if_neg hk1])
          rw [HB.out] at HD
          dsimp only at HD
          have hmz := HMY.out 0 0
          have HOZ := Lib.hid (hO.out.kept0 hmz)
          have HMZ := Lib.hid (hM.out.trans hmz)
          have q4 : (op == 4) = false := beq_eq_false_iff_ne.2 (by omega)
          have q24 : (op == 24) = false := beq_eq_false_iff_ne.2 (by omega)
          have q25 : (op == 25) = false := beq_eq_false_iff_ne.2 (by omega)
          have q26 : (op == 26) = false := beq_eq_false_iff_ne.2 (by omega)
          have q27 : (op == 27) = false := beq_eq_false_iff_ne.2 (by omega)
          have q28 : (op == 28) = false := beq_eq_false_iff_ne.2 (by omega)
          have q29 : (op == 29) = false := beq_eq_false_iff_ne.2 (by omega)
          have q30 : (op == 30) = false := beq_eq_false_iff_ne.2 (by omega)
          clear hk0 hk1 hmz HMX HMY HIX
          go_wp2_with fail
          go_roundw
          case rel => exact ⟨i + 1, acc, by omega, by omega, by go_num, HD, HOZ, HMZ⟩
          case measure => simp [intOf]; omega
    · have HE := Lib.hid (show linksT names t [] = some acc by rw [← hv.out, List.drop_of_length_le (by omega)]; rfl)
      go_wp2_with fail
      go_ret2
      exact ⟨_, by rw [HE.out]; rfl, by rw [HE.out]; exact hO.out, hM.out⟩
end Go.Proofs.Ytefaihockgebeaa
namespace Go.Proofs.Ytefaihockgebeaa
open Go.RowKit Go.ChangeMaps Go.Deep
set_option linter.unusedSimpArgs false
set_option linter.unusedVariables false
set_option maxRecDepth 20000

theorem idxFrom_drop {names : List ByteArray} {x : ByteArray} {m : Nat} (hm : m < names.length) : Lib.idxFromS (names.drop m) x m = if names[m] = x then (m : Int) else Lib.idxFromS (names.drop (m + 1)) x (m + 1) := by
  rw [← List.getElem_cons_drop hm]
  rfl
set_option maxHeartbeats 16000000 in
theorem rLinks21_any (v u : Value) (t : List Nd) (names : List ByteArray) (w : World) (h : NodesAt w v t) (hu : StrsAt w u names) (hl : t.length ≤ 200) (hn : names.length ≤ 70) :
    Calls Try.prog 25 #[v, u] w fun e w' => ∃ v', e = .returned (.tuple #[v', .int .i64 (errT (linksT names t []))]) ∧ OwnL w' w.heap.size v' ((linksT names t []).getD []) ∧ Mod [] w w' := by
  have H := Lib.hid h
  have HU := Lib.hid hu
  obtain ⟨a, c, rfl⟩ := h.form
  obtain ⟨na, nc, rfl⟩ := hu.form
  clear h hu
  go_enter Try.func25, Try.ntmps25
  go_wp2_with fail
  go_loopw [6, 7] (fun s6 s7 wr => ∃ (i : Nat) (acc : List Sp), i ≤ t.length ∧ acc.length ≤ i ∧ s7 = .int .i64 i ∧ Hid (linksT names (t.drop i) acc = linksT names t []) ∧ Hid (OwnL wr w.heap.size s6 acc) ∧ Hid (Mod [] w wr)) (fun _ s7 _ => t.length - (intOf s7).toNat)
  case atStart => exact ⟨0, [], by omega, by simp, rfl, Lib.hid rfl, Lib.hid (OwnR.nil_ _ _), Lib.hid (Mod.refl _ _)⟩
  case round =>
    obtain ⟨i, acc, hi, hai, rfl, hv, hO, hM⟩ := hrel
    rename World => wz
    by_cases hlt : i < t.length
    · have HGT := Lib.hid (fun W (z : Mod [] w W) => (H.out.kept0 z).get9 hlt)
      obtain ⟨b, o, rfl, hc, c0, c1, c2, c3, c4, c5, c6, c7, c8⟩ := HGT.out _ hM.out
      have hd := hv.out
      rw [← List.getElem_cons_drop hlt, linksT] at hd
      have HD := Lib.hid hd
      clear hd c1 c2 c3 c5 c6 c7 c8
      generalize t[i] = x at c0 c4 HD HGT
      obtain ⟨op, xc, xs, nm, xk, k0, k1, k2, pl⟩ := x
      dsimp only at c0 c4 HGT
      have HNM := Lib.hid (fun W (z : Mod [] w W) => show W.cell? ⟨b, o + i * 9 + 3, none⟩ = some (.string nm) from by
        obtain ⟨b', o', e, _, _, _, _, q, _⟩ := HGT.out W z
        simp only [Option.some.injEq, Addr.mk.injEq, and_true] at e
        obtain ⟨rfl, rfl⟩ := e
        exact q)
      have HUG := Lib.hid (fun W (z : Mod [] w W) k (hk : k < names.length) => (HU.out.kept0 z).getS hk)
      clear HGT
      by_cases hk0 : op = 4 ∨ op = 24 ∨ op = 25
      · have HB := Lib.hid (show backOf ⟨op, xc, xs, nm, xk, k0, k1, k2, pl⟩ = some 0 from if_pos hk0)
        rw [HB.out] at HD
        dsimp only at HD
        rcases hk0 with rfl | rfl | rfl
        · go_wp2_with fail
          go_loopw [9, 10] (fun s9 s10 wr => ∃ m : Nat, m ≤ names.length ∧ s10 = .int .i64 ((m : Int) - 1) ∧ s9 = .int .i64 (Lib.idxFromS (names.drop m) nm m) ∧ Hid (Mod [] wz wr)) (fun _ s10 _ => ((intOf s10) + 1).toNat)
          case atStart => exact ⟨names.length, by omega, rfl, by rw [List.drop_of_length_le (Nat.le_refl _)]; rfl, Lib.hid (Mod.refl _ _)⟩
          case round =>
            obtain ⟨m, hm, rfl, rfl, hM2⟩ := hrel
            by_cases hlt2 : 0 < m
            · obtain ⟨m, rfl⟩ : ∃ j, m = j + 1 := ⟨m - 1, by omega⟩
              rw [show (((m + 1 : Nat) : Int) - 1) = m by omega]
              obtain ⟨nb, no, rfl, hnc, n0⟩ := HUG.out _ (hM.out.trans hM2.out) m (by omega)
              have hn3 := HNM.out _ (hM.out.trans hM2.out)
              have HST := Lib.hid (idxFrom_drop (x := nm) (show m < names.length by omega))
              have HMD := Lib.hid hM2.out.drew
              generalize Lib.idxFromS (names.drop (m + 1)) nm (m + 1) = cur at HST ⊢
              generalize names[m] = y at n0 HST
              by_cases hy : y = nm
              · rw [if_pos hy] at HST
                have hq1 : (y.toList == nm.toList) = true := by rw [hy]; exact beq_self_eq_true _
                clear hy
                go_wp2_with fail
                refine wp_plan [] [0, 1, 4, 5, 2, 6, 3, 7, 8, 9] (by kernel_rfl) (by kernel_rfl) ?_
                simp only [wpSegs, opsOf, List.map_cons, List.map_nil, opN, List.getD_cons_zero, List.getD_cons_succ]
                go_wp2_with fail
                refine ⟨by first | trivial | rfl, ?_⟩
                go_wp2_with fail
                go_roundw
                case rel => exact ⟨m, by omega, rfl, by rw [HST.out], HMD⟩
                case measure => simp [intOf]; try omega
              · rw [if_neg hy] at HST
                have hq1 : (y.toList == nm.toList) = false := beq_eq_false_iff_ne.2 fun h => hy (by
                  rw [ByteArray.toList_eq, ByteArray.toList_eq] at h
                  exact Go.WideShapes.bytes_inj h)
                clear hy
                go_wp2_with fail
                refine wp_plan [] [0, 1, 4, 5, 2, 6, 3, 7, 8, 9] (by kernel_rfl) (by kernel_rfl) ?_
                simp only [wpSegs, opsOf, List.map_cons, List.map_nil, opN, List.getD_cons_zero, List.getD_cons_succ]
                go_wp2_with fail
                refine ⟨by first | trivial | rfl, ?_⟩
                go_wp2_with fail
                go_roundw
                case rel => exact ⟨m, by omega, rfl, by rw [HST.out], HMD⟩
                case measure => simp [intOf]; try omega
            · obtain rfl : m = 0 := by omega
              rw [show (((0 : Nat) : Int) - 1) = -1 by omega, List.drop_zero, show Lib.idxFromS names nm 0 = nmIdx names nm from rfl]
              generalize nmIdx names nm = z at HD ⊢
              by_cases hz : z < 0
              · rw [if_pos hz] at HD
                have HE := Lib.hid (show linksT names t [] = none from HD.out.symm)
                have HMZ := Lib.hid (hM.out.trans hM2.out)
                clear HD
                go_wp2_with fail
                go_ret2
                exact ⟨_, by rw [HE.out]; rfl, by rw [HE.out]; exact OwnR.nil_ _ _, HMZ.out⟩
              · rw [if_neg hz] at HD
                obtain ⟨v4, w4, g1, g2, g3⟩ := own_append1 elemLink encS_len encS_one (hO.out.kept0 hM2.out) (by have := hM.out.size; have := hM2.out.size; omega) (ty := 34) (z, 0) (by omega) (by omega)
                have HO4 := Lib.hid g2
                have HM4 := Lib.hid (g3.intoNil (hO.out.kept0 hM2.out) (Nat.le_refl _) (hM.out.trans hM2.out))
                have G1 := Lib.hid g1
                clear g1 g2 g3
                go_wp2_with ((with_reducible refine xAppendAt G1.out rfl rfl ?_ ?_ ?_ ?_); exact rfl; exact rfl; exact rfl)
                go_roundw
                case rel => exact ⟨i + 1, acc ++ [(z, 0)], by omega, by simp; omega, by go_num, HD, HO4, HM4⟩
                case measure => simp [intOf]; omega
        · go_wp2_with fail
          go_loopw [9, 10] (fun s9 s10 wr => ∃ m : Nat, m ≤ names.length ∧ s10 = .int .i64 ((m : Int) - 1) ∧ s9 = .int .i64 (Lib.idxFromS (names.drop m) nm m) ∧ Hid (Mod [] wz wr)) (fun _ s10 _ => ((intOf s10) + 1).toNat)
          case atStart => exact ⟨names.length, by omega, rfl, by rw [List.drop_of_length_le (Nat.le_refl _)]; rfl, Lib.hid (Mod.refl _ _)⟩
          case round =>
            obtain ⟨m, hm, rfl, rfl, hM2⟩ := hrel
            by_cases hlt2 : 0 < m
            · obtain ⟨m, rfl⟩ : ∃ j, m = j + 1 := ⟨m - 1, by omega⟩
              rw [show (((m + 1 : Nat) : Int) - 1) = m by omega]
              obtain ⟨nb, no, rfl, hnc, n0⟩ := HUG.out _ (hM.out.trans hM2.out) m (by omega)
              have hn3 := HNM.out _ (hM.out.trans hM2.out)
              have HST := Lib.hid (idxFrom_drop (x := nm) (show m < names.length by omega))
              have HMD := Lib.hid hM2.out.drew
              generalize Lib.idxFromS (names.drop (m + 1)) nm (m + 1) = cur at HST ⊢
              generalize names[m] = y at n0 HST
              by_cases hy : y = nm
              · rw [if_pos hy] at HST
                have hq1 : (y.toList == nm.toList) = true := by rw [hy]; exact beq_self_eq_true _
                clear hy
                go_wp2_with fail
                refine wp_plan [] [0, 1, 4, 5, 2, 6, 3, 7, 8, 9] (by kernel_rfl) (by kernel_rfl) ?_
                simp only [wpSegs, opsOf, List.map_cons, List.map_nil, opN, List.getD_cons_zero, List.getD_cons_succ]
                go_wp2_with fail
                refine ⟨by first | trivial | rfl, ?_⟩
                go_wp2_with fail
                go_roundw
                case rel => exact ⟨m, by omega, rfl, by rw [HST.out], HMD⟩
                case measure => simp [intOf]; try omega
              · rw [if_neg hy] at HST
                have hq1 : (y.toList == nm.toList) = false := beq_eq_false_iff_ne.2 fun h => hy (by
                  rw [ByteArray.toList_eq, ByteArray.toList_eq] at h
                  exact Go.WideShapes.bytes_inj h)
                clear hy
                go_wp2_with fail
                refine wp_plan [] [0, 1, 4, 5, 2, 6, 3, 7, 8, 9] (by kernel_rfl) (by kernel_rfl) ?_
                simp only [wpSegs, opsOf, List.map_cons, List.map_nil, opN, List.getD_cons_zero, List.getD_cons_succ]
                go_wp2_with fail
                refine ⟨by first | trivial | rfl, ?_⟩
                go_wp2_with fail
                go_roundw
                case rel => exact ⟨m, by omega, rfl, by rw [HST.out], HMD⟩
                case measure => simp [intOf]; try omega
            · obtain rfl : m = 0 := by omega
              rw [show (((0 : Nat) : Int) - 1) = -1 by omega, List.drop_zero, show Lib.idxFromS names nm 0 = nmIdx names nm from rfl]
              generalize nmIdx names nm = z at HD ⊢
              by_cases hz : z < 0
              · rw [if_pos hz] at HD
                have HE := Lib.hid (show linksT names t [] = none from HD.out.symm)
                have HMZ := Lib.hid (hM.out.trans hM2.out)
                clear HD
                go_wp2_with fail
                go_ret2
                exact ⟨_, by rw [HE.out]; rfl, by rw [HE.out]; exact OwnR.nil_ _ _, HMZ.out⟩
              · rw [if_neg hz] at HD
                obtain ⟨v4, w4, g1, g2, g3⟩ := own_append1 elemLink encS_len encS_one (hO.out.kept0 hM2.out) (by have := hM.out.size; have := hM2.out.size; omega) (ty := 34) (z, 0) (by omega) (by omega)
                have HO4 := Lib.hid g2
                have HM4 := Lib.hid (g3.intoNil (hO.out.kept0 hM2.out) (Nat.le_refl _) (hM.out.trans hM2.out))
                have G1 := Lib.hid g1
                clear g1 g2 g3
                go_wp2_with ((with_reducible refine xAppendAt G1.out rfl rfl ?_ ?_ ?_ ?_); exact rfl; exact rfl; exact rfl)
                go_roundw
                case rel => exact ⟨i + 1, acc ++ [(z, 0)], by omega, by simp; omega, by go_num, HD, HO4, HM4⟩
                case measure => simp [intOf]; omega
        · go_wp2_with fail
          go_loopw [9, 10] (fun s9 s10 wr => ∃ m : Nat, m ≤ names.length ∧ s10 = .int .i64 ((m : Int) - 1) ∧ s9 = .int .i64 (Lib.idxFromS (names.drop m) nm m) ∧ Hid (Mod [] wz wr)) (fun _ s10 _ => ((intOf s10) + 1).toNat)
          case atStart => exact ⟨names.length, by omega, rfl, by rw [List.drop_of_length_le (Nat.le_refl _)]; rfl, Lib.hid (Mod.refl _ _)⟩
          case round =>
            obtain ⟨m, hm, rfl, rfl, hM2⟩ := hrel
            by_cases hlt2 : 0 < m
            · obtain ⟨m, rfl⟩ : ∃ j, m = j + 1 := ⟨m - 1, by omega⟩
              rw [show (((m + 1 : Nat) : Int) - 1) = m by omega]
              obtain ⟨nb, no, rfl, hnc, n0⟩ := HUG.out _ (hM.out.trans hM2.out) m (by omega)
              have hn3 := HNM.out _ (hM.out.trans hM2.out)
              have HST := Lib.hid (idxFrom_drop (x := nm) (show m < names.length by omega))
              have HMD := Lib.hid hM2.out.drew
              generalize Lib.idxFromS (names.drop (m + 1)) nm (m + 1) = cur at HST ⊢
              generalize names[m] = y at n0 HST
              by_cases hy : y = nm
              · rw [if_pos hy] at HST
                have hq1 : (y.toList == nm.toList) = true := by rw [hy]; exact beq_self_eq_true _
                clear hy
                go_wp2_with fail
                refine wp_plan [] [0, 1, 4, 5, 2, 6, 3, 7, 8, 9] (by kernel_rfl) (by kernel_rfl) ?_
                simp only [wpSegs, opsOf, List.map_cons, List.map_nil, opN, List.getD_cons_zero, List.getD_cons_succ]
                go_wp2_with fail
                refine ⟨by first | trivial | rfl, ?_⟩
                go_wp2_with fail
                go_roundw
                case rel => exact ⟨m, by omega, rfl, by rw [HST.out], HMD⟩
                case measure => simp [intOf]; try omega
              · rw [if_neg hy] at HST
                have hq1 : (y.toList == nm.toList) = false := beq_eq_false_iff_ne.2 fun h => hy (by
                  rw [ByteArray.toList_eq, ByteArray.toList_eq] at h
                  exact Go.WideShapes.bytes_inj h)
                clear hy
                go_wp2_with fail
                refine wp_plan [] [0, 1, 4, 5, 2, 6, 3, 7, 8, 9] (by kernel_rfl) (by kernel_rfl) ?_
                simp only [wpSegs, opsOf, List.map_cons, List.map_nil, opN, List.getD_cons_zero, List.getD_cons_succ]
                go_wp2_with fail
                refine ⟨by first | trivial | rfl, ?_⟩
                go_wp2_with fail
                go_roundw
                case rel => exact ⟨m, by omega, rfl, by rw [HST.out], HMD⟩
                case measure => simp [intOf]; try omega
            · obtain rfl : m = 0 := by omega
              rw [show (((0 : Nat) : Int) - 1) = -1 by omega, List.drop_zero, show Lib.idxFromS names nm 0 = nmIdx names nm from rfl]
              generalize nmIdx names nm = z at HD ⊢
              by_cases hz : z < 0
              · rw [if_pos hz] at HD
                have HE := Lib.hid (show linksT names t [] = none from HD.out.symm)
                have HMZ := Lib.hid (hM.out.trans hM2.out)
                clear HD
                go_wp2_with fail
                go_ret2
                exact ⟨_, by rw [HE.out]; rfl, by rw [HE.out]; exact OwnR.nil_ _ _, HMZ.out⟩
              · rw [if_neg hz] at HD
                obtain ⟨v4, w4, g1, g2, g3⟩ := own_append1 elemLink encS_len encS_one (hO.out.kept0 hM2.out) (by have := hM.out.size; have := hM2.out.size; omega) (ty := 34) (z, 0) (by omega) (by omega)
                have HO4 := Lib.hid g2
                have HM4 := Lib.hid (g3.intoNil (hO.out.kept0 hM2.out) (Nat.le_refl _) (hM.out.trans hM2.out))
                have G1 := Lib.hid g1
                clear g1 g2 g3
                go_wp2_with ((with_reducible refine xAppendAt G1.out rfl rfl ?_ ?_ ?_ ?_); exact rfl; exact rfl; exact rfl)
                go_roundw
                case rel => exact ⟨i + 1, acc ++ [(z, 0)], by omega, by simp; omega, by go_num, HD, HO4, HM4⟩
                case measure => simp [intOf]; omega
      · by_cases hk1 : op = 26 ∨ op = 27 ∨ op = 28 ∨ op = 29 ∨ op = 30
        · have HB := Lib.hid (show backOf ⟨op, xc, xs, nm, xk, k0, k1, k2, pl⟩ = some xk from by unfold backOf; rw [if_neg hk0, if_pos hk1])
          rw [HB.out] at HD
          dsimp only at HD
          clear hk0
          rcases hk1 with rfl | rfl | rfl | rfl | rfl
          · go_wp2_with fail
            go_loopw [9, 10] (fun s9 s10 wr => ∃ m : Nat, m ≤ names.length ∧ s10 = .int .i64 ((m : Int) - 1) ∧ s9 = .int .i64 (Lib.idxFromS (names.drop m) nm m) ∧ Hid (Mod [] wz wr)) (fun _ s10 _ => ((intOf s10) + 1).toNat)
            case atStart => exact ⟨names.length, by omega, rfl, by rw [List.drop_of_length_le (Nat.le_refl _)]; rfl, Lib.hid (Mod.refl _ _)⟩
            case round =>
              obtain ⟨m, hm, rfl, rfl, hM2⟩ := hrel
              by_cases hlt2 : 0 < m
              · obtain ⟨m, rfl⟩ : ∃ j, m = j + 1 := ⟨m - 1, by omega⟩
                rw [show (((m + 1 : Nat) : Int) - 1) = m by omega]
                obtain ⟨nb, no, rfl, hnc, n0⟩ := HUG.out _ (hM.out.trans hM2.out) m (by omega)
                have hn3 := HNM.out _ (hM.out.trans hM2.out)
                have HST := Lib.hid (idxFrom_drop (x := nm) (show m < names.length by omega))
                have HMD := Lib.hid hM2.out.drew
                generalize Lib.idxFromS (names.drop (m + 1)) nm (m + 1) = cur at HST ⊢
                generalize names[m] = y at n0 HST
                by_cases hy : y = nm
                · rw [if_pos hy] at HST
                  have hq1 : (y.toList == nm.toList) = true := by rw [hy]; exact beq_self_eq_true _
                  clear hy
                  go_wp2_with fail
                  refine wp_plan [] [0, 1, 4, 5, 2, 6, 3, 7, 8, 9] (by kernel_rfl) (by kernel_rfl) ?_
                  simp only [wpSegs, opsOf, List.map_cons, List.map_nil, opN, List.getD_cons_zero, List.getD_cons_succ]
                  go_wp2_with fail
                  refine ⟨by first | trivial | rfl, ?_⟩
                  go_wp2_with fail
                  go_roundw
                  case rel => exact ⟨m, by omega, rfl, by rw [HST.out], HMD⟩
                  case measure => simp [intOf]; try omega
                · rw [if_neg hy] at HST
                  have hq1 : (y.toList == nm.toList) = false := beq_eq_false_iff_ne.2 fun h => hy (by
                    rw [ByteArray.toList_eq, ByteArray.toList_eq] at h
                    exact Go.WideShapes.bytes_inj h)
                  clear hy
                  go_wp2_with fail
                  refine wp_plan [] [0, 1, 4, 5, 2, 6, 3, 7, 8, 9] (by kernel_rfl) (by kernel_rfl) ?_
                  simp only [wpSegs, opsOf, List.map_cons, List.map_nil, opN, List.getD_cons_zero, List.getD_cons_succ]
                  go_wp2_with fail
                  refine ⟨by first | trivial | rfl, ?_⟩
                  go_wp2_with fail
                  go_roundw
                  case rel => exact ⟨m, by omega, rfl, by rw [HST.out], HMD⟩
                  case measure => simp [intOf]; try omega
              · obtain rfl : m = 0 := by omega
                rw [show (((0 : Nat) : Int) - 1) = -1 by omega, List.drop_zero, show Lib.idxFromS names nm 0 = nmIdx names nm from rfl]
                generalize nmIdx names nm = z at HD ⊢
                by_cases hz : z < 0
                · rw [if_pos hz] at HD
                  have HE := Lib.hid (show linksT names t [] = none from HD.out.symm)
                  have HMZ := Lib.hid (hM.out.trans hM2.out)
                  clear HD
                  go_wp2_with fail
                  go_ret2
                  exact ⟨_, by rw [HE.out]; rfl, by rw [HE.out]; exact OwnR.nil_ _ _, HMZ.out⟩
                · rw [if_neg hz] at HD
                  obtain ⟨v4, w4, g1, g2, g3⟩ := own_append1 elemLink encS_len encS_one (hO.out.kept0 hM2.out) (by have := hM.out.size; have := hM2.out.size; omega) (ty := 34) (z, xk) (by omega) (by omega)
                  have HO4 := Lib.hid g2
                  have HM4 := Lib.hid (g3.intoNil (hO.out.kept0 hM2.out) (Nat.le_refl _) (hM.out.trans hM2.out))
                  have G1 := Lib.hid g1
                  clear g1 g2 g3
                  go_wp2_with ((with_reducible refine xAppendAt G1.out rfl rfl ?_ ?_ ?_ ?_); exact rfl; exact rfl; exact rfl)
                  go_roundw
                  case rel => exact ⟨i + 1, acc ++ [(z, xk)], by omega, by simp; omega, by go_num, HD, HO4, HM4⟩
                  case measure => simp [intOf]; omega
          · go_wp2_with fail
            go_loopw [9, 10] (fun s9 s10 wr => ∃ m : Nat, m ≤ names.length ∧ s10 = .int .i64 ((m : Int) - 1) ∧ s9 = .int .i64 (Lib.idxFromS (names.drop m) nm m) ∧ Hid (Mod [] wz wr)) (fun _ s10 _ => ((intOf s10) + 1).toNat)
            case atStart => exact ⟨names.length, by omega, rfl, by rw [List.drop_of_length_le (Nat.le_refl _)]; rfl, Lib.hid (Mod.refl _ _)⟩
            case round =>
              obtain ⟨m, hm, rfl, rfl, hM2⟩ := hrel
              by_cases hlt2 : 0 < m
              · obtain ⟨m, rfl⟩ : ∃ j, m = j + 1 := ⟨m - 1, by omega⟩
                rw [show (((m + 1 : Nat) : Int) - 1) = m by omega]
                obtain ⟨nb, no, rfl, hnc, n0⟩ := HUG.out _ (hM.out.trans hM2.out) m (by omega)
                have hn3 := HNM.out _ (hM.out.trans hM2.out)
                have HST := Lib.hid (idxFrom_drop (x := nm) (show m < names.length by omega))
                have HMD := Lib.hid hM2.out.drew
                generalize Lib.idxFromS (names.drop (m + 1)) nm (m + 1) = cur at HST ⊢
                generalize names[m] = y at n0 HST
                by_cases hy : y = nm
                · rw [if_pos hy] at HST
                  have hq1 : (y.toList == nm.toList) = true := by rw [hy]; exact beq_self_eq_true _
                  clear hy
                  go_wp2_with fail
                  refine wp_plan [] [0, 1, 4, 5, 2, 6, 3, 7, 8, 9] (by kernel_rfl) (by kernel_rfl) ?_
                  simp only [wpSegs, opsOf, List.map_cons, List.map_nil, opN, List.getD_cons_zero, List.getD_cons_succ]
                  go_wp2_with fail
                  refine ⟨by first | trivial | rfl, ?_⟩
                  go_wp2_with fail
                  go_roundw
                  case rel => exact ⟨m, by omega, rfl, by rw [HST.out], HMD⟩
                  case measure => simp [intOf]; try omega
                · rw [if_neg hy] at HST
                  have hq1 : (y.toList == nm.toList) = false := beq_eq_false_iff_ne.2 fun h => hy (by
                    rw [ByteArray.toList_eq, ByteArray.toList_eq] at h
                    exact Go.WideShapes.bytes_inj h)
                  clear hy
                  go_wp2_with fail
                  refine wp_plan [] [0, 1, 4, 5, 2, 6, 3, 7, 8, 9] (by kernel_rfl) (by kernel_rfl) ?_
                  simp only [wpSegs, opsOf, List.map_cons, List.map_nil, opN, List.getD_cons_zero, List.getD_cons_succ]
                  go_wp2_with fail
                  refine ⟨by first | trivial | rfl, ?_⟩
                  go_wp2_with fail
                  go_roundw
                  case rel => exact ⟨m, by omega, rfl, by rw [HST.out], HMD⟩
                  case measure => simp [intOf]; try omega
              · obtain rfl : m = 0 := by omega
                rw [show (((0 : Nat) : Int) - 1) = -1 by omega, List.drop_zero, show Lib.idxFromS names nm 0 = nmIdx names nm from rfl]
                generalize nmIdx names nm = z at HD ⊢
                by_cases hz : z < 0
                · rw [if_pos hz] at HD
                  have HE := Lib.hid (show linksT names t [] = none from HD.out.symm)
                  have HMZ := Lib.hid (hM.out.trans hM2.out)
                  clear HD
                  go_wp2_with fail
                  go_ret2
                  exact ⟨_, by rw [HE.out]; rfl, by rw [HE.out]; exact OwnR.nil_ _ _, HMZ.out⟩
                · rw [if_neg hz] at HD
                  obtain ⟨v4, w4, g1, g2, g3⟩ := own_append1 elemLink encS_len encS_one (hO.out.kept0 hM2.out) (by have := hM.out.size; have := hM2.out.size; omega) (ty := 34) (z, xk) (by omega) (by omega)
                  have HO4 := Lib.hid g2
                  have HM4 := Lib.hid (g3.intoNil (hO.out.kept0 hM2.out) (Nat.le_refl _) (hM.out.trans hM2.out))
                  have G1 := Lib.hid g1
                  clear g1 g2 g3
                  go_wp2_with ((with_reducible refine xAppendAt G1.out rfl rfl ?_ ?_ ?_ ?_); exact rfl; exact rfl; exact rfl)
                  go_roundw
                  case rel => exact ⟨i + 1, acc ++ [(z, xk)], by omega, by simp; omega, by go_num, HD, HO4, HM4⟩
                  case measure => simp [intOf]; omega
          · go_wp2_with fail
            go_loopw [9, 10] (fun s9 s10 wr => ∃ m : Nat, m ≤ names.length ∧ s10 = .int .i64 ((m : Int) - 1) ∧ s9 = .int .i64 (Lib.idxFromS (names.drop m) nm m) ∧ Hid (Mod [] wz wr)) (fun _ s10 _ => ((intOf s10) + 1).toNat)
            case atStart => exact ⟨names.length, by omega, rfl, by rw [List.drop_of_length_le (Nat.le_refl _)]; rfl, Lib.hid (Mod.refl _ _)⟩
            case round =>
              obtain ⟨m, hm, rfl, rfl, hM2⟩ := hrel
              by_cases hlt2 : 0 < m
              · obtain ⟨m, rfl⟩ : ∃ j, m = j + 1 := ⟨m - 1, by omega⟩
                rw [show (((m + 1 : Nat) : Int) - 1) = m by omega]
                obtain ⟨nb, no, rfl, hnc, n0⟩ := HUG.out _ (hM.out.trans hM2.out) m (by omega)
                have hn3 := HNM.out _ (hM.out.trans hM2.out)
                have HST := Lib.hid (idxFrom_drop (x := nm) (show m < names.length by omega))
                have HMD := Lib.hid hM2.out.drew
                generalize Lib.idxFromS (names.drop (m + 1)) nm (m + 1) = cur at HST ⊢
                generalize names[m] = y at n0 HST
                by_cases hy : y = nm
                · rw [if_pos hy] at HST
                  have hq1 : (y.toList == nm.toList) = true := by rw [hy]; exact beq_self_eq_true _
                  clear hy
                  go_wp2_with fail
                  refine wp_plan [] [0, 1, 4, 5, 2, 6, 3, 7, 8, 9] (by kernel_rfl) (by kernel_rfl) ?_
                  simp only [wpSegs, opsOf, List.map_cons, List.map_nil, opN, List.getD_cons_zero, List.getD_cons_succ]
                  go_wp2_with fail
                  refine ⟨by first | trivial | rfl, ?_⟩
                  go_wp2_with fail
                  go_roundw
                  case rel => exact ⟨m, by omega, rfl, by rw [HST.out], HMD⟩
                  case measure => simp [intOf]; try omega
                · rw [if_neg hy] at HST
                  have hq1 : (y.toList == nm.toList) = false := beq_eq_false_iff_ne.2 fun h => hy (by
                    rw [ByteArray.toList_eq, ByteArray.toList_eq] at h
                    exact Go.WideShapes.bytes_inj h)
                  clear hy
                  go_wp2_with fail
                  refine wp_plan [] [0, 1, 4, 5, 2, 6, 3, 7, 8, 9] (by kernel_rfl) (by kernel_rfl) ?_
                  simp only [wpSegs, opsOf, List.map_cons, List.map_nil, opN, List.getD_cons_zero, List.getD_cons_succ]
                  go_wp2_with fail
                  refine ⟨by first | trivial | rfl, ?_⟩
                  go_wp2_with fail
                  go_roundw
                  case rel => exact ⟨m, by omega, rfl, by rw [HST.out], HMD⟩
                  case measure => simp [intOf]; try omega
              · obtain rfl : m = 0 := by omega
                rw [show (((0 : Nat) : Int) - 1) = -1 by omega, List.drop_zero, show Lib.idxFromS names nm 0 = nmIdx names nm from rfl]
                generalize nmIdx names nm = z at HD ⊢
                by_cases hz : z < 0
                · rw [if_pos hz] at HD
                  have HE := Lib.hid (show linksT names t [] = none from HD.out.symm)
                  have HMZ := Lib.hid (hM.out.trans hM2.out)
                  clear HD
                  go_wp2_with fail
                  go_ret2
                  exact ⟨_, by rw [HE.out]; rfl, by rw [HE.out]; exact OwnR.nil_ _ _, HMZ.out⟩
                · rw [if_neg hz] at HD
                  obtain ⟨v4, w4, g1, g2, g3⟩ := own_append1 elemLink encS_len encS_one (hO.out.kept0 hM2.out) (by have := hM.out.size; have := hM2.out.size; omega) (ty := 34) (z, xk) (by omega) (by omega)
                  have HO4 := Lib.hid g2
                  have HM4 := Lib.hid (g3.intoNil (hO.out.kept0 hM2.out) (Nat.le_refl _) (hM.out.trans hM2.out))
                  have G1 := Lib.hid g1
                  clear g1 g2 g3
                  go_wp2_with ((with_reducible refine xAppendAt G1.out rfl rfl ?_ ?_ ?_ ?_); exact rfl; exact rfl; exact rfl)
                  go_roundw
                  case rel => exact ⟨i + 1, acc ++ [(z, xk)], by omega, by simp; omega, by go_num, HD, HO4, HM4⟩
                  case measure => simp [intOf]; omega
          · go_wp2_with fail
            go_loopw [9, 10] (fun s9 s10 wr => ∃ m : Nat, m ≤ names.length ∧ s10 = .int .i64 ((m : Int) - 1) ∧ s9 = .int .i64 (Lib.idxFromS (names.drop m) nm m) ∧ Hid (Mod [] wz wr)) (fun _ s10 _ => ((intOf s10) + 1).toNat)
            case atStart => exact ⟨names.length, by omega, rfl, by rw [List.drop_of_length_le (Nat.le_refl _)]; rfl, Lib.hid (Mod.refl _ _)⟩
            case round =>
              obtain ⟨m, hm, rfl, rfl, hM2⟩ := hrel
              by_cases hlt2 : 0 < m
              · obtain ⟨m, rfl⟩ : ∃ j, m = j + 1 := ⟨m - 1, by omega⟩
                rw [show (((m + 1 : Nat) : Int) - 1) = m by omega]
                obtain ⟨nb, no, rfl, hnc, n0⟩ := HUG.out _ (hM.out.trans hM2.out) m (by omega)
                have hn3 := HNM.out _ (hM.out.trans hM2.out)
                have HST := Lib.hid (idxFrom_drop (x := nm) (show m < names.length by omega))
                have HMD := Lib.hid hM2.out.drew
                generalize Lib.idxFromS (names.drop (m + 1)) nm (m + 1) = cur at HST ⊢
                generalize names[m] = y at n0 HST
                by_cases hy : y = nm
                · rw [if_pos hy] at HST
                  have hq1 : (y.toList == nm.toList) = true := by rw [hy]; exact beq_self_eq_true _
                  clear hy
                  go_wp2_with fail
                  refine wp_plan [] [0, 1, 4, 5, 2, 6, 3, 7, 8, 9] (by kernel_rfl) (by kernel_rfl) ?_
                  simp only [wpSegs, opsOf, List.map_cons, List.map_nil, opN, List.getD_cons_zero, List.getD_cons_succ]
                  go_wp2_with fail
                  refine ⟨by first | trivial | rfl, ?_⟩
                  go_wp2_with fail
                  go_roundw
                  case rel => exact ⟨m, by omega, rfl, by rw [HST.out], HMD⟩
                  case measure => simp [intOf]; try omega
                · rw [if_neg hy] at HST
                  have hq1 : (y.toList == nm.toList) = false := beq_eq_false_iff_ne.2 fun h => hy (by
                    rw [ByteArray.toList_eq, ByteArray.toList_eq] at h
                    exact Go.WideShapes.bytes_inj h)
                  clear hy
                  go_wp2_with fail
                  refine wp_plan [] [0, 1, 4, 5, 2, 6, 3, 7, 8, 9] (by kernel_rfl) (by kernel_rfl) ?_
                  simp only [wpSegs, opsOf, List.map_cons, List.map_nil, opN, List.getD_cons_zero, List.getD_cons_succ]
                  go_wp2_with fail
                  refine ⟨by first | trivial | rfl, ?_⟩
                  go_wp2_with fail
                  go_roundw
                  case rel => exact ⟨m, by omega, rfl, by rw [HST.out], HMD⟩
                  case measure => simp [intOf]; try omega
              · obtain rfl : m = 0 := by omega
                rw [show (((0 : Nat) : Int) - 1) = -1 by omega, List.drop_zero, show Lib.idxFromS names nm 0 = nmIdx names nm from rfl]
                generalize nmIdx names nm = z at HD ⊢
                by_cases hz : z < 0
                · rw [if_pos hz] at HD
                  have HE := Lib.hid (show linksT names t [] = none from HD.out.symm)
                  have HMZ := Lib.hid (hM.out.trans hM2.out)
                  clear HD
                  go_wp2_with fail
                  go_ret2
                  exact ⟨_, by rw [HE.out]; rfl, by rw [HE.out]; exact OwnR.nil_ _ _, HMZ.out⟩
                · rw [if_neg hz] at HD
                  obtain ⟨v4, w4, g1, g2, g3⟩ := own_append1 elemLink encS_len encS_one (hO.out.kept0 hM2.out) (by have := hM.out.size; have := hM2.out.size; omega) (ty := 34) (z, xk) (by omega) (by omega)
                  have HO4 := Lib.hid g2
                  have HM4 := Lib.hid (g3.intoNil (hO.out.kept0 hM2.out) (Nat.le_refl _) (hM.out.trans hM2.out))
                  have G1 := Lib.hid g1
                  clear g1 g2 g3
                  go_wp2_with ((with_reducible refine xAppendAt G1.out rfl rfl ?_ ?_ ?_ ?_); exact rfl; exact rfl; exact rfl)
                  go_roundw
                  case rel => exact ⟨i + 1, acc ++ [(z, xk)], by omega, by simp; omega, by go_num, HD, HO4, HM4⟩
                  case measure => simp [intOf]; omega
          · go_wp2_with fail
            go_loopw [9, 10] (fun s9 s10 wr => ∃ m : Nat, m ≤ names.length ∧ s10 = .int .i64 ((m : Int) - 1) ∧ s9 = .int .i64 (Lib.idxFromS (names.drop m) nm m) ∧ Hid (Mod [] wz wr)) (fun _ s10 _ => ((intOf s10) + 1).toNat)
            case atStart => exact ⟨names.length, by omega, rfl, by rw [List.drop_of_length_le (Nat.le_refl _)]; rfl, Lib.hid (Mod.refl _ _)⟩
            case round =>
              obtain ⟨m, hm, rfl, rfl, hM2⟩ := hrel
              by_cases hlt2 : 0 < m
              · obtain ⟨m, rfl⟩ : ∃ j, m = j + 1 := ⟨m - 1, by omega⟩
                rw [show (((m + 1 : Nat) : Int) - 1) = m by omega]
                obtain ⟨nb, no, rfl, hnc, n0⟩ := HUG.out _ (hM.out.trans hM2.out) m (by omega)
                have hn3 := HNM.out _ (hM.out.trans hM2.out)
                have HST := Lib.hid (idxFrom_drop (x := nm) (show m < names.length by omega))
                have HMD := Lib.hid hM2.out.drew
                generalize Lib.idxFromS (names.drop (m + 1)) nm (m + 1) = cur at HST ⊢
                generalize names[m] = y at n0 HST
                by_cases hy : y = nm
                · rw [if_pos hy] at HST
                  have hq1 : (y.toList == nm.toList) = true := by rw [hy]; exact beq_self_eq_true _
                  clear hy
                  go_wp2_with fail
                  refine wp_plan [] [0, 1, 4, 5, 2, 6, 3, 7, 8, 9] (by kernel_rfl) (by kernel_rfl) ?_
                  simp only [wpSegs, opsOf, List.map_cons, List.map_nil, opN, List.getD_cons_zero, List.getD_cons_succ]
                  go_wp2_with fail
                  refine ⟨by first | trivial | rfl, ?_⟩
                  go_wp2_with fail
                  go_roundw
                  case rel => exact ⟨m, by omega, rfl, by rw [HST.out], HMD⟩
                  case measure => simp [intOf]; try omega
                · rw [if_neg hy] at HST
                  have hq1 : (y.toList == nm.toList) = false := beq_eq_false_iff_ne.2 fun h => hy (by
                    rw [ByteArray.toList_eq, ByteArray.toList_eq] at h
                    exact Go.WideShapes.bytes_inj h)
                  clear hy
                  go_wp2_with fail
                  refine wp_plan [] [0, 1, 4, 5, 2, 6, 3, 7, 8, 9] (by kernel_rfl) (by kernel_rfl) ?_
                  simp only [wpSegs, opsOf, List.map_cons, List.map_nil, opN, List.getD_cons_zero, List.getD_cons_succ]
                  go_wp2_with fail
                  refine ⟨by first | trivial | rfl, ?_⟩
                  go_wp2_with fail
                  go_roundw
                  case rel => exact ⟨m, by omega, rfl, by rw [HST.out], HMD⟩
                  case measure => simp [intOf]; try omega
              · obtain rfl : m = 0 := by omega
                rw [show (((0 : Nat) : Int) - 1) = -1 by omega, List.drop_zero, show Lib.idxFromS names nm 0 = nmIdx names nm from rfl]
                generalize nmIdx names nm = z at HD ⊢
                by_cases hz : z < 0
                · rw [if_pos hz] at HD
                  have HE := Lib.hid (show linksT names t [] = none from HD.out.symm)
                  have HMZ := Lib.hid (hM.out.trans hM2.out)
                  clear HD
                  go_wp2_with fail
                  go_ret2
                  exact ⟨_, by rw [HE.out]; rfl, by rw [HE.out]; exact OwnR.nil_ _ _, HMZ.out⟩
                · rw [if_neg hz] at HD
                  obtain ⟨v4, w4, g1, g2, g3⟩ := own_append1 elemLink encS_len encS_one (hO.out.kept0 hM2.out) (by have := hM.out.size; have := hM2.out.size; omega) (ty := 34) (z, xk) (by omega) (by omega)
                  have HO4 := Lib.hid g2
                  have HM4 := Lib.hid (g3.intoNil (hO.out.kept0 hM2.out) (Nat.le_refl _) (hM.out.trans hM2.out))
                  have G1 := Lib.hid g1
                  clear g1 g2 g3
                  go_wp2_with ((with_reducible refine xAppendAt G1.out rfl rfl ?_ ?_ ?_ ?_); exact rfl; exact rfl; exact rfl)
                  go_roundw
                  case rel => exact ⟨i + 1, acc ++ [(z, xk)], by omega, by simp; omega, by go_num, HD, HO4, HM4⟩
                  case measure => simp [intOf]; omega
        · have HB := Lib.hid (show backOf ⟨op, xc, xs, nm, xk, k0, k1, k2, pl⟩ = none from by unfold backOf; rw [if_neg hk0, if_neg hk1])
          rw [HB.out] at HD
          dsimp only at HD
          have q4 : (op == 4) = false := beq_eq_false_iff_ne.2 (by omega)
          have q24 : (op == 24) = false := beq_eq_false_iff_ne.2 (by omega)
          have q25 : (op == 25) = false := beq_eq_false_iff_ne.2 (by omega)
          have q26 : (op == 26) = false := beq_eq_false_iff_ne.2 (by omega)
          have q27 : (op == 27) = false := beq_eq_false_iff_ne.2 (by omega)
          have q28 : (op == 28) = false := beq_eq_false_iff_ne.2 (by omega)
          have q29 : (op == 29) = false := beq_eq_false_iff_ne.2 (by omega)
          have q30 : (op == 30) = false := beq_eq_false_iff_ne.2 (by omega)
          clear hk0 hk1
          go_wp2_with fail
          go_roundw
          case rel => exact ⟨i + 1, acc, by omega, by omega, by go_num, HD, hO, hM⟩
          case measure => simp [intOf]; omega
    · have HE := Lib.hid (show linksT names t [] = some acc by rw [← hv.out, List.drop_of_length_le (by omega)]; rfl)
      go_wp2_with fail
      go_ret2
      exact ⟨_, by rw [HE.out]; rfl, by rw [HE.out]; exact hO.out, hM.out⟩
end Go.Proofs.Ytefaihockgebeaa
namespace Go.Proofs.Ytefaihockgebeaa
open Go.RowKit Go.ChangeMaps Go.Deep
set_option linter.unusedSimpArgs false
set_option linter.unusedVariables false
set_option maxRecDepth 20000

theorem linksT_len (names : List ByteArray) : ∀ (t : List Nd) (acc l : List Sp), linksT names t acc = some l → l.length ≤ acc.length + t.length
  | [], acc, l, h => by simp [linksT] at h; subst h; simp
  | x :: r, acc, l, h => by
    unfold linksT at h
    cases hb : backOf x with
    | none =>
      rw [hb] at h
      have := linksT_len names r acc l h
      simp only [List.length_cons]; omega
    | some b =>
      rw [hb] at h
      dsimp only at h
      split at h
      · cases h
      · have := linksT_len names r _ l h
        simp at this
        simp only [List.length_cons]; omega
theorem linksT_getD (names : List ByteArray) (t : List Nd) : ((linksT names t []).getD []).length ≤ t.length := by
  cases h : linksT names t [] with
  | none => simp
  | some l => have := linksT_len names t [] l h; simpa using this
set_option maxHeartbeats 4000000 in
theorem graphLinks_any (v u : Value) (t : List Nd) (names : List ByteArray) (w : World) (h : NodesAt w v t) (hu : StrsAt w u names) (hl : t.length ≤ 140737488355328) (hn : names.length ≤ 140737488355328) :
    Calls Try.prog 5 #[v, u] w fun e w' => e = .returned (.bool true) ∧ Mod [] w w' := by
  have H := Lib.hid h
  have HU := Lib.hid hu
  obtain ⟨a, c, rfl⟩ := h.form
  obtain ⟨na, nc, rfl⟩ := hu.form
  clear h hu
  by_cases h1 : 200 < t.length
  · go_enter Try.func5, Try.ntmps5
    go_wp2_with fail
    refine (known21_any _).mono ?_
    rintro e w3 ⟨rfl, m⟩
    have HM := Lib.hid m
    clear m
    go_wp2_with fail
    go_ret
    exact ⟨rfl, HM.out⟩
  · by_cases h2 : 70 < names.length
    · go_enter Try.func5, Try.ntmps5
      go_wp2_with fail
      refine (known21_any _).mono ?_
      rintro e w3 ⟨rfl, m⟩
      have HM := Lib.hid m
      clear m
      go_wp2_with fail
      go_ret
      exact ⟨rfl, HM.out⟩
    · have HC1 := Lib.hid (grLinks_any _ _ t names w H.out HU.out (by omega) (by omega))
      have HC2 := Lib.hid (fun W (z : Mod [] w W) => rLinks21_any _ _ t names W (H.out.kept0 z) (HU.out.kept0 z) (by omega) (by omega))
      have HLL := Lib.hid (show ((linksT names t []).getD []).length ≤ 100000000 by have := linksT_getD names t; omega)
      generalize (linksT names t []).getD [] = l at HC1 HC2 HLL
      generalize errT (linksT names t []) = er at HC1 HC2
      have hq : (er == er) = true := by simp
      go_enter Try.func5, Try.ntmps5
      go_wp2_with fail
      refine HC1.out.mono ?_
      rintro e w1 ⟨v1, rfl, o1, m1⟩
      have HO1 := Lib.hid o1
      have HM1 := Lib.hid m1
      clear o1 m1 HC1
      go_wp2_with fail
      refine (HC2.out _ HM1.out).mono ?_
      rintro e w2 ⟨v2, rfl, o2, m2⟩
      have HS := Lib.hid (rSame21_any v1 v2 l l w2 (HO1.out.kept0 m2).row o2.row HLL.out HLL.out)
      rw [decide_eq_true rfl] at HS
      have HM2 := Lib.hid (HM1.out.trans m2)
      clear o2 m2 HC2
      go_wp2_with fail
      refine HS.out.mono ?_
      rintro e w3 ⟨rfl, m3⟩
      have HM3 := Lib.hid (HM2.out.trans m3)
      clear m3 HS
      go_wp2_with fail
      refine (grOrder_nil _).mono ?_
      rintro e w4 ⟨rfl, rfl⟩
      go_wp2_with fail
      refine (grOn_nil _ _).mono ?_
      rintro e w4 ⟨rfl, rfl⟩
      go_wp2_with fail
      refine (grAbove_nil _ _).mono ?_
      rintro e w4 ⟨rfl, rfl⟩
      go_wp2_with fail
      refine (known21_any _).mono ?_
      rintro e w5 ⟨rfl, m⟩
      have HM := Lib.hid (HM3.out.trans m)
      clear m
      go_wp2_with fail
      go_ret
      exact ⟨rfl, HM.out⟩
end Go.Proofs.Ytefaihockgebeaa
namespace Go.Proofs.Ytefaihockgebeaa
open Go.ChangeShapes Go.WideShapes Go.ChangeAt Go.RowKit Go.Deep
set_option linter.unusedSimpArgs false
set_option linter.unusedVariables false
theorem cN_u8 : Try.prog.cellsOf 5 = 1 := by kernel_rfl
theorem cN_i64 : Try.prog.cellsOf 2 = 1 := by kernel_rfl
theorem cN_str : Try.prog.cellsOf 9 = 1 := by kernel_rfl
theorem cN_Dec : Try.prog.cellsOf 99 = 2 := by kernel_rfl
theorem cN_arr3 : Try.prog.cellsOf 100 = 3 := by kernel_rfl
theorem cN_Node : Try.prog.cellsOf 102 = 9 := by kernel_rfl
theorem bN_Node : Try.prog.bytesOf 102 = 80 := by kernel_rfl
theorem bN_str : Try.prog.bytesOf 9 = 16 := by kernel_rfl
theorem list9 {l : List Value} (h : l.length = 9) : ∃ a b c d e f g i j, l = [a, b, c, d, e, f, g, i, j] := by
  match l, h with
  | [a, b, c, d, e, f, g, i, j], _ => exact ⟨a, b, c, d, e, f, g, i, j, rfl⟩
theorem list6' {α : Type} {l : List α} (h : l.length = 6) : ∃ a b c d e f, l = [a, b, c, d, e, f] := by
  match l, h with
  | [a, b, c, d, e, f], _ => exact ⟨a, b, c, d, e, f, rfl⟩
instance : Inhabited Nd := ⟨⟨0, 0, 0, ByteArray.empty, 0, 0, 0, 0, 0⟩⟩
section
variable {H : Type} {enc : TypeId × Value → H} {w : World}
theorem dec_cells' {n : Nat} {x y : Value} {d : DataW H × List MemPlace} (h : DataW.trod enc Try.prog w 0 (fun _ => true) true n 99 [x, y] = some d) : ∃ a b : Int, x = .int .i64 a ∧ y = .int .i64 b := by
  obtain ⟨y0, y1, m, rfl', hl, h0, h1⟩ := trod_struct2 Try.underlying99 h
  simp only [cS_int, cN_i64, List.drop_zero, List.drop_succ_cons, List.take_succ_cons, List.take_zero] at h0 h1
  obtain ⟨a, e0, _, w0⟩ := DataW.trod_int Try.underlying2 h0
  obtain ⟨b, e1, _, _⟩ := DataW.trod_int Try.underlying3 h1
  simp at e0 e1
  exact ⟨a, b, e0, e1⟩
set_option maxRecDepth 20000 in
theorem node_cells {n : Nat} {xs : List Value} {d : DataW H × List MemPlace} (h : DataW.trod enc Try.prog w 0 (fun _ => true) true n 102 xs = some d) (hl : xs.length = 9) : ∃ x : Nd, xs = encNd x := by
  obtain ⟨v0, v1, v2, v3, v4, v5, v6, v7, v8, rfl⟩ := list9 hl
  obtain ⟨ys, m, rfl, _, _, hy, hf⟩ := DataW.trod_struct Try.underlying102 h
  have hy6 : ys.length = 6 := by rw [hy]; rfl
  obtain ⟨y0, y1, y2, y3, y4, y5, rfl⟩ := list6' hy6
  have f0 := hf 0 _ rfl
  have f1 := hf 1 _ rfl
  have f2 := hf 2 _ rfl
  have f3 := hf 3 _ rfl
  have f4 := hf 4 _ rfl
  have f5 := hf 5 _ rfl
  simp only [cS_int, cN_u8, cN_Dec, cN_str, cN_arr3, List.drop_zero, List.drop_succ_cons, List.take_succ_cons, List.take_zero, List.getElem?_cons_zero, List.getElem?_cons_succ] at f0 f1 f2 f3 f4 f5
  obtain ⟨op, e0, _, _⟩ := DataW.trod_int Try.underlying5 f0
  obtain ⟨c, s, e1, e2⟩ := dec_cells' f1
  obtain ⟨nm, e3, _, _⟩ := DataW.trod_string Try.underlying9 f2
  obtain ⟨k, e4, _, _⟩ := DataW.trod_int Try.underlying3 f3
  obtain ⟨z0, z1, z2, q, _, g0, g1, g2⟩ := trod_array3 Try.underlying100 cS_int f4
  obtain ⟨a0, e5, _, _⟩ := DataW.trod_int Try.underlying3 g0
  obtain ⟨a1, e6, _, _⟩ := DataW.trod_int Try.underlying3 g1
  obtain ⟨a2, e7, _, _⟩ := DataW.trod_int Try.underlying3 g2
  obtain ⟨p, e8, _, _⟩ := DataW.trod_int Try.underlying3 f5
  simp [cN_u8, cN_str, cS_int] at e0 e3 e4 e5 e6 e7 e8
  subst e0 e1 e2 e3 e4 e5 e6 e7 e8
  exact ⟨⟨op, c, s, nm, k, a0, a1, a2, p⟩, rfl⟩
theorem tree_arg {v : Value} {d : DataW H} {pl : List MemPlace} (hv : ∃ a n c, v = .slice a n c) (h : DataW.Trod enc Try.prog w 0 (fun _ => true) true 46 v d pl) (hw : Lite Try.prog 46 d) :
    ∃ l, NodesAt w v l ∧ l.length ≤ 140737488355328 := by
  obtain ⟨a, n, c, rfl⟩ := hv
  obtain ⟨fuel, hf⟩ := h
  obtain ⟨v, l, e, hr, hq, hb⟩ := rows_cells (enc := encNd) (Q := fun _ => True) Try.underlying46 (by rw [cN_Node]; omega) (fun x => by rw [cN_Node]; rfl) (fun n xs d pl h hw hl => by
    obtain ⟨x, rfl⟩ := node_cells h (by rw [cN_Node] at hl; exact hl)
    exact ⟨x, rfl, trivial⟩) hf hw
  simp [Value.cells] at e
  subst e
  refine ⟨l, hr, ?_⟩
  rw [bN_Node] at hb
  simp [reachBytes] at hb
  omega
theorem strs_arg {v : Value} {d : DataW H} {pl : List MemPlace} (hv : ∃ a n c, v = .slice a n c) (h : DataW.Trod enc Try.prog w 0 (fun _ => true) true 47 v d pl) (hw : Lite Try.prog 47 d) :
    ∃ l, StrsAt w v l ∧ l.length ≤ 140737488355328 := by
  obtain ⟨a, n, c, rfl⟩ := hv
  obtain ⟨fuel, hf⟩ := h
  obtain ⟨v, l, e, hr, hq, hb⟩ := rows_cells (enc := encStr) (Q := fun _ => True) Try.underlying47 (by rw [cN_str]; omega) (fun x => by rw [cN_str]; rfl) (fun n xs d pl h hw hl => by
    obtain ⟨s, e, _, _⟩ := DataW.trod_string Try.underlying9 h
    exact ⟨s, e, trivial⟩) hf hw
  simp [Value.cells] at e
  subst e
  refine ⟨l, hr, ?_⟩
  rw [bN_str] at hb
  simp [reachBytes] at hb
  omega
end
end Go.Proofs.Ytefaihockgebeaa
namespace Go.Proofs.Ytefaihockgebeaa
open Go.ChangeShapes Go.WideShapes Go.ChangeAt Go.RowKit Go.ChangeMaps Go.Deep
set_option linter.unusedSimpArgs false
set_option linter.unusedVariables false
set_option maxRecDepth 100000 in
theorem graphLinks_lifted (os : Os) (started : os.Started) (H : Type) (enc : TypeId × Value → H) :
    ReturnsInHanded {} Try.checked os 5 .any (Rows.graphLinksSpec.pre6 enc Try.prog Try.f5 Rows.graphLinksRow.domain false) (Rows.graphLinksSpec.post enc Try.prog Try.f5 false true false false) := by
  refine returnsInHanded_of_change_sized (C := Try.checked) own started (by kernel_rfl) Try.func5
    (ChangeSpec.witness6 (enc := enc) (C := Try.checked) false ⟨#[], #[.slice none 0 0, .slice none 0 0], []⟩ 8 (by kernel_rfl) (by kernel_rfl) (by kernel_rfl) (by kernel_rfl)) ?_
  intro W base args ds gs before hval0 hW hcnd hsz _
  have hval : ∀ (j : Nat) t v, Try.f5.params[j]? = some t → args[j]? = some v → Value.okWide Try.prog W .any base t v := hval0
  have hW' := hW
  obtain ⟨p, q, hA0, hV, rfl, hfz, hnd⟩ := hW
  have hA : DataW.TrodAll enc Try.prog W 0 (fun _ => true) true Try.f5.params.toList args.toList ds p := hA0
  have hsz' : (DataW.weightsEach Try.prog (Try.f5.params.toList ++ (ChangeSpec.plain Rows.graphLinksSpec).varTypes Try.prog) (ds ++ gs)).all (· ≤ reachBytes) = true := hsz
  rw [Try.params5] at hA hval hsz'
  obtain ⟨v0, vs0, d0, ds0, p0, q0, hargs, rfl, rfl, h0, r0⟩ := trodAll_cons hA
  obtain ⟨v1, vs1, d1, ds1, p1, q1, rfl, rfl, rfl, h1, r1⟩ := trodAll_cons r0
  obtain ⟨rfl, rfl, rfl⟩ := trodAll_nil r1
  obtain rfl : args = #[v0, v1] := by cases args; simp_all
  obtain ⟨rfl, rfl⟩ := trodVars_none hV
  have hl0 : Lite Try.prog 46 d0 := Lite.of hsz' (j := 0) rfl rfl
  have hl1 : Lite Try.prog 47 d1 := Lite.of hsz' (j := 1) rfl rfl
  obtain ⟨l0, s0, n0⟩ := tree_arg (okWide_slice Try.underlying46 (hval 0 46 v0 rfl rfl)) h0 hl0
  obtain ⟨l1, s1, n1⟩ := strs_arg (okWide_slice Try.underlying47 (hval 1 47 v1 rfl rfl)) h1 hl1
  clear hA0 hval0
  refine (graphLinks_any v0 v1 l0 l1 W s0 s1 n0 n1).mono fun e W' ⟨he, hg⟩ => ⟨_, he, law_post ?_ hW' hg.toBelow rfl rfl rfl⟩
  rw [Try.params5]
  simp only [List.mem_cons, List.not_mem_nil, or_false]
  rintro t (rfl | rfl)
  all_goals exact ⟨by kernel_rfl, of_decide_eq_true (by kernel_rfl)⟩
theorem graphLinks_holds : Rows.GraphLinksSaid :=
  OpenClaim.holds_of_wide 5 Try.f5 rfl rfl rfl rfl rfl rfl rfl ⟨rfl, rfl, rfl, rfl, rfl⟩ rfl rfl rfl rfl rfl (by kernel_rfl) Try.func5 (by kernel_rfl)
    (of_decide_eq_true (by kernel_rfl)) (by unfold Func.isWrapper; first | (rw [if_pos (by decide +kernel)]; kernel_rfl) | (rw [if_neg (by decide +kernel)]; exact ⟨rfl, rfl⟩))
    (fun os started H enc _ => graphLinks_lifted os started H enc)
#print axioms graphLinks_holds
end Go.Proofs.Ytefaihockgebeaa
