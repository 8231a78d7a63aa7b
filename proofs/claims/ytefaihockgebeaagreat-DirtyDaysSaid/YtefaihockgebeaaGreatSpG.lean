/- The document's spans: Right, Two, Of. -/
import Derived.Test.YtefaihockgebeaaGreatSpF
namespace Go.Proofs.YtefaihockgebeaaGreat
open Go.RowKit Go.ChangeMaps Go.Deep
set_option linter.unusedSimpArgs false
set_option linter.unusedVariables false
set_option maxRecDepth 20000

def encB (b : Bool) : List Value := [.bool b]
theorem encB_len (b : Bool) : (encB b).length = 1 := rfl
theorem encB_one (x : Bool) : ∀ v ∈ encB x, v.oneCell' = true := by intro v hv; simp [encB] at hv; subst hv; rfl
theorem elemBool : ElemOk Tryz.prog 83 4 1 1 := .mk' Tryz.underlying83 (by omega) (by kernel_rfl)
abbrev BoolsIn (w : World) (v : Value) (l : List Bool) : Prop := RowAt encB w v l
theorem RowAt.getB {w : World} {a : Option Addr} {c : Nat} {l : List Bool} (h : BoolsIn w (.slice a l.length c) l) {i : Nat} (hi : i < l.length) :
    ∃ b o, a = some ⟨b, o, none⟩ ∧ l.length ≤ c ∧ w.cell? ⟨b, o + i, none⟩ = some (.bool l[i]) := by
  obtain ⟨b, o, e, hc, hg⟩ := h.get encB_len hi
  have h0 := hg 0 (.bool l[i]) (by omega) rfl
  exact ⟨b, o, e, hc, by simpa using h0⟩
/-- The last span of a row of the call's own: read; its end written. -/
structure LastAt (w : World) (base : Nat) (v : Value) (i0 : List Sp) (y : Sp) (g : Nat) : Prop where
  low : base ≤ g
  c0 : w.cell? ⟨g, i0.length * 2, none⟩ = some (.int .i64 y.1)
  c1 : w.cell? ⟨g, i0.length * 2 + 1, none⟩ = some (.int .i64 y.2)
  f1 : w.frozen? ⟨g, i0.length * 2 + 1, none⟩ = false
  set : ∀ u, OwnS (w.setCell ⟨g, i0.length * 2 + 1, none⟩ (.int .i64 u)) base v (i0 ++ [(y.1, u)])
  mod : ∀ w0 u, w0.heap.size ≤ base → Mod [] w0 w → Mod [] w0 (w.setCell ⟨g, i0.length * 2 + 1, none⟩ u)
theorem OwnR.last {w : World} {base : Nat} {v : Value} {i0 : List Sp} {y : Sp} (h : OwnS w base v (i0 ++ [y])) : ∃ g cap, v = .slice (some ⟨g, 0, none⟩) (i0.length + 1) cap ∧ i0.length + 1 ≤ cap ∧ LastAt w base v i0 y g := by
  rcases h.form with ⟨_, e⟩ | ⟨g, cap, e, hb, hg, hc⟩
  · simp at e
  · have hi : i0.length < (i0 ++ [y]).length := by simp
    have hget : (i0 ++ [y])[i0.length] = y := by simp
    rw [e] at h
    have h0 := h.cell encS_len (i := i0.length) (j := 0) hi (by omega) (u := .int .i64 y.1) (by rw [hget]; rfl)
    have h1 := h.cell encS_len (i := i0.length) (j := 1) hi (by omega) (u := .int .i64 y.2) (by rw [hget]; rfl)
    refine ⟨g, cap, by rw [e]; simp, by simpa using hc, hb, h0.1, h1.1, h1.2, fun u => ?_, fun w0 u h0 hm => hm.setCellNew (by show w0.heap.size ≤ g; omega) u⟩
    have := h.set encS_len (i := i0.length) (j := 1) hi (by omega) (u := .int .i64 u) (y := (y.1, u)) (by rw [hget]; rfl)
    rw [e]
    simpa using this
theorem mergeS_len (l : List Sp) : (mergeS l).length ≤ l.length := by
  have key : ∀ (l out : List Sp), (l.foldl mergeStep out).length ≤ out.length + l.length := by
    intro l
    induction l with
    | nil => intro out; simp
    | cons x l ih =>
      intro out
      have h1 := ih (mergeStep out x)
      have h2 : (mergeStep out x).length ≤ out.length + 1 := by
        unfold mergeStep
        split
        · split
          · simp only [List.length_append, List.length_dropLast, List.length_singleton]; omega
          · simp
        · simp
      simp only [List.foldl_cons, List.length_cons]
      omega
  have := key l []
  simpa [mergeS] using this
set_option maxHeartbeats 4000000 in
theorem rRight_any (u v : Value) (E : List Int) (f : Int → Bool) (w : World) (hu : IntsIn w u E) (h : BoolsIn w v (E.map f)) (hE : E.length ≤ 1000000) :
    Calls Tryz.prog 47 #[u, v] w fun e w' => ∃ v', e = .returned v' ∧ OwnS w' w.heap.size v' (mergeS ((pairs E).filter fun x => f x.1)) ∧ Mod [] w w' := by
  have H := Lib.hid h
  have HU := Lib.hid hu
  obtain ⟨a, c, rfl⟩ := h.form
  obtain ⟨a0, c00, rfl⟩ := hu.form
  clear h hu
  rw [List.length_map] at H
  rw [List.length_map]
  go_enter Tryz.func47, Tryz.ntmps47
  go_wp2_with fail
  go_loopw [5, 6] (fun s5 s6 wr => ∃ i : Nat, i ≤ E.length ∧ s6 = .int .i64 i ∧ Hid (OwnS wr w.heap.size s5 (mergeS (((pairs E).take i).filter fun x => f x.1))) ∧ Hid (Mod [] w wr)) (fun _ s6 _ => E.length - (intOf s6).toNat)
  case atStart => exact ⟨0, by omega, rfl, Lib.hid (OwnR.nil_ _ _), Lib.hid (Mod.refl _ _)⟩
  case round =>
    obtain ⟨i, hi, rfl, hown, hM⟩ := hrel
    by_cases hlt : i + 1 < E.length
    · obtain ⟨b0, o0, rfl, hc0, q0⟩ := (HU.out.kept0 hM.out).get1 (show i < E.length by omega)
      obtain ⟨b0', o0', e0, _, q1⟩ := (HU.out.kept0 hM.out).get1 hlt
      simp only [Option.some.injEq, Addr.mk.injEq, and_true] at e0
      obtain ⟨rfl, rfl⟩ := e0
      have hBI := H.out.kept0 hM.out
      rw [← List.length_map (f := f)] at hBI
      obtain ⟨b, o, rfl, hc, qb⟩ := hBI.getB (i := i) (by rw [List.length_map]; omega)
      rw [List.length_map] at hc
      rw [List.getElem_map] at qb
      have hp : (pairs E)[i]? = some (E[i], E[i + 1]) := pairs_get E i hlt
      have hpl : i < (pairs E).length := by rw [pairs_length]; omega
      have hpe : (pairs E)[i] = (E[i], E[i + 1]) := by
        rw [List.getElem?_eq_getElem hpl] at hp
        exact Option.some.inj hp
      have hT : (pairs E).take (i + 1) = (pairs E).take i ++ [(E[i], E[i + 1])] := by rw [List.take_succ_eq_append_getElem hpl, hpe]
      have HF := Lib.hid (show ∀ z, f E[i] = z → mergeS (((pairs E).take (i + 1)).filter fun x => f x.1) = if z then mergeStep (mergeS (((pairs E).take i).filter fun x => f x.1)) (E[i], E[i + 1]) else mergeS (((pairs E).take i).filter fun x => f x.1) from fun z hz => by
        rw [hT, List.filter_append]
        cases z with
        | false => simp [hz]
        | true => simp [hz, mergeS_snoc])
      have HLN := Lib.hid (show (mergeS (((pairs E).take i).filter fun x => f x.1)).length < 1073741824 by
        have h1 := mergeS_len (((pairs E).take i).filter fun x => f x.1)
        have h2 := List.length_filter_le (fun x : Sp => f x.1) ((pairs E).take i)
        have h3 := List.length_take_le i (pairs E)
        omega)
      clear hp hpl hpe hT hBI
      cases hfz : f E[i] with
      | false =>
        have HR := Lib.hid (HF.out false hfz)
        rw [hfz] at qb
        clear hfz HF
        go_wp2_with fail
        go_roundw
        case rel => exact ⟨i + 1, by omega, by go_num, Lib.hid (by rw [HR.out]; exact hown.out), hM⟩
        case measure => simp [intOf]; omega
      | true =>
        have HR := Lib.hid (HF.out true hfz)
        rw [hfz] at qb
        clear hfz HF
        generalize E[i] = p at q0 HR
        generalize E[i + 1] = q at q1 HR
        have hm0 := (Mod.refl [] wr).drew
        have grow : ∀ (out : List Sp), OwnS wr w.heap.size u5 out → out.length < 1073741824 → ∀ W, Mod [] wr W → ∃ v' w', (Builtin.append_ #[30, 30] 30 #[u5, .slice (some ⟨W.heap.size, 0, none⟩) 1 1]).run Tryz.prog (W.alloc (.cells #[.int .i64 p, .int .i64 q] 45)) = .ok v' w' ∧ OwnS w' w.heap.size v' (out ++ [(p, q)]) ∧ Mod [] w w' := fun out ho hl W hW => by
          obtain ⟨v', w', g1, g2, g3⟩ := own_append1 elemSpan encS_len encS_one (ho.kept0 hW) (Nat.le_trans hM.out.size hW.size) (ty := 30) (p, q) hl (by omega)
          exact ⟨v', w', g1, g2, g3.intoNil (ho.kept0 hW) (Nat.le_refl _) (hM.out.trans hW)⟩
        have HGR := Lib.hid grow
        have hown' := hown.out
        have hln' := HLN.out
        clear grow hown HLN
        generalize mergeS (((pairs E).take i).filter fun x => f x.1) = out at hown' hln' HR
        rcases List.eq_nil_or_concat out with rfl | ⟨i0, y, rfl⟩
        · obtain ⟨a5, c5, rfl⟩ := hown'.row.form
          obtain ⟨v', w', g1, g2, g3⟩ := HGR.out [] hown' (by simp) wr.drew.drew hm0.drew
          have G1 := Lib.hid g1
          have G2 := Lib.hid (show OwnS w' w.heap.size v' (mergeS (((pairs E).take (i + 1)).filter fun x => f x.1)) by rw [HR.out]; simpa [mergeStep] using g2)
          have G3 := Lib.hid g3
          clear g1 g2 g3 HGR hown' hln' hm0
          go_wp2_with fail
          refine wp_plan [] [0, 1, 2, 3, 4, 9, 10, 5, 11, 6, 12, 7, 8, 13, 14] (by kernel_rfl) (by kernel_rfl) ?_
          simp only [wpSegs, opsOf, List.map_cons, List.map_nil, opN, List.getD_cons_zero, List.getD_cons_succ]
          go_wp2_with fail
          refine ⟨by first | trivial | rfl, ?_⟩
          go_wp2_with fail
          refine wp_plan [([0, 1, 2, 5, 6, 7, 3, 4, 8, 9], 10, []), ([], 11, []), ([], 12, []), ([], 13, [])] [] (by kernel_rfl) (by kernel_rfl) ?_
          simp only [wpSegs, opsOf, List.map_cons, List.map_nil, opN, List.getD_cons_zero, List.getD_cons_succ]
          go_wp2_with fail
          refine ⟨by first | trivial | rfl, ?_⟩
          go_wp2_with fail
          refine ⟨again_nil, ?_⟩
          go_wp2_with fail
          refine ⟨by first | trivial | rfl, ?_⟩
          go_wp2_with fail
          refine ⟨again_nil, ?_⟩
          go_wp2_with fail
          refine ⟨by first | trivial | rfl, ?_⟩
          go_wp2_with ((with_reducible refine xAppendAt G1.out rfl rfl ?_ ?_ ?_ ?_); exact rfl; exact rfl; exact rfl)
          refine ⟨again_nil, ?_⟩
          go_wp2_with fail
          refine ⟨by first | trivial | rfl, ?_⟩
          go_wp2_with fail
          refine ⟨again_nil, ?_⟩
          go_wp2_with fail
          refine ⟨by first | trivial | rfl, ?_⟩
          go_wp2_with fail
          go_roundw
          case rel => exact ⟨i + 1, by omega, by go_num, G2, G3⟩
          case measure => simp [intOf]; omega
        · rw [List.concat_eq_append] at hown' hln' HR
          obtain ⟨g, cap, rfl, hcap, L⟩ := (hown'.kept0 hm0).last
          have hg0 : wr.cell? ⟨g, i0.length * 2, none⟩ = some (.int .i64 y.1) := L.c0
          have hg1 : wr.cell? ⟨g, i0.length * 2 + 1, none⟩ = some (.int .i64 y.2) := L.c1
          have hg2 : wr.frozen? ⟨g, i0.length * 2 + 1, none⟩ = false := L.f1
          have hi0 : i0.length ≤ 1073741824 := by simp at hln'; omega
          by_cases hy : y.2 = p
          · have G2 := Lib.hid (show OwnS (wr.drew.setCell ⟨g, i0.length * 2 + 1, none⟩ (.int .i64 q)) w.heap.size (.slice (some ⟨g, 0, none⟩) (i0.length + 1) cap) (mergeS (((pairs E).take (i + 1)).filter fun x => f x.1)) by
              rw [HR.out]
              have := L.set q
              simpa [mergeStep, hy] using this)
            have G3 := Lib.hid (show Mod [] w (wr.drew.setCell ⟨g, i0.length * 2 + 1, none⟩ (.int .i64 q)) from L.mod w _ (Nat.le_refl _) (hM.out.trans hm0))
            obtain ⟨y1, y2⟩ := y
            dsimp only at hg0 hg1 hg2 hy
            have HY := Lib.hid (show y2 = p from hy)
            rw [HY.out] at hg1
            clear HGR hown' hln' hm0 L hy HY
            go_wp2_with fail
            refine wp_plan [] [0, 1, 2, 3, 4, 9, 10, 5, 11, 6, 12, 7, 8, 13, 14] (by kernel_rfl) (by kernel_rfl) ?_
            simp only [wpSegs, opsOf, List.map_cons, List.map_nil, opN, List.getD_cons_zero, List.getD_cons_succ]
            go_wp2_with fail
            refine ⟨by first | trivial | rfl, ?_⟩
            go_wp2_with fail
            go_roundw
            case rel => exact ⟨i + 1, by omega, by go_num, G2, G3⟩
            case measure => simp [intOf]; omega
          · obtain ⟨v', w', g1, g2, g3⟩ := HGR.out _ hown' hln' wr.drew.drew hm0.drew
            have G1 := Lib.hid g1
            have G2 := Lib.hid (show OwnS w' w.heap.size v' (mergeS (((pairs E).take (i + 1)).filter fun x => f x.1)) by rw [HR.out]; simpa [mergeStep, hy] using g2)
            have G3 := Lib.hid g3
            obtain ⟨y1, y2⟩ := y
            dsimp only at hg0 hg1 hg2 hy
            have hyb : (y2 == p) = false := by simp [hy]
            clear g1 g2 g3 HGR hown' hln' hm0 L
            go_wp2_with fail
            refine wp_plan [] [0, 1, 2, 3, 4, 9, 10, 5, 11, 6, 12, 7, 8, 13, 14] (by kernel_rfl) (by kernel_rfl) ?_
            simp only [wpSegs, opsOf, List.map_cons, List.map_nil, opN, List.getD_cons_zero, List.getD_cons_succ]
            go_wp2_with fail
            refine ⟨by first | trivial | rfl, ?_⟩
            go_wp2_with fail
            refine wp_plan [([0, 1, 2, 5, 6, 7, 3, 4, 8, 9], 10, []), ([], 11, []), ([], 12, []), ([], 13, [])] [] (by kernel_rfl) (by kernel_rfl) ?_
            simp only [wpSegs, opsOf, List.map_cons, List.map_nil, opN, List.getD_cons_zero, List.getD_cons_succ]
            go_wp2_with fail
            refine ⟨by first | trivial | rfl, ?_⟩
            go_wp2_with fail
            refine ⟨again_nil, ?_⟩
            go_wp2_with fail
            refine ⟨by first | trivial | rfl, ?_⟩
            go_wp2_with fail
            refine ⟨again_nil, ?_⟩
            go_wp2_with fail
            refine ⟨by first | trivial | rfl, ?_⟩
            go_wp2_with ((with_reducible refine xAppendAt G1.out rfl rfl ?_ ?_ ?_ ?_); exact rfl; exact rfl; exact rfl)
            refine ⟨again_nil, ?_⟩
            go_wp2_with fail
            refine ⟨by first | trivial | rfl, ?_⟩
            go_wp2_with fail
            refine ⟨again_nil, ?_⟩
            go_wp2_with fail
            refine ⟨by first | trivial | rfl, ?_⟩
            go_wp2_with fail
            go_roundw
            case rel => exact ⟨i + 1, by omega, by go_num, G2, G3⟩
            case measure => simp [intOf]; omega
    · have HR := Lib.hid (show (pairs E).take i = pairs E from List.take_of_length_le (by rw [pairs_length]; omega))
      go_wp2_with fail
      go_ret
      exact ⟨_, rfl, by rw [← HR.out]; exact hown.out, hM.out⟩
end Go.Proofs.YtefaihockgebeaaGreat
