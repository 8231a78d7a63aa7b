/- The document's spans: held, Has, add, Ends. -/
import Derived.Test.YtefaihockgebeaaGreatSpE
namespace Go.Proofs.YtefaihockgebeaaGreat
open Go.RowKit Go.ChangeMaps Go.Deep
set_option linter.unusedSimpArgs false
set_option linter.unusedVariables false
set_option maxRecDepth 20000

theorem RowAt.cut {α : Type} {enc : α → List Value} {k : Nat} {w : World} {l : List α} (hk : ∀ x, (enc x).length = k) {a : Option Addr} {c : Nat} (h : RowAt enc w (.slice a l.length c) l) (n : Nat) (hn : n ≤ l.length) :
    RowAt enc w (.slice (if c = n then a else a.map (·.add (n * k))) (l.length - n) (c - n)) (l.drop n) := by
  by_cases he : n = l.length
  · subst he
    rw [List.drop_length, Nat.sub_self]
    exact .nil _ _
  · have hlt : n < l.length := by omega
    obtain ⟨b, o, rfl, hc, _⟩ := h.range (by intro e; subst e; simp at hlt)
    rw [if_neg (by omega)]
    have := h.drop hk n hlt
    simpa [Addr.add_mid] using this
theorem rHeld_any (n : Int) (w : World) : Calls Tryz.prog 57 #[.int .i64 n] w fun e w' => e = .returned (.int .i64 (held n)) ∧ w' = w := by
  by_cases h1 : n < 1
  · have HR := Lib.hid (show held n = 1 by simp [held, h1])
    go_enter Tryz.func57, Tryz.ntmps57
    go_wp2
    go_ret
    exact ⟨by rw [HR.out]; rfl, rfl⟩
  · by_cases h2 : 3652060 < n
    · have HR := Lib.hid (show held n = 3652060 by simp [held, h1, h2])
      go_enter Tryz.func57, Tryz.ntmps57
      go_wp2
      go_ret
      exact ⟨by rw [HR.out]; rfl, rfl⟩
    · have HR := Lib.hid (show held n = n by simp [held, h1, h2])
      go_enter Tryz.func57, Tryz.ntmps57
      go_wp2
      go_ret
      exact ⟨by rw [HR.out]; rfl, rfl⟩
set_option maxHeartbeats 1000000 in
theorem rHas_any (v : Value) (l : List Sp) (d : Int) (w : World) (h : SpansAt w v l) (hl : l.length ≤ 1000000) :
    Calls Tryz.prog 12 #[v, .int .i64 d] w fun e w' => e = .returned (.bool (hasB l d)) ∧ w' = w := by
  have H := Lib.hid h
  obtain ⟨a, c, rfl⟩ := h.form
  clear h
  by_cases h1 : d < 1
  · have HR := Lib.hid (hasB_out (l := l) (d := d) (.inl h1))
    go_enter Tryz.func12, Tryz.ntmps12
    go_wp2
    go_ret
    exact ⟨by rw [HR.out]; rfl, rfl⟩
  · by_cases h2 : 3652059 < d
    · have HR := Lib.hid (hasB_out (l := l) (d := d) (.inr (by omega)))
      go_enter Tryz.func12, Tryz.ntmps12
      go_wp2
      go_ret
      exact ⟨by rw [HR.out]; rfl, rfl⟩
    · have HR := Lib.hid (hasB_in (l := l) (d := d) (by omega) (by omega))
      go_enter Tryz.func12, Tryz.ntmps12
      go_wp2_with fail
      go_loop [5] (fun s5 => ∃ i : Nat, i ≤ l.length ∧ s5 = .int .i64 i ∧ Hid (inB (l.drop i) d = inB l d)) (fun s5 => l.length - (intOf s5).toNat)
      case atStart => exact ⟨0, by omega, rfl, Lib.hid rfl⟩
      case round =>
        obtain ⟨i, hi, rfl, hv⟩ := hrel
        by_cases hlt : i < l.length
        · obtain ⟨b, o, rfl, hc, c0, c1⟩ := H.out.get2 hlt
          have hd := hv.out
          rw [← List.getElem_cons_drop hlt] at hd
          have HD := Lib.hid (show (inOne d l[i] || inB (l.drop (i + 1)) d) = inB l d by rw [← hd, inB_eq, inB_eq]; rfl)
          clear hd
          generalize l[i] = x at c0 c1 HD
          obtain ⟨x1, x2⟩ := x
          dsimp only at c0 c1 HD
          by_cases h3 : x1 ≤ d
          · by_cases h4 : d < x2
            · have HI := Lib.hid (show inB l d = true by rw [← HD.out]; simp [inOne, h3, h4])
              go_wp2_with fail
              go_ret
              exact ⟨by rw [HR.out, HI.out]; rfl, rfl⟩
            · have HI := Lib.hid (show inB (l.drop (i + 1)) d = inB l d by rw [← HD.out]; simp [inOne, h4])
              go_wp2_with fail
              go_round
              case rel => exact ⟨i + 1, by omega, by go_num, HI⟩
              case measure => simp [intOf]; omega
          · have HI := Lib.hid (show inB (l.drop (i + 1)) d = inB l d by rw [← HD.out]; simp [inOne, h3])
            go_wp2_with fail
            go_round
            case rel => exact ⟨i + 1, by omega, by go_num, HI⟩
            case measure => simp [intOf]; omega
        · have HI := Lib.hid (show inB l d = false by rw [← hv.out, List.drop_of_length_le (by omega)]; rfl)
          go_wp2_with fail
          go_ret
          exact ⟨by rw [HR.out, HI.out]; rfl, rfl⟩
set_option maxHeartbeats 2000000 in
theorem rAdd_any (v : Value) (l : List Int) (n : Int) (w : World) (h : IntsIn w v l) (hl : l.length ≤ 1000000) :
    Calls Tryz.prog 56 #[v, .int .i64 n] w fun e w' => ∃ v', e = .returned v' ∧ IntsIn w' v' (addS l n) ∧ Mod [] w w' := by
  have H := Lib.hid h
  obtain ⟨a, c, rfl⟩ := h.form
  clear h
  go_enter Tryz.func56, Tryz.ntmps56
  go_wp2_with fail
  go_loopw [5, 6] (fun s5 s6 wr => ∃ i : Nat, i ≤ l.length ∧ s6 = .int .i64 i ∧ Hid (OwnN wr w.heap.size s5 (l.take i)) ∧ Hid (Mod [] w wr) ∧ Hid (∀ j (h : j < l.length), j < i → l[j] < n)) (fun _ s6 _ => l.length - (intOf s6).toNat)
  case atStart => exact ⟨0, by omega, rfl, Lib.hid (OwnR.nil_ _ _), Lib.hid (Mod.refl _ _), Lib.hid (fun j _ h => absurd h (by omega))⟩
  case round =>
    obtain ⟨i, hi, rfl, hown, hM, hall⟩ := hrel
    by_cases hlt : i < l.length
    · obtain ⟨b, o, rfl, hc, c0⟩ := (H.out.kept0 hM.out).get1 hlt
      have HT := Lib.hid (show l.take (i + 1) = l.take i ++ [l[i]] from List.take_succ_eq_append_getElem hlt)
      have HW := Lib.hid (addS_walk l n i hall.out hi)
      have HX := Lib.hid (show ∀ z : Int, z = l[i] → z < n → ∀ j (h : j < l.length), j < i + 1 → l[j] < n from fun z hz hzn j h hj => by
        by_cases e : j = i
        · subst e; rw [← hz]; exact hzn
        · exact hall.out j h (by omega))
      have HY := Lib.hid (show ∀ z : Int, z = l[i] → ¬ z < n → addS l n = if z = n then l else l.take i ++ (n :: l.drop i) from fun z hz hzn => by
        rw [HW.out (fun _ => by rw [← hz]; exact hzn), dif_pos hlt, hz])
      have HZ := Lib.hid (show l[i] = l[i] from rfl)
      generalize l[i] = z at c0 HT HX HY HZ
      by_cases h1 : z < n
      · have HXX := Lib.hid (HX.out z (by first | rfl | exact HZ.out) h1)
        obtain ⟨v', w', g1, g2, g3⟩ := own_append1 elemInt encI_len encI_one hown.out hM.out.size (ty := 46) z (by simp; omega) (by omega)
        have G1 := Lib.hid g1
        have G2 := Lib.hid (show OwnN w' w.heap.size v' (l.take (i + 1)) by rw [HT.out]; exact g2)
        have G3 := Lib.hid (g3.intoNil hown.out (Nat.le_refl _) hM.out)
        clear g1 g2 g3
        go_wp2_with (((with_reducible refine xAppendAt G1.out rfl rfl ?_ ?_ ?_ ?_); exact rfl; exact rfl; exact rfl))
        go_roundw
        case rel => exact ⟨i + 1, by omega, by go_num, G2, G3, HXX⟩
        case measure => simp [intOf]; omega
      · have HYY := Lib.hid (HY.out z (by first | rfl | exact HZ.out) h1)
        by_cases h2 : z = n
        · have HE := Lib.hid (show addS l n = l by rw [HYY.out, if_pos h2])
          go_wp2_with fail
          go_ret
          exact ⟨_, rfl, by rw [HE.out]; exact H.out.kept0 hM.out, hM.out⟩
        · have HE := Lib.hid (show addS l n = l.take i ++ (n :: l.drop i) by rw [HYY.out, if_neg h2])
          have hm0 := (Mod.refl [] wr).drew
          obtain ⟨v1, w1, g1, g2, g3⟩ := own_append1 elemInt encI_len encI_one (hown.out.kept0 hm0) (Nat.le_trans hM.out.size hm0.size) (ty := 46) n (by simp; omega) (by omega)
          have hm1 := g3.intoNil (hown.out.kept0 hm0) (Nat.le_refl _) (hM.out.trans hm0)
          have hcut := (H.out.kept0 hm1).cut encI_len i (by omega)
          rw [if_neg (show ¬ c = i by omega)] at hcut
          simp only [Option.map_some, Addr.add_mid, Nat.mul_one] at hcut
          obtain ⟨v2, w2, k1, k2, k3⟩ := own_append elemInt encI_len g2 hm1.size (ty := 46) (hcut.src encI_len encI_one Tryz.underlying46) (by simp; omega) (by omega)
          have G1 := Lib.hid g1
          have K1 := Lib.hid k1
          have K2 := Lib.hid (show IntsIn w2 v2 (addS l n) by rw [HE.out]; simpa using k2.row)
          have K3 := Lib.hid (k3.intoNil g2 (Nat.le_refl _) hm1)
          have hci : ¬ c = i := by omega
          clear hm0 g1 g2 g3 hm1 hcut k1 k2 k3
          go_wp2_with fail
          refine wp_plan [([0, 1, 4, 5, 6], 2, [6]), ([], 3, [6]), ([], 7, [])] [8] (by kernel_rfl) (by kernel_rfl) ?_
          simp only [wpSegs, opsOf, List.map_cons, List.map_nil, opN, List.getD_cons_zero, List.getD_cons_succ]
          go_wp2_with fail
          refine ⟨by first | trivial | rfl, ?_⟩
          go_wp2_with fail
          refine ⟨?ag1, ?_⟩
          case ag1 =>
            intro i hi hw
            simp only [List.mem_cons, List.not_mem_nil, or_false] at hi
            subst hi
            all_goals (simp only [opN, List.getD_cons_zero, List.getD_cons_succ, slotOf]; go_simp)
          go_wp2_with fail
          refine ⟨by first | trivial | rfl, ?_⟩
          go_wp2_with ((with_reducible refine xAppendAt G1.out rfl rfl ?_ ?_ ?_ ?_); exact rfl; exact rfl; exact rfl)
          refine ⟨?ag2, ?_⟩
          case ag2 =>
            intro i hi hw
            simp only [List.mem_cons, List.not_mem_nil, or_false] at hi
            subst hi
            all_goals (simp only [opN, List.getD_cons_zero, List.getD_cons_succ, slotOf]; go_simp)
          go_wp2_with fail
          refine ⟨by first | trivial | rfl, ?_⟩
          go_wp2_with ((with_reducible refine xAppendAt K1.out rfl rfl ?_ ?_ ?_ ?_); exact rfl; exact rfl; exact rfl)
          refine ⟨again_nil, ?_⟩
          go_wp2_with fail
          refine ⟨by first | trivial | rfl, ?_⟩
          go_wp2_with fail
          go_ret
          exact ⟨_, rfl, K2.out, K3.out⟩
    · have hie : i = l.length := by omega
      have HE := Lib.hid (show addS l n = l ++ [n] by rw [addS_walk l n i hall.out hi (fun h => absurd h hlt), dif_neg hlt])
      have hm0 := (Mod.refl [] wr).drew
      obtain ⟨v1, w1, g1, g2, g3⟩ := own_append1 elemInt encI_len encI_one (hown.out.kept0 hm0) (Nat.le_trans hM.out.size hm0.size) (ty := 46) n (by simp; omega) (by omega)
      have hm1 := g3.intoNil (hown.out.kept0 hm0) (Nat.le_refl _) (hM.out.trans hm0)
      have hcut := (H.out.kept0 hm1).cut encI_len i (by omega)
      rw [Nat.mul_one] at hcut
      have HTK := Lib.hid (show l.take i ++ [n] ++ l.drop i = addS l n by rw [HE.out, hie]; simp)
      obtain ⟨v2, w2, k1, k2, k3⟩ := own_append elemInt encI_len g2 hm1.size (ty := 46) (hcut.src encI_len encI_one Tryz.underlying46) (by simp; omega) (by omega)
      have G1 := Lib.hid g1
      have K1 := Lib.hid k1
      have K2 := Lib.hid (show IntsIn w2 v2 (addS l n) by rw [← HTK.out]; exact k2.row)
      have K3 := Lib.hid (k3.intoNil g2 (Nat.le_refl _) hm1)
      clear hm0 g1 g2 g3 hm1 hcut k1 k2 k3 hie
      by_cases hci : c = i
      · subst hci
        rw [if_pos rfl, Nat.sub_self] at K1
        go_wp2_with fail
        refine wp_plan [([0, 1, 4, 5, 6], 2, [6]), ([], 3, [6]), ([], 7, [])] [8] (by kernel_rfl) (by kernel_rfl) ?_
        simp only [wpSegs, opsOf, List.map_cons, List.map_nil, opN, List.getD_cons_zero, List.getD_cons_succ]
        go_wp2_with fail
        refine ⟨by first | trivial | rfl, ?_⟩
        go_wp2_with fail
        refine ⟨?ag3, ?_⟩
        case ag3 =>
          intro i hi hw
          simp only [List.mem_cons, List.not_mem_nil, or_false] at hi
          subst hi
          all_goals (simp only [opN, List.getD_cons_zero, List.getD_cons_succ, slotOf]; go_simp)
        go_wp2_with fail
        refine ⟨by first | trivial | rfl, ?_⟩
        go_wp2_with ((with_reducible refine xAppendAt G1.out rfl rfl ?_ ?_ ?_ ?_); exact rfl; exact rfl; exact rfl)
        refine ⟨?ag4, ?_⟩
        case ag4 =>
          intro i hi hw
          simp only [List.mem_cons, List.not_mem_nil, or_false] at hi
          subst hi
          all_goals (simp only [opN, List.getD_cons_zero, List.getD_cons_succ, slotOf]; go_simp)
        go_wp2_with fail
        refine ⟨by first | trivial | rfl, ?_⟩
        go_wp2_with ((with_reducible refine xAppendAt K1.out rfl rfl ?_ ?_ ?_ ?_); exact rfl; exact rfl; exact rfl)
        refine ⟨again_nil, ?_⟩
        go_wp2_with fail
        refine ⟨by first | trivial | rfl, ?_⟩
        go_wp2_with fail
        go_ret
        exact ⟨_, rfl, K2.out, K3.out⟩
      · rw [if_neg hci] at K1
        go_wp2_with fail
        refine wp_plan [([0, 1, 4, 5, 6], 2, [6]), ([], 3, [6]), ([], 7, [])] [8] (by kernel_rfl) (by kernel_rfl) ?_
        simp only [wpSegs, opsOf, List.map_cons, List.map_nil, opN, List.getD_cons_zero, List.getD_cons_succ]
        go_wp2_with fail
        refine ⟨by first | trivial | rfl, ?_⟩
        go_wp2_with fail
        refine ⟨?ag5, ?_⟩
        case ag5 =>
          intro i hi hw
          simp only [List.mem_cons, List.not_mem_nil, or_false] at hi
          subst hi
          all_goals (simp only [opN, List.getD_cons_zero, List.getD_cons_succ, slotOf]; go_simp)
        go_wp2_with fail
        refine ⟨by first | trivial | rfl, ?_⟩
        go_wp2_with ((with_reducible refine xAppendAt G1.out rfl rfl ?_ ?_ ?_ ?_); exact rfl; exact rfl; exact rfl)
        refine ⟨?ag6, ?_⟩
        case ag6 =>
          intro i hi hw
          simp only [List.mem_cons, List.not_mem_nil, or_false] at hi
          subst hi
          all_goals (simp only [opN, List.getD_cons_zero, List.getD_cons_succ, slotOf]; go_simp)
        go_wp2_with fail
        refine ⟨by first | trivial | rfl, ?_⟩
        go_wp2_with ((with_reducible refine xAppendAt K1.out rfl rfl ?_ ?_ ?_ ?_); exact rfl; exact rfl; exact rfl)
        refine ⟨again_nil, ?_⟩
        go_wp2_with fail
        refine ⟨by first | trivial | rfl, ?_⟩
        go_wp2_with fail
        go_ret
        exact ⟨_, rfl, K2.out, K3.out⟩
theorem cell_kept {w w' : World} {p : Addr} {u : Value} (h : w.cell? p = some u) (hm : Mod [] w w') : w'.cell? p = some u := by
  have hb : p.block < w.heap.size := by
    apply Classical.byContradiction
    intro hge
    simp only [World.cell?] at h
    rw [Array.getElem?_eq_none (by omega)] at h
    cases h
  rw [← h]
  exact World.cell?_of_block (hm.block _ hb (by simp))
set_option maxHeartbeats 2000000 in
theorem rEnds_any (u v : Value) (E : List Int) (l : List Sp) (w : World) (hu : IntsIn w u E) (h : SpansAt w v l) (hE : E.length ≤ 100000) (hl : l.length ≤ 100000) :
    Calls Tryz.prog 46 #[u, v] w fun e w' => ∃ v', e = .returned v' ∧ IntsIn w' v' (endsS E l) ∧ Mod [] w w' := by
  have H := Lib.hid h
  have HU := Lib.hid hu
  obtain ⟨a, c, rfl⟩ := h.form
  clear h hu
  go_enter Tryz.func46, Tryz.ntmps46
  go_wp2_with fail
  go_loopw [0, 5] (fun s0 s5 wr => ∃ i : Nat, i ≤ l.length ∧ s5 = .int .i64 i ∧ Hid (IntsIn wr s0 (endsS E (l.take i))) ∧ Hid (Mod [] w wr)) (fun _ s5 _ => l.length - (intOf s5).toNat)
  case atStart => exact ⟨0, by omega, rfl, Lib.hid (by simpa [endsS] using HU.out), Lib.hid (Mod.refl _ _)⟩
  case round =>
    obtain ⟨i, hi, rfl, hI, hM⟩ := hrel
    by_cases hlt : i < l.length
    · obtain ⟨b, o, rfl, hc, c0, c1⟩ := (H.out.kept0 hM.out).get2 hlt
      have HT := Lib.hid (show endsS E (l.take (i + 1)) = addS (addS (endsS E (l.take i)) (held l[i].1)) (held l[i].2) by
        rw [List.take_succ_eq_append_getElem hlt, endsS_snoc]; rfl)
      have HLN := Lib.hid (show (endsS E (l.take i)).length ≤ 400000 by
        have := length_endsS (l.take i) E
        rw [List.length_take] at this
        omega)
      generalize l[i] = x at c0 c1 HT
      obtain ⟨x1, x2⟩ := x
      dsimp only at c0 c1 HT
      have hm0 := (Mod.refl [] wr).drew
      have HA := Lib.hid (rAdd_any u0 (endsS E (l.take i)) (held x1) wr.drew (hI.out.kept0 hm0) (by have := HLN.out; omega))
      have HM0 := Lib.hid hm0
      have c2 : wr.drew.cell? ⟨b, o + i * 2, none⟩ = some (.int .i64 x1) := c0
      have c3 : wr.drew.cell? ⟨b, o + i * 2 + 1, none⟩ = some (.int .i64 x2) := c1
      clear hm0
      go_wp2_with fail
      refine wp_plan [([0, 1, 2, 8, 9, 3, 10, 4, 11, 5, 12], 6, [10, 11, 12]), ([], 7, [10, 11, 12]), ([], 13, []), ([], 14, []), ([], 15, [])] [] (by kernel_rfl) (by kernel_rfl) ?_
      simp only [wpSegs, opsOf, List.map_cons, List.map_nil, opN, List.getD_cons_zero, List.getD_cons_succ]
      go_wp2_with fail
      refine ⟨by first | trivial | rfl, ?_⟩
      go_wp2_with fail
      refine (rHeld_any _ _).mono ?_
      rintro e w1 ⟨rfl, rfl⟩
      go_wp2_with fail
      refine ⟨?ag1, ?_⟩
      case ag1 =>
        intro i hi hw
        simp only [List.mem_cons, List.not_mem_nil, or_false] at hi
        rcases hi with rfl | rfl | rfl
        all_goals (simp only [opN, List.getD_cons_zero, List.getD_cons_succ, slotOf]; go_simp)
      go_wp2_with fail
      refine ⟨by first | trivial | rfl, ?_⟩
      go_wp2_with fail
      refine HA.out.mono ?_
      rintro e w2 ⟨v2, rfl, i2, m2⟩
      have c4 := cell_kept c3 m2
      have HB := Lib.hid (rAdd_any v2 (addS (endsS E (l.take i)) (held x1)) (held x2) w2 i2 (by have := HLN.out; have := length_addS (endsS E (l.take i)) (held x1); omega))
      have HM2 := Lib.hid ((hM.out.trans HM0.out).trans m2)
      clear i2 m2
      go_wp2_with fail
      refine ⟨?ag2, ?_⟩
      case ag2 =>
        intro i hi hw
        simp only [List.mem_cons, List.not_mem_nil, or_false] at hi
        rcases hi with rfl | rfl | rfl
        all_goals (simp only [opN, List.getD_cons_zero, List.getD_cons_succ, slotOf]; go_simp)
      go_wp2_with fail
      refine ⟨by first | trivial | rfl, ?_⟩
      go_wp2_with fail
      refine (rHeld_any _ _).mono ?_
      rintro e w1 ⟨rfl, rfl⟩
      go_wp2_with fail
      refine ⟨again_nil, ?_⟩
      go_wp2_with fail
      refine ⟨by first | trivial | rfl, ?_⟩
      go_wp2_with fail
      refine HB.out.mono ?_
      rintro e w3 ⟨v3, rfl, i3, m3⟩
      have HI3 := Lib.hid (show IntsIn w3 v3 (endsS E (l.take (i + 1))) by rw [HT.out]; exact i3)
      have HM3 := Lib.hid (HM2.out.trans m3)
      clear i3 m3
      go_wp2_with fail
      refine ⟨again_nil, ?_⟩
      go_wp2_with fail
      refine ⟨by first | trivial | rfl, ?_⟩
      go_wp2_with fail
      refine ⟨again_nil, ?_⟩
      go_wp2_with fail
      refine ⟨by first | trivial | rfl, ?_⟩
      go_wp2_with fail
      go_roundw
      case rel => exact ⟨i + 1, by omega, by go_num, HI3, HM3⟩
      case measure => simp [intOf]; omega
    · have HI := Lib.hid (show endsS E (l.take i) = endsS E l by rw [List.take_of_length_le (by omega)])
      go_wp2_with fail
      go_ret
      exact ⟨_, rfl, by rw [← HI.out]; exact hI.out, hM.out⟩
end Go.Proofs.YtefaihockgebeaaGreat
