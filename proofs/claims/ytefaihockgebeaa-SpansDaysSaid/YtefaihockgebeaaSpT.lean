/- SpansDays: the walk. -/
import Derived.Test.YtefaihockgebeaaSpS
namespace Go.Proofs.Ytefaihockgebeaa
open Go.RowKit Go.ChangeMaps Go.Deep
set_option linter.unusedSimpArgs false
set_option linter.unusedVariables false
set_option maxRecDepth 20000

theorem spHas_val (v : Value) (l : List Sp) (d : Int) (w : World) (h : SpansAt w v l) (hl : l.length ≤ 1000000) {z : Bool} (hz : hasB l d = z) :
    Calls Try.prog 36 #[v, .int .i64 d] w fun e w' => e = .returned (.bool z) ∧ Mod [] w w' := by
  subst hz
  exact spHas_any v l d w h hl
theorem spMay_true (v : Value) (l : List Sp) (w : World) (h : SpansAt w v l) (hl : l.length ≤ 1000000) (hr : Right 0 l) :
    Calls Try.prog 37 #[v] w fun e w' => e = .returned (.bool true) ∧ Mod [] w w' := by
  have := spMay_any v l w h hl
  rwa [mayB_iff.2 hr] at this
def nearTo (a : List Sp) (lo z : Int) : Bool := (List.range (z - lo).toNat).any fun i => hasB a (lo + i)
theorem nearTo_start (a : List Sp) (lo : Int) : nearTo a lo lo = false := by simp [nearTo]
theorem nearTo_succ (a : List Sp) {lo z : Int} (h : lo ≤ z) : nearTo a lo (z + 1) = (nearTo a lo z || hasB a z) := by
  unfold nearTo
  rw [show (z + 1 - lo).toNat = (z - lo).toNat + 1 by omega, List.range_succ, List.any_append]
  simp only [List.any_cons, List.any_nil, Bool.or_false]
  rw [show lo + (((z - lo).toNat : Nat) : Int) = z by omega]
theorem nearTo_iff {a : List Sp} {lo z : Int} : nearTo a lo z = true ↔ ∃ e, lo ≤ e ∧ e < z ∧ hasB a e = true := by
  unfold nearTo
  rw [List.any_eq_true]
  constructor
  · rintro ⟨i, hi, h⟩
    have := List.mem_range.1 hi
    exact ⟨lo + i, by omega, by omega, h⟩
  · rintro ⟨e, h1, h2, h3⟩
    refine ⟨(e - lo).toNat, List.mem_range.2 (by omega), ?_⟩
    rw [show lo + (((e - lo).toNat : Nat) : Int) = e by omega]
    exact h3
theorem wide_near {a m o : List Sp} {k d : Int} (hk : 0 ≤ k) (h1 : IsOf a m) (h2 : IsOf (wideL m (clampK k)) o) (d1 : 1 ≤ d) (d2 : d < 3652060) : hasB o d = nearTo a (max (d - k) 1) (d + 1) := by
  rw [hasB_in d1 d2, Bool.eq_iff_iff, inB_iff, nearTo_iff, wide_in h1 h2 rfl hk]
  constructor
  · rintro ⟨_, _, e, e1, e2, e3, e4⟩
    exact ⟨e, by omega, by omega, by rw [hasB_in e1 (by omega)]; exact inB_iff.2 e4⟩
  · rintro ⟨e, e1, e2, e3⟩
    rw [hasB_in (by omega) (by omega)] at e3
    exact ⟨d1, d2, e, by omega, by omega, by omega, inB_iff.1 e3⟩
set_option maxHeartbeats 4000000 in
theorem days_known (va vb : Value) (a b : List Sp) (k n : Int) (w : World) (ha : SpansAt w va a) (hb : SpansAt w vb b) (hq : manyL [a, b] = true ∨ k < 0 ∨ 50 < k ∨ n < 1 ∨ 3652059 < n) :
    Calls Try.prog 7 #[va, vb, .int .i64 k, .int .i64 n] w fun e w' => e = .returned (.bool true) ∧ Mod [] w w' := by
  have HG := Lib.hid (great_two _ _ a b w ha hb)
  obtain ⟨aa, ca, rfl⟩ := ha.form
  obtain ⟨ab, cb, rfl⟩ := hb.form
  clear ha hb
  have HQ := Lib.hid (manyL [a, b]).eq_false_or_eq_true
  have HQ2 := Lib.hid hq
  clear hq
  rcases HQ.out with hq | hq
  · rw [hq] at HG
    clear hq HQ HQ2
    go_enter Try.func7, Try.ntmps7
    go_wp2_with fail
    refine HG.out.mono ?_
    rintro e w1 ⟨rfl, m1⟩
    have M1 := Lib.hid m1
    clear m1
    go_wp2_with fail
    refine (known07_any w1).mono ?_
    rintro e w2 ⟨rfl, m2⟩
    have M2 := Lib.hid m2
    clear m2
    go_wp2_with fail
    go_ret
    exact ⟨rfl, M1.out.trans M2.out⟩
  · have hk : k < 0 ∨ 50 < k ∨ n < 1 ∨ 3652059 < n := by
      rcases HQ2.out with h | h
      · rw [hq] at h; cases h
      · exact h
    rw [hq] at HG
    have HK := Lib.hid hk
    clear hq HQ HQ2 hk
    by_cases k1 : k < 0
    · go_enter Try.func7, Try.ntmps7
      go_wp2_with fail
      refine HG.out.mono ?_
      rintro e w1 ⟨rfl, m1⟩
      have M1 := Lib.hid m1
      clear m1
      go_wp2_with fail
      refine (known07_any w1).mono ?_
      rintro e w2 ⟨rfl, m2⟩
      have M2 := Lib.hid m2
      clear m2
      go_wp2_with fail
      go_ret
      exact ⟨rfl, M1.out.trans M2.out⟩
    · by_cases k2 : 50 < k
      · go_enter Try.func7, Try.ntmps7
        go_wp2_with fail
        refine HG.out.mono ?_
        rintro e w1 ⟨rfl, m1⟩
        have M1 := Lib.hid m1
        clear m1
        go_wp2_with fail
        refine (known07_any w1).mono ?_
        rintro e w2 ⟨rfl, m2⟩
        have M2 := Lib.hid m2
        clear m2
        go_wp2_with fail
        go_ret
        exact ⟨rfl, M1.out.trans M2.out⟩
      · by_cases k3 : n < 1
        · go_enter Try.func7, Try.ntmps7
          go_wp2_with fail
          refine HG.out.mono ?_
          rintro e w1 ⟨rfl, m1⟩
          have M1 := Lib.hid m1
          clear m1
          go_wp2_with fail
          refine (known07_any w1).mono ?_
          rintro e w2 ⟨rfl, m2⟩
          have M2 := Lib.hid m2
          clear m2
          go_wp2_with fail
          go_ret
          exact ⟨rfl, M1.out.trans M2.out⟩
        · have k4 : 3652059 < n := by have := HK.out; omega
          go_enter Try.func7, Try.ntmps7
          go_wp2_with fail
          refine HG.out.mono ?_
          rintro e w1 ⟨rfl, m1⟩
          have M1 := Lib.hid m1
          clear m1
          go_wp2_with fail
          refine (known07_any w1).mono ?_
          rintro e w2 ⟨rfl, m2⟩
          have M2 := Lib.hid m2
          clear m2
          go_wp2_with fail
          go_ret
          exact ⟨rfl, M1.out.trans M2.out⟩
set_option maxHeartbeats 16000000 in
theorem days_walk (va vb : Value) (a b : List Sp) (k n : Int) (w : World) (ha : SpansAt w va a) (hb : SpansAt w vb b) (hla : a.length ≤ 60) (hlb : b.length ≤ 60) (hk0 : 0 ≤ k) (hk1 : k ≤ 50) (hn0 : 1 ≤ n) (hn1 : n ≤ 3652059) :
    Calls Try.prog 7 #[va, vb, .int .i64 k, .int .i64 n] w fun e w' => e = .returned (.bool true) ∧ Mod [] w w' := by
  have HA := Lib.hid ha
  have HB := Lib.hid hb
  obtain ⟨aa, ca, rfl⟩ := ha.form
  obtain ⟨ab, cb, rfl⟩ := hb.form
  clear ha hb
  have HG := Lib.hid (great_two _ _ a b w HA.out HB.out)
  rw [show manyL [a, b] = false by rw [manyL_two]; simp; omega] at HG
  obtain ⟨X, hX⟩ : ∃ X, inB a n = X := ⟨_, rfl⟩
  obtain ⟨Y, hY⟩ : ∃ Y, inB b n = Y := ⟨_, rfl⟩
  have HX := Lib.hid (show hasB a n = X by rw [hasB_in hn0 (by omega)]; exact hX)
  have HY := Lib.hid (show hasB b n = Y by rw [hasB_in hn0 (by omega)]; exact hY)
  have HX' := Lib.hid hX
  have HY' := Lib.hid hY
  clear hX hY
  go_enter Try.func7, Try.ntmps7
  go_wp2_with fail
  refine HG.out.mono ?_
  rintro e w1 ⟨rfl, m1⟩
  have M1 := Lib.hid m1
  clear m1
  have C2 := Lib.hid (spUnion_any _ _ a b _ (HA.out.kept0 M1.out) (HB.out.kept0 M1.out) (by omega) (by omega))
  go_wp2_with fail
  refine C2.out.mono ?_
  rintro e w2 ⟨vu, lu, rfl, ou, m2, fu, nu⟩
  have M2 : Hid (Mod [] w1 w2) := Lib.hid m2
  have Ru := Lib.hid ou.row
  have Iu := Lib.hid fu.1
  have Fu := Lib.hid (show hasB lu n = (X || Y) by rw [hasB_in hn0 (by omega), fu.inB hn0 (by omega), HX'.out, HY'.out])
  obtain ⟨qu, ku, rfl⟩ := Ru.out.form
  clear ou fu
  clear m2 C2
  have C3 := Lib.hid (spMeet_any _ _ a b _ (HA.out.kept0 (M1.out.trans M2.out)) (HB.out.kept0 (M1.out.trans M2.out)) (by omega) (by omega))
  go_wp2_with fail
  refine C3.out.mono ?_
  rintro e w3 ⟨vm, lm, rfl, om, m3, fm, nm⟩
  have M3 : Hid (Mod [] w2 w3) := Lib.hid m3
  have Rm := Lib.hid om.row
  have Im := Lib.hid fm.1
  have Fm := Lib.hid (show hasB lm n = (X && Y) by rw [hasB_in hn0 (by omega), fm.inB hn0 (by omega), HX'.out, HY'.out])
  obtain ⟨qm, km, rfl⟩ := Rm.out.form
  clear om fm
  clear m3 C3
  have C4 := Lib.hid (spLess_any _ _ a b _ (HA.out.kept0 (M1.out.trans (M2.out.trans M3.out))) (HB.out.kept0 (M1.out.trans (M2.out.trans M3.out))) (by omega) (by omega))
  go_wp2_with fail
  refine C4.out.mono ?_
  rintro e w4 ⟨vl, ll, rfl, ol, m4, fl, nl⟩
  have M4 : Hid (Mod [] w3 w4) := Lib.hid m4
  have Rl := Lib.hid ol.row
  have Il := Lib.hid fl.1
  have Fl := Lib.hid (show hasB ll n = (X && !Y) by rw [hasB_in hn0 (by omega), fl.inB hn0 (by omega), HX'.out, HY'.out])
  obtain ⟨ql, kl, rfl⟩ := Rl.out.form
  clear ol fl
  clear m4 C4
  have C5 := Lib.hid (spWide_any _ a k _ (HA.out.kept0 (M1.out.trans (M2.out.trans (M3.out.trans M4.out)))) (by omega))
  go_wp2_with fail
  refine C5.out.mono ?_
  rintro e w5 ⟨vw, dw, lw, rfl, ow, m5, ew, fw, nw⟩
  have M5 : Hid (Mod [] w4 w5) := Lib.hid m5
  have Rw := Lib.hid ow.row
  have Iw := Lib.hid fw.1
  have Fw := Lib.hid (wide_near hk0 ew fw hn0 (by omega))
  obtain ⟨qw, kw, rfl⟩ := Rw.out.form
  clear ow fw ew
  clear m5 C5
  have C6 := Lib.hid (spHas_val _ a n _ (HA.out.kept0 (M1.out.trans (M2.out.trans (M3.out.trans (M4.out.trans M5.out))))) (by omega) HX.out)
  go_wp2_with fail
  refine C6.out.mono ?_
  rintro e w6 ⟨rfl, m6⟩
  have M6 : Hid (Mod [] w5 w6) := Lib.hid m6
  clear m6 C6
  have C7 := Lib.hid (spHas_val _ b n _ (HB.out.kept0 (M1.out.trans (M2.out.trans (M3.out.trans (M4.out.trans (M5.out.trans M6.out)))))) (by omega) HY.out)
  go_wp2_with fail
  refine C7.out.mono ?_
  rintro e w7 ⟨rfl, m7⟩
  have M7 : Hid (Mod [] w6 w7) := Lib.hid m7
  clear m7 C7
  go_wp2_with fail
  have hlo : 1 ≤ max (n - k) 1 ∧ max (n - k) 1 ≤ n := by omega
  obtain ⟨lo, hlo2⟩ : ∃ lo, lo = max (n - k) 1 := ⟨_, rfl⟩
  rw [← hlo2] at hlo
  have HLO := Lib.hid hlo2
  rw [← hlo2]
  clear hlo2
  go_loopw [15, 16] (fun s15 s16 wr => ∃ (z : Int) (nb : Bool), lo ≤ z ∧ z ≤ n + 1 ∧ s16 = .int .i64 z ∧ s15 = .bool nb ∧ Hid (nb = nearTo a lo z) ∧ Hid (Mod [] w7 wr)) (fun _ s16 _ => (n + 1 - intOf s16).toNat)
  case atStart => exact ⟨lo, false, by omega, by omega, rfl, rfl, Lib.hid (nearTo_start a lo).symm, Lib.hid (Mod.refl _ _)⟩
  case round =>
    obtain ⟨z, nb, hz0, hz1, rfl, rfl, hnb, hM⟩ := hrel
    by_cases hlt : z ≤ n
    · have HS := Lib.hid (nearTo_succ a hz0)
      cases nb with
      | true =>
        have HN := Lib.hid (show true = nearTo a lo (z + 1) by rw [HS.out, ← hnb.out]; rfl)
        go_wp2_with fail
        go_roundw
        case rel => exact ⟨z + 1, true, by omega, by omega, rfl, rfl, HN, hM⟩
        case measure => simp [intOf]; omega
      | false =>
        have HN := Lib.hid (show hasB a z = nearTo a lo (z + 1) by rw [HS.out, ← hnb.out]; rfl)
        have HC := Lib.hid (spHas_any _ a z wr (HA.out.kept0 ((M1.out.trans (M2.out.trans (M3.out.trans (M4.out.trans (M5.out.trans (M6.out.trans M7.out)))))).trans hM.out)) (by omega))
        go_wp2_with fail
        refine HC.out.mono ?_
        rintro e wx ⟨rfl, mx⟩
        have HMX := Lib.hid (hM.out.trans mx)
        clear mx
        go_wp2_with fail
        go_roundw
        case rel => exact ⟨z + 1, hasB a z, by omega, by omega, rfl, rfl, HN, HMX⟩
        case measure => simp [intOf]; omega
    · have HN := Lib.hid (show hasB lw n = nb by rw [Fw.out, hnb.out, ← HLO.out, show z = n + 1 by omega])
      obtain ⟨M8, _⟩ : ∃ M : Hid (Mod [] w7 wr), True := ⟨hM, trivial⟩
      cases X <;> cases Y <;> cases nb
      all_goals
      obtain ⟨w8, rfl⟩ : ∃ w' : World, w' = wr := ⟨_, rfl⟩
      have C9 := Lib.hid (spHas_val _ lu n _ (Ru.out.kept0 (M3.out.trans (M4.out.trans (M5.out.trans (M6.out.trans (M7.out.trans M8.out)))))) (by omega) Fu.out)
      go_wp2_with fail
      refine C9.out.mono ?_
      rintro e w9 ⟨rfl, m9⟩
      have M9 : Hid (Mod [] w8 w9) := Lib.hid m9
      clear m9 C9
      have C10 := Lib.hid (spHas_val _ lm n _ (Rm.out.kept0 (M4.out.trans (M5.out.trans (M6.out.trans (M7.out.trans (M8.out.trans M9.out)))))) (by omega) Fm.out)
      go_wp2_with fail
      refine C10.out.mono ?_
      rintro e w10 ⟨rfl, m10⟩
      have M10 : Hid (Mod [] w9 w10) := Lib.hid m10
      clear m10 C10
      have C11 := Lib.hid (spHas_val _ ll n _ (Rl.out.kept0 (M5.out.trans (M6.out.trans (M7.out.trans (M8.out.trans (M9.out.trans M10.out)))))) (by omega) Fl.out)
      go_wp2_with fail
      refine C11.out.mono ?_
      rintro e w11 ⟨rfl, m11⟩
      have M11 : Hid (Mod [] w10 w11) := Lib.hid m11
      clear m11 C11
      have C12 := Lib.hid (spHas_val _ lw n _ (Rw.out.kept0 (M6.out.trans (M7.out.trans (M8.out.trans (M9.out.trans (M10.out.trans M11.out)))))) (by omega) HN.out)
      go_wp2_with fail
      refine C12.out.mono ?_
      rintro e w12 ⟨rfl, m12⟩
      have M12 : Hid (Mod [] w11 w12) := Lib.hid m12
      clear m12 C12
      have C13 := Lib.hid (spMay_true _ lu _ (Ru.out.kept0 (M3.out.trans (M4.out.trans (M5.out.trans (M6.out.trans (M7.out.trans (M8.out.trans (M9.out.trans (M10.out.trans (M11.out.trans M12.out)))))))))) (by omega) Iu.out)
      go_wp2_with fail
      refine C13.out.mono ?_
      rintro e w13 ⟨rfl, m13⟩
      have M13 : Hid (Mod [] w12 w13) := Lib.hid m13
      clear m13 C13
      have C14 := Lib.hid (spMay_true _ lm _ (Rm.out.kept0 (M4.out.trans (M5.out.trans (M6.out.trans (M7.out.trans (M8.out.trans (M9.out.trans (M10.out.trans (M11.out.trans (M12.out.trans M13.out)))))))))) (by omega) Im.out)
      go_wp2_with fail
      refine C14.out.mono ?_
      rintro e w14 ⟨rfl, m14⟩
      have M14 : Hid (Mod [] w13 w14) := Lib.hid m14
      clear m14 C14
      have C15 := Lib.hid (spMay_true _ ll _ (Rl.out.kept0 (M5.out.trans (M6.out.trans (M7.out.trans (M8.out.trans (M9.out.trans (M10.out.trans (M11.out.trans (M12.out.trans (M13.out.trans M14.out)))))))))) (by omega) Il.out)
      go_wp2_with fail
      refine C15.out.mono ?_
      rintro e w15 ⟨rfl, m15⟩
      have M15 : Hid (Mod [] w14 w15) := Lib.hid m15
      clear m15 C15
      have C16 := Lib.hid (spMay_true _ lw _ (Rw.out.kept0 (M6.out.trans (M7.out.trans (M8.out.trans (M9.out.trans (M10.out.trans (M11.out.trans (M12.out.trans (M13.out.trans (M14.out.trans M15.out)))))))))) (by omega) Iw.out)
      go_wp2_with fail
      refine C16.out.mono ?_
      rintro e w16 ⟨rfl, m16⟩
      have M16 : Hid (Mod [] w15 w16) := Lib.hid m16
      clear m16 C16
      have C17 := Lib.hid (spAll_any w16)
      go_wp2_with fail
      refine C17.out.mono ?_
      rintro e w17 ⟨vA, rfl, rA, m17⟩
      have M17 : Hid (Mod [] w16 w17) := Lib.hid m17
      have RA := Lib.hid rA
      obtain ⟨qA, kA, rfl⟩ := RA.out.form
      clear rA
      clear m17 C17
      have C18 := Lib.hid (spHas_val _ [(1, 3652060)] n _ RA.out (by simp) (show hasB [(1, 3652060)] n = true by rw [hasB_in hn0 (by omega)]; simp [inB]; omega))
      go_wp2_with fail
      refine C18.out.mono ?_
      rintro e w18 ⟨rfl, m18⟩
      have M18 : Hid (Mod [] w17 w18) := Lib.hid m18
      clear m18 C18
      have C19 := Lib.hid (known07_any w18)
      go_wp2_with fail
      refine C19.out.mono ?_
      rintro e w19 ⟨rfl, m19⟩
      have M19 : Hid (Mod [] w18 w19) := Lib.hid m19
      clear m19 C19
      go_wp2_with fail
      go_ret
      exact ⟨rfl, (M1.out.trans (M2.out.trans (M3.out.trans (M4.out.trans (M5.out.trans (M6.out.trans (M7.out.trans (M8.out.trans (M9.out.trans (M10.out.trans (M11.out.trans (M12.out.trans (M13.out.trans (M14.out.trans (M15.out.trans (M16.out.trans (M17.out.trans (M18.out.trans M19.out))))))))))))))))))⟩
theorem days_any (va vb : Value) (a b : List Sp) (k n : Int) (w : World) (ha : SpansAt w va a) (hb : SpansAt w vb b) :
    Calls Try.prog 7 #[va, vb, .int .i64 k, .int .i64 n] w fun e w' => e = .returned (.bool true) ∧ Mod [] w w' := by
  by_cases h : manyL [a, b] = true ∨ k < 0 ∨ 50 < k ∨ n < 1 ∨ 3652059 < n
  · exact days_known va vb a b k n w ha hb h
  · have h1 : ¬ manyL [a, b] = true := fun e => h (.inl e)
    rw [manyL_two] at h1
    simp at h1
    exact days_walk va vb a b k n w ha hb (by omega) (by omega) (by omega) (by omega) (by omega) (by omega)
end Go.Proofs.Ytefaihockgebeaa
