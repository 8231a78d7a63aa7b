/- SpansLaws: the walk. -/
import Derived.Test.YtefaihockgebeaaSpR
namespace Go.Proofs.Ytefaihockgebeaa
open Go.RowKit Go.ChangeMaps Go.Deep
set_option linter.unusedSimpArgs false
set_option linter.unusedVariables false
set_option maxRecDepth 20000

theorem union_comm {a b l m : List Sp} (h : IsBoth (· || ·) a b l) (k : IsBoth (· || ·) b a m) : l = m := h.one k fun _ _ _ => Bool.or_comm _ _
theorem meet_comm {a b l m : List Sp} (h : IsBoth (· && ·) a b l) (k : IsBoth (· && ·) b a m) : l = m := h.one k fun _ _ _ => Bool.and_comm _ _
theorem less_add {a b u l x : List Sp} (hu : IsBoth (· || ·) a b u) (hl : IsBoth (fun x y => x && !y) a b l) (hx : IsBoth (· || ·) l b x) : x = u := hx.one hu fun d h1 h2 => by
  rw [hl.inB h1 h2]; cases inB a d <;> cases inB b d <;> rfl
theorem parts_all {a b l m x : List Sp} {o : List Sp} (hl : IsBoth (fun x y => x && !y) a b l) (hm : IsBoth (· && ·) a b m) (hx : IsBoth (· || ·) l m x) (ho : IsOf a o) : x = o := hx.one ho.both fun d h1 h2 => by
  rw [hl.inB h1 h2, hm.inB h1 h2]; cases inB a d <;> cases inB b d <;> rfl
theorem nil_right : Right 0 [] := trivial
theorem less_meet {a b l x : List Sp} (hl : IsBoth (fun x y => x && !y) a b l) (hx : IsBoth (· && ·) l b x) : x = [] := right_one hx.1 nil_right fun d => by
  rw [hx.2]
  constructor
  · rintro ⟨h1, h2, h3⟩
    rw [hl.inB h1 h2] at h3
    cases h : inB b d <;> simp [h] at h3
  · intro h; exact (in_nil d h).elim
theorem inB_zero {l : List Sp} (h : Right 0 l) : inB l 0 = false := inB_false.2 fun k => by have := Right.ahead h k; omega
theorem days_sum {a b u m u' m' a' b' : List Sp} (hu : IsBoth (· || ·) a b u) (hm : IsBoth (· && ·) a b m) (hu' : IsOf u u') (hm' : IsOf m m') (ha : IsOf a a') (hb : IsOf b b') : daysL u' + daysL m' = daysL a' + daysL b' := by
  rw [← cnt_days (Int.le_refl 0) hu'.1, ← cnt_days (Int.le_refl 0) hm'.1, ← cnt_days (Int.le_refl 0) ha.1, ← cnt_days (Int.le_refl 0) hb.1]
  refine cnt_add fun d h0 hd => ?_
  by_cases h : d = 0
  · subst h
    rw [inB_zero hu'.1, inB_zero hm'.1, inB_zero ha.1, inB_zero hb.1]
  · have h1 : 1 ≤ d := by omega
    have h2 : d < 3652060 := by simpa using hd
    rw [hu'.inB h1 h2, hm'.inB h1 h2, ha.inB h1 h2, hb.inB h1 h2, hu.inB h1 h2, hm.inB h1 h2]
    cases inB a d <;> cases inB b d <;> rfl
theorem daysL_range {l m : List Sp} (h : IsOf l m) : 0 ≤ daysL m ∧ daysL m ≤ 3652060 := by
  have := daysL_take h.1 m.length
  rwa [List.take_length] at this
theorem wide_twice {a m o m2 o2 m3 o3 : List Sp} {k n : Int} (hk : 0 ≤ k) (hn : 0 ≤ n) (h1 : IsOf a m) (h2 : IsOf (wideL m (clampK k)) o) (h3 : IsOf o m2) (h4 : IsOf (wideL m2 (clampK n)) o2) (h5 : IsOf a m3) (h6 : IsOf (wideL m3 (clampK (k + n))) o3) : o2 = o3 := by
  refine right_one h4.1 h6.1 fun d => ?_
  rw [wide_in h3 h4 rfl hn, wide_in h5 h6 rfl (by omega)]
  constructor
  · rintro ⟨d1, d2, e, e1, e2, e3, e4⟩
    obtain ⟨_, _, f, f1, f2, f3, f4⟩ := (wide_in h1 h2 rfl hk e).1 e4
    exact ⟨d1, d2, f, f1, by omega, by omega, f4⟩
  · rintro ⟨d1, d2, f, f1, f2, f3, f4⟩
    refine ⟨d1, d2, min d (f + k), by omega, by omega, by omega, (wide_in h1 h2 rfl hk _).2 ⟨by omega, by omega, f, f1, by omega, by omega, f4⟩⟩
theorem less_all {a x y o : List Sp} (hx : IsBoth (fun x y => x && !y) [(1, 3652060)] a x) (hy : IsBoth (fun x y => x && !y) [(1, 3652060)] x y) (ho : IsOf a o) : y = o := hy.one ho.both fun d h1 h2 => by
  rw [hx.inB h1 h2]
  have : inB [(1, 3652060)] d = true := by simp [inB, h1, h2]
  rw [this]; cases inB a d <;> rfl
set_option maxHeartbeats 4000000 in
theorem laws_known (va vb : Value) (a b : List Sp) (k n : Int) (w : World) (ha : SpansAt w va a) (hb : SpansAt w vb b) (hq : manyL [a, b] = true ∨ k < 0 ∨ 10000000 < k ∨ n < 0 ∨ 10000000 < n) :
    Calls Try.prog 6 #[va, vb, .int .i64 k, .int .i64 n] w fun e w' => e = .returned (.bool true) ∧ Mod [] w w' := by
  have HG := Lib.hid (great_two _ _ a b w ha hb)
  obtain ⟨aa, ca, rfl⟩ := ha.form
  obtain ⟨ab, cb, rfl⟩ := hb.form
  clear ha hb
  have HQ := Lib.hid (manyL [a, b]).eq_false_or_eq_true
  have HQ2 := Lib.hid hq
  clear hq
  rcases HQ.out with hq | hq
  · rw [hq] at HG
    clear hq HQ HQ2
    go_enter Try.func6, Try.ntmps6
    go_wp2_with fail
    refine HG.out.mono ?_
    rintro e w1 ⟨rfl, m1⟩
    have M1 := Lib.hid m1
    clear m1
    go_wp2_with fail
    refine (known07_any w1).mono ?_
    rintro e w2 ⟨rfl, m2⟩
    have M2 := Lib.hid m2
    clear m2
    go_wp2_with fail
    go_ret
    exact ⟨rfl, M1.out.trans M2.out⟩
  · have hk : k < 0 ∨ 10000000 < k ∨ n < 0 ∨ 10000000 < n := by
      rcases HQ2.out with h | h
      · rw [hq] at h; cases h
      · exact h
    rw [hq] at HG
    have HK := Lib.hid hk
    clear hq HQ HQ2 hk
    by_cases k1 : k < 0
    · go_enter Try.func6, Try.ntmps6
      go_wp2_with fail
      refine HG.out.mono ?_
      rintro e w1 ⟨rfl, m1⟩
      have M1 := Lib.hid m1
      clear m1
      go_wp2_with fail
      refine (known07_any w1).mono ?_
      rintro e w2 ⟨rfl, m2⟩
      have M2 := Lib.hid m2
      clear m2
      go_wp2_with fail
      go_ret
      exact ⟨rfl, M1.out.trans M2.out⟩
    · by_cases k2 : 10000000 < k
      · go_enter Try.func6, Try.ntmps6
        go_wp2_with fail
        refine HG.out.mono ?_
        rintro e w1 ⟨rfl, m1⟩
        have M1 := Lib.hid m1
        clear m1
        go_wp2_with fail
        refine (known07_any w1).mono ?_
        rintro e w2 ⟨rfl, m2⟩
        have M2 := Lib.hid m2
        clear m2
        go_wp2_with fail
        go_ret
        exact ⟨rfl, M1.out.trans M2.out⟩
      · by_cases k3 : n < 0
        · go_enter Try.func6, Try.ntmps6
          go_wp2_with fail
          refine HG.out.mono ?_
          rintro e w1 ⟨rfl, m1⟩
          have M1 := Lib.hid m1
          clear m1
          go_wp2_with fail
          refine (known07_any w1).mono ?_
          rintro e w2 ⟨rfl, m2⟩
          have M2 := Lib.hid m2
          clear m2
          go_wp2_with fail
          go_ret
          exact ⟨rfl, M1.out.trans M2.out⟩
        · have k4 : 10000000 < n := by have := HK.out; omega
          go_enter Try.func6, Try.ntmps6
          go_wp2_with fail
          refine HG.out.mono ?_
          rintro e w1 ⟨rfl, m1⟩
          have M1 := Lib.hid m1
          clear m1
          go_wp2_with fail
          refine (known07_any w1).mono ?_
          rintro e w2 ⟨rfl, m2⟩
          have M2 := Lib.hid m2
          clear m2
          go_wp2_with fail
          go_ret
          exact ⟨rfl, M1.out.trans M2.out⟩
set_option maxHeartbeats 16000000 in
theorem laws_walk (va vb : Value) (a b : List Sp) (k n : Int) (w : World) (ha : SpansAt w va a) (hb : SpansAt w vb b) (hla : a.length ≤ 60) (hlb : b.length ≤ 60) (hk0 : 0 ≤ k) (hk1 : k ≤ 10000000) (hn0 : 0 ≤ n) (hn1 : n ≤ 10000000) :
    Calls Try.prog 6 #[va, vb, .int .i64 k, .int .i64 n] w fun e w' => e = .returned (.bool true) ∧ Mod [] w w' := by
  have HA := Lib.hid ha
  have HB := Lib.hid hb
  obtain ⟨aa, ca, rfl⟩ := ha.form
  obtain ⟨ab, cb, rfl⟩ := hb.form
  clear ha hb
  have HG := Lib.hid (great_two _ _ a b w HA.out HB.out)
  rw [show manyL [a, b] = false by rw [manyL_two]; simp; omega] at HG
  go_enter Try.func6, Try.ntmps6
  go_wp2_with fail
  refine HG.out.mono ?_
  rintro e w1 ⟨rfl, m1⟩
  have M1 := Lib.hid m1
  clear m1
  have C2 := Lib.hid (spUnion_any _ _ a b _ (HA.out.kept0 M1.out) (HB.out.kept0 M1.out) (by omega) (by omega))
  go_wp2_with fail
  refine C2.out.mono ?_
  rintro e w2 ⟨vu, lu, rfl, ou, m2, fu, nu⟩
  have M2 : Hid (Mod [] w1 w2) := Lib.hid m2
  have Ru := Lib.hid ou.row
  have Fu := Lib.hid fu
  obtain ⟨qu, ku, rfl⟩ := Ru.out.form
  clear ou fu
  clear m2 C2
  have C3 := Lib.hid (spMeet_any _ _ a b _ (HA.out.kept0 (M1.out.trans M2.out)) (HB.out.kept0 (M1.out.trans M2.out)) (by omega) (by omega))
  go_wp2_with fail
  refine C3.out.mono ?_
  rintro e w3 ⟨vm, lm, rfl, om, m3, fm, nm⟩
  have M3 : Hid (Mod [] w2 w3) := Lib.hid m3
  have Rm := Lib.hid om.row
  have Fm := Lib.hid fm
  obtain ⟨qm, km, rfl⟩ := Rm.out.form
  clear om fm
  clear m3 C3
  have C4 := Lib.hid (spLess_any _ _ a b _ (HA.out.kept0 (M1.out.trans (M2.out.trans M3.out))) (HB.out.kept0 (M1.out.trans (M2.out.trans M3.out))) (by omega) (by omega))
  go_wp2_with fail
  refine C4.out.mono ?_
  rintro e w4 ⟨vl, ll, rfl, ol, m4, fl, nl⟩
  have M4 : Hid (Mod [] w3 w4) := Lib.hid m4
  have Rl := Lib.hid ol.row
  have Fl := Lib.hid fl
  obtain ⟨ql, kl, rfl⟩ := Rl.out.form
  clear ol fl
  clear m4 C4
  have C5 := Lib.hid (spUnion_any _ _ b a _ (HB.out.kept0 (M1.out.trans (M2.out.trans (M3.out.trans M4.out)))) (HA.out.kept0 (M1.out.trans (M2.out.trans (M3.out.trans M4.out)))) (by omega) (by omega))
  go_wp2_with fail
  refine C5.out.mono ?_
  rintro e w5 ⟨vu2, lu2, rfl, ou2, m5, fu2, nu2⟩
  have M5 : Hid (Mod [] w4 w5) := Lib.hid m5
  have Ru2 := Lib.hid ou2.row
  have Fu2 := Lib.hid fu2
  obtain ⟨qu2, ku2, rfl⟩ := Ru2.out.form
  clear ou2 fu2
  clear m5 C5
  have Qu2 : lu = lu2 := ((union_comm Fu.out Fu2.out).symm).symm
  subst Qu2
  have C6 := Lib.hid (rSame_same _ _ lu _ (Ru.out.kept0 (M3.out.trans (M4.out.trans M5.out))) Ru2.out (by omega))
  go_wp2_with fail
  refine C6.out.mono ?_
  rintro e w6 ⟨rfl, m6⟩
  have M6 : Hid (Mod [] w5 w6) := Lib.hid m6
  clear m6 C6
  have C7 := Lib.hid (spMeet_any _ _ b a _ (HB.out.kept0 (M1.out.trans (M2.out.trans (M3.out.trans (M4.out.trans (M5.out.trans M6.out)))))) (HA.out.kept0 (M1.out.trans (M2.out.trans (M3.out.trans (M4.out.trans (M5.out.trans M6.out)))))) (by omega) (by omega))
  go_wp2_with fail
  refine C7.out.mono ?_
  rintro e w7 ⟨vm2, lm2, rfl, om2, m7, fm2, nm2⟩
  have M7 : Hid (Mod [] w6 w7) := Lib.hid m7
  have Rm2 := Lib.hid om2.row
  have Fm2 := Lib.hid fm2
  obtain ⟨qm2, km2, rfl⟩ := Rm2.out.form
  clear om2 fm2
  clear m7 C7
  have Qm2 : lm = lm2 := ((meet_comm Fm.out Fm2.out).symm).symm
  subst Qm2
  have C8 := Lib.hid (rSame_same _ _ lm _ (Rm.out.kept0 (M4.out.trans (M5.out.trans (M6.out.trans M7.out)))) Rm2.out (by omega))
  go_wp2_with fail
  refine C8.out.mono ?_
  rintro e w8 ⟨rfl, m8⟩
  have M8 : Hid (Mod [] w7 w8) := Lib.hid m8
  clear m8 C8
  have C9 := Lib.hid (spUnion_any _ _ ll b _ (Rl.out.kept0 (M5.out.trans (M6.out.trans (M7.out.trans M8.out)))) (HB.out.kept0 (M1.out.trans (M2.out.trans (M3.out.trans (M4.out.trans (M5.out.trans (M6.out.trans (M7.out.trans M8.out)))))))) (by omega) (by omega))
  go_wp2_with fail
  refine C9.out.mono ?_
  rintro e w9 ⟨vx, lx, rfl, ox, m9, fx, nx⟩
  have M9 : Hid (Mod [] w8 w9) := Lib.hid m9
  have Rx := Lib.hid ox.row
  have Fx := Lib.hid fx
  obtain ⟨qx, kx, rfl⟩ := Rx.out.form
  clear ox fx
  clear m9 C9
  have Qx : lu = lx := (less_add Fu.out Fl.out Fx.out).symm
  subst Qx
  have C10 := Lib.hid (rSame_same _ _ lu _ Rx.out (Ru.out.kept0 (M3.out.trans (M4.out.trans (M5.out.trans (M6.out.trans (M7.out.trans (M8.out.trans M9.out))))))) (by omega))
  go_wp2_with fail
  refine C10.out.mono ?_
  rintro e w10 ⟨rfl, m10⟩
  have M10 : Hid (Mod [] w9 w10) := Lib.hid m10
  clear m10 C10
  have C11 := Lib.hid (spUnion_any _ _ ll lm _ (Rl.out.kept0 (M5.out.trans (M6.out.trans (M7.out.trans (M8.out.trans (M9.out.trans M10.out)))))) (Rm.out.kept0 (M4.out.trans (M5.out.trans (M6.out.trans (M7.out.trans (M8.out.trans (M9.out.trans M10.out))))))) (by omega) (by omega))
  go_wp2_with fail
  refine C11.out.mono ?_
  rintro e w11 ⟨vy, ly, rfl, oy, m11, fy, ny⟩
  have M11 : Hid (Mod [] w10 w11) := Lib.hid m11
  have Ry := Lib.hid oy.row
  have Fy := Lib.hid fy
  obtain ⟨qy, ky, rfl⟩ := Ry.out.form
  clear oy fy
  clear m11 C11
  have C12 := Lib.hid (spOf_any _ a _ (HA.out.kept0 (M1.out.trans (M2.out.trans (M3.out.trans (M4.out.trans (M5.out.trans (M6.out.trans (M7.out.trans (M8.out.trans (M9.out.trans (M10.out.trans M11.out))))))))))) (by omega))
  go_wp2_with fail
  refine C12.out.mono ?_
  rintro e w12 ⟨vo, lo, rfl, oo, m12, fo, no⟩
  have M12 : Hid (Mod [] w11 w12) := Lib.hid m12
  have Ro := Lib.hid oo.row
  have Fo := Lib.hid fo
  obtain ⟨qo, ko, rfl⟩ := Ro.out.form
  clear oo fo
  clear m12 C12
  have Qy : lo = ly := (parts_all Fl.out Fm.out Fy.out Fo.out).symm
  subst Qy
  have C13 := Lib.hid (rSame_same _ _ lo _ (Ry.out.kept0 M12.out) Ro.out (by omega))
  go_wp2_with fail
  refine C13.out.mono ?_
  rintro e w13 ⟨rfl, m13⟩
  have M13 : Hid (Mod [] w12 w13) := Lib.hid m13
  clear m13 C13
  have C14 := Lib.hid (spMeet_any _ _ ll b _ (Rl.out.kept0 (M5.out.trans (M6.out.trans (M7.out.trans (M8.out.trans (M9.out.trans (M10.out.trans (M11.out.trans (M12.out.trans M13.out))))))))) (HB.out.kept0 (M1.out.trans (M2.out.trans (M3.out.trans (M4.out.trans (M5.out.trans (M6.out.trans (M7.out.trans (M8.out.trans (M9.out.trans (M10.out.trans (M11.out.trans (M12.out.trans M13.out))))))))))))) (by omega) (by omega))
  go_wp2_with fail
  refine C14.out.mono ?_
  rintro e w14 ⟨vz, lz, rfl, oz, m14, fz, nz⟩
  have M14 : Hid (Mod [] w13 w14) := Lib.hid m14
  have Rz := Lib.hid oz.row
  have Fz := Lib.hid fz
  obtain ⟨qz, kz, rfl⟩ := Rz.out.form
  clear oz fz
  clear m14 C14
  obtain rfl := less_meet Fl.out Fz.out
  have C15 := Lib.hid (spDays_any _ lu _ (Ru.out.kept0 (M3.out.trans (M4.out.trans (M5.out.trans (M6.out.trans (M7.out.trans (M8.out.trans (M9.out.trans (M10.out.trans (M11.out.trans (M12.out.trans (M13.out.trans M14.out)))))))))))) (by omega))
  go_wp2_with fail
  refine C15.out.mono ?_
  rintro e w15 ⟨ddu, rfl, fdu, m15⟩
  have M15 : Hid (Mod [] w14 w15) := Lib.hid m15
  have Fdu := Lib.hid fdu
  have gdu := daysL_range fdu
  clear fdu
  clear m15 C15
  have C16 := Lib.hid (spDays_any _ lm _ (Rm.out.kept0 (M4.out.trans (M5.out.trans (M6.out.trans (M7.out.trans (M8.out.trans (M9.out.trans (M10.out.trans (M11.out.trans (M12.out.trans (M13.out.trans (M14.out.trans M15.out)))))))))))) (by omega))
  go_wp2_with fail
  refine C16.out.mono ?_
  rintro e w16 ⟨ddm, rfl, fdm, m16⟩
  have M16 : Hid (Mod [] w15 w16) := Lib.hid m16
  have Fdm := Lib.hid fdm
  have gdm := daysL_range fdm
  clear fdm
  clear m16 C16
  have C17 := Lib.hid (spDays_any _ a _ (HA.out.kept0 (M1.out.trans (M2.out.trans (M3.out.trans (M4.out.trans (M5.out.trans (M6.out.trans (M7.out.trans (M8.out.trans (M9.out.trans (M10.out.trans (M11.out.trans (M12.out.trans (M13.out.trans (M14.out.trans (M15.out.trans M16.out)))))))))))))))) (by omega))
  go_wp2_with fail
  refine C17.out.mono ?_
  rintro e w17 ⟨dda, rfl, fda, m17⟩
  have M17 : Hid (Mod [] w16 w17) := Lib.hid m17
  have Fda := Lib.hid fda
  have gda := daysL_range fda
  clear fda
  clear m17 C17
  have C18 := Lib.hid (spDays_any _ b _ (HB.out.kept0 (M1.out.trans (M2.out.trans (M3.out.trans (M4.out.trans (M5.out.trans (M6.out.trans (M7.out.trans (M8.out.trans (M9.out.trans (M10.out.trans (M11.out.trans (M12.out.trans (M13.out.trans (M14.out.trans (M15.out.trans (M16.out.trans M17.out))))))))))))))))) (by omega))
  go_wp2_with fail
  refine C18.out.mono ?_
  rintro e w18 ⟨ddb, rfl, fdb, m18⟩
  have M18 : Hid (Mod [] w17 w18) := Lib.hid m18
  have Fdb := Lib.hid fdb
  have gdb := daysL_range fdb
  clear fdb
  clear m18 C18
  have hds := days_sum Fu.out Fm.out Fdu.out Fdm.out Fda.out Fdb.out
  have hdb : ((daysL ddu + daysL ddm : Int) != daysL dda + daysL ddb) = false := by simp [hds]
  have HDS := Lib.hid hds
  clear hds
  have C19 := Lib.hid (spWide_any _ a (k) _ (HA.out.kept0 (M1.out.trans (M2.out.trans (M3.out.trans (M4.out.trans (M5.out.trans (M6.out.trans (M7.out.trans (M8.out.trans (M9.out.trans (M10.out.trans (M11.out.trans (M12.out.trans (M13.out.trans (M14.out.trans (M15.out.trans (M16.out.trans (M17.out.trans M18.out)))))))))))))))))) (by omega))
  go_wp2_with fail
  refine C19.out.mono ?_
  rintro e w19 ⟨vw1, dw1, lw1, rfl, ow1, m19, ew1, fw1, nw1⟩
  have M19 : Hid (Mod [] w18 w19) := Lib.hid m19
  have Rw1 := Lib.hid ow1.row
  have Ew1 := Lib.hid ew1
  have Fw1 := Lib.hid fw1
  obtain ⟨qw1, kw1, rfl⟩ := Rw1.out.form
  clear ow1 fw1 ew1
  clear m19 C19
  have C20 := Lib.hid (spWide_any _ lw1 (n) _ Rw1.out (by omega))
  go_wp2_with fail
  refine C20.out.mono ?_
  rintro e w20 ⟨vw2, dw2, lw2, rfl, ow2, m20, ew2, fw2, nw2⟩
  have M20 : Hid (Mod [] w19 w20) := Lib.hid m20
  have Rw2 := Lib.hid ow2.row
  have Ew2 := Lib.hid ew2
  have Fw2 := Lib.hid fw2
  obtain ⟨qw2, kw2, rfl⟩ := Rw2.out.form
  clear ow2 fw2 ew2
  clear m20 C20
  have C21 := Lib.hid (spWide_any _ a (k + n) _ (HA.out.kept0 (M1.out.trans (M2.out.trans (M3.out.trans (M4.out.trans (M5.out.trans (M6.out.trans (M7.out.trans (M8.out.trans (M9.out.trans (M10.out.trans (M11.out.trans (M12.out.trans (M13.out.trans (M14.out.trans (M15.out.trans (M16.out.trans (M17.out.trans (M18.out.trans (M19.out.trans M20.out)))))))))))))))))))) (by omega))
  go_wp2_with fail
  refine C21.out.mono ?_
  rintro e w21 ⟨vw3, dw3, lw3, rfl, ow3, m21, ew3, fw3, nw3⟩
  have M21 : Hid (Mod [] w20 w21) := Lib.hid m21
  have Rw3 := Lib.hid ow3.row
  have Ew3 := Lib.hid ew3
  have Fw3 := Lib.hid fw3
  obtain ⟨qw3, kw3, rfl⟩ := Rw3.out.form
  clear ow3 fw3 ew3
  clear m21 C21
  have Qw2 : lw3 = lw2 := (wide_twice hk0 hn0 Ew1.out Fw1.out Ew2.out Fw2.out Ew3.out Fw3.out).symm
  subst Qw2
  have C22 := Lib.hid (rSame_same _ _ lw3 _ (Rw2.out.kept0 M21.out) Rw3.out (by omega))
  go_wp2_with fail
  refine C22.out.mono ?_
  rintro e w22 ⟨rfl, m22⟩
  have M22 : Hid (Mod [] w21 w22) := Lib.hid m22
  clear m22 C22
  have C23 := Lib.hid (spAll_any w22)
  go_wp2_with fail
  refine C23.out.mono ?_
  rintro e w23 ⟨vA, rfl, rA, m23⟩
  have M23 : Hid (Mod [] w22 w23) := Lib.hid m23
  have RA := Lib.hid rA
  obtain ⟨qA, kA, rfl⟩ := RA.out.form
  clear rA
  clear m23 C23
  have C24 := Lib.hid (spAll_any w23)
  go_wp2_with fail
  refine C24.out.mono ?_
  rintro e w24 ⟨vB, rfl, rB, m24⟩
  have M24 : Hid (Mod [] w23 w24) := Lib.hid m24
  have RB := Lib.hid rB
  obtain ⟨qB, kB, rfl⟩ := RB.out.form
  clear rB
  clear m24 C24
  have C25 := Lib.hid (spLess_any _ _ [(1, 3652060)] a _ RB.out (HA.out.kept0 (M1.out.trans (M2.out.trans (M3.out.trans (M4.out.trans (M5.out.trans (M6.out.trans (M7.out.trans (M8.out.trans (M9.out.trans (M10.out.trans (M11.out.trans (M12.out.trans (M13.out.trans (M14.out.trans (M15.out.trans (M16.out.trans (M17.out.trans (M18.out.trans (M19.out.trans (M20.out.trans (M21.out.trans (M22.out.trans (M23.out.trans M24.out)))))))))))))))))))))))) (by first | omega | simp) (by first | omega | simp))
  go_wp2_with fail
  refine C25.out.mono ?_
  rintro e w25 ⟨vc, lc, rfl, oc, m25, fc, nc⟩
  have M25 : Hid (Mod [] w24 w25) := Lib.hid m25
  have Rc := Lib.hid oc.row
  have Fc := Lib.hid fc
  obtain ⟨qc, kc, rfl⟩ := Rc.out.form
  simp only [List.length_cons, List.length_nil] at nc
  clear oc fc
  clear m25 C25
  have C26 := Lib.hid (spLess_any _ _ [(1, 3652060)] lc _ (RA.out.kept0 (M24.out.trans M25.out)) Rc.out (by first | omega | simp) (by first | omega | simp))
  go_wp2_with fail
  refine C26.out.mono ?_
  rintro e w26 ⟨ve, le, rfl, oe, m26, fe, ne⟩
  have M26 : Hid (Mod [] w25 w26) := Lib.hid m26
  have Re := Lib.hid oe.row
  have Fe := Lib.hid fe
  obtain ⟨qe, ke, rfl⟩ := Re.out.form
  simp only [List.length_cons, List.length_nil] at ne
  clear oe fe
  clear m26 C26
  have C27 := Lib.hid (spOf_any _ a _ (HA.out.kept0 (M1.out.trans (M2.out.trans (M3.out.trans (M4.out.trans (M5.out.trans (M6.out.trans (M7.out.trans (M8.out.trans (M9.out.trans (M10.out.trans (M11.out.trans (M12.out.trans (M13.out.trans (M14.out.trans (M15.out.trans (M16.out.trans (M17.out.trans (M18.out.trans (M19.out.trans (M20.out.trans (M21.out.trans (M22.out.trans (M23.out.trans (M24.out.trans (M25.out.trans M26.out)))))))))))))))))))))))))) (by omega))
  go_wp2_with fail
  refine C27.out.mono ?_
  rintro e w27 ⟨vp, lp, rfl, op, m27, fp, np⟩
  have M27 : Hid (Mod [] w26 w27) := Lib.hid m27
  have Rp := Lib.hid op.row
  have Fp := Lib.hid fp
  obtain ⟨qp, kp, rfl⟩ := Rp.out.form
  clear op fp
  clear m27 C27
  have Qe : lp = le := (less_all Fc.out Fe.out Fp.out).symm
  subst Qe
  have C28 := Lib.hid (rSame_same _ _ lp _ (Re.out.kept0 M27.out) Rp.out (by omega))
  go_wp2_with fail
  refine C28.out.mono ?_
  rintro e w28 ⟨rfl, m28⟩
  have M28 : Hid (Mod [] w27 w28) := Lib.hid m28
  clear m28 C28
  have C29 := Lib.hid (known07_any w28)
  go_wp2_with fail
  refine C29.out.mono ?_
  rintro e w29 ⟨rfl, m29⟩
  have M29 : Hid (Mod [] w28 w29) := Lib.hid m29
  clear m29 C29
  go_wp2_with fail
  go_ret
  exact ⟨rfl, (M1.out.trans (M2.out.trans (M3.out.trans (M4.out.trans (M5.out.trans (M6.out.trans (M7.out.trans (M8.out.trans (M9.out.trans (M10.out.trans (M11.out.trans (M12.out.trans (M13.out.trans (M14.out.trans (M15.out.trans (M16.out.trans (M17.out.trans (M18.out.trans (M19.out.trans (M20.out.trans (M21.out.trans (M22.out.trans (M23.out.trans (M24.out.trans (M25.out.trans (M26.out.trans (M27.out.trans (M28.out.trans M29.out))))))))))))))))))))))))))))⟩
end Go.Proofs.Ytefaihockgebeaa
