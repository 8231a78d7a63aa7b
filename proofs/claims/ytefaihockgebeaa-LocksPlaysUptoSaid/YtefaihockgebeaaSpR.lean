/- SpansSets: the walk. -/
import Derived.Test.YtefaihockgebeaaSpQ
namespace Go.Proofs.Ytefaihockgebeaa
open Go.RowKit Go.ChangeMaps Go.Deep
set_option linter.unusedSimpArgs false
set_option linter.unusedVariables false
set_option maxRecDepth 20000

theorem may_eq (l : List Sp) : decide (l = twoS l [] 0) = mayB 0 l := by
  rw [Bool.eq_iff_iff, decide_eq_true_eq, mayB_iff]
  constructor
  · intro h; rw [h]; exact (twoS_of l).1
  · intro h; exact (isOf_self h).only (twoS_of l)
theorem rMay_any' (v : Value) (l : List Sp) (w : World) (h : SpansAt w v l) (hl : l.length ≤ 20000) :
    Calls Try.prog 39 #[v] w fun e w' => e = .returned (.bool (mayB 0 l)) ∧ Mod [] w w' := by
  rw [← may_eq]
  exact rMay_any v l w h hl
theorem rSame_same (u v : Value) (l : List Sp) (w : World) (hu : SpansAt w u l) (hv : SpansAt w v l) (hl : l.length ≤ 100000000) :
    Calls Try.prog 31 #[u, v] w fun e w' => e = .returned (.bool true) ∧ Mod [] w w' := by
  have := rSame_any u v l l w hu hv hl hl
  rwa [decide_eq_true rfl] at this
theorem union_two {a b l : List Sp} (h : IsBoth (· || ·) a b l) : l = twoS a b 0 := h.one (twoS_is a b 0) fun _ _ _ => rfl
theorem meet_two {a b l : List Sp} (h : IsBoth (· && ·) a b l) : l = twoS a b 1 := h.one (twoS_is a b 1) fun _ _ _ => rfl
theorem less_two {a b l : List Sp} (h : IsBoth (fun x y => x && !y) a b l) : l = twoS a b 2 := h.one (twoS_is a b 2) fun _ _ _ => rfl
theorem manyL_two (a b : List Sp) : manyL [a, b] = (decide (60 < a.length) || decide (60 < b.length)) := by simp [manyL]
theorem quiet_mod {P : Program} {f : Nat} {args : Array Value} {w : World} {v : Value} (h : Calls P f args w fun e w' => e = .returned v ∧ w' = w) : Calls P f args w fun e w' => e = .returned v ∧ Mod [] w w' :=
  h.mono fun _ _ ⟨h1, h2⟩ => ⟨h1, by rw [h2]; exact Mod.refl _ _⟩
/-- More than is looked at: known. -/
theorem great_two (va vb : Value) (a b : List Sp) (w : World) (ha : SpansAt w va a) (hb : SpansAt w vb b) :
    Calls Try.prog 26 #[.slice (some ⟨w.heap.size, 0, none⟩) 2 2] (w.alloc (.cells #[va, vb] 51)) fun e w' => e = .returned (.bool (manyL [a, b])) ∧ Mod [] w w' :=
  (great07_any _ _ _ _ (parts_lit w va vb a b ha hb) (by simp)).mono fun _ _ ⟨h1, h2⟩ => ⟨h1, by rw [h2]; exact (Mod.refl [] w).alloc _⟩
set_option maxHeartbeats 16000000 in
theorem sets_walk (va vb : Value) (a b : List Sp) (k d : Int) (w : World) (ha : SpansAt w va a) (hb : SpansAt w vb b) :
    Calls Try.prog 8 #[va, vb, .int .i64 k, .int .i64 d] w fun e w' => e = .returned (.bool true) ∧ Mod [] w w' := by
  have HA := Lib.hid ha
  have HB := Lib.hid hb
  obtain ⟨aa, ca, rfl⟩ := ha.form
  obtain ⟨ab, cb, rfl⟩ := hb.form
  clear ha hb
  have HG := Lib.hid (great_two _ _ a b w HA.out HB.out)
  have HQ := Lib.hid (manyL [a, b]).eq_false_or_eq_true
  rcases HQ.out with hq | hq
  · rw [hq] at HG
    clear hq HQ
    go_enter Try.func8, Try.ntmps8
    go_wp2_with fail
    refine HG.out.mono ?_
    rintro e w1 ⟨rfl, m1⟩
    have M1 := Lib.hid m1
    clear m1
    go_wp2_with fail
    refine (known07_any w1).mono ?_
    rintro e w2 ⟨rfl, m2⟩
    have M2 := Lib.hid m2
    clear m2
    go_wp2_with fail
    go_ret
    exact ⟨rfl, M1.out.trans M2.out⟩
  · rw [hq] at HG
    have hlen : a.length ≤ 60 ∧ b.length ≤ 60 := by
      rw [manyL_two] at hq
      simp at hq
      omega
    obtain ⟨hla', hlb'⟩ := hlen
    clear hq HQ
    go_enter Try.func8, Try.ntmps8
    go_wp2_with fail
    refine HG.out.mono ?_
    rintro e w1 ⟨rfl, m1⟩
    have M1 := Lib.hid m1
    clear m1
    have C2 := Lib.hid (own07_any _ a _ (HA.out.kept0 M1.out) (by omega))
    go_wp2_with fail
    refine C2.out.mono ?_
    rintro e w2 ⟨vx, rfl, ox, m2⟩
    have M2 : Hid (Mod [] w1 w2) := Lib.hid m2
    have Rx := Lib.hid ox.row
    obtain ⟨qx, kx, rfl⟩ := Rx.out.form
    clear ox
    clear m2 C2
    have C3 := Lib.hid (own07_any _ b _ (HB.out.kept0 (M1.out.trans M2.out)) (by omega))
    go_wp2_with fail
    refine C3.out.mono ?_
    rintro e w3 ⟨vy, rfl, oy, m3⟩
    have M3 : Hid (Mod [] w2 w3) := Lib.hid m3
    have Ry := Lib.hid oy.row
    obtain ⟨qy, ky, rfl⟩ := Ry.out.form
    clear oy
    clear m3 C3
    have C4 := Lib.hid (spMay_any _ a _ (Rx.out.kept0 M3.out) (by omega))
    go_wp2_with fail
    refine C4.out.mono ?_
    rintro e w4 ⟨rfl, m4⟩
    have M4 : Hid (Mod [] w3 w4) := Lib.hid m4
    clear m4 C4
    have C5 := Lib.hid (rMay_any' _ a _ (HA.out.kept0 (M1.out.trans (M2.out.trans (M3.out.trans M4.out)))) (by omega))
    go_wp2_with fail
    refine C5.out.mono ?_
    rintro e w5 ⟨rfl, m5⟩
    have M5 : Hid (Mod [] w4 w5) := Lib.hid m5
    clear m5 C5
    have HLT : Hid (∀ l : List Sp, l.length ≤ 100000 → l.length ≤ 100000000) := Lib.hid fun l h => by omega
    have C6 := Lib.hid (spOf_any _ a _ (Rx.out.kept0 (M3.out.trans (M4.out.trans M5.out))) (by omega))
    go_wp2_with fail
    refine C6.out.mono ?_
    rintro e w6 ⟨vp, lp, rfl, op, m6, fp, np⟩
    have M6 : Hid (Mod [] w5 w6) := Lib.hid m6
    obtain rfl := fp.only (twoS_of a)
    have N0 := Lib.hid (show (twoS a [] 0).length ≤ 100000 by omega)
    clear fp np
    have Rp := Lib.hid op.row
    obtain ⟨qp, kp, rfl⟩ := Rp.out.form
    clear op
    clear m6 C6
    have C7 := Lib.hid (rOf_any _ a _ (HA.out.kept0 (M1.out.trans (M2.out.trans (M3.out.trans (M4.out.trans (M5.out.trans M6.out)))))) (by omega))
    go_wp2_with fail
    refine C7.out.mono ?_
    rintro e w7 ⟨vq, rfl, oq, m7⟩
    have M7 : Hid (Mod [] w6 w7) := Lib.hid m7
    have Rq := Lib.hid oq.row
    obtain ⟨qq, kq, rfl⟩ := Rq.out.form
    clear oq
    clear m7 C7
    have C8 := Lib.hid (rSame_same _ _ (twoS a [] 0) _ (Rp.out.kept0 M7.out) Rq.out (HLT.out _ N0.out))
    go_wp2_with fail
    refine C8.out.mono ?_
    rintro e w8 ⟨rfl, m8⟩
    have M8 : Hid (Mod [] w7 w8) := Lib.hid m8
    clear m8 C8
    have C9 := Lib.hid (spUnion_any _ _ a b _ (Rx.out.kept0 (M3.out.trans (M4.out.trans (M5.out.trans (M6.out.trans (M7.out.trans M8.out)))))) (Ry.out.kept0 (M4.out.trans (M5.out.trans (M6.out.trans (M7.out.trans M8.out))))) (by omega) (by omega))
    go_wp2_with fail
    refine C9.out.mono ?_
    rintro e w9 ⟨vu0, lu0, rfl, ou0, m9, fu0, nu0⟩
    have M9 : Hid (Mod [] w8 w9) := Lib.hid m9
    obtain rfl := union_two fu0
    have NU0 := Lib.hid (show (twoS a b 0).length ≤ 100000 by omega)
    clear fu0 nu0
    have Ru0 := Lib.hid ou0.row
    obtain ⟨qu0, ku0, rfl⟩ := Ru0.out.form
    clear ou0
    clear m9 C9
    have C10 := Lib.hid (rTwo_any _ _ a b 0 _ (HA.out.kept0 (M1.out.trans (M2.out.trans (M3.out.trans (M4.out.trans (M5.out.trans (M6.out.trans (M7.out.trans (M8.out.trans M9.out))))))))) (HB.out.kept0 (M1.out.trans (M2.out.trans (M3.out.trans (M4.out.trans (M5.out.trans (M6.out.trans (M7.out.trans (M8.out.trans M9.out))))))))) (by omega) (by omega))
    go_wp2_with fail
    refine C10.out.mono ?_
    rintro e w10 ⟨vt0, rfl, ot0, m10⟩
    have M10 : Hid (Mod [] w9 w10) := Lib.hid m10
    have Rt0 := Lib.hid ot0.row
    obtain ⟨qt0, kt0, rfl⟩ := Rt0.out.form
    clear ot0
    clear m10 C10
    have C11 := Lib.hid (rSame_same _ _ (twoS a b 0) _ (Ru0.out.kept0 M10.out) Rt0.out (HLT.out _ NU0.out))
    go_wp2_with fail
    refine C11.out.mono ?_
    rintro e w11 ⟨rfl, m11⟩
    have M11 : Hid (Mod [] w10 w11) := Lib.hid m11
    clear m11 C11
    have C12 := Lib.hid (spMeet_any _ _ a b _ (Rx.out.kept0 (M3.out.trans (M4.out.trans (M5.out.trans (M6.out.trans (M7.out.trans (M8.out.trans (M9.out.trans (M10.out.trans M11.out))))))))) (Ry.out.kept0 (M4.out.trans (M5.out.trans (M6.out.trans (M7.out.trans (M8.out.trans (M9.out.trans (M10.out.trans M11.out)))))))) (by omega) (by omega))
    go_wp2_with fail
    refine C12.out.mono ?_
    rintro e w12 ⟨vu1, lu1, rfl, ou1, m12, fu1, nu1⟩
    have M12 : Hid (Mod [] w11 w12) := Lib.hid m12
    obtain rfl := meet_two fu1
    have NU1 := Lib.hid (show (twoS a b 1).length ≤ 100000 by omega)
    clear fu1 nu1
    have Ru1 := Lib.hid ou1.row
    obtain ⟨qu1, ku1, rfl⟩ := Ru1.out.form
    clear ou1
    clear m12 C12
    have C13 := Lib.hid (rTwo_any _ _ a b 1 _ (HA.out.kept0 (M1.out.trans (M2.out.trans (M3.out.trans (M4.out.trans (M5.out.trans (M6.out.trans (M7.out.trans (M8.out.trans (M9.out.trans (M10.out.trans (M11.out.trans M12.out)))))))))))) (HB.out.kept0 (M1.out.trans (M2.out.trans (M3.out.trans (M4.out.trans (M5.out.trans (M6.out.trans (M7.out.trans (M8.out.trans (M9.out.trans (M10.out.trans (M11.out.trans M12.out)))))))))))) (by omega) (by omega))
    go_wp2_with fail
    refine C13.out.mono ?_
    rintro e w13 ⟨vt1, rfl, ot1, m13⟩
    have M13 : Hid (Mod [] w12 w13) := Lib.hid m13
    have Rt1 := Lib.hid ot1.row
    obtain ⟨qt1, kt1, rfl⟩ := Rt1.out.form
    clear ot1
    clear m13 C13
    have C14 := Lib.hid (rSame_same _ _ (twoS a b 1) _ (Ru1.out.kept0 M13.out) Rt1.out (HLT.out _ NU1.out))
    go_wp2_with fail
    refine C14.out.mono ?_
    rintro e w14 ⟨rfl, m14⟩
    have M14 : Hid (Mod [] w13 w14) := Lib.hid m14
    clear m14 C14
    have C15 := Lib.hid (spLess_any _ _ a b _ (Rx.out.kept0 (M3.out.trans (M4.out.trans (M5.out.trans (M6.out.trans (M7.out.trans (M8.out.trans (M9.out.trans (M10.out.trans (M11.out.trans (M12.out.trans (M13.out.trans M14.out)))))))))))) (Ry.out.kept0 (M4.out.trans (M5.out.trans (M6.out.trans (M7.out.trans (M8.out.trans (M9.out.trans (M10.out.trans (M11.out.trans (M12.out.trans (M13.out.trans M14.out))))))))))) (by omega) (by omega))
    go_wp2_with fail
    refine C15.out.mono ?_
    rintro e w15 ⟨vu2, lu2, rfl, ou2, m15, fu2, nu2⟩
    have M15 : Hid (Mod [] w14 w15) := Lib.hid m15
    obtain rfl := less_two fu2
    have NU2 := Lib.hid (show (twoS a b 2).length ≤ 100000 by omega)
    clear fu2 nu2
    have Ru2 := Lib.hid ou2.row
    obtain ⟨qu2, ku2, rfl⟩ := Ru2.out.form
    clear ou2
    clear m15 C15
    have C16 := Lib.hid (rTwo_any _ _ a b 2 _ (HA.out.kept0 (M1.out.trans (M2.out.trans (M3.out.trans (M4.out.trans (M5.out.trans (M6.out.trans (M7.out.trans (M8.out.trans (M9.out.trans (M10.out.trans (M11.out.trans (M12.out.trans (M13.out.trans (M14.out.trans M15.out))))))))))))))) (HB.out.kept0 (M1.out.trans (M2.out.trans (M3.out.trans (M4.out.trans (M5.out.trans (M6.out.trans (M7.out.trans (M8.out.trans (M9.out.trans (M10.out.trans (M11.out.trans (M12.out.trans (M13.out.trans (M14.out.trans M15.out))))))))))))))) (by omega) (by omega))
    go_wp2_with fail
    refine C16.out.mono ?_
    rintro e w16 ⟨vt2, rfl, ot2, m16⟩
    have M16 : Hid (Mod [] w15 w16) := Lib.hid m16
    have Rt2 := Lib.hid ot2.row
    obtain ⟨qt2, kt2, rfl⟩ := Rt2.out.form
    clear ot2
    clear m16 C16
    have C17 := Lib.hid (rSame_same _ _ (twoS a b 2) _ (Ru2.out.kept0 M16.out) Rt2.out (HLT.out _ NU2.out))
    go_wp2_with fail
    refine C17.out.mono ?_
    rintro e w17 ⟨rfl, m17⟩
    have M17 : Hid (Mod [] w16 w17) := Lib.hid m17
    clear m17 C17
    have C18 := Lib.hid (spWide_any _ a k _ (Rx.out.kept0 (M3.out.trans (M4.out.trans (M5.out.trans (M6.out.trans (M7.out.trans (M8.out.trans (M9.out.trans (M10.out.trans (M11.out.trans (M12.out.trans (M13.out.trans (M14.out.trans (M15.out.trans (M16.out.trans M17.out))))))))))))))) (by omega))
    go_wp2_with fail
    refine C18.out.mono ?_
    rintro e w18 ⟨vw, lm, lw, rfl, ow, m18, fm, fw, nw⟩
    have M18 : Hid (Mod [] w17 w18) := Lib.hid m18
    obtain rfl := fm.only (twoS_of a)
    obtain rfl := fw.only (twoS_of _)
    have NW := Lib.hid (show (twoS (wideL (twoS a [] 0) (clampK k)) [] 0).length ≤ 100000 by omega)
    clear fm fw nw
    have Rw := Lib.hid ow.row
    obtain ⟨qw, kw, rfl⟩ := Rw.out.form
    clear ow
    clear m18 C18
    have C19 := Lib.hid (rWide_any _ a k _ (HA.out.kept0 (M1.out.trans (M2.out.trans (M3.out.trans (M4.out.trans (M5.out.trans (M6.out.trans (M7.out.trans (M8.out.trans (M9.out.trans (M10.out.trans (M11.out.trans (M12.out.trans (M13.out.trans (M14.out.trans (M15.out.trans (M16.out.trans (M17.out.trans M18.out)))))))))))))))))) (by omega))
    go_wp2_with fail
    refine C19.out.mono ?_
    rintro e w19 ⟨vz, rfl, oz, m19⟩
    have M19 : Hid (Mod [] w18 w19) := Lib.hid m19
    have Rz := Lib.hid oz.row
    obtain ⟨qz, kz, rfl⟩ := Rz.out.form
    clear oz
    clear m19 C19
    have C20 := Lib.hid (rSame_same _ _ (twoS (wideL (twoS a [] 0) (clampK k)) [] 0) _ (Rw.out.kept0 M19.out) Rz.out (HLT.out _ NW.out))
    go_wp2_with fail
    refine C20.out.mono ?_
    rintro e w20 ⟨rfl, m20⟩
    have M20 : Hid (Mod [] w19 w20) := Lib.hid m20
    clear m20 C20
    have C21 := Lib.hid (spHas_any _ a d _ (Rx.out.kept0 (M3.out.trans (M4.out.trans (M5.out.trans (M6.out.trans (M7.out.trans (M8.out.trans (M9.out.trans (M10.out.trans (M11.out.trans (M12.out.trans (M13.out.trans (M14.out.trans (M15.out.trans (M16.out.trans (M17.out.trans (M18.out.trans (M19.out.trans M20.out)))))))))))))))))) (by omega))
    go_wp2_with fail
    refine C21.out.mono ?_
    rintro e w21 ⟨rfl, m21⟩
    have M21 : Hid (Mod [] w20 w21) := Lib.hid m21
    clear m21 C21
    have C22 := Lib.hid (quiet_mod (rHas_any _ a d _ (HA.out.kept0 (M1.out.trans (M2.out.trans (M3.out.trans (M4.out.trans (M5.out.trans (M6.out.trans (M7.out.trans (M8.out.trans (M9.out.trans (M10.out.trans (M11.out.trans (M12.out.trans (M13.out.trans (M14.out.trans (M15.out.trans (M16.out.trans (M17.out.trans (M18.out.trans (M19.out.trans (M20.out.trans M21.out))))))))))))))))))))) (by omega)))
    go_wp2_with fail
    refine C22.out.mono ?_
    rintro e w22 ⟨rfl, m22⟩
    have M22 : Hid (Mod [] w21 w22) := Lib.hid m22
    clear m22 C22
    have C23 := Lib.hid (spDays_any _ a _ (Rx.out.kept0 (M3.out.trans (M4.out.trans (M5.out.trans (M6.out.trans (M7.out.trans (M8.out.trans (M9.out.trans (M10.out.trans (M11.out.trans (M12.out.trans (M13.out.trans (M14.out.trans (M15.out.trans (M16.out.trans (M17.out.trans (M18.out.trans (M19.out.trans (M20.out.trans (M21.out.trans M22.out)))))))))))))))))))) (by omega))
    go_wp2_with fail
    refine C23.out.mono ?_
    rintro e w23 ⟨ld, rfl, fd, m23⟩
    have M23 : Hid (Mod [] w22 w23) := Lib.hid m23
    obtain rfl := fd.only (twoS_of a)
    clear fd
    clear m23 C23
    have C24 := Lib.hid (rDays_any _ a _ (HA.out.kept0 (M1.out.trans (M2.out.trans (M3.out.trans (M4.out.trans (M5.out.trans (M6.out.trans (M7.out.trans (M8.out.trans (M9.out.trans (M10.out.trans (M11.out.trans (M12.out.trans (M13.out.trans (M14.out.trans (M15.out.trans (M16.out.trans (M17.out.trans (M18.out.trans (M19.out.trans (M20.out.trans (M21.out.trans (M22.out.trans M23.out))))))))))))))))))))))) (by omega))
    go_wp2_with fail
    refine C24.out.mono ?_
    rintro e w24 ⟨rfl, m24⟩
    have M24 : Hid (Mod [] w23 w24) := Lib.hid m24
    clear m24 C24
    have C25 := Lib.hid (rSame_same _ _ (a) _ (Rx.out.kept0 (M3.out.trans (M4.out.trans (M5.out.trans (M6.out.trans (M7.out.trans (M8.out.trans (M9.out.trans (M10.out.trans (M11.out.trans (M12.out.trans (M13.out.trans (M14.out.trans (M15.out.trans (M16.out.trans (M17.out.trans (M18.out.trans (M19.out.trans (M20.out.trans (M21.out.trans (M22.out.trans (M23.out.trans M24.out)))))))))))))))))))))) (HA.out.kept0 (M1.out.trans (M2.out.trans (M3.out.trans (M4.out.trans (M5.out.trans (M6.out.trans (M7.out.trans (M8.out.trans (M9.out.trans (M10.out.trans (M11.out.trans (M12.out.trans (M13.out.trans (M14.out.trans (M15.out.trans (M16.out.trans (M17.out.trans (M18.out.trans (M19.out.trans (M20.out.trans (M21.out.trans (M22.out.trans (M23.out.trans M24.out)))))))))))))))))))))))) (HLT.out _ (by omega)))
    go_wp2_with fail
    refine C25.out.mono ?_
    rintro e w25 ⟨rfl, m25⟩
    have M25 : Hid (Mod [] w24 w25) := Lib.hid m25
    clear m25 C25
    have C26 := Lib.hid (rSame_same _ _ (b) _ (Ry.out.kept0 (M4.out.trans (M5.out.trans (M6.out.trans (M7.out.trans (M8.out.trans (M9.out.trans (M10.out.trans (M11.out.trans (M12.out.trans (M13.out.trans (M14.out.trans (M15.out.trans (M16.out.trans (M17.out.trans (M18.out.trans (M19.out.trans (M20.out.trans (M21.out.trans (M22.out.trans (M23.out.trans (M24.out.trans M25.out)))))))))))))))))))))) (HB.out.kept0 (M1.out.trans (M2.out.trans (M3.out.trans (M4.out.trans (M5.out.trans (M6.out.trans (M7.out.trans (M8.out.trans (M9.out.trans (M10.out.trans (M11.out.trans (M12.out.trans (M13.out.trans (M14.out.trans (M15.out.trans (M16.out.trans (M17.out.trans (M18.out.trans (M19.out.trans (M20.out.trans (M21.out.trans (M22.out.trans (M23.out.trans (M24.out.trans M25.out))))))))))))))))))))))))) (HLT.out _ (by omega)))
    go_wp2_with fail
    refine C26.out.mono ?_
    rintro e w26 ⟨rfl, m26⟩
    have M26 : Hid (Mod [] w25 w26) := Lib.hid m26
    clear m26 C26
    have C27 := Lib.hid (known07_any w26)
    go_wp2_with fail
    refine C27.out.mono ?_
    rintro e w27 ⟨rfl, m27⟩
    have M27 : Hid (Mod [] w26 w27) := Lib.hid m27
    clear m27 C27
    go_wp2_with fail
    go_ret
    exact ⟨rfl, (M1.out.trans (M2.out.trans (M3.out.trans (M4.out.trans (M5.out.trans (M6.out.trans (M7.out.trans (M8.out.trans (M9.out.trans (M10.out.trans (M11.out.trans (M12.out.trans (M13.out.trans (M14.out.trans (M15.out.trans (M16.out.trans (M17.out.trans (M18.out.trans (M19.out.trans (M20.out.trans (M21.out.trans (M22.out.trans (M23.out.trans (M24.out.trans (M25.out.trans (M26.out.trans M27.out))))))))))))))))))))))))))⟩
end Go.Proofs.Ytefaihockgebeaa
