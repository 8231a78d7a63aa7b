/- The document's disk: Write with a crash in wait; Crash. -/
import Derived.Test.YtnoookcfacmdkaaDiskT
namespace Go.Proofs.Ytnoookcfacmdkaa
open Go.RowKit Go.ChangeMaps
set_option linter.unusedSimpArgs false
set_option linter.unusedVariables false

set_option maxHeartbeats 1000000 in
set_option maxRecDepth 10000 in
theorem rwrite_less {w : World} {b : Nat} {v : Value} {g : Nat} {R : Rk} (h : RefAt w b v g R) (hne : b ≠ g) (hr : R.rows.length ≤ 999998) (k : Int) {x : Value} {l : List Int} (hx : BytesAt w x l) (hb : Off x b) (ha : R.asked k = 0) (h64 : l.length = 64) (hs : R.set = true) (hz : R.after ≠ 0) (hw : 0 ≤ R.written) (hw2 : R.written ≤ 4611686018427387904) :
    Calls Try.prog 17 #[.pointer (some ⟨b, 0, none⟩), .int .i64 k, x] w fun e w' => e = .returned (.int .i64 0) ∧ Mod [b] w w' ∧ ∃ v' g', w.heap.size ≤ g' ∧ RefAt w' b v' g' { ({ R with after := R.after - 1 } : Rk).lay k (strOfNums l) with written := R.written + 1 } := by
  obtain ⟨h1, hk0, hkn⟩ := asked_zero ha
  have hbl := lt_of_heap h.blk
  obtain ⟨ha1, ha2⟩ := h.after
  obtain ⟨d1, m1⟩ := h.afters hne (R.after - 1) ⟨by omega, by omega⟩
  have c0 := h.c0
  have c3 := h.c3
  have c4 := h.c4
  have c5 := h.c5
  have f5 := frozen_blk h.blk 5
  rw [h1] at c3
  rw [hs] at c4
  have hx' := hx.kept m1 (by simpa using hb)
  have hcv := conv_bytes hx'
  obtain ⟨a, cap, rfl⟩ := hx.form
  rw [h64] at hcv ⊢
  have hz' : (R.after == 0) = false := beq_eq_false_iff_ne.2 hz
  have HC := Lib.hid hcv
  have H := Lib.hid d1
  have HM := Lib.hid m1
  have HN := Lib.hid (And.intro h1 hs)
  have H6 := Lib.hid h64
  clear h ha hx hx' h1 hs hcv h64 hz d1 m1
  go_enter Try.func17, Try.ntmps17
  go_wp2_with first
    | (refine wpList_convert rfl (s := 23) rfl rfl HC.out ?_)
  refine (lay_any H.out (by dsimp only; omega) k (strOfNums l)).mono ?_
  rintro e w1 ⟨rfl, hm, v', g', hg', hk⟩
  have c2 := hk.c2
  have f2 := frozen_blk hk.blk 2
  have HK := Lib.hid hk
  have HG := Lib.hid hg'
  clear hk hg'
  dsimp only [Rk.lay] at c2
  go_wp2_with fail
  go_ret
  have hgs : w.heap.size ≤ g' := Nat.le_trans HM.out.size HG.out
  obtain ⟨k1, k2⟩ := HK.out.written (by omega) (R.written + 1)
  exact ⟨rfl, (HM.out.trans hm).trans k2, v', g', hgs, k1⟩
set_option maxRecDepth 10000 in
theorem rwrite_crash {w : World} {b : Nat} {v : Value} {g : Nat} {R : Rk} (h : RefAt w b v g R) (hr : R.rows.length ≤ 999998) (k : Int) {x : Value} {l : List Int} (hx : BytesAt w x l) (ha : R.asked k = 0) (h64 : l.length = 64) (hs : R.set = true) (hz : R.after = 0) :
    Calls Try.prog 17 #[.pointer (some ⟨b, 0, none⟩), .int .i64 k, x] w fun e w' => e = .returned (.int .i64 16) ∧ Mod [b] w w' ∧ ∃ v' g', w.heap.size ≤ g' ∧ RefAt w' b v' g' { R.lay k R.torn with set := false, down := true } := by
  obtain ⟨h1, hk0, hkn⟩ := asked_zero ha
  have hbl := lt_of_heap h.blk
  have c0 := h.c0
  have c3 := h.c3
  have c4 := h.c4
  have c5 := h.c5
  have c6 := h.c6
  rw [h1] at c3
  rw [hs] at c4
  rw [hz] at c5
  obtain ⟨a, cap, rfl⟩ := hx.form
  rw [h64]
  have H := Lib.hid h
  have HN := Lib.hid (And.intro h1 hs)
  have H6 := Lib.hid h64
  have HZ := Lib.hid hz
  clear h ha hx h1 hs h64 hz
  go_enter Try.func17, Try.ntmps17
  go_wp2_with fail
  refine (lay_any H.out (by omega) k R.torn).mono ?_
  rintro e w1 ⟨rfl, hm, v', g', hg', hk⟩
  have hne' : b ≠ g' := by omega
  obtain ⟨k1, k2⟩ := hk.sets hne' false
  obtain ⟨k3, k4⟩ := k1.downs hne' true
  have f4 := frozen_blk hk.blk 4
  have f3 := frozen_blk k1.blk 3
  have HK := Lib.hid (And.intro (hm.trans (k2.trans k4)) k3)
  have HG := Lib.hid hg'
  have d4 := hk.c4
  have d3 := k1.c3
  clear hk hg' k1 k2 k3 k4 hm
  go_wp2_with fail
  go_ret
  exact ⟨rfl, HK.out.1, v', g', HG.out, HK.out.2⟩
theorem rwrite_any {w : World} {b : Nat} {v : Value} {g : Nat} {R : Rk} (h : RefAt w b v g R) (hne : b ≠ g) (hr : R.rows.length ≤ 999998) (k : Int) {x : Value} {l : List Int} (hx : BytesAt w x l) (hb : l ≠ [] → Off x b) (hl : l.length ≤ maxLen) (hw : 0 ≤ R.written) (hw2 : R.written ≤ 4611686018427387904) :
    Calls Try.prog 17 #[.pointer (some ⟨b, 0, none⟩), .int .i64 k, x] w fun e w' => e = .returned (.int .i64 (R.write k l).1) ∧ Mod [b] w w' ∧ ∃ v' g', (g' = g ∨ w.heap.size ≤ g') ∧ RefAt w' b v' g' (R.write k l).2 := by
  unfold Rk.write
  by_cases ha : R.asked k = 0
  · rw [if_neg (by simpa using ha)]
    by_cases h64 : l.length = 64
    · rw [if_neg (by simpa using h64)]
      by_cases hs : R.set = true
      · rw [if_pos hs]
        by_cases hz : R.after = 0
        · rw [if_pos hz]
          exact (rwrite_crash h hr k hx ha h64 hs hz).mono fun e w' ⟨he, hm, v', g', hg, hk⟩ => ⟨he, hm, v', g', .inr hg, hk⟩
        · rw [if_neg hz]
          exact (rwrite_less h hne hr k hx (hb (fun e => by rw [e] at h64; simp at h64)) ha h64 hs hz hw hw2).mono fun e w' ⟨he, hm, v', g', hg, hk⟩ => ⟨he, hm, v', g', .inr hg, hk⟩
      · rw [if_neg hs]
        exact (rwrite_plain h hr k hx ha h64 (by simpa using hs) hw hw2).mono fun e w' ⟨he, hm, v', g', hg, hk⟩ => ⟨he, hm, v', g', .inr hg, hk⟩
    · rw [if_pos h64]
      exact (rwrite_arg h k hx ha h64 hl).mono fun e w' ⟨he, hw⟩ => ⟨he, hw ▸ Mod.refl _ _, v, g, .inl rfl, hw ▸ h⟩
  · rw [if_pos ha]
    exact (rwrite_refused h k x ha).mono fun e w' ⟨he, hw⟩ => ⟨he, hw ▸ Mod.refl _ _, v, g, .inl rfl, hw ▸ h⟩
theorem rcrash_down {w : World} {b : Nat} {v : Value} {g : Nat} {R : Rk} (h : RefAt w b v g R) (k : Int) (x : Value) (h1 : R.down = true) :
    Calls Try.prog 19 #[.pointer (some ⟨b, 0, none⟩), .int .i64 k, x] w fun e w' => e = .returned (.int .i64 16) ∧ w = w' := by
  have c3 := h.c3
  rw [h1] at c3
  clear h h1
  go_enter Try.func19, Try.ntmps19
  go_wp2_with fail
  go_ret
  exact ⟨rfl, rfl⟩
theorem rcrash_arg {w : World} {b : Nat} {v : Value} {g : Nat} {R : Rk} (h : RefAt w b v g R) (k : Int) {x : Value} {l : List Int} (hx : BytesAt w x l) (h1 : R.down = false) (hn : k < 0 ∨ l.length ≠ 64) (hm : l.length ≤ maxLen) :
    Calls Try.prog 19 #[.pointer (some ⟨b, 0, none⟩), .int .i64 k, x] w fun e w' => e = .returned (.int .i64 2) ∧ w = w' := by
  have c3 := h.c3
  rw [h1] at c3
  obtain ⟨a, cap, rfl⟩ := hx.form
  unfold maxLen at hm
  have HX := Lib.hid (And.intro h hx)
  clear h h1 hx
  by_cases hk : k < 0
  · go_enter Try.func19, Try.ntmps19
    go_wp2_with fail
    go_ret
    exact ⟨rfl, rfl⟩
  · have hq : ((l.length : Int) != 64) = true := by simp; omega
    clear hn
    go_enter Try.func19, Try.ntmps19
    go_wp2_with fail
    go_ret
    exact ⟨rfl, rfl⟩
set_option maxRecDepth 10000 in
theorem rcrash_done {w : World} {b : Nat} {v : Value} {g : Nat} {R : Rk} (h : RefAt w b v g R) (hne : b ≠ g) (k : Int) {x : Value} {l : List Int} (hx : BytesAt w x l) (h1 : R.down = false) (hk : 0 ≤ k) (hk2 : k ≤ 9223372036854775807) (h64 : l.length = 64) :
    Calls Try.prog 19 #[.pointer (some ⟨b, 0, none⟩), .int .i64 k, x] w fun e w' => e = .returned (.int .i64 0) ∧ Mod [b] w w' ∧ RefAt w' b v g { R with set := true, after := k, torn := strOfNums l } := by
  have c3 := h.c3
  rw [h1] at c3
  obtain ⟨d1, m1⟩ := h.sets hne true
  obtain ⟨d2, m2⟩ := d1.afters hne k ⟨hk, hk2⟩
  obtain ⟨d3, m3⟩ := d2.setCell hne 6 (.string (strOfNums l)) (R' := { R with set := true, after := k, torn := strOfNums l }) rfl rfl ⟨hk, hk2⟩
  have f4 := frozen_blk h.blk 4
  have f5 := frozen_blk h.blk 5
  have f6 := frozen_blk h.blk 6
  have c4 := h.c4
  have c5 := h.c5
  have c6 := h.c6
  have hcv := conv_bytes hx
  obtain ⟨a, cap, rfl⟩ := hx.form
  rw [h64] at hcv ⊢
  have HC := Lib.hid hcv
  have HK := Lib.hid (And.intro (m1.trans (m2.trans m3)) d3)
  have HX := Lib.hid (And.intro h hx)
  have H1 := Lib.hid (And.intro h1 h64)
  clear h h1 hx hcv d1 d2 d3 m1 m2 m3 h64
  go_enter Try.func19, Try.ntmps19
  go_wp2_with first
    | (refine wpList_convert rfl (s := 23) rfl rfl HC.out ?_)
  go_ret
  exact ⟨rfl, HK.out.1, HK.out.2⟩
theorem rcrash_any {w : World} {b : Nat} {v : Value} {g : Nat} {R : Rk} (h : RefAt w b v g R) (hne : b ≠ g) (k : Int) {x : Value} {l : List Int} (hx : BytesAt w x l) (hl : l.length ≤ maxLen) (hk2 : k ≤ 9223372036854775807) :
    Calls Try.prog 19 #[.pointer (some ⟨b, 0, none⟩), .int .i64 k, x] w fun e w' => e = .returned (.int .i64 (R.crash k l).1) ∧ Mod [b] w w' ∧ RefAt w' b v g (R.crash k l).2 := by
  unfold Rk.crash
  by_cases h1 : R.down = true
  · rw [if_pos h1]
    exact (rcrash_down h k x h1).mono fun e w' ⟨he, hw⟩ => ⟨he, hw ▸ Mod.refl _ _, hw ▸ h⟩
  · rw [if_neg h1]
    have h1' : R.down = false := by simpa using h1
    by_cases hn : k < 0 ∨ l.length ≠ 64
    · rw [if_pos hn]
      exact (rcrash_arg h k hx h1' hn hl).mono fun e w' ⟨he, hw⟩ => ⟨he, hw ▸ Mod.refl _ _, hw ▸ h⟩
    · rw [if_neg hn]
      exact rcrash_done h hne k hx h1' (by omega) hk2 (by omega)
end Go.Proofs.Ytnoookcfacmdkaa
