/- The document's disk: Write. -/
import Derived.Test.YtnoookcfacmdkaaDiskS
import Derived.Test.YtnoookcfacmdkaaDiskD
namespace Go.Proofs.Ytnoookcfacmdkaa
open Go.RowKit Go.ChangeMaps
set_option linter.unusedSimpArgs false
set_option linter.unusedVariables false

def Rk.write (R : Rk) (k : Int) (l : List Int) : Int × Rk :=
  if R.asked k ≠ 0 then (R.asked k, R) else if l.length ≠ 64 then (2, R)
  else if R.set = true then
    if R.after = 0 then (16, { R.lay k R.torn with set := false, down := true })
    else (0, { ({ R with after := R.after - 1 } : Rk).lay k (strOfNums l) with written := R.written + 1 })
  else (0, { R.lay k (strOfNums l) with written := R.written + 1 })
def Rk.crash (R : Rk) (after : Int) (l : List Int) : Int × Rk :=
  if R.down = true then (16, R) else if after < 0 ∨ l.length ≠ 64 then (2, R) else (0, { R with set := true, after := after, torn := strOfNums l })
theorem RefAt.setCell {w : World} {b : Nat} {v : Value} {g : Nat} {R R' : Rk} (h : RefAt w b v g R) (hne : b ≠ g) (i : Nat) (u : Value) (e : (rcells v R).setIfInBounds i u = rcells v R') (e1 : R'.rows = R.rows) (e3 : 0 ≤ R'.after ∧ R'.after ≤ 9223372036854775807) :
    RefAt (w.setCell ⟨b, i, none⟩ u) b v g R' ∧ Mod [b] w (w.setCell ⟨b, i, none⟩ u) := by
  have hm := (Mod.refl [b] w).setCell (p := ⟨b, i, none⟩) (by simp) u
  exact ⟨⟨by rw [heap_setCell_blk h.blk, e], e1 ▸ h.rows.kept hm (by simp; omega), e3⟩, hm⟩
theorem RefAt.written {w : World} {b : Nat} {v : Value} {g : Nat} {R : Rk} (h : RefAt w b v g R) (hne : b ≠ g) (n : Int) : RefAt (w.setCell ⟨b, 2, none⟩ (.int .i64 n)) b v g { R with written := n } ∧ Mod [b] w (w.setCell ⟨b, 2, none⟩ (.int .i64 n)) :=
  h.setCell hne 2 _ rfl rfl h.after
theorem RefAt.afters {w : World} {b : Nat} {v : Value} {g : Nat} {R : Rk} (h : RefAt w b v g R) (hne : b ≠ g) (n : Int) (hn : 0 ≤ n ∧ n ≤ 9223372036854775807) : RefAt (w.setCell ⟨b, 5, none⟩ (.int .i64 n)) b v g { R with after := n } ∧ Mod [b] w (w.setCell ⟨b, 5, none⟩ (.int .i64 n)) :=
  h.setCell hne 5 _ rfl rfl hn
theorem RefAt.downs {w : World} {b : Nat} {v : Value} {g : Nat} {R : Rk} (h : RefAt w b v g R) (hne : b ≠ g) (x : Bool) : RefAt (w.setCell ⟨b, 3, none⟩ (.bool x)) b v g { R with down := x } ∧ Mod [b] w (w.setCell ⟨b, 3, none⟩ (.bool x)) :=
  h.setCell hne 3 _ rfl rfl h.after
theorem RefAt.sets {w : World} {b : Nat} {v : Value} {g : Nat} {R : Rk} (h : RefAt w b v g R) (hne : b ≠ g) (x : Bool) : RefAt (w.setCell ⟨b, 4, none⟩ (.bool x)) b v g { R with set := x } ∧ Mod [b] w (w.setCell ⟨b, 4, none⟩ (.bool x)) :=
  h.setCell hne 4 _ rfl rfl h.after
theorem rwrite_refused {w : World} {b : Nat} {v : Value} {g : Nat} {R : Rk} (h : RefAt w b v g R) (k : Int) (x : Value) (ha : R.asked k ≠ 0) :
    Calls Try.prog 17 #[.pointer (some ⟨b, 0, none⟩), .int .i64 k, x] w fun e w' => e = .returned (.int .i64 (R.asked k)) ∧ w = w' := by
  have c0 := h.c0
  have c3 := h.c3
  by_cases h1 : R.down = true
  · have hv : R.asked k = 16 := by simp [Rk.asked, h1]
    rw [hv]
    rw [h1] at c3
    clear h ha hv
    go_enter Try.func17, Try.ntmps17
    go_wp2_with fail
    go_ret
    exact ⟨rfl, rfl⟩
  · have h1' : R.down = false := by simpa using h1
    rw [h1'] at c3
    by_cases h2 : k < 0
    · have hv : R.asked k = 2 := by simp [Rk.asked, h1', h2]
      rw [hv]
      clear h ha hv
      go_enter Try.func17, Try.ntmps17
      go_wp2_with fail
      go_ret
      exact ⟨rfl, rfl⟩
    · by_cases h3 : R.n ≤ k
      · have hv : R.asked k = 2 := by simp [Rk.asked, h1', h3]
        rw [hv]
        clear h ha hv
        go_enter Try.func17, Try.ntmps17
        go_wp2_with fail
        go_ret
        exact ⟨rfl, rfl⟩
      · exact absurd (by simp [Rk.asked, h1', h2, h3]) ha
theorem rwrite_arg {w : World} {b : Nat} {v : Value} {g : Nat} {R : Rk} (h : RefAt w b v g R) (k : Int) {x : Value} {l : List Int} (hx : BytesAt w x l) (ha : R.asked k = 0) (hn : l.length ≠ 64) (hm : l.length ≤ maxLen) :
    Calls Try.prog 17 #[.pointer (some ⟨b, 0, none⟩), .int .i64 k, x] w fun e w' => e = .returned (.int .i64 2) ∧ w = w' := by
  obtain ⟨h1, hk0, hkn⟩ := asked_zero ha
  have c0 := h.c0
  have c3 := h.c3
  rw [h1] at c3
  obtain ⟨a, cap, rfl⟩ := hx.form
  have hq : ((l.length : Int) != 64) = true := by simp; omega
  unfold maxLen at hm
  have HN := Lib.hid h1
  clear h ha hx hn h1
  go_enter Try.func17, Try.ntmps17
  go_wp2_with fail
  go_ret
  exact ⟨rfl, rfl⟩
set_option maxRecDepth 10000 in
theorem rwrite_plain {w : World} {b : Nat} {v : Value} {g : Nat} {R : Rk} (h : RefAt w b v g R) (hr : R.rows.length ≤ 999998) (k : Int) {x : Value} {l : List Int} (hx : BytesAt w x l) (ha : R.asked k = 0) (h64 : l.length = 64) (hs : R.set = false) (hw : 0 ≤ R.written) (hw2 : R.written ≤ 4611686018427387904) :
    Calls Try.prog 17 #[.pointer (some ⟨b, 0, none⟩), .int .i64 k, x] w fun e w' => e = .returned (.int .i64 0) ∧ Mod [b] w w' ∧ ∃ v' g', w.heap.size ≤ g' ∧ RefAt w' b v' g' { R.lay k (strOfNums l) with written := R.written + 1 } := by
  obtain ⟨h1, hk0, hkn⟩ := asked_zero ha
  have hbl := lt_of_heap h.blk
  have c0 := h.c0
  have c3 := h.c3
  have c4 := h.c4
  rw [h1] at c3
  rw [hs] at c4
  have hcv := conv_bytes hx
  obtain ⟨a, cap, rfl⟩ := hx.form
  rw [h64] at hcv ⊢
  have HC := Lib.hid hcv
  have H := Lib.hid h
  have HN := Lib.hid (And.intro h1 hs)
  have H6 := Lib.hid h64
  clear h ha hx h1 hs hcv h64
  go_enter Try.func17, Try.ntmps17
  go_wp2_with first
    | (refine wpList_convert rfl (s := 23) rfl rfl HC.out ?_)
  refine (lay_any H.out (by omega) k (strOfNums l)).mono ?_
  rintro e w1 ⟨rfl, hm, v', g', hg', hk⟩
  have c2 := hk.c2
  have f2 := frozen_blk hk.blk 2
  have HK := Lib.hid hk
  have HG := Lib.hid hg'
  clear hk hg'
  dsimp only [Rk.lay] at c2
  go_wp2_with fail
  go_ret
  obtain ⟨k1, k2⟩ := HK.out.written (by have := HG.out; omega) (R.written + 1)
  exact ⟨rfl, hm.trans k2, v', g', HG.out, k1⟩
end Go.Proofs.Ytnoookcfacmdkaa
