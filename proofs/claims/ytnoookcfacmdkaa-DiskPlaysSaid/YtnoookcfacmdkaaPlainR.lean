/- The plain law: the program's disk and the document's answer alike. -/
import Derived.Test.YtnoookcfacmdkaaDiskW
namespace Go.Proofs.Ytnoookcfacmdkaa
open Go.RowKit Go.ChangeMaps
set_option linter.unusedSimpArgs false
set_option linter.unusedVariables false

structure Same (D : Dk) (R : Rk) : Prop where
  n : D.n = R.n
  pos : 1 ≤ D.n
  written : D.written = R.written
  down : D.down = R.down
  set : D.set = R.set
  after : D.after = R.after
  torn : D.set = true → strOfNums D.torn = R.torn
  rows : ∀ k, findRow k R.rows = (D.by_ k).map strOfNums
theorem findRow_filter {k k2 : Int} (h : k2 ≠ k) : ∀ l : List (Int × ByteArray), findRow k2 (l.filter fun r => !(r.1 == k)) = findRow k2 l
  | [] => rfl
  | r :: rs => by
    by_cases hr : r.1 = k
    · have h2 : r.1 ≠ k2 := fun e => h (e.symm.trans hr)
      rw [List.filter_cons_of_neg (by simp [hr]), findRow_filter h rs]
      simp only [findRow, if_neg h2]
    · rw [List.filter_cons_of_pos (by simp [hr])]
      simp only [findRow, findRow_filter h rs]
theorem findRow_lay (R : Rk) (k : Int) (s : ByteArray) (k2 : Int) : findRow k2 (R.lay k s).rows = if k2 = k then some s else findRow k2 R.rows := by
  simp only [Rk.lay, findRow]
  by_cases h : k2 = k
  · subst h; simp
  · rw [if_neg (fun e => h e.symm), if_neg h, findRow_filter h]
theorem Same.asked {D : Dk} {R : Rk} (h : Same D R) (k : Int) : D.asked k = R.asked k := by
  unfold Dk.asked Rk.asked
  rw [h.down, h.n]
theorem Same.sec {D : Dk} {R : Rk} (h : Same D R) (k : Int) : strOfNums (D.sec k) = R.sec k := by
  unfold Dk.sec Rk.sec
  rw [h.rows k]
  cases D.by_ k <;> rfl
theorem Same.laid {D : Dk} {R : Rk} (h : Same D R) (k : Int) {l : List Int} {s : ByteArray} (e : strOfNums l = s) (k2 : Int) : findRow k2 (R.lay k s).rows = ((D.lay k l).by_ k2).map strOfNums := by
  rw [findRow_lay]
  simp only [Dk.lay]
  by_cases hk : k2 = k
  · rw [if_pos hk, if_pos hk, ← e]; rfl
  · rw [if_neg hk, if_neg hk]; exact h.rows k2
theorem Same.write {D : Dk} {R : Rk} (h : Same D R) (k : Int) (l : List Int) : (D.write k l).1 = (R.write k l).1 ∧ Same (D.write k l).2 (R.write k l).2 := by
  have ha := h.asked k
  have hs := h.set
  have hf := h.after
  by_cases h1 : R.asked k = 0
  · rw [h1] at ha
    by_cases h2 : l.length = 64
    · by_cases h3 : R.set = true
      · rw [h3] at hs
        by_cases h4 : R.after = 0
        · rw [h4] at hf
          have e1 : D.write k l = (16, { D.lay k D.torn with set := false, down := true }) := by simp [Dk.write, ha, h2, hs, hf]
          have e2 : R.write k l = (16, { R.lay k R.torn with set := false, down := true }) := by simp [Rk.write, h1, h2, h3, h4]
          rw [e1, e2]
          exact ⟨rfl, h.n, h.pos, h.written, rfl, rfl, h.after, fun e => by simp at e, h.laid k (h.torn hs)⟩
        · have h4' : ¬ D.after = 0 := fun e => h4 (hf ▸ e)
          have e1 : D.write k l = (0, { D.lay k l with after := D.after - 1, written := D.written + 1 }) := by simp [Dk.write, ha, h2, hs, h4']
          have e2 : R.write k l = (0, { ({ R with after := R.after - 1 } : Rk).lay k (strOfNums l) with written := R.written + 1 }) := by simp [Rk.write, h1, h2, h3, h4]
          rw [e1, e2]
          exact ⟨rfl, h.n, h.pos, by simp [Dk.lay, h.written], h.down, h.set, by simp [Dk.lay, Rk.lay, h.after], h.torn, h.laid k rfl⟩
      · have h3' : R.set = false := by simpa using h3
        rw [h3'] at hs
        have e1 : D.write k l = (0, { D.lay k l with written := D.written + 1 }) := by simp [Dk.write, ha, h2, hs]; rfl
        have e2 : R.write k l = (0, { R.lay k (strOfNums l) with written := R.written + 1 }) := by simp [Rk.write, h1, h2, h3']
        rw [e1, e2]
        exact ⟨rfl, h.n, h.pos, by simp [Dk.lay, h.written], h.down, h.set, h.after, h.torn, h.laid k rfl⟩
    · have e1 : D.write k l = (2, D) := by simp [Dk.write, ha, h2]
      have e2 : R.write k l = (2, R) := by simp [Rk.write, h1, h2]
      rw [e1, e2]
      exact ⟨rfl, h⟩
  · have h1' : ¬ D.asked k = 0 := by rw [ha]; exact h1
    have e1 : D.write k l = (R.asked k, D) := by simp [Dk.write, h1', ha, h1]
    have e2 : R.write k l = (R.asked k, R) := by simp [Rk.write, h1]
    rw [e1, e2]
    exact ⟨rfl, h⟩
theorem Same.crash {D : Dk} {R : Rk} (h : Same D R) (k : Int) (l : List Int) : (D.crash k l).1 = (R.crash k l).1 ∧ Same (D.crash k l).2 (R.crash k l).2 := by
  have hp := h.pos
  by_cases h1 : R.down = true
  · have ha : D.asked 0 = 16 := by simp [Dk.asked, h.down, h1]
    have e1 : D.crash k l = (16, D) := by simp [Dk.crash, ha]
    have e2 : R.crash k l = (16, R) := by simp [Rk.crash, h1]
    rw [e1, e2]
    exact ⟨rfl, h⟩
  · have ha : D.asked 0 = 0 := by
      unfold Dk.asked
      rw [if_neg (show ¬ D.down = true by rw [h.down]; exact h1), if_neg (show ¬ ((0 : Int) < 0 ∨ D.n ≤ 0) by omega)]
    have h1' : R.down = false := by simpa using h1
    by_cases h2 : k < 0 ∨ l.length ≠ 64
    · have e1 : D.crash k l = (2, D) := by
        unfold Dk.crash
        rw [if_neg (show ¬ D.asked 0 ≠ 0 by rw [ha]; simp), if_pos h2]
      have e2 : R.crash k l = (2, R) := by
        unfold Rk.crash
        rw [if_neg h1, if_pos h2]
      rw [e1, e2]
      exact ⟨rfl, h⟩
    · have e1 : D.crash k l = (0, { D with set := true, after := k, torn := l }) := by
        unfold Dk.crash
        rw [if_neg (show ¬ D.asked 0 ≠ 0 by rw [ha]; simp), if_neg h2]
      have e2 : R.crash k l = (0, { R with set := true, after := k, torn := strOfNums l }) := by
        unfold Rk.crash
        rw [if_neg h1, if_neg h2]
      rw [e1, e2]
      exact ⟨rfl, h.n, h.pos, h.written, h.down, rfl, rfl, fun _ => rfl, h.rows⟩
theorem Same.up {D : Dk} {R : Rk} (h : Same D R) : Same { D with down := false } { R with down := false } :=
  ⟨h.n, h.pos, h.written, rfl, h.set, h.after, h.torn, h.rows⟩
def Rk.new (n : Int) : Rk := { n := n, rows := [], written := 0, down := false, set := false, after := 0, torn := ByteArray.empty }
theorem Same.new (n : Int) (h : 1 ≤ n) : Same (Dk.new n) (Rk.new n) :=
  ⟨rfl, h, rfl, rfl, rfl, rfl, fun e => by simp [Dk.new] at e, fun k => rfl⟩
theorem rows_write (R : Rk) (k : Int) (l : List Int) : (R.write k l).2.rows.length ≤ R.rows.length + 1 := by
  have hf := List.length_filter_le (fun r : Int × ByteArray => !(r.1 == k)) R.rows
  unfold Rk.write
  repeat' split
  all_goals simp [Rk.lay]
  all_goals omega
theorem rows_crash (R : Rk) (k : Int) (l : List Int) : (R.crash k l).2.rows = R.rows := by
  unfold Rk.crash
  repeat' split
  all_goals rfl
theorem written_write (R : Rk) (k : Int) (l : List Int) : R.written ≤ (R.write k l).2.written ∧ (R.write k l).2.written ≤ R.written + 1 := by
  unfold Rk.write
  repeat' split
  all_goals simp [Rk.lay]
  all_goals omega
theorem written_crash (R : Rk) (k : Int) (l : List Int) : (R.crash k l).2.written = R.written := by
  unfold Rk.crash
  repeat' split
  all_goals rfl
end Go.Proofs.Ytnoookcfacmdkaa
