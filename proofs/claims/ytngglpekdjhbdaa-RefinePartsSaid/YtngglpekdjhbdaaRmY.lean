/- Arguments opened: slices of ints. -/
import Derived.Test.YtngglpekdjhbdaaRmS
import Derived.Test.YtngglpekdjhbdaaRmW
namespace Go.Proofs.Ytngglpekdjhbdaa
open Go.ChangeShapes Go.WideShapes Go.ChangeAt Go.RowKit Go.Deep
set_option linter.unusedSimpArgs false
set_option linter.unusedVariables false
theorem cL_Ops : Try.prog.cellsOf 30 = 1 := by kernel_rfl
theorem bL_Ops : Try.prog.bytesOf 30 = 24 := by kernel_rfl
theorem okWide_structL {P : Program} {W : World} {r : Reach} {base : Nat} {t : TypeId} {fs : Array Field} {v : Value} (ht : P.underlying t = some (.struct fs)) (h : Value.okWide P W r base t v) : ∃ cs, v = .agg cs ∧ cs.size = P.cellsOf t := by
  unfold Value.okWide at h
  rw [ht] at h
  obtain ⟨cs, h1, h2, _⟩ := h
  exact ⟨cs, h1, h2⟩
instance : Inhabited (SlH × List Sg) := ⟨(⟨none, 0, 0⟩, [])⟩
section
variable {H : Type} {enc : TypeId × Value → H} {w : World}
theorem spanL_arg {v : Value} {d : DataW H} {pl : List MemPlace} (hv : ∃ cs, v = .agg cs ∧ cs.size = Try.prog.cellsOf 24) (h : DataW.Trod enc Try.prog w 0 (fun _ => true) true 24 v d pl) :
    ∃ x y : Int, v = .agg #[.int .i64 x, .int .i64 y] := by
  obtain ⟨cs, rfl, hl⟩ := hv
  obtain ⟨fuel, hf⟩ := h
  rw [cL_Span] at hl
  obtain ⟨x, y, e⟩ := spanL_cells hf (by simpa [Value.cells] using hl)
  refine ⟨x, y, ?_⟩
  have : cs = #[.int .i64 x, .int .i64 y] := by
    simp only [Value.cells] at e
    rw [← e]
  rw [this]
theorem puts_cells {n : Nat} {cs : List Value} {d : DataW H} {pl : List MemPlace} (h : DataW.trod enc Try.prog w 0 (fun _ => true) true n 30 cs = some (d, pl)) (hw : Lite Try.prog 30 d) :
    ∃ (v : Value) (l : List Sg), cs = [v] ∧ RowAt encSg w v l ∧ l.length ≤ 140737488355328 := by
  obtain ⟨v, l, e, hr, hq, hb⟩ := rows_cells (enc := encSg) (Q := fun _ => True) Try.underlying30 (by rw [cL_Op]; omega) (fun x => by rw [cL_Op]; rfl) (fun n xs d pl h hw hl => by
    obtain ⟨x, e⟩ := put_cells h (by rw [cL_Op] at hl; exact hl)
    exact ⟨x, e, trivial⟩) h hw
  refine ⟨v, l, e, hr, ?_⟩
  rw [bL_Op] at hb
  simp [reachBytes] at hb
  omega
theorem rowmapL {α β : Type} {enc : β → List Value} {g : α → β} {w : World} {v : Value} {l : List α} (h : RowAt (fun x => enc (g x)) w v l) : RowAt enc w v (l.map g) := by
  have e : ∀ l : List α, flat (fun x => enc (g x)) l = flat enc (l.map g) := fun l => by simp [flat, List.flatMap_map]
  cases h with
  | nil a cap => exact .nil a cap
  | at_ b o cap l hc h =>
    have := RowAt.at_ (enc := enc) (w := w) b o cap (l.map g) (by simpa using hc) (by rw [← e]; exact h)
    simpa using this
theorem putss_arg {v : Value} {d : DataW H} {pl : List MemPlace} (hv : ∃ a n c, v = .slice a n c) (h : DataW.Trod enc Try.prog w 0 (fun _ => true) true 22 v d pl) (hw : Lite Try.prog 22 d) :
    ∃ hs os, PutsAt w v hs os ∧ hs.length ≤ 140737488355328 ∧ ∀ h ∈ hs, h.n ≤ 140737488355328 := by
  obtain ⟨a, n, c, rfl⟩ := hv
  obtain ⟨fuel, hf⟩ := h
  obtain ⟨v, l, e, hr, hq, hb⟩ := rows_cells (enc := fun x : SlH × List Sg => encH x.1) (Q := fun x => RowAt encSg w x.1.val x.2 ∧ x.1.n = x.2.length ∧ x.2.length ≤ 140737488355328) Try.underlying22 (by rw [cL_Ops]; omega) (fun x => by rw [cL_Ops]; rfl) (fun n xs d pl h hw hl => by
    obtain ⟨v, l, e, hs, hn⟩ := puts_cells h hw
    obtain ⟨x, hx, hxn⟩ := hs.head
    subst hx
    exact ⟨(x, l), by rw [e]; rfl, hs, hxn, hn⟩) hf hw
  simp [Value.cells] at e
  subst e
  refine ⟨l.map (·.1), l.map (·.2), ⟨rowmapL (g := fun x : SlH × List Sg => x.1) hr, by simp, fun i h o h1 h2 => ?_⟩, ?_, fun h hh => ?_⟩
  · rw [List.getElem?_map] at h1 h2
    cases hi : l[i]? with
    | none => rw [hi] at h1; simp at h1
    | some x =>
      rw [hi] at h1 h2
      simp at h1 h2
      subst h1 h2
      have := hq x (List.mem_of_getElem? hi)
      exact ⟨this.1, this.2.1⟩
  · rw [bL_Ops] at hb
    simp [reachBytes] at hb ⊢
    omega
  · obtain ⟨x, hx, rfl⟩ := List.mem_map.1 hh
    have := hq x hx
    omega
end
end Go.Proofs.Ytngglpekdjhbdaa
namespace Go.Proofs.Ytngglpekdjhbdaa
open Go.ChangeShapes Go.WideShapes Go.ChangeAt Go.RowKit Go.Deep
set_option linter.unusedSimpArgs false
set_option linter.unusedVariables false
theorem bL_int : Try.prog.bytesOf 3 = 8 := by kernel_rfl
theorem list_oneL {l : List Value} (h : l.length = 1) : ∃ a, l = [a] := by
  match l, h with
  | [a], _ => exact ⟨a, rfl⟩
section
variable {H : Type} {enc : TypeId × Value → H} {w : World}
theorem intsL_arg {v : Value} {d : DataW H} {pl : List MemPlace} (hv : ∃ a n c, v = .slice a n c) (h : DataW.Trod enc Try.prog w 0 (fun _ => true) true 25 v d pl) (hw : Lite Try.prog 25 d) :
    ∃ l : List Int, RowAt encI w v l ∧ l.length ≤ 140737488355328 := by
  obtain ⟨a, n, c, rfl⟩ := hv
  obtain ⟨fuel, hf⟩ := h
  obtain ⟨v, l, e, hr, hq, hb⟩ := rows_cells (enc := encI) (Q := fun _ => True) Try.underlying25 (by rw [cL_int]; omega) (fun x => by rw [cL_int]; rfl) (fun n xs d pl h hw hl => by
    rw [cL_int] at hl
    obtain ⟨x, rfl⟩ := list_oneL hl
    obtain ⟨a, e0, _, w0⟩ := DataW.trod_int Try.underlying3 h
    simp at e0
    exact ⟨a, by rw [e0]; rfl, trivial⟩) hf hw
  simp [Value.cells] at e
  subst e
  refine ⟨l, hr, ?_⟩
  rw [bL_int] at hb
  simp [reachBytes] at hb
  omega
end
end Go.Proofs.Ytngglpekdjhbdaa
