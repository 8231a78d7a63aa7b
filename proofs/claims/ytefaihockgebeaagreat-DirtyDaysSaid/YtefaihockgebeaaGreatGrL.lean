/- Graph: what the laying of the order keeps from round to round. -/
import Derived.Test.YtefaihockgebeaaGreatSpO
import Derived.Test.YtefaihockgebeaaGreatGrF
import Derived.Test.YtefaihockgebeaaGreatGrG
import Derived.Test.YtefaihockgebeaaGreatGrD
import Derived.Laws.MakeOwn
namespace Go.Proofs.YtefaihockgebeaaGreat
open Go.RowKit Go.ChangeMaps Go.Deep
set_option linter.unusedSimpArgs false
set_option linter.unusedVariables false
set_option maxRecDepth 20000

theorem made_one (u : Value) (n : Nat) : madeCells #[u] n = Array.replicate n u := by
  apply Array.ext
  · simp [madeCells]
  · intro i h1 h2
    simp [madeCells, Nat.mod_one]
theorem run_makeInts (n : Nat) (hn : n ≤ 1000000) (w : World) : (Instr.makeSlice 46 (.int .i64 n) (.int .i64 n)).run Tryz.prog w = .ok (.slice (some ⟨w.heap.size, 0, none⟩) n n) (w.alloc (.cells (Array.replicate n (.int .i64 0)) 3)) := by
  have h5 : (Tryz.prog.info? 3).map (fun i => (i.zero, i.size, i.bytes)) = some (some (.int .i64 0), 1, 8) := by kernel_rfl
  obtain ⟨i0, hi, hz0, hz1, hz2⟩ := info_parts h5
  have h := run_make (P := Tryz.prog) (w := w) 46 3 i0 (.int .i64 0) Tryz.underlying46 hi hz0 .i64 .i64 n n (by omega) (Int.le_refl _) (by rw [hz2]; omega) (by omega)
  rw [hz1, Nat.mul_one] at h
  have e : (Value.int IntKind.i64 0).cells = #[.int .i64 0] := rfl
  rw [e, made_one, Int.toNat_natCast] at h
  exact h
theorem own_zeros (w : World) (n base : Nat) (hb : base ≤ w.heap.size) (hn : n ≤ 1000000) : OwnN (w.alloc (.cells (Array.replicate n (.int .i64 0)) 3)) base (.slice (some ⟨w.heap.size, 0, none⟩) (List.replicate n (0 : Int)).length n) (List.replicate n 0) := by
  refine ⟨flat_length encI_len _, .inr ⟨w.heap.size, n, _, rfl, hb, heap_alloc_new w _, by simp, by unfold maxLen; omega, by simp, ?_⟩⟩
  rw [List.length_replicate, Nat.mul_one, flat_encI]
  simp
/-- while the order is laid: what is counted, what waits, what is laid -/
structure SortAt (w wr : World) (B : Nat) (onv ov sv : Value) (n : Nat) (lf hl out : List Int) : Prop where
  mod : Mod [B] w wr
  box : wr.heap[B]? = some (.cells #[onv, ov] 48 (0, 0))
  low : B < w.heap.size
  len : lf.length = n
  left : OwnN wr w.heap.size (.slice (some ⟨w.heap.size, 0, none⟩) lf.length n) lf
  wait : WaitAt wr (w.heap.size + 1) (w.heap.size + 1) sv hl
  ord : OwnN wr (w.heap.size + 1) ov out
  heap : Heap hl
  apart : ∀ b, sv.ownBlock = some b → ov.ownBlock ≠ some b
section
variable {w wr w2 : World} {B n : Nat} {onv ov sv : Value} {lf hl out : List Int}
theorem OwnR.blockLt {α : Type} {enc : α → List Value} {k : Nat} {E : TypeId} {w : World} {base : Nat} {v : Value} {l : List α} (h : OwnR enc k E w base v l) {b : Nat} (hb : v.ownBlock = some b) : base ≤ b ∧ b < w.heap.size := World.ownsRow.lt h b hb
theorem SortAt.ovne (h : SortAt w wr B onv ov sv n lf hl out) : ov.ownBlock ≠ some (w.heap.size + 1) := fun e => by
  rcases h.ord.2 with ⟨rfl, _⟩ | ⟨g, cap, cur, rfl, hb, hg, _⟩
  · cases e
  · simp only [Value.ownBlock, Option.some.injEq] at e
    subst e
    have := h.wait.box
    rw [hg] at this
    simp only [Option.some.injEq, Obj.cells.injEq] at this
    exact absurd this.2.1 (by decide)
theorem SortAt.quiet (h : SortAt w wr B onv ov sv n lf hl out) (hm : Mod [] wr w2) : SortAt w w2 B onv ov sv n lf hl out :=
  ⟨h.mod.trans hm.nil, hm.heap h.box (by simp), h.low, h.len, h.left.kept0 hm, h.wait.kept0 hm, h.ord.kept0 hm, h.heap, h.apart⟩
theorem SortAt.turn {sv' : Value} {hl' : List Int} (h : SortAt w wr B onv ov sv n lf hl out) (hw : WaitAt w2 (w.heap.size + 1) (w.heap.size + 1) sv' hl') (hh : Heap hl') (hm : Mod ((w.heap.size + 1) :: blk sv) wr w2)
    (he : sv'.ownBlock = sv.ownBlock ∨ ∀ k, sv'.ownBlock = some k → wr.heap.size ≤ k) : SortAt w w2 B onv ov sv' n lf hl' out := by
  have hks : ∀ x ∈ (w.heap.size + 1) :: blk sv, w.heap.size + 1 ≤ x := fun x hx => by
    rcases List.mem_cons.1 hx with rfl | hx
    · exact Nat.le_refl _
    · exact (h.wait.own.blockLt (mem_blk.1 hx)).1
  have hB := h.low
  refine ⟨h.mod.newerK hm fun x hx => by have := hks x hx; omega, hm.heap h.box fun hx => by have := hks _ hx; omega, h.low, h.len, h.left.kept hm fun b hb hx => ?_, hw, h.ord.kept hm fun b hb hx => ?_, hh, fun b hb e => ?_⟩
  · have := hks b hx
    simp only [Value.ownBlock, Option.some.injEq] at hb
    omega
  · rcases List.mem_cons.1 hx with rfl | hx
    · exact h.ovne hb
    · exact h.apart b (mem_blk.1 hx) hb
  · rcases he with he | he
    · exact h.apart b (he ▸ hb) e
    · have := he b hb
      have := (h.ord.blockLt e).2
      omega
theorem SortAt.leftAt (h : SortAt w wr B onv ov sv n lf hl out) {k : Nat} (hk : k < n) : wr.cell? ⟨w.heap.size, k, none⟩ = some (.int .i64 (lf.getD k 0)) ∧ wr.frozen? ⟨w.heap.size, k, none⟩ = false := by
  have := RowAt.own1 h.left (i := k) (by rw [h.len]; exact hk)
  rwa [at0] at this
theorem SortAt.setLeft (h : SortAt w wr B onv ov sv n lf hl out) {k : Nat} (hk : k < n) (z : Int) : SortAt w (wr.setCell ⟨w.heap.size, k, none⟩ (.int .i64 z)) B onv ov sv n (lf.set k z) hl out := by
  have hm : Mod [w.heap.size] wr (wr.setCell ⟨w.heap.size, k, none⟩ (.int .i64 z)) := (Mod.refl _ _).setCell (by simp) _
  have hB := h.low
  have hl := own_setInt h.left (i := k) (by rw [h.len]; exact hk) z
  refine ⟨h.mod.newerK hm (by simp), hm.heap h.box (by simp; omega), h.low, by simpa using h.len, by rw [List.length_set]; exact hl, ⟨hm.heap h.wait.box (by simp), h.wait.own.kept hm fun b hb hx => ?_⟩, h.ord.kept hm fun b hb hx => ?_, h.heap, h.apart⟩
  · have := (h.wait.own.blockLt hb).1; simp at hx; omega
  · have := (h.ord.blockLt hb).1; simp at hx; omega
theorem SortAt.boxGrew {ov' : Value} (h : SortAt w wr B onv ov sv n lf hl out) (hg : Grew wr ov w2 ov') : w2.heap[B]? = some (.cells #[onv, ov] 48 (0, 0)) :=
  hg.mod.heap h.box fun hx => by
    have := (h.ord.blockLt (mem_blk.1 hx)).1
    have := h.low
    omega
/-- a field more in the order -/
theorem SortAt.setOrd {ov' : Value} {out' : List Int} (h : SortAt w wr B onv ov sv n lf hl out) (ho : OwnN w2 (w.heap.size + 1) ov' out') (hg : Grew wr ov w2 ov') : SortAt w (w2.setCell ⟨B, 1, none⟩ ov') B onv ov' sv n lf hl out' := by
  have hB := h.low
  have hks : ∀ x ∈ blk ov, w.heap.size + 1 ≤ x := fun x hx => (h.ord.blockLt (mem_blk.1 hx)).1
  have hBn : B ∉ blk ov := fun hx => by have := hks _ hx; omega
  have hm2 : Mod [B] w w2 := h.mod.newerK hg.mod fun x hx => by have := hks x hx; omega
  have hms : Mod [B] w2 (w2.setCell ⟨B, 1, none⟩ ov') := (Mod.refl _ _).setCell (by simp) _
  have hb2 := hg.mod.heap h.box hBn
  have hbs := heap_setCell_blk hb2 1 ov'
  refine ⟨hm2.trans hms, by simpa using hbs, h.low, h.len, (h.left.kept hg.mod fun b hb hx => ?_).kept hms fun b hb hx => ?_, ⟨hms.heap (hg.mod.heap h.wait.box fun hx => ?_) (by simp; omega), (h.wait.own.kept hg.mod fun b hb hx => ?_).kept hms fun b hb hx => ?_⟩, ho.kept hms fun b hb hx => ?_, h.heap, fun b hb e => ?_⟩
  · have := hks b hx
    simp only [Value.ownBlock, Option.some.injEq] at hb
    omega
  · simp only [Value.ownBlock, Option.some.injEq] at hb
    simp at hx; omega
  · exact h.ovne (mem_blk.1 hx)
  · exact h.apart b hb (mem_blk.1 hx)
  · have := (h.wait.own.blockLt hb).1; simp at hx; omega
  · have := (ho.blockLt hb).1; simp at hx; omega
  · rcases hg.heir with he | he
    · exact h.apart b hb (he ▸ e)
    · have := he b e
      have := (h.wait.own.blockLt hb).2
      omega
end
end Go.Proofs.YtefaihockgebeaaGreat
