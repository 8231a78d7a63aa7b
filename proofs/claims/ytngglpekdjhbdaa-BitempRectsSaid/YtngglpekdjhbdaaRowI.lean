/- Rows of ints: as they lie, of the call's own, made by make. -/
import Derived.Test.YtngglpekdjhbdaaProg
import Derived.Test.YtngglpekdjhbdaaRow1
import Derived.Test.YtngglpekdjhbdaaOps
import Derived.Test.YtngglpekdjhbdaaRegH
import Derived.Laws.MakeOwn
import Derived.RangeFuncOwn
namespace Go.Proofs.Ytngglpekdjhbdaa
open Go.RowKit Go.ChangeMaps Go.Deep
set_option linter.unusedSimpArgs false
set_option linter.unusedVariables false
set_option maxRecDepth 20000

def encI (n : Int) : List Value := [.int .i64 n]
theorem encI_len (x : Int) : (encI x).length = 1 := rfl
theorem encI_one (x : Int) : ∀ v ∈ encI x, v.oneCell' = true := by intro v hv; simp [encI] at hv; subst hv; rfl
theorem elemInt : ElemOk Try.prog 25 3 1 8 := .mk' Try.underlying25 (by omega) (by kernel_rfl)
abbrev IntsIn (w : World) (v : Value) (l : List Int) : Prop := RowAt encI w v l
abbrev OwnN (w : World) (base : Nat) (v : Value) (l : List Int) : Prop := OwnR encI 1 3 w base v l
section
variable {α : Type} {enc : α → List Value} {k : Nat} {w : World} {v : Value} {l : List α} {P : Program} {t E : TypeId}
theorem RowAt.src (hk : ∀ x, (enc x).length = k) (h1 : ∀ x, ∀ v ∈ enc x, v.oneCell' = true) (h : RowAt enc w v l) (ht : P.underlying t = some (.slice E)) : Src P k t v l.length (flat enc l) w := by
  cases h with
  | nil a cap =>
    cases a with
    | none => exact Src.ofNil w ht cap
    | some a => exact Src.ofSlice w ht a 0 cap [] (by simp) (fun j u hu => by simp at hu) (by simp)
  | at_ b o cap l hc h =>
    exact Src.ofSlice w ht ⟨b, o, none⟩ l.length cap _ (by rw [flat_length hk]) (fun j u hu => by rw [Addr.add_mid]; exact h j u hu) (by
      intro u hu
      obtain ⟨x, _, hx⟩ := List.mem_flatMap.1 hu
      exact h1 x u hx)
theorem OwnR.fresh (w : World) (base : Nat) (hb : base ≤ w.heap.size) : OwnR enc k E (w.alloc (.cells #[] E)) base (.slice (some ⟨w.heap.size, 0, none⟩) 0 0) [] :=
  ⟨by simp [flat], .inr ⟨w.heap.size, 0, #[], rfl, hb, heap_alloc_new w _, Nat.le_refl _, Nat.zero_le _, by simp, by simp [flat]⟩⟩
theorem RowAt.of_none (h : RowAt enc w v l) {n c : Nat} (e : v = .slice none n c) : l = [] := by
  cases h with
  | nil a cap => rfl
  | at_ b o cap l hc h => cases e
end
theorem RowAt.get1 {w : World} {a : Option Addr} {c : Nat} {l : List Int} (h : IntsIn w (.slice a l.length c) l) {i : Nat} (hi : i < l.length) :
    ∃ b o, a = some ⟨b, o, none⟩ ∧ l.length ≤ c ∧ w.cell? ⟨b, o + i, none⟩ = some (.int .i64 l[i]) := by
  obtain ⟨b, o, e, hc, hg⟩ := h.get encI_len hi
  have h0 := hg 0 (.int .i64 l[i]) (by omega) rfl
  exact ⟨b, o, e, hc, by simpa using h0⟩
theorem flat_encI (l : List Int) : flat encI l = l.map (Value.int .i64) := by
  induction l with
  | nil => rfl
  | cons x l ih => rw [flat_cons, ih]; rfl
theorem made_one (u : Value) (n : Nat) : madeCells #[u] n = Array.replicate n u := by
  apply Array.ext
  · simp [madeCells]
  · intro i h1 h2
    simp [madeCells, Nat.mod_one]
theorem run_makeInts (n : Nat) (hn : n ≤ 1000000) (w : World) : (Instr.makeSlice 25 (.int .i64 n) (.int .i64 n)).run Try.prog w = .ok (.slice (some ⟨w.heap.size, 0, none⟩) n n) (w.alloc (.cells (Array.replicate n (.int .i64 0)) 3)) := by
  have h5 : (Try.prog.info? 3).map (fun i => (i.zero, i.size, i.bytes)) = some (some (.int .i64 0), 1, 8) := by kernel_rfl
  obtain ⟨i0, hi, hz0, hz1, hz2⟩ := info_parts h5
  have h := run_make (P := Try.prog) (w := w) 25 3 i0 (.int .i64 0) Try.underlying25 hi hz0 .i64 .i64 n n (by omega) (Int.le_refl _) (by rw [hz2]; omega) (by omega)
  rw [hz1, Nat.mul_one] at h
  have e : (Value.int IntKind.i64 0).cells = #[.int .i64 0] := rfl
  rw [e, made_one, Int.toNat_natCast] at h
  exact h
theorem own_zeros (w : World) (n base : Nat) (hb : base ≤ w.heap.size) (hn : n ≤ 1000000) : OwnN (w.alloc (.cells (Array.replicate n (.int .i64 0)) 3)) base (.slice (some ⟨w.heap.size, 0, none⟩) (List.replicate n (0 : Int)).length n) (List.replicate n 0) := by
  refine ⟨flat_length encI_len _, .inr ⟨w.heap.size, n, _, rfl, hb, heap_alloc_new w _, by simp, by unfold maxLen; omega, by simp, ?_⟩⟩
  rw [List.length_replicate, Nat.mul_one, flat_encI]
  simp
theorem Mod.cellD {w w' : World} {a : Addr} {v : Value} (h : Mod [] w w') (hc : w.cell? a = some v) : w'.cell? a = some v := by
  obtain ⟨o, ho, _⟩ := cells_of_cell hc
  rw [← hc]
  exact World.cell?_of_block (h.block _ (lt_of_heap ho) (by simp))
theorem alloc_named2 (w : World) (o : Obj) : ∃ A, w.alloc o = A ∧ A.heap[w.heap.size]? = some o ∧ A.heap.size = w.heap.size + 1 ∧ Mod [] w A :=
  ⟨_, rfl, heap_alloc_new w o, by simp, (Mod.refl [] w).alloc o⟩
theorem OwnR.lens {α : Type} {enc : α → List Value} {k : Nat} {E : TypeId} {w : World} {base : Nat} {v : Value} {l : List α} (h : OwnR enc k E w base v l) : ∃ a c, v = .slice a l.length c := by
  obtain ⟨a, c, e⟩ := h.row.form
  exact ⟨a, c, e⟩
end Go.Proofs.Ytngglpekdjhbdaa
