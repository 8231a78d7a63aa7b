/- Rows of bytes; bytes of noughts appended. -/
import Derived.Test.YtnjfgbbdfdoccaaRowI
import Derived.Test.YtnjfgbbdfdoccaaDiskD
import Derived.Test.YtnjfgbbdfdoccaaModI
namespace Go.Proofs.Ytnjfgbbdfdoccaa
open Go.RowKit Go.ChangeMaps
set_option linter.unusedSimpArgs false
set_option linter.unusedVariables false

def enc8 (x : Int) : List Value := [.int .u8 x]
theorem enc8_len (x : Int) : (enc8 x).length = 1 := rfl
theorem enc8_one (x : Int) : ∀ v ∈ enc8 x, v.oneCell' = true := by intro v hv; simp [enc8] at hv; subst hv; rfl
theorem elem8 : ElemOk Try.prog 33 5 1 1 := .mk' Try.underlying33 (by omega) (by kernel_rfl)
theorem flat8 (l : List Int) : flat enc8 l = bv l := by
  unfold flat bv enc8
  induction l with
  | nil => rfl
  | cons x l ih => simp [ih]
theorem RowAt.bytes {w : World} {v : Value} {l : List Int} (h : RowAt enc8 w v l) : BytesAt w v l := by
  cases h with
  | nil a cap => exact .nil a cap
  | at_ b o cap l hc h => exact .at_ b o cap l (by rw [← flat8]; exact h)
def zeroB (n : Nat) : ByteArray := ⟨Array.replicate n 0⟩
theorem zeroB_size (n : Nat) : (zeroB n).size = n := by show (Array.replicate n (0 : UInt8)).size = n; simp
theorem zeroB_cells (n : Nat) : byteCells (zeroB n) = flat enc8 (List.replicate n 0) := by
  rw [flat8]
  unfold byteCells zeroB bv
  simp
theorem zeroCells_u8 (n : Nat) : Builtin.zeroCells #[Value.int .u8 0] n = (byteCells (zeroB n)).toArray := by
  unfold Builtin.zeroCells byteCells zeroB
  apply Array.ext'
  simp
  refine List.ext_getElem (by simp) fun i h1 h2 => ?_
  simp [Nat.mod_one]
theorem run_append_zeros (ty : TypeId) (a : Option Addr) (k c n : Nat) (hk : k ≤ 1073741824) (hn : n ≤ 1073741824) (w : World) :
    (Builtin.append_ #[33, 3] ty #[.slice a k c, .int .i64 n]).run Try.prog w = (Builtin.append_ #[33, 9] ty #[.slice a k c, .string (zeroB n)]).run Try.prog w := by
  have hw : IntKind.i64.wrap (n : Int) = n := by
    have := IntWalk.i64_in (n : Int) (by omega)
    exact this
  have h5 : ∃ i z, Try.prog.info? 5 = some i ∧ i.zero = some z ∧ i.size = 1 ∧ i.bytes = 1 ∧ z = .int .u8 0 := by
    have h : (Try.prog.info? 5).map (fun i => (i.zero, i.size, i.bytes)) = some (some (.int .u8 0), 1, 1) := by kernel_rfl
    cases hi : Try.prog.info? 5 with
    | none => rw [hi] at h; simp at h
    | some i => rw [hi] at h; simp at h; exact ⟨i, _, rfl, h.1, h.2.1, h.2.2, rfl⟩
  obtain ⟨i, z, hi, hz, hs, hb, rfl⟩ := h5
  have hn0 : ¬ ((n : Int) < 0) := by omega
  have hbig : ¬ ((n : Int) * 1 > 2 ^ 48) := by omega
  have hb2 : ¬ (281474976710656 < (n : Int)) := by omega
  have hfc : ∀ w' : World, (Builtin.firstCells 1 n (.string (zeroB n))).run Try.prog w' = .ok (byteCells (zeroB n)).toArray w' := fun w' => by
    have := firstCells_string (P := Try.prog) (zeroB n) w'
    rw [zeroB_size] at this
    exact this
  by_cases hc : k + n ≤ c
  · by_cases h0 : n = 0
    · subst h0
      have he : byteCells (zeroB 0) = [] := rfl
      have hw0 : IntKind.i64.wrap 0 = 0 := hw
      have hc2 : k ≤ c := hc
      simp [Builtin.append_, run_underlying Try.underlying33, run_underlying Try.underlying3, run_underlying Try.underlying9, sizeOf, typeInfo, hi, hs, hb, hz, Builtin.lenOf, asInt, asIntOf, hw0, hn0, hbig, hb2, zeroB_size, hc2, Result.andThen, hfc, he]
    · simp [Builtin.append_, run_underlying Try.underlying33, run_underlying Try.underlying3, run_underlying Try.underlying9, sizeOf, typeInfo, hi, hs, hb, hz, Builtin.lenOf, asInt, asIntOf, hw, hn0, hbig, hb2, zeroB_size, hc, Result.andThen, hfc, h0, zeroValue, Value.cells, zeroCells_u8]
  · have h63 : ¬ (9223372036854775807 < (k : Int) + (n : Int)) := by omega
    have hgs : ¬ (281474976710656 < Builtin.nextslicecap (k + n) c) := by
      have := growslice_fits (need := k + n) (old := c) (bytes := 1) (by omega) (by omega)
      omega
    have hz1 : ∀ w : World, (if n = 0 then Result.ok #[] w else Result.ok (byteCells (zeroB n)).toArray w : Result (Array Value)) = Result.ok (byteCells (zeroB n)).toArray w := fun w => by
      by_cases h0 : n = 0
      · subst h0; rfl
      · rw [if_neg h0]
    simp [Builtin.append_, run_underlying Try.underlying33, run_underlying Try.underlying3, run_underlying Try.underlying9, sizeOf, typeInfo, hi, hs, hb, hz, Builtin.lenOf, asInt, asIntOf, hw, hn0, hbig, hb2, h63, hgs, zeroB_size, hc, Result.andThen, hfc, zeroValue, Value.cells, zeroCells_u8, hz1]
section
variable {w : World} {base : Nat} {v : Value} {l : List Int}
/-- noughts appended to a slice of the call's own -/
theorem own8_zeros (ho : OwnR enc8 1 5 w base v l) (hb : base ≤ w.heap.size) (n : Nat) (hl : l.length + n ≤ 1073741824) (ty : TypeId) :
    ∃ v' w', (Builtin.append_ #[33, 3] ty #[v, .int .i64 n]).run Try.prog w = .ok v' w' ∧ OwnR enc8 1 5 w' base v' (l ++ List.replicate n 0) ∧ Grew w v w' v' := by
  obtain ⟨a, c, rfl⟩ := ho.lens
  rw [run_append_zeros ty a l.length c n (by omega) (by omega) w]
  have hs := Src.ofString (P := Try.prog) w (tx := 9) Try.underlying9 (zeroB n)
  rw [zeroB_size, zeroB_cells] at hs
  have := own_append (P := Try.prog) (ty := ty) (l2 := List.replicate n 0) elem8 enc8_len ho hb (tx := 9) (x := .string (zeroB n)) (by rw [List.length_replicate]; exact hs) (by simpa using hl) (by omega)
  exact this
end
end Go.Proofs.Ytnjfgbbdfdoccaa
