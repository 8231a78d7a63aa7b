/- The journal's small functions; slices.Grow, slices.Concat. -/
import Derived.Laws.CopyRow
import Derived.Test.YtnjfgbbdfdoccaaJnB
namespace Go.Proofs.Ytnjfgbbdfdoccaa
open Go.RowKit Go.ChangeMaps
set_option linter.unusedSimpArgs false
set_option linter.unusedVariables false
set_option maxRecDepth 20000

theorem own8_new {E : TypeId} (w : World) (l : List Int) (base : Nat) (hb : base ≤ w.heap.size) (hl : l.length ≤ 1073741824) : OwnR enc8 1 E (w.alloc (.cells (bv l).toArray E)) base (.slice (some ⟨w.heap.size, 0, none⟩) l.length l.length) l := by
  refine ⟨by rw [flat8]; simp [bv], .inr ⟨w.heap.size, l.length, _, rfl, hb, heap_alloc_new w _, Nat.le_refl _, by unfold maxLen; omega, by simp [bv], ?_⟩⟩
  rw [flat8]
  simp only [bv]
  exact List.take_of_length_le (by simp)
def fourP (n : Int) : List Int := [n / 16777216 % 256, n / 65536 % 256, n / 256 % 256, n % 256]
theorem fourP_len (n : Int) : (fourP n).length = 4 := rfl
def IsB (l : List Int) : Prop := ∀ x ∈ l, 0 ≤ x ∧ x < 256
theorem fourP_isB (n : Int) : IsB (fourP n) := by
  intro x hx
  simp [fourP] at hx
  rcases hx with rfl | rfl | rfl | rfl <;> omega
theorem IsB.append {a b : List Int} (h : IsB a) (k : IsB b) : IsB (a ++ b) := fun x hx => by
  rcases List.mem_append.1 hx with hx | hx
  · exact h x hx
  · exact k x hx
theorem IsB.take {a : List Int} (h : IsB a) (n : Nat) : IsB (a.take n) := fun x hx => h x (List.mem_of_mem_take hx)
theorem IsB.drop {a : List Int} (h : IsB a) (n : Nat) : IsB (a.drop n) := fun x hx => h x (List.mem_of_mem_drop hx)
theorem isB_zeros (n : Nat) : IsB (List.replicate n 0) := fun x hx => by have := List.eq_of_mem_replicate hx; omega
theorem jFour_at (n : Int) (h0 : 0 ≤ n) (h1 : n ≤ 9223372036854775807) (w : World) :
    Calls Try.prog 39 #[.int .i64 n] w fun e w' => ∃ v, e = .returned v ∧ OwnR enc8 1 5 w' w.heap.size v (fourP n) ∧ Mod [] w w' := by
  have H := Lib.hid (own8_new (E := 5) w (fourP n) w.heap.size (Nat.le_refl _) (by rw [fourP_len]; omega))
  go_enter Try.func39, Try.ntmps39
  go_wp2_with fail
  go_ret
  exact ⟨_, rfl, H.out, (Mod.refl _ _).alloc _⟩
theorem jMany_at (n : Int) (h0 : 0 ≤ n) (h1 : n ≤ 1099511627776) (w : World) :
    Calls Try.prog 34 #[.int .i64 n] w fun e w' => e = .returned (.int .i64 ((n + 81) / 64)) ∧ w = w' := by
  have H := Lib.hid (show (14 + n + 4 + 64 - 1) / 64 = (n + 81) / 64 from by congr 1; omega)
  go_enter Try.func34, Try.ntmps34
  go_wp2_with fail
  go_ret
  exact ⟨by show Ending.returned (.int .i64 ((14 + n + 4 + 64 - 1) / 64)) = _; rw [H.out], rfl⟩
def halfP (n : Int) : Int := (n - 2) / 2
def beginP (n epoch : Int) : Int := 2 + (1 - epoch % 2) * halfP n
theorem jHalf_at {w : World} {b m : Nat} {D : Dk} (h : DiskAt w b m D) (h2 : 2 ≤ D.n ∧ D.n ≤ 65536) :
    Calls Try.prog 33 #[.pointer (some ⟨b, 0, none⟩)] w fun e w' => e = .returned (.int .i64 (halfP D.n)) ∧ w = w' := by
  have C := Lib.hid (sectors_any h)
  obtain ⟨h2, h3⟩ := h2
  clear h
  go_enter Try.func33, Try.ntmps33
  go_wp2_with fail
  refine C.out.mono ?_
  rintro e w' ⟨rfl, rfl⟩
  go_wp2_with fail
  go_ret
  exact ⟨rfl, rfl⟩
theorem jBegin_at {w : World} {b m : Nat} {D : Dk} (h : DiskAt w b m D) (h2 : 2 ≤ D.n ∧ D.n ≤ 65536) (ep : Int) (h0 : 0 ≤ ep) (h1 : ep ≤ 4294967296) :
    Calls Try.prog 28 #[.pointer (some ⟨b, 0, none⟩), .int .i64 ep] w fun e w' => e = .returned (.int .i64 (beginP D.n ep)) ∧ w = w' := by
  have C := Lib.hid (jHalf_at h h2)
  have hh : 0 ≤ halfP D.n ∧ halfP D.n ≤ 32767 := by unfold halfP; omega
  have HE := Lib.hid (show beginP D.n ep = 2 + (1 - ep % 2) * halfP D.n from rfl)
  generalize halfP D.n = hf at C hh HE
  obtain ⟨hh0, hh1⟩ := hh
  obtain ⟨r, hr⟩ : ∃ r, ep % 2 = r := ⟨_, rfl⟩
  have hr0 : r = 0 ∨ r = 1 := by omega
  clear h h2
  rw [hr] at HE
  rcases hr0 with rfl | rfl
  · have h3 : hf * 1 = hf := by omega
    go_enter Try.func28, Try.ntmps28
    go_wp2_with fail
    refine C.out.mono ?_
    rintro e w' ⟨rfl, rfl⟩
    go_wp2_with fail
    go_ret
    exact ⟨by rw [HE.out]; simp [hr], rfl⟩
  · go_enter Try.func28, Try.ntmps28
    go_wp2_with fail
    refine C.out.mono ?_
    rintro e w' ⟨rfl, rfl⟩
    go_wp2_with fail
    go_ret
    exact ⟨by rw [HE.out]; simp [hr], rfl⟩
theorem jNoughts_at (w : World) :
    Calls Try.prog 30 #[] w fun e w' => ∃ g, e = .returned (.slice (some ⟨g, 0, none⟩) 64 64) ∧ OwnR enc8 1 61 w' w.heap.size (.slice (some ⟨g, 0, none⟩) 64 64) zeros64 ∧ Mod [] w w' := by
  have H := Lib.hid (own8_new (E := 61) w zeros64 w.heap.size (Nat.le_refl _) (by simp [zeros64]))
  go_enter Try.func30, Try.ntmps30
  go_wp2_with fail
  go_ret
  exact ⟨_, rfl, H.out, (Mod.refl _ _).alloc _⟩
end Go.Proofs.Ytnjfgbbdfdoccaa
