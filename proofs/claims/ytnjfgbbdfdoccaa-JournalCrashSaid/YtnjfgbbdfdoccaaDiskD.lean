/- The program's disk: Write and Read as a whole; the example that every statement of the layer asks first. -/
import Derived.Test.YtnjfgbbdfdoccaaDiskC
namespace Go.Proofs.Ytnjfgbbdfdoccaa
open Go.RowKit Go.ChangeMaps
set_option linter.unusedSimpArgs false
set_option linter.unusedVariables false

/-- A slice value that does not lie in block b. -/
def Off (v : Value) (b : Nat) : Prop := ∀ bb o n c, v = .slice (some ⟨bb, o, none⟩) n c → bb ≠ b
def Dk.write (D : Dk) (k : Int) (l : List Int) : Int × Dk :=
  if D.asked k ≠ 0 then (D.asked k, D) else if l.length ≠ 64 then (2, D)
  else if D.set = true ∧ D.after = 0 then (16, { D.lay k D.torn with down := true, set := false })
  else (0, { D.lay k l with after := if D.set = true then D.after - 1 else D.after, written := D.written + 1 })
theorem write_any {w : World} {b m : Nat} {D : Dk} (h : DiskAt w b m D) (k : Int) {v : Value} {l : List Int} (hv : BytesAt w v l) (hb : Off v b) (hl : l.length ≤ maxLen) (hw : 0 ≤ D.written) (hw2 : D.written ≤ 4611686018427387904) :
    Calls Try.prog 58 #[.pointer (some ⟨b, 0, none⟩), .int .i64 k, v] w fun e w' => e = .returned (.int .i64 (D.write k l).1) ∧ Mod [b, m] w w' ∧ DiskAt w' b m (D.write k l).2 := by
  unfold Dk.write
  by_cases ha : D.asked k = 0
  · rw [if_neg (by simpa using ha)]
    by_cases h64 : l.length = 64
    · rw [if_neg (by simpa using h64)]
      by_cases hc : D.set = true ∧ D.after = 0
      · rw [if_pos hc]
        exact write_crash h k hv ha h64 hc.1 hc.2
      · rw [if_neg hc]
        by_cases hs : D.set = true
        · rw [if_pos hs]
          exact write_less h k hv (fun bb o c e => hb bb o 64 c e) ha h64 hs (fun hz => hc ⟨hs, hz⟩) hw hw2
        · rw [if_neg hs]
          exact write_plain h k hv ha h64 (by simpa using hs) hw hw2
    · rw [if_pos h64]
      exact (write_arg h k hv ha h64 hl).mono fun e w' ⟨he, hw⟩ => ⟨he, hw ▸ Mod.refl _ _, hw ▸ h⟩
  · rw [if_pos ha]
    exact (write_refused h k v ha).mono fun e w' ⟨he, hw⟩ => ⟨he, hw ▸ Mod.refl _ _, hw ▸ h⟩
theorem read_no {w : World} {b m : Nat} {D : Dk} (h : DiskAt w b m D) (k : Int) (ha : D.asked k ≠ 0) :
    Calls Try.prog 54 #[.pointer (some ⟨b, 0, none⟩), .int .i64 k] w fun e w' => e = .returned (.tuple #[.slice none 0 0, .int .i64 (D.asked k)]) ∧ w = w' := by
  have H := Lib.hid h
  clear h
  have hb : (D.asked k != 0) = true := by rw [bne_iff_ne]; exact ha
  have hb2 : (D.asked k == 0) = false := beq_eq_false_iff_ne.2 ha
  clear ha
  go_enter Try.func54, Try.ntmps54
  go_wp2_with fail
  refine (asked_any H.out k).mono ?_
  rintro e w' ⟨rfl, rfl⟩
  go_wp2_with fail
  go_ret2
  exact ⟨rfl, rfl⟩
theorem bytes_new (w : World) (l : List Int) (t : TypeId) : BytesAt (w.alloc (.cells (bv l).toArray t)) (.slice (some ⟨w.heap.size, 0, none⟩) l.length l.length) l :=
  BytesAt.at_ _ _ _ _ (rangeAt_blk (heap_alloc_last w _))
theorem BytesAt.kept {w w' : World} {v : Value} {l : List Int} {ks : List Nat} (h : BytesAt w v l) (hm : Mod ks w w') (hn : ∀ k ∈ ks, Off v k) : BytesAt w' v l := by
  cases h with
  | nil a cap => exact .nil a cap
  | at_ b o cap l hr => exact .at_ b o cap l (rangeAt_mod hr hm (fun hb => hn b hb b o _ cap rfl rfl))
theorem BytesAt.kept0 {w w' : World} {v : Value} {l : List Int} (h : BytesAt w v l) (hm : Mod [] w w') : BytesAt w' v l := h.kept hm (by simp)
theorem off_slice {b' o n c b : Nat} (h : b' ≠ b) : Off (.slice (some ⟨b', o, none⟩) n c) b := fun bb o n c e => by
  simp at e
  obtain ⟨⟨rfl, _⟩, _⟩ := e
  exact h
/-- A slice of the call's own. -/
structure Fresh (w w' : World) (v : Value) (l : List Int) : Prop where
  bytes : BytesAt w' v l
  mod : Mod [] w w'
  off : ∀ b, b < w.heap.size → Off v b
theorem sec_length {w : World} {b m : Nat} {D : Dk} (h : DiskAt w b m D) (k : Int) : (D.sec k).length = 64 := by
  unfold Dk.sec
  cases hq : D.by_ k with
  | none => simp [zeros64]
  | some l => simpa using h.sectors k l hq
theorem read_own {w : World} {b m : Nat} {D : Dk} (h : DiskAt w b m D) (k : Int) (ha : D.asked k = 0) :
    Calls Try.prog 54 #[.pointer (some ⟨b, 0, none⟩), .int .i64 k] w fun e w' => ∃ v, e = .returned (.tuple #[v, .int .i64 0]) ∧ (∃ a, v = .slice (some a) 64 64) ∧ Fresh w w' v (D.sec k) :=
  (read_yes h k ha).mono fun e w' ⟨he, hw⟩ => ⟨_, he, ⟨_, rfl⟩, by
    subst hw
    refine ⟨?_, (Mod.refl _ _).alloc _, fun b hb => off_slice (by omega)⟩
    have := bytes_new w (D.sec k) 62
    rw [sec_length h k] at this
    exact this⟩
theorem conv_bytes {w : World} {v : Value} {l : List Int} (h : BytesAt w v l) : (convert 33 9 v).run Try.prog w = .ok (.string (strOfNums l)) w := by
  cases h with
  | nil a cap =>
    cases a with
    | none => exact run_convert_bytes_nil w _ _ Try.underlying33 Try.underlying5 0 cap _ Try.underlying9
    | some ad =>
      rw [run_convert_bytes_string w _ _ _ _ 0 cap Try.underlying33 Try.underlying5 Try.underlying9]
      have hl := run_loadCells_list (P := Try.prog) w ad [] (fun j v hj => by simp at hj)
      simp only [List.length_nil] at hl
      simp [Conv.bytesToString, hl, Result.andThen]
      rfl
  | at_ b o cap l hr =>
    refine run_convert_bytes_arg w _ _ Try.underlying33 Try.underlying5 b o l.length cap l rfl (fun i hi => ?_) _ Try.underlying9
    refine hr i _ ?_
    simp [bv, hi]
theorem below_step {a w w' : World} {l : List Nat} (h : Below a.heap.size a w) (hm : Mod l w w') (hl : ∀ k ∈ l, a.heap.size ≤ k) : Below a.heap.size a w' :=
  hm.below h h.size hl
theorem new_cells (n : Int) (m : Nat) : (Try.zeroCells64.setIfInBounds 0 (Value.int IntKind.i64 n)).setIfInBounds 1 (Value.map (some m)) = dcells m (Dk.new n) := by
  kernel_rfl
theorem new_yes (n : Int) (w : World) (h1 : 1 ≤ n) (h2 : n ≤ 65536) : Calls Try.prog 7 #[.int .i64 n] w fun e w' => e = .returned (.tuple #[.pointer (some ⟨w.heap.size + 1, 0, none⟩), .int .i64 0]) ∧ Mod [] w w' ∧ DiskAt w' (w.heap.size + 1) w.heap.size (Dk.new n) := by
  have hmm := @run_makeMap Try.prog
  have hk : Mod [] w ((w.alloc (.map #[] 0)).alloc (.cells (dcells w.heap.size (Dk.new n)) 64)) ∧ DiskAt ((w.alloc (.map #[] 0)).alloc (.cells (dcells w.heap.size (Dk.new n)) 64)) (w.heap.size + 1) w.heap.size (Dk.new n) := by
    refine ⟨((Mod.refl _ _).alloc _).alloc _, heap_alloc2_new _ _ _, ⟨#[], 0, heap_alloc2_old _ _ _, IntMap.empty⟩, by simp [Dk.new, zeros64], by simp [Dk.new], by simp [Dk.new]⟩
  rw [← new_cells] at hk
  have H := Lib.hid hk
  clear hk
  go_enter Try.func7, Try.ntmps7
  go_wp2
  go_ret2
  exact ⟨rfl, H.out.1, H.out.2⟩
theorem new_no (n : Int) (w : World) (h : n < 1 ∨ 65536 < n) : Calls Try.prog 7 #[.int .i64 n] w fun e w' => e = .returned (.tuple #[.pointer none, .int .i64 2]) ∧ w = w' := by
  by_cases h1 : n < 1
  · clear h
    go_enter Try.func7, Try.ntmps7
    go_wp2
    go_ret2
    exact ⟨rfl, rfl⟩
  · have h2 : 65536 < n := by omega
    clear h
    go_enter Try.func7, Try.ntmps7
    go_wp2
    go_ret2
    exact ⟨rfl, rfl⟩
end Go.Proofs.Ytnjfgbbdfdoccaa
