/- The program's disk (package disk): what each of its functions does, said of a model of a disk in memory. -/
import Derived.Test.YtnjfgbbdfdoccaaKit
import Derived.Test.YtnjfgbbdfdoccaaRows
import Derived.Deep.RegionHeld3
import Derived.BigQuiet
import Derived.Deep.QuietTactic
namespace Go.Proofs.Ytnjfgbbdfdoccaa
open Go.RowKit Go.ChangeMaps
set_option linter.unusedSimpArgs false
set_option linter.unusedVariables false

/-- A list of bytes, as values. -/
def bv (l : List Int) : List Value := l.map (Value.int .u8)
theorem bv_length (l : List Int) : (bv l).length = l.length := by simp [bv]
/-- A disk. by_: the sectors that were written. -/
structure Dk where
  n : Int
  by_ : Int → Option (List Int)
  written : Int
  down : Bool
  set : Bool
  after : Int
  torn : List Int
def dcells (m : Nat) (D : Dk) : Array Value :=
  (#[Value.int .i64 D.n, .map (some m), .int .i64 D.written, .bool D.down, .bool D.set, .int .i64 D.after] ++ (bv D.torn).toArray)
def Dk.map (D : Dk) : Int → Option Value := fun k => (D.by_ k).map fun l => .agg (bv l).toArray
/-- Block b is the disk D, its sectors in the map m. -/
structure DiskAt (w : World) (b m : Nat) (D : Dk) : Prop where
  blk : w.heap[b]? = some (.cells (dcells m D) 64 (0, 0))
  map : MapAt w m D.map
  torn : D.torn.length = 64
  sectors : ∀ k l, D.by_ k = some l → l.length = 64
  after : 0 ≤ D.after ∧ D.after ≤ 9223372036854775807
theorem DiskAt.ne {w : World} {b m : Nat} {D : Dk} (h : DiskAt w b m D) : b ≠ m := fun e => by
  obtain ⟨es, c, h1, _⟩ := h.map
  rw [← e, h.blk] at h1
  cases h1
theorem DiskAt.kept {w w' : World} {b m : Nat} {D : Dk} {l : List Nat} (h : DiskAt w b m D) (hm : Mod l w w') (h1 : b ∉ l) (h2 : m ∉ l) : DiskAt w' b m D :=
  ⟨hm.heap h.blk h1, h.map.of_heap (hm.block m h.map.lt h2), h.torn, h.sectors, h.after⟩
theorem DiskAt.c0 {w : World} {b m : Nat} {D : Dk} (h : DiskAt w b m D) : w.cell? ⟨b, 0, none⟩ = some (.int .i64 D.n) := by rw [cell_blk h.blk]; simp [dcells]
theorem DiskAt.c1 {w : World} {b m : Nat} {D : Dk} (h : DiskAt w b m D) : w.cell? ⟨b, 1, none⟩ = some (.map (some m)) := by rw [cell_blk h.blk]; simp [dcells]
theorem DiskAt.c2 {w : World} {b m : Nat} {D : Dk} (h : DiskAt w b m D) : w.cell? ⟨b, 2, none⟩ = some (.int .i64 D.written) := by rw [cell_blk h.blk]; simp [dcells]
theorem DiskAt.c3 {w : World} {b m : Nat} {D : Dk} (h : DiskAt w b m D) : w.cell? ⟨b, 3, none⟩ = some (.bool D.down) := by rw [cell_blk h.blk]; simp [dcells]
theorem DiskAt.c4 {w : World} {b m : Nat} {D : Dk} (h : DiskAt w b m D) : w.cell? ⟨b, 4, none⟩ = some (.bool D.set) := by rw [cell_blk h.blk]; simp [dcells]
theorem DiskAt.c5 {w : World} {b m : Nat} {D : Dk} (h : DiskAt w b m D) : w.cell? ⟨b, 5, none⟩ = some (.int .i64 D.after) := by rw [cell_blk h.blk]; simp [dcells]

/-- What stands against a call on a sector. -/
def Dk.asked (D : Dk) (k : Int) : Int := if D.down = true then 16 else if k < 0 ∨ D.n ≤ k then 2 else 0

/-! ### on a disk that is not there -/
theorem down_nil (w : World) : Calls Try.prog 19 #[.pointer none] w fun e w' => e = .returned (.bool false) ∧ w = w' := by
  go_enter Try.func19, Try.ntmps19
  go_wp2
  go_ret
  exact ⟨rfl, rfl⟩
theorem sectors_nil (w : World) : Calls Try.prog 27 #[.pointer none] w fun e w' => e = .returned (.int .i64 0) ∧ w = w' := by
  go_enter Try.func27, Try.ntmps27
  go_wp2
  go_ret
  exact ⟨rfl, rfl⟩
theorem asked_nil (k : Int) (w : World) : Calls Try.prog 43 #[.pointer none, .int .i64 k] w fun e w' => e = .returned (.int .i64 1) ∧ w = w' := by
  go_enter Try.func43, Try.ntmps43
  go_wp2
  go_ret
  exact ⟨rfl, rfl⟩
theorem written_nil (w : World) : Calls Try.prog 25 #[.pointer none] w fun e w' => e = .returned (.int .i64 0) ∧ w = w' := by
  go_enter Try.func25, Try.ntmps25
  go_wp2
  go_ret
  exact ⟨rfl, rfl⟩
theorem up_nil (w : World) : Calls Try.prog 24 #[.pointer none] w fun e w' => e = .returned (.tuple #[]) ∧ w = w' := by
  go_enter Try.func24, Try.ntmps24
  go_wp2
  go_end0
  exact ⟨rfl, rfl⟩
theorem read_nil (k : Int) (w : World) : Calls Try.prog 54 #[.pointer none, .int .i64 k] w fun e w' => e = .returned (.tuple #[.slice none 0 0, .int .i64 1]) ∧ w = w' := by
  go_enter Try.func54, Try.ntmps54
  go_wp2_with fail
  refine (asked_nil _ _).mono ?_
  rintro e w' ⟨rfl, rfl⟩
  go_wp2_with fail
  go_ret2
  exact ⟨rfl, rfl⟩
theorem write_nil (k : Int) (v : Value) (w : World) : Calls Try.prog 58 #[.pointer none, .int .i64 k, v] w fun e w' => e = .returned (.int .i64 1) ∧ w = w' := by
  go_enter Try.func58, Try.ntmps58
  go_wp2_with fail
  refine (asked_nil _ _).mono ?_
  rintro e w' ⟨rfl, rfl⟩
  go_wp2_with fail
  go_ret
  exact ⟨rfl, rfl⟩
theorem crash_nil (k : Int) (v : Value) (w : World) : Calls Try.prog 17 #[.pointer none, .int .i64 k, v] w fun e w' => e = .returned (.int .i64 1) ∧ w = w' := by
  go_enter Try.func17, Try.ntmps17
  go_wp2_with fail
  refine (asked_nil _ _).mono ?_
  rintro e w' ⟨rfl, rfl⟩
  go_wp2_with fail
  go_ret
  exact ⟨rfl, rfl⟩

/-! ### on a disk -/
theorem asked_any {w : World} {b m : Nat} {D : Dk} (h : DiskAt w b m D) (k : Int) :
    Calls Try.prog 43 #[.pointer (some ⟨b, 0, none⟩), .int .i64 k] w fun e w' => e = .returned (.int .i64 (D.asked k)) ∧ w = w' := by
  have c0 := h.c0
  have c3 := h.c3
  by_cases h1 : D.down = true
  · rw [h1] at c3
    have hv : D.asked k = 16 := by simp [Dk.asked, h1]
    rw [hv]
    clear h hv
    go_enter Try.func43, Try.ntmps43
    go_wp2
    go_ret
    exact ⟨rfl, rfl⟩
  · have h1' : D.down = false := by simpa using h1
    rw [h1'] at c3
    by_cases h2 : k < 0
    · have hv : D.asked k = 2 := by simp [Dk.asked, h1', h2]
      rw [hv]
      clear h hv
      go_enter Try.func43, Try.ntmps43
      go_wp2
      go_ret
      exact ⟨rfl, rfl⟩
    · by_cases h3 : D.n ≤ k
      · have hv : D.asked k = 2 := by simp [Dk.asked, h1', h3]
        rw [hv]
        clear h hv
        go_enter Try.func43, Try.ntmps43
        go_wp2
        go_ret
        exact ⟨rfl, rfl⟩
      · have hv : D.asked k = 0 := by simp [Dk.asked, h1', h2, h3]
        rw [hv]
        clear h hv
        go_enter Try.func43, Try.ntmps43
        go_wp2
        go_ret
        exact ⟨rfl, rfl⟩
theorem down_any {w : World} {b m : Nat} {D : Dk} (h : DiskAt w b m D) : Calls Try.prog 19 #[.pointer (some ⟨b, 0, none⟩)] w fun e w' => e = .returned (.bool D.down) ∧ w = w' := by
  have c3 := h.c3
  clear h
  go_enter Try.func19, Try.ntmps19
  go_wp2
  go_ret
  exact ⟨rfl, rfl⟩
theorem sectors_any {w : World} {b m : Nat} {D : Dk} (h : DiskAt w b m D) : Calls Try.prog 27 #[.pointer (some ⟨b, 0, none⟩)] w fun e w' => e = .returned (.int .i64 D.n) ∧ w = w' := by
  have c3 := h.c0
  clear h
  go_enter Try.func27, Try.ntmps27
  go_wp2
  go_ret
  exact ⟨rfl, rfl⟩
theorem written_any {w : World} {b m : Nat} {D : Dk} (h : DiskAt w b m D) : Calls Try.prog 25 #[.pointer (some ⟨b, 0, none⟩)] w fun e w' => e = .returned (.int .i64 D.written) ∧ w = w' := by
  have c3 := h.c2
  clear h
  go_enter Try.func25, Try.ntmps25
  go_wp2
  go_ret
  exact ⟨rfl, rfl⟩
theorem set3 (m : Nat) (D : Dk) (v : Bool) : (dcells m D).setIfInBounds 3 (.bool v) = dcells m { D with down := v } := by
  simp [dcells, Array.setIfInBounds_append]
theorem up_any {w : World} {b m : Nat} {D : Dk} (h : DiskAt w b m D) : Calls Try.prog 24 #[.pointer (some ⟨b, 0, none⟩)] w fun e w' => e = .returned (.tuple #[]) ∧ Mod [b] w w' ∧ DiskAt w' b m { D with down := false } := by
  have c3 := h.c3
  have f3 := frozen_blk h.blk 3
  have h0 := h
  have hm := (Mod.refl [b] w).setCell (p := ⟨b, 3, none⟩) (by simp) (.bool false)
  have hk : DiskAt (w.setCell ⟨b, 3, none⟩ (.bool false)) b m { D with down := false } :=
    ⟨by rw [heap_setCell_blk h.blk, set3], h.map.of_heap (hm.block m h.map.lt (by simpa using h.ne.symm)), h.torn, h.sectors, h.after⟩
  have H := Lib.hid (And.intro hm hk)
  clear h h0 hm hk
  go_enter Try.func24, Try.ntmps24
  go_wp2
  go_end0
  exact ⟨rfl, H.out.1, H.out.2⟩
def zeros64 : List Int := List.replicate 64 0
def Dk.new (n : Int) : Dk := { n := n, by_ := fun _ => none, written := 0, down := false, set := false, after := 0, torn := zeros64 }
/-- What is read of a sector. -/
def Dk.sec (D : Dk) (k : Int) : List Int := (D.by_ k).getD zeros64
theorem info65 : (Try.prog.info? 62).map (fun i => (i.zero, i.size)) = some (some (.agg (bv zeros64).toArray), 64) := by kernel_rfl
theorem zero65 (w : World) : (zeroValue 62).run Try.prog w = .ok (.agg (bv zeros64).toArray) w := (zero_of_info info65).1 w
theorem size65 : (Try.prog.info? 62).map (·.size) = some 64 := (zero_of_info info65).2
theorem oneCell_bv (l : List Int) : (bv l).toArray.all (·.oneCell') = true := by
  simp [bv, Value.oneCell']
set_option maxRecDepth 10000 in
theorem read_yes {w : World} {b m : Nat} {D : Dk} (h : DiskAt w b m D) (k : Int) (ha : D.asked k = 0) :
    Calls Try.prog 54 #[.pointer (some ⟨b, 0, none⟩), .int .i64 k] w fun e w' => e = .returned (.tuple #[.slice (some ⟨w.heap.size, 0, none⟩) 64 64, .int .i64 0]) ∧ w' = w.alloc (.cells (bv (D.sec k)).toArray 62) := by
  have c1 := h.c1
  have hl := run_lookup_at Try.underlying60 Try.underlying3 h.map k (zero65 w)
  have e1 : (D.map k).getD (.agg (bv zeros64).toArray) = .agg (bv (D.sec k)).toArray := by
    unfold Dk.map Dk.sec; cases D.by_ k <;> rfl
  rw [e1] at hl
  have hlen : (bv (D.sec k)).toArray.size = 64 := by
    simp only [List.size_toArray, bv_length]
    unfold Dk.sec
    cases hq : D.by_ k with
    | none => simp [zeros64]
    | some l => simpa using h.sectors k l hq
  have hst := run_storeAt_new (P := Try.prog) w 62 (bv zeros64).toArray (bv (D.sec k)).toArray (by rw [hlen]; exact size65) (by rw [hlen]; simp [bv_length, zeros64]) (oneCell_bv _)
  have H := Lib.hid h
  have HL := Lib.hid hl
  have HS := Lib.hid hst
  clear h hl hlen hst e1
  go_enter Try.func54, Try.ntmps54
  go_wp2_with fail
  refine (asked_any H.out k).mono ?_
  rintro e w' ⟨rfl, rfl⟩
  rw [ha]
  go_wp2_with first
    | (refine wpList_lookup rfl (t := 60) rfl rfl rfl HL.out ?_)
    | (refine wpList_alloc rfl (t := 62) rfl zero65 ?_)
    | (refine wpList_store rfl (t := 62) rfl rfl rfl HS.out ?_)
  go_ret2
  exact ⟨rfl, rfl⟩
/-- A sector that is filled with x as far as k. -/
def fillTo (x : Int) (k : Nat) : List Int := (List.range 64).map fun j => if j < k then x else 0
theorem fillTo_length (x : Int) (k : Nat) : (fillTo x k).length = 64 := by simp [fillTo]
theorem fillTo_set (x : Int) {k : Nat} (h : k < 64) : (bv (fillTo x k)).toArray.setIfInBounds k (.int .u8 x) = (bv (fillTo x (k + 1))).toArray := by
  apply Array.ext'
  simp only [Array.toList_setIfInBounds]
  apply List.ext_getElem?
  intro j
  rw [List.getElem?_set]
  simp only [bv, fillTo, List.getElem?_map, List.length_map, List.length_range]
  by_cases h1 : k = j
  · subst h1
    simp [h]
  · rw [if_neg h1]
    by_cases h4 : j < 64
    · have h5 : (j < k + 1) = (j < k) := by apply propext; omega
      simp [h4, h5]
    · have : (List.range 64)[j]? = none := by simp; omega
      simp [this]
/-- A sector of one byte. -/
def full (x : Int) : List Int := List.replicate 64 x
theorem fillTo_full (x : Int) : fillTo x 64 = full x := List.eq_replicate_iff.2 ⟨by simp [fillTo], fun y hy => by simp [fillTo] at hy; obtain ⟨a, h1, h2⟩ := hy; rw [if_pos h1] at h2; exact h2.symm⟩
theorem made64 (x : Int) : madeCells #[Value.int .u8 0] 64 = (bv (fillTo x 0)).toArray := by
  kernel_rfl
theorem info5 : (Try.prog.info? 5).map (fun i => (i.zero, i.size, i.bytes)) = some (some (.int .u8 0), 1, 1) := by kernel_rfl
theorem size5 : (Try.prog.info? 5).map (·.size) = some 1 := by kernel_rfl
end Go.Proofs.Ytnjfgbbdfdoccaa
