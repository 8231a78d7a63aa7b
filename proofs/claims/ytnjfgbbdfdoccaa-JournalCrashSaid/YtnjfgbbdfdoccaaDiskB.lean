/- The program's disk: Crash. -/
import Derived.Test.YtnjfgbbdfdoccaaDisk
namespace Go.Proofs.Ytnjfgbbdfdoccaa
open Go.RowKit Go.ChangeMaps
set_option linter.unusedSimpArgs false
set_option linter.unusedVariables false

/-- A slice value that reads as the bytes l. -/
inductive BytesAt (w : World) : Value → List Int → Prop
  | nil (a : Option Addr) (cap : Nat) : BytesAt w (.slice a 0 cap) []
  | at_ (b o cap : Nat) (l : List Int) : w.rangeAt b o (bv l) → BytesAt w (.slice (some ⟨b, o, none⟩) l.length cap) l
theorem BytesAt.form {w : World} {v : Value} {l : List Int} (h : BytesAt w v l) : ∃ a cap, v = .slice a l.length cap := by
  cases h with
  | nil a cap => exact ⟨a, cap, rfl⟩
  | at_ b o cap l h => exact ⟨_, _, rfl⟩
theorem BytesAt.form64 {w : World} {v : Value} {l : List Int} (h : BytesAt w v l) (h64 : l.length = 64) : ∃ b o cap, v = .slice (some ⟨b, o, none⟩) 64 cap ∧ w.rangeAt b o (bv l) := by
  cases h with
  | nil => simp at h64
  | at_ b o cap l h => exact ⟨b, o, cap, by rw [h64], h⟩

theorem run_arrayAt {n : Nat} (hn : 64 ≤ n) (a : Option Addr) (cap : Nat) (w : World) : (Instr.arrayAt 62 (.slice a n cap)).run Try.prog w = .ok (.pointer a) w := by
  have : ¬ n < 64 := by omega
  simp [Instr.arrayAt, Sem.run_bind, run_underlying Try.underlying62, Result.andThen, this]

def Dk.crash (D : Dk) (after : Int) (l : List Int) : Int × Dk :=
  if D.asked 0 ≠ 0 then (D.asked 0, D) else if after < 0 ∨ l.length ≠ 64 then (2, D) else (0, { D with set := true, after := after, torn := l })

theorem crash_refused {w : World} {b m : Nat} {D : Dk} (h : DiskAt w b m D) (after : Int) (v : Value) (ha : D.asked 0 ≠ 0) :
    Calls Try.prog 17 #[.pointer (some ⟨b, 0, none⟩), .int .i64 after, v] w fun e w' => e = .returned (.int .i64 (D.asked 0)) ∧ w = w' := by
  have H := Lib.hid h
  clear h
  have hb : (D.asked 0 != 0) = true := by rw [bne_iff_ne]; exact ha
  have hb2 : (D.asked 0 == 0) = false := beq_eq_false_iff_ne.2 ha
  clear ha
  go_enter Try.func17, Try.ntmps17
  go_wp2_with fail
  refine (asked_any H.out 0).mono ?_
  rintro e w' ⟨rfl, rfl⟩
  go_wp2_with fail
  go_ret
  exact ⟨rfl, rfl⟩
theorem crash_arg {w : World} {b m : Nat} {D : Dk} (h : DiskAt w b m D) (after : Int) {v : Value} {l : List Int} (hv : BytesAt w v l) (ha : D.asked 0 = 0) (hn : after < 0 ∨ l.length ≠ 64) (hm : l.length ≤ maxLen) :
    Calls Try.prog 17 #[.pointer (some ⟨b, 0, none⟩), .int .i64 after, v] w fun e w' => e = .returned (.int .i64 2) ∧ w = w' := by
  have H := Lib.hid h
  obtain ⟨a, cap, rfl⟩ := hv.form
  unfold maxLen at hm
  clear h hv
  have HA := Lib.hid ha
  clear ha
  by_cases h1 : after < 0
  · clear hn
    go_enter Try.func17, Try.ntmps17
    go_wp2_with fail
    refine (asked_any H.out 0).mono ?_
    rintro e w' ⟨rfl, rfl⟩
    rw [HA.out]
    go_wp2_with fail
    go_ret
    exact ⟨rfl, rfl⟩
  · have h2 : l.length ≠ 64 := by rcases hn with hn | hn; exact absurd hn h1; exact hn
    have h3 : ((l.length : Int) != 64) = true := by rw [bne_iff_ne]; omega
    clear hn h2
    go_enter Try.func17, Try.ntmps17
    go_wp2_with fail
    refine (asked_any H.out 0).mono ?_
    rintro e w' ⟨rfl, rfl⟩
    rw [HA.out]
    go_wp2_with fail
    go_ret
    exact ⟨rfl, rfl⟩
theorem dcells_list (m : Nat) (D : Dk) : (dcells m D).toList = [Value.int .i64 D.n, .map (some m), .int .i64 D.written, .bool D.down, .bool D.set, .int .i64 D.after] ++ (bv D.torn ++ []) := by
  simp [dcells]
theorem crash_world {w : World} {b m : Nat} {D : Dk} (h : DiskAt w b m D) (after : Int) (h1 : 0 ≤ after) (h2 : after ≤ 9223372036854775807) {l : List Int} (hl : l.length = 64) :
    DiskAt (((w.setCell ⟨b, 4, none⟩ (.bool true)).setCell ⟨b, 5, none⟩ (.int .i64 after)).setCells b 6 (bv l)) b m { D with set := true, after := after, torn := l } := by
  have b1 := heap_setCell_blk h.blk 4 (.bool true)
  have b2 := heap_setCell_blk b1 5 (.int .i64 after)
  have h3 := heap_setCells_blk b (bv l) 6 _ b2
  have hm : Mod [b] w (((w.setCell ⟨b, 4, none⟩ (.bool true)).setCell ⟨b, 5, none⟩ (.int .i64 after)).setCells b 6 (bv l)) :=
    (((Mod.refl [b] w).setCell (p := ⟨b, 4, none⟩) (by simp) _).setCell (p := ⟨b, 5, none⟩) (by simp) _).setCells (by simp) _ _
  refine ⟨?_, h.map.of_heap (hm.block m h.map.lt (by simpa using h.ne.symm)), hl, h.sectors, h1, h2⟩
  rw [h3]
  congr 2
  apply Array.ext'
  rw [dcells_list]
  have e := setRange_mid [Value.int .i64 D.n, .map (some m), .int .i64 D.written, .bool D.down, .bool true, .int .i64 after] (bv l) (bv D.torn) [] (by simp [bv_length, hl, h.torn])
  rw [← e]
  simp [dcells]
set_option maxRecDepth 10000 in
theorem crash_done {w : World} {b m : Nat} {D : Dk} (h : DiskAt w b m D) (after : Int) {v : Value} {l : List Int} (hv : BytesAt w v l) (ha : D.asked 0 = 0) (h1 : 0 ≤ after) (hA : after ≤ 9223372036854775807) (h64 : l.length = 64) :
    Calls Try.prog 17 #[.pointer (some ⟨b, 0, none⟩), .int .i64 after, v] w fun e w' => e = .returned (.int .i64 0) ∧ Mod [b] w w' ∧ DiskAt w' b m { D with set := true, after := after, torn := l } := by
  obtain ⟨bb, o, cap, rfl, hr⟩ := hv.form64 h64
  have hw := crash_world h after h1 hA h64
  have hm : Mod [b] w (((w.setCell ⟨b, 4, none⟩ (.bool true)).setCell ⟨b, 5, none⟩ (.int .i64 after)).setCells b 6 (bv l)) :=
    (((Mod.refl [b] w).setCell (p := ⟨b, 4, none⟩) (by simp) _).setCell (p := ⟨b, 5, none⟩) (by simp) _).setCells (by simp) _ _
  have hld := run_loadAt_mid (P := Try.prog) w bb o 62 (bv l) _ hr Try.underlying62 rfl (by rw [bv_length, h64]; exact size65)
  have h2 := heap_setCell_blk (heap_setCell_blk h.blk 4 (.bool true)) 5 (.int .i64 after)
  have hsz : (dcells m D).size = 70 := by simp [dcells, bv_length, h.torn]
  have hth := there_blk h2 6 64 (by simp [hsz])
  have hst := run_storeAt_mid (P := Try.prog) _ b 6 62 (bv l).toArray (by simpa [bv_length, h64] using hth) (by simp only [List.size_toArray, bv_length, h64]; exact size65) (oneCell_bv l)
  simp only [List.toList_toArray] at hst
  have c4 := h.c4
  have c5 := h.c5
  have f4 := frozen_blk h.blk 4
  have f5 := frozen_blk h.blk 5
  have harr := fun w => run_arrayAt (Nat.le_refl 64) (some ⟨bb, o, none⟩) cap w
  have H := Lib.hid h
  have HA := Lib.hid ha
  have HW := Lib.hid hw
  have HM := Lib.hid hm
  have HL := Lib.hid hld
  have HS := Lib.hid hst
  clear h hv ha hw hm hld h2 hsz hth hst hr h64
  go_enter Try.func17, Try.ntmps17
  go_wp2_with fail
  refine (asked_any H.out 0).mono ?_
  rintro e w' ⟨rfl, rfl⟩
  rw [HA.out]
  go_wp2_with first
    | (refine wpList_load rfl (t := 62) rfl rfl HL.out ?_)
    | (refine wpList_store rfl (t := 62) rfl rfl rfl HS.out ?_)
  go_ret
  exact ⟨rfl, HM.out, HW.out⟩
theorem crash_any {w : World} {b m : Nat} {D : Dk} (h : DiskAt w b m D) (after : Int) {v : Value} {l : List Int} (hv : BytesAt w v l) (hm : l.length ≤ maxLen) (hA : after ≤ 9223372036854775807) :
    Calls Try.prog 17 #[.pointer (some ⟨b, 0, none⟩), .int .i64 after, v] w fun e w' => e = .returned (.int .i64 (D.crash after l).1) ∧ Mod [b] w w' ∧ DiskAt w' b m (D.crash after l).2 := by
  unfold Dk.crash
  by_cases ha : D.asked 0 = 0
  · rw [if_neg (by simpa using ha)]
    by_cases hn : after < 0 ∨ l.length ≠ 64
    · rw [if_pos hn]
      exact (crash_arg h after hv ha hn hm).mono fun e w' ⟨he, hw⟩ => ⟨he, hw ▸ Mod.refl _ _, hw ▸ h⟩
    · rw [if_neg hn]
      exact crash_done h after hv ha (by omega) hA (by omega)
  · rw [if_pos ha]
    exact (crash_refused h after v ha).mono fun e w' ⟨he, hw⟩ => ⟨he, hw ▸ Mod.refl _ _, hw ▸ h⟩
end Go.Proofs.Ytnjfgbbdfdoccaa
