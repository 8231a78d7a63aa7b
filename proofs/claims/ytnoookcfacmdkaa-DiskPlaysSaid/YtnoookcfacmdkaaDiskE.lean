/- The example that every statement of the layer asks first. -/
import Derived.Test.YtnoookcfacmdkaaDiskD
namespace Go.Proofs.Ytnoookcfacmdkaa
open Go.RowKit Go.ChangeMaps
set_option linter.unusedSimpArgs false
set_option linter.unusedVariables false

/-- The example's disk, step by step. -/
def ex1 : Dk := ((Dk.new 4).crash 1 (full 9)).2
def ex2 : Dk := (ex1.write 0 (full 1)).2
def ex3 : Dk := (ex2.write 1 (full 2)).2
def ex4 : Dk := { ex3 with down := false }
theorem exa1 : ((Dk.new 4).crash 1 (full 9)).1 = 0 := by kernel_rfl
theorem exa2 : (ex1.write 0 (full 1)).1 = 0 := by kernel_rfl
theorem exa3 : (ex2.write 1 (full 2)).1 = 16 := by kernel_rfl
theorem exd3 : ex3.down = true := by kernel_rfl
theorem exr3 : ex3.asked 0 = 16 := by kernel_rfl
theorem exr4 : ex4.asked 0 = 0 := by kernel_rfl
theorem exr5 : ex4.asked 1 = 0 := by kernel_rfl
theorem exs4 : ex4.sec 0 = full 1 := by kernel_rfl
theorem exs5 : ex4.sec 1 = full 9 := by kernel_rfl
theorem exw4 : ex4.written = 1 := by kernel_rfl
theorem exw1 : ex1.written = 0 := by kernel_rfl
theorem exw2 : ex2.written = 1 := by kernel_rfl
theorem full_length (x : Int) : (full x).length = 64 := by simp [full]
theorem full_max (x : Int) : (full x).length ≤ maxLen := by rw [full_length]; unfold maxLen; omega

set_option maxRecDepth 10000 in
set_option maxHeartbeats 1000000 in
theorem known30_any (w : World) : Calls Try.prog 9 #[] w fun e w' => e = .returned (.bool true) ∧ Mod [] w w' := by
  go_enter Try.func9, Try.ntmps9
  go_wp2_with fail
  refine (new_yes 4 w (by omega) (by omega)).mono ?_
  rintro e w1 ⟨rfl, hm1, hd1⟩
  go_wp2_with fail
  refine (full_own 9 w1).mono ?_
  rintro e w2 ⟨_, rfl, ⟨a2, rfl⟩, hf2⟩
  have hb : w.heap.size + 1 < w1.heap.size := lt_of_heap hd1.blk
  go_wp2_with fail
  refine (crash_any (hd1.kept hf2.mod (by simp) (by simp)) 1 hf2.bytes (full_max _) (by omega)).mono ?_
  rintro e w3 ⟨rfl, hm3, hd3⟩
  rw [exa1]
  have hd3 : DiskAt w3 (w.heap.size + 1) w.heap.size ex1 := hd3
  go_wp2_with fail
  refine (full_own 1 w3).mono ?_
  rintro e w4 ⟨_, rfl, ⟨a4, rfl⟩, hf4⟩
  have hs3 : w.heap.size + 1 < w3.heap.size := lt_of_heap hd3.blk
  go_wp2_with fail
  refine (write_any (hd3.kept hf4.mod (by simp) (by simp)) 0 hf4.bytes (hf4.off _ hs3) (full_max _) (by rw [exw1]; omega) (by rw [exw1]; omega)).mono ?_
  rintro e w5 ⟨rfl, hm5, hd5⟩
  rw [exa2]
  have hd5 : DiskAt w5 (w.heap.size + 1) w.heap.size ex2 := hd5
  go_wp2_with fail
  refine (full_own 2 w5).mono ?_
  rintro e w6 ⟨_, rfl, ⟨a6, rfl⟩, hf6⟩
  have hs5 : w.heap.size + 1 < w5.heap.size := lt_of_heap hd5.blk
  go_wp2_with fail
  refine (write_any (hd5.kept hf6.mod (by simp) (by simp)) 1 hf6.bytes (hf6.off _ hs5) (full_max _) (by rw [exw2]; omega) (by rw [exw2]; omega)).mono ?_
  rintro e w7 ⟨rfl, hm7, hd7⟩
  rw [exa3]
  have hd7 : DiskAt w7 (w.heap.size + 1) w.heap.size ex3 := hd7
  go_wp2_with fail
  refine (down_any hd7).mono ?_
  rintro e w' ⟨rfl, rfl⟩
  rw [exd3]
  go_wp2_with fail
  refine (read_no hd7 0 (by rw [exr3]; omega)).mono ?_
  rintro e w' ⟨rfl, rfl⟩
  rw [exr3]
  go_wp2_with fail
  refine (up_any hd7).mono ?_
  rintro e w8 ⟨rfl, hm8, hd8⟩
  have hd8 : DiskAt w8 (w.heap.size + 1) w.heap.size ex4 := hd8
  go_wp2_with fail
  refine (read_own hd8 0 exr4).mono ?_
  rintro e w9 ⟨_, rfl, ⟨a9, rfl⟩, hf9⟩
  have hd9 : DiskAt w9 (w.heap.size + 1) w.heap.size ex4 := hd8.kept hf9.mod (by simp) (by simp)
  go_wp2_with fail
  refine (read_own hd9 1 exr5).mono ?_
  rintro e w10 ⟨_, rfl, ⟨a10, rfl⟩, hf10⟩
  have hd10 : DiskAt w10 (w.heap.size + 1) w.heap.size ex4 := hd9.kept hf10.mod (by simp) (by simp)
  have hb9 := hf9.bytes.kept0 hf10.mod
  have hb10 := hf10.bytes
  rw [exs4] at hb9
  rw [exs5] at hb10
  have hbel : Below w.heap.size w w10 := by
    have h1 := below_step (Below.refl w.heap.size w) hm1 (by simp)
    have h2 := below_step h1 hf2.mod (by simp)
    have h3 := below_step h2 hm3 (by simp)
    have h4 := below_step h3 hf4.mod (by simp)
    have h5 := below_step h4 hm5 (by simp)
    have h6 := below_step h5 hf6.mod (by simp)
    have h7 := below_step h6 hm7 (by simp)
    have h8 := below_step h7 hm8 (by simp)
    exact below_step (below_step h8 hf9.mod (by simp)) hf10.mod (by simp)
  have hc9 := conv_bytes (w := w10.drew) (hb9.kept0 ((Mod.refl [] w10).drew))
  have hc10 := conv_bytes (w := w10.drew) (hb10.kept0 ((Mod.refl [] w10).drew))
  have HB := Lib.hid hbel
  have H9 := Lib.hid hc9
  have H10 := Lib.hid hc10
  have HB9 := Lib.hid hb9
  have HB10 := Lib.hid hb10
  have HD10 := Lib.hid hd10
  clear hm1 hd1 hf2 hm3 hd3 hf4 hm5 hd5 hf6 hm7 hd7 hm8 hd8 hf9 hd9 hf10 hbel hc9 hc10 hb9 hb10 hd10 hb hs3 hs5
  go_wp2_with fail
  refine wp_plan [([0, 1, 2, 3, 4, 5, 6, 7, 8, 9, 10, 11, 12], 13, [12]), ([14, 15, 16, 17, 18, 19], 20, [19]), ([21, 22, 23, 24, 25], 26, [])] [27, 28, 29] (by kernel_rfl) (by kernel_rfl) ?_
  simp only [wpSegs, opsOf, List.map_cons, List.map_nil, opN, List.getD_cons_zero, List.getD_cons_succ]
  go_wp2_with (refine wpList_convert rfl (s := 23) rfl rfl H9.out ?_)
  refine ⟨by first | trivial | rfl, ?_⟩
  go_wp2_with fail
  refine (full_own 1 w10.drew).mono ?_
  rintro e w11 ⟨_, rfl, ⟨a11, rfl⟩, hf11⟩
  have H9b := Lib.hid (conv_bytes ((HB9.out.kept0 ((Mod.refl [] w10).drew)).kept0 hf11.mod))
  have H10b := Lib.hid (conv_bytes ((HB10.out.kept0 ((Mod.refl [] w10).drew)).kept0 hf11.mod))
  have H11 := Lib.hid (conv_bytes hf11.bytes)
  go_wp2_with fail
  refine ⟨?again1, ?_⟩
  case again1 =>
    intro i hi hw
    simp only [List.mem_cons, List.not_mem_nil, or_false] at hi
    rcases hi with rfl
    exact exec_convert rfl rfl H9b.out
  go_wp2_with first
    | (refine wpList_convert rfl (s := 23) rfl rfl H11.out ?_)
    | (refine wpList_convert rfl (s := 23) rfl rfl H10b.out ?_)
  refine ⟨by first | trivial | rfl, ?_⟩
  go_wp2_with fail
  refine (full_own 9 w11).mono ?_
  rintro e w12 ⟨_, rfl, ⟨a12, rfl⟩, hf12⟩
  have H10c := Lib.hid (conv_bytes (((HB10.out.kept0 ((Mod.refl [] w10).drew)).kept0 hf11.mod).kept0 hf12.mod))
  have H12 := Lib.hid (conv_bytes hf12.bytes)
  go_wp2_with fail
  refine ⟨?again2, ?_⟩
  case again2 =>
    intro i hi hw
    simp only [List.mem_cons, List.not_mem_nil, or_false] at hi
    rcases hi with rfl
    exact exec_convert rfl rfl H10c.out
  have hd12 : DiskAt w12 (w.heap.size + 1) w.heap.size ex4 := ((HD10.out.kept ((Mod.refl [] w10).drew) (by simp) (by simp)).kept hf11.mod (by simp) (by simp)).kept hf12.mod (by simp) (by simp)
  go_wp2_with (refine wpList_convert rfl (s := 23) rfl rfl H12.out ?_)
  refine ⟨by first | trivial | rfl, ?_⟩
  go_wp2_with fail
  refine (written_any hd12).mono ?_
  rintro e w' ⟨rfl, rfl⟩
  rw [exw4]
  go_wp2_with fail
  refine ⟨again_nil, ?_⟩
  go_wp2_with fail
  refine ⟨by first | trivial | rfl, ?_⟩
  go_wp2_with fail
  go_ret
  have hb12 := below_step (below_step (below_step HB.out ((Mod.refl [] w10).drew) (by simp)) hf11.mod (by simp)) hf12.mod (by simp)
  exact ⟨rfl, Below.mod hb12 []⟩
end Go.Proofs.Ytnoookcfacmdkaa
