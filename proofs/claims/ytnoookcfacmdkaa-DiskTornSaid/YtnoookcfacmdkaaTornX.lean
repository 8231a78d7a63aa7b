/- DiskTorn, the walk where nothing is written. -/
import Derived.Test.YtnoookcfacmdkaaTornW
namespace Go.Proofs.Ytnoookcfacmdkaa
open Go.RowKit Go.ChangeMaps
set_option linter.unusedSimpArgs false
set_option linter.unusedVariables false

set_option maxRecDepth 10000 in
set_option maxHeartbeats 1000000 in
theorem torn_none (a0 a1 : Option Addr) (c0 n1 c1 : Nat) (af t : Int) (w : World) (haf : 0 ≤ af) (haf2 : af ≤ 9223372036854775807) (hYm : n1 ≤ maxLen) :
    Calls Try.prog 3 #[.slice a0 0 c0, .slice a1 n1 c1, .int .i64 af, .int .u8 t] w fun e w' => e = .returned (.bool true) ∧ Mod [] w w' := by
  unfold maxLen at hYm
  obtain ⟨es, hT⟩ := torn_start af t haf
  have ES := Lib.hid es
  clear es
  go_enter Try.func3, Try.ntmps3
  go_wp2_with fail
  refine (new_yes 16 w (by omega) (by omega)).mono ?_
  rintro e w1 ⟨rfl, hm1, hd1⟩
  have hb1 : w.heap.size + 1 < w1.heap.size := lt_of_heap hd1.blk
  go_wp2_with fail
  refine (full_own t w1).mono ?_
  rintro e w2 ⟨_, rfl, ⟨a2, rfl⟩, hf2⟩
  go_wp2_with fail
  refine (crash_any (hd1.kept hf2.mod (by simp) (by simp)) af hf2.bytes (full_max _) haf2).mono ?_
  rintro e w3 ⟨rfl, hm3, hd3⟩
  rw [ES.out]
  have hbel : Below w.heap.size w w3 := below_step (below_step (below_step (Below.refl _ _) hm1 (by simp)) hf2.mod (by simp)) hm3 (by simp)
  clear hm1 hd1 hf2 hm3
  generalize ((Dk.new 16).crash af (full t)).2 = D0 at hT hd3
  go_wp2_with (refine wpList_alloc rfl (t := 31) rfl zero31 ?_)
  have hs3 : w.heap.size + 1 < w3.heap.size := lt_of_heap hd3.blk
  go_loopw [54] (fun v54 wr => ∃ (k : Nat) (D : Dk) (W : List Int), k ≤ 0 ∧ v54 = .int .i64 k ∧ Torn af t k D W ∧ DiskAt wr (w.heap.size + 1) w.heap.size D ∧ wr.heap[w3.heap.size]? = some (.cells (bv W).toArray 31 (0, 0)) ∧ Below w.heap.size w wr) (fun v54 _ => 0 - (intOf v54).toNat)
  case atStart =>
    refine ⟨0, D0, List.replicate 16 0, by omega, rfl, hT, hd3.kept ((Mod.refl [] w3).alloc _) (by simp) (by simp), heap_alloc_last _ _, below_step hbel ((Mod.refl [] w3).alloc _) (by simp)⟩
  case round =>
    obtain ⟨k, D, W, hk, rfl, hTk, hdk, hWk, hbk⟩ := hrel
    clear hbel hd3 hT
    obtain rfl : k = 0 := by omega
    have hwr := torn_written hTk haf
    have hcs : w3.heap.size < wr.heap.size := lt_of_heap hWk
    go_wp2_with fail
    refine (up_any hdk).mono ?_
    rintro e wr1 ⟨rfl, hm1, hd1⟩
    have hW1 : wr1.heap[w3.heap.size]? = some (.cells (bv W).toArray 31 (0, 0)) := hm1.heap hWk (by simp; omega)
    have hb1 : Below w.heap.size w wr1 := below_step hbk hm1 (by simp)
    have hsec : ∀ j : Nat, j < 16 → ({ D with down := false } : Dk).asked j = 0 ∧ ({ D with down := false } : Dk).sec j = full (W.getD j 0) := fun j hj => ⟨by
      have : ¬ ((j : Int) < 0 ∨ (16 : Int) ≤ j) := by omega
      simp [Dk.asked, hTk.n, this], hTk.sec j hj⟩
    have hlen := hTk.len
    have HSec := Lib.hid hsec
    have HWr := Lib.hid hwr
    have HLen := Lib.hid hlen
    have HW : wr1.heap[w3.heap.size]? = some (.cells (bv W).toArray 31 (0, 0)) ∧ DiskAt wr1 (w.heap.size + 1) w.heap.size { D with down := false } ∧ Below w.heap.size w wr1 := ⟨hW1, hd1, hb1⟩
    clear hm1 hdk hWk hbk hTk hsec hwr hlen hW1 hd1 hb1
    go_wp2_with fail
    go_loopw [97] (fun v97 wq => ∃ j : Nat, j ≤ 16 ∧ v97 = .int .i64 j ∧ wq.heap[w3.heap.size]? = some (.cells (bv W).toArray 31 (0, 0)) ∧ DiskAt wq (w.heap.size + 1) w.heap.size { D with down := false } ∧ Below w.heap.size w wq) (fun v97 _ => 16 - (intOf v97).toNat)
    case atStart => exact ⟨0, by omega, rfl, HW⟩
    case round =>
      clear HW
      obtain ⟨j, hj, rfl, hWq, hdq, hbq⟩ := hrel
      by_cases hj16 : j < 16
      · obtain ⟨hja, hjs⟩ := HSec.out j hj16
        have HJ := Lib.hid hjs
        clear hjs
        go_wp2_with fail
        refine (read_own hdq j hja).mono ?_
        rintro e wq1 ⟨_, rfl, ⟨a1, rfl⟩, hf1⟩
        have hWq1 := hf1.mod.heap hWq (by simp)
        have hdq1 := hdq.kept hf1.mod (by simp) (by simp)
        have hbq1 : Below w.heap.size w wq1 := below_step hbq hf1.mod (by simp)
        have hbytes := hf1.bytes
        rw [HJ.out] at hbytes
        have cW : wq1.cell? ⟨w3.heap.size, j, none⟩ = some (.int .u8 (W.getD j 0)) := by
          rw [cell_blk hWq1]
          have : j < W.length := by rw [HLen.out]; exact hj16
          simp [bv, this]
        have hc1 := conv_bytes (w := wq1.drew) (hbytes.kept0 ((Mod.refl [] wq1).drew))
        generalize hy : W.getD j 0 = y at cW hbytes hc1
        have HY := Lib.hid hy
        have HC1 := Lib.hid hc1
        clear hy hc1 hdq hWq hbq hf1
        go_wp2_with fail
        refine wp_plan [([0, 1, 2, 3, 4, 5, 6, 7], 8, [4])] [9, 10, 11] (by kernel_rfl) (by kernel_rfl) ?_
        simp only [wpSegs, opsOf, List.map_cons, List.map_nil, opN, List.getD_cons_zero, List.getD_cons_succ]
        go_wp2_with (refine wpList_convert rfl (s := 23) rfl rfl HC1.out ?_)
        refine ⟨by first | trivial | rfl, ?_⟩
        go_wp2_with fail
        refine (full_own y wq1.drew).mono ?_
        rintro e wq2 ⟨_, rfl, ⟨a2, rfl⟩, hf2⟩
        have HC2 := Lib.hid (conv_bytes ((hbytes.kept0 ((Mod.refl [] wq1).drew)).kept0 hf2.mod))
        have HC3 := Lib.hid (conv_bytes hf2.bytes)
        have hWq2 := hf2.mod.heap (w := wq1.drew) hWq1 (by simp)
        have hdq2 := (hdq1.kept ((Mod.refl [] wq1).drew) (by simp) (by simp)).kept hf2.mod (by simp) (by simp)
        have hbq2 : Below w.heap.size w wq2 := below_step (below_step hbq1 ((Mod.refl [] wq1).drew) (by simp)) hf2.mod (by simp)
        clear hf2 hbytes hWq1 hdq1 hbq1
        go_wp2_with fail
        refine ⟨?again, ?_⟩
        case again =>
          intro i hi hw
          simp only [List.mem_cons, List.not_mem_nil, or_false] at hi
          rcases hi with rfl
          exact exec_convert rfl rfl HC2.out
        go_wp2_with (refine wpList_convert rfl (s := 23) rfl rfl HC3.out ?_)
        refine ⟨by first | trivial | rfl, ?_⟩
        go_wp2_with fail
        go_roundw
        case rel => exact ⟨j + 1, by omega, by go_num, hWq2, hdq2, hbq2⟩
        case measure => simp [intOf]; omega
      · obtain rfl : j = 16 := by omega
        go_wp2_with fail
        refine (written_any hdq).mono ?_
        rintro e w' ⟨rfl, rfl⟩
        rw [show ({ D with down := false } : Dk).written = min af 0 from HWr.out.1]
        go_wp2_with fail
        all_goals
          refine (known30_any wr).mono ?_
          rintro e w9 ⟨rfl, hm9⟩
          go_wp2_with fail
          go_ret
          exact ⟨rfl, Below.mod (below_step hbq hm9 (by simp)) []⟩
end Go.Proofs.Ytnoookcfacmdkaa
