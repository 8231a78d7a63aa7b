/- Graph: container/heap over the waiting fields. -/
import Derived.Test.YtefaihockgebeaaGreatGrE
namespace Go.Proofs.YtefaihockgebeaaGreat
open Go.RowKit Go.ChangeMaps Go.Deep
set_option linter.unusedSimpArgs false
set_option linter.unusedVariables false
set_option maxRecDepth 20000

abbrev wtI (H : Nat) : Value := .iface 68 (.pointer (some ⟨H, 0, none⟩))
theorem WaitAt.kept0 {w w' : World} {base H : Nat} {sv : Value} {l : List Int} (h : WaitAt w base H sv l) (hm : Mod [] w w') : WaitAt w' base H sv l := ⟨hm.heap h.box (by simp), h.own.kept0 hm⟩
theorem WaitAt.cell {w : World} {base H : Nat} {sv : Value} {l : List Int} (h : WaitAt w base H sv l) : w.cell? ⟨H, 0, none⟩ = some sv := by
  have c0 := cell_blk h.box 0
  simpa using c0
theorem WaitAt.turned {w w' : World} {base H : Nat} {sv : Value} {l l' : List Int} (h : WaitAt w base H sv l) (ho : OwnN w' base sv l') (hm : Mod (blk sv) w w') : WaitAt w' base H sv l' :=
  ⟨hm.heap h.box fun hk => h.ne (mem_blk.1 hk), ho⟩
theorem method_xLess (H : Nat) (w : World) (n : Nat) : (method (n + 1) 68 (.pointer (some ⟨H, 0, none⟩)) "Less").run Tryz.prog w = ((do let v ← load ⟨H, 0, none⟩; pure (118, v)) : Sem (FuncId × Value)).run Tryz.prog w := by kernel_rfl
theorem method_Less (H : Nat) (sv : Value) (w : World) (h : w.cell? ⟨H, 0, none⟩ = some sv) (n : Nat) : (method (n + 1) 68 (.pointer (some ⟨H, 0, none⟩)) "Less").run Tryz.prog w = .ok (118, sv) w := by
  rw [method_xLess]
  simp [go_sem, h]
theorem method_xLen (H : Nat) (w : World) (n : Nat) : (method (n + 1) 68 (.pointer (some ⟨H, 0, none⟩)) "Len").run Tryz.prog w = ((do let v ← load ⟨H, 0, none⟩; pure (35, v)) : Sem (FuncId × Value)).run Tryz.prog w := by kernel_rfl
theorem method_Len (H : Nat) (sv : Value) (w : World) (h : w.cell? ⟨H, 0, none⟩ = some sv) (n : Nat) : (method (n + 1) 68 (.pointer (some ⟨H, 0, none⟩)) "Len").run Tryz.prog w = .ok (35, sv) w := by
  rw [method_xLen]
  simp [go_sem, h]
theorem method_xSwap (H : Nat) (w : World) (n : Nat) : (method (n + 1) 68 (.pointer (some ⟨H, 0, none⟩)) "Swap").run Tryz.prog w = ((do let v ← load ⟨H, 0, none⟩; pure (122, v)) : Sem (FuncId × Value)).run Tryz.prog w := by kernel_rfl
theorem method_Swap (H : Nat) (sv : Value) (w : World) (h : w.cell? ⟨H, 0, none⟩ = some sv) (n : Nat) : (method (n + 1) 68 (.pointer (some ⟨H, 0, none⟩)) "Swap").run Tryz.prog w = .ok (122, sv) w := by
  rw [method_xSwap]
  simp [go_sem, h]
set_option maxHeartbeats 2000000 in
theorem hpUp_any (base H : Nat) (sv : Value) (l : List Int) (j : Nat) (w : World) (h : WaitAt w base H sv l) (hj : j < l.length) (hu : UpInv l j) (hl : l.length ≤ 1000000) :
    Calls Tryz.prog 51 #[wtI H, .int .i64 j] w fun e w' => e = .returned (.tuple #[]) ∧ ∃ l', WaitAt w' base H sv l' ∧ Heap l' ∧ l'.Perm l ∧ Mod (blk sv) w w' := by
  have H0 := Lib.hid h
  have HU := Lib.hid hu
  clear h hu
  go_enter Tryz.func51, Tryz.ntmps51
  go_wp2_with fail
  go_loopw [1] (fun s1 wr => ∃ (j : Nat) (m : List Int), s1 = .int .i64 j ∧ j < m.length ∧ m.length = l.length ∧ Hid (UpInv m j) ∧ Hid (m.Perm l) ∧ Hid (WaitAt wr base H sv m) ∧ Hid (Mod (blk sv) w wr)) (fun s1 _ => (intOf s1).toNat)
  case atStart => exact ⟨j, l, rfl, hj, rfl, HU, Lib.hid (.refl _), H0, Lib.hid (Mod.refl _ _)⟩
  case round =>
    obtain ⟨j, m, rfl, hj, hml, hu, hp, hW, hM⟩ := hrel
    cases j with
    | zero =>
      go_wp2_with fail
      go_end0
      exact ⟨rfl, m, hW.out, hu.out.stop (by omega), hp.out, hM.out⟩
    | succ j =>
      have c0 := hW.out.cell
      have hL := method_Less H sv wr c0
      have HC := Lib.hid (isLess_any sv m (j + 1) (j / 2) wr hW.out.own.row hj (by omega) (by omega))
      go_wp2_with fail
      refine HC.out.mono ?_
      rintro e w1 ⟨rfl, m1⟩
      have HM1 := Lib.hid (hM.out.trans m1.nil)
      have HW1 := Lib.hid (hW.out.kept0 m1)
      clear m1 HC c0 hL
      by_cases hlt : at0 m (j + 1) < at0 m (j / 2)
      · rw [decide_eq_true hlt]
        have c0 := HW1.out.cell
        have hL := method_Swap H sv w1 c0
        have HC := Lib.hid (isSwap_any base sv m (j / 2) (j + 1) w1 HW1.out.own (by omega) hj (by omega))
        have HU2 := Lib.hid (hu.out.step (by omega) hj hlt)
        go_wp2_with fail
        refine HC.out.mono ?_
        rintro e w2 ⟨rfl, o2, m2⟩
        have HW2 := Lib.hid (HW1.out.turned o2 m2)
        have HM2 := Lib.hid (HM1.out.trans m2)
        clear o2 m2 HC c0 hL
        go_wp2_with fail
        go_roundw
        case rel => exact ⟨j / 2, _, rfl, by rw [swp_length]; omega, by rw [swp_length]; exact hml, HU2, Lib.hid ((swp_perm (by omega) hj).trans hp.out), HW2, HM2⟩
        case measure => simp [intOf]; omega
      · rw [decide_eq_false hlt]
        have HUS := Lib.hid (hu.out.stop (fun _ => hlt))
        go_wp2_with fail
        go_end0
        exact ⟨rfl, m, HW1.out, HUS.out, hp.out, HM1.out⟩
set_option maxHeartbeats 2000000 in
theorem hpPush_any (base H : Nat) (sv : Value) (l : List Int) (x : Int) (w : World) (h : WaitAt w base H sv l) (hh : Heap l) (hb : base ≤ w.heap.size) (hl : l.length ≤ 100000) :
    Calls Tryz.prog 34 #[wtI H, .iface 3 (.int .i64 x)] w fun e w' => e = .returned (.tuple #[]) ∧ ∃ sv' l', WaitAt w' base H sv' l' ∧ Heap l' ∧ l'.Perm (x :: l) ∧ Mod (H :: blk sv) w w' ∧ (sv'.ownBlock = sv.ownBlock ∨ ∀ k, sv'.ownBlock = some k → w.heap.size ≤ k) := by
  have HC := Lib.hid (wtPush_any base H sv l x w h hb (by omega))
  have HH := Lib.hid hh
  clear h hh
  go_enter Tryz.func34, Tryz.ntmps34
  go_wp2_with fail
  refine HC.out.mono ?_
  rintro e w1 ⟨rfl, sv1, W1, m1, h1⟩
  have HW1 := Lib.hid W1
  have HM1 := Lib.hid m1
  have HE1 := Lib.hid h1
  have c0 := W1.cell
  have hL := method_Len H sv1 w1 c0
  obtain ⟨a, c, rfl⟩ := W1.own.row.form
  have HLN := Lib.hid (fun W => isLen_any a (l ++ [x]).length c W)
  have HUP := Lib.hid (hpUp_any base H _ (l ++ [x]) l.length w1 HW1.out (by simp) (UpInv.push HH.out x) (by simp; omega))
  clear W1 m1 h1 HC
  rw [List.length_append, List.length_singleton] at *
  go_wp2_with fail
  refine (HLN.out w1).mono ?_
  rintro e w2 ⟨rfl, rfl⟩
  go_wp2_with fail
  refine HUP.out.mono ?_
  rintro e w3 ⟨rfl, l3, W3, h3, p3, m3⟩
  have HF := Lib.hid (And.intro W3 (And.intro h3 (p3.trans (List.perm_append_singleton x l))))
  have HM3 := Lib.hid m3
  clear W3 h3 p3 m3
  go_wp2_with fail
  go_end0
  refine ⟨rfl, _, l3, HF.out.1, HF.out.2.1, HF.out.2.2, ?_, HE1.out⟩
  have hm := HM3.out
  refine ⟨hm.os.trans HM1.out.os, hm.tape.trans HM1.out.tape, hm.output.trans HM1.out.output, Nat.le_trans HM1.out.size hm.size, fun k hk hn => ?_⟩
  refine (hm.block k (Nat.lt_of_lt_of_le hk HM1.out.size) fun hb => ?_).trans (HM1.out.block k hk hn)
  rw [mem_blk] at hb
  rcases HE1.out with e | e
  · exact hn (List.mem_cons_of_mem _ (mem_blk.2 (e ▸ hb)))
  · have := e k hb; omega
/-! ### down, Pop -/
/-- an answer, whichever -/
def AnyB (e : Ending) : Prop := ∃ b : Bool, e = .returned (.bool b)
set_option maxHeartbeats 4000000 in
theorem hpDown_any (base H : Nat) (sv : Value) (l : List Int) (n : Nat) (w : World) (h : WaitAt w base H sv l) (hn : n ≤ l.length) (hd : DownInv l 0 n) (hl : l.length ≤ 1000000) :
    Calls Tryz.prog 52 #[wtI H, .int .i64 0, .int .i64 n] w fun e w' => AnyB e ∧ ∃ l', WaitAt w' base H sv l' ∧ (∀ k, 1 ≤ k → k < n → at0 l' ((k - 1) / 2) ≤ at0 l' k) ∧ l'.Perm l ∧ (∀ k, n ≤ k → at0 l' k = at0 l k) ∧ Mod (blk sv) w w' := by
  have H0 := Lib.hid h
  have HD := Lib.hid hd
  clear h hd
  go_enter Tryz.func52, Tryz.ntmps52
  go_wp2_with fail
  go_loopw [7] (fun s7 wr => ∃ (i : Nat) (m : List Int), s7 = .int .i64 i ∧ m.length = l.length ∧ (i < n ∨ i = 0) ∧ Hid (DownInv m i n) ∧ Hid (m.Perm l) ∧ Hid (∀ k, n ≤ k → at0 m k = at0 l k) ∧ Hid (WaitAt wr base H sv m) ∧ Hid (Mod (blk sv) w wr)) (fun s7 _ => n - (intOf s7).toNat)
  case atStart => exact ⟨0, l, rfl, rfl, .inr rfl, HD, Lib.hid (.refl _), Lib.hid (fun _ _ => rfl), H0, Lib.hid (Mod.refl _ _)⟩
  case round =>
    obtain ⟨i, m, rfl, hml, hin, hd, hp, hk, hW, hM⟩ := hrel
    have HIN := Lib.hid hin
    clear hin
    have hi2 : i ≤ 1000000 := by have := HIN.out; omega
    by_cases h1 : 2 * i + 1 < n
    · by_cases h2 : 2 * i + 1 + 1 < n
      · have c0 := hW.out.cell
        have hL := method_Less H sv wr c0
        have HC := Lib.hid (isLess_any sv m (2 * i + 1 + 1) (2 * i + 1) wr hW.out.own.row (by omega) (by omega) (by omega))
        go_wp2_with fail
        refine HC.out.mono ?_
        rintro e w1 ⟨rfl, m1⟩
        have HMX := Lib.hid (hM.out.trans m1.nil)
        have HWX := Lib.hid (hW.out.kept0 m1)
        clear m1 HC c0 hL
        by_cases hq : at0 m (2 * i + 1 + 1) < at0 m (2 * i + 1)
        · rw [decide_eq_true hq]
          have HB : Hid (∀ k, 1 ≤ k → k < n → (k - 1) / 2 = i → at0 m (2 * i + 1 + 1) ≤ at0 m k) := Lib.hid (fun k k1 k2 k3 => by
            rcases (show k = 2 * i + 1 ∨ k = 2 * i + 1 + 1 by omega) with e | e <;> rw [e] <;> omega)
          have c0 := HWX.out.cell
          have hL := method_Less H sv w1 c0
          have HC := Lib.hid (isLess_any sv m (2 * i + 1 + 1) i w1 HWX.out.own.row (by omega) (by omega) (by omega))
          go_wp2_with fail
          refine HC.out.mono ?_
          rintro e w2 ⟨rfl, m2⟩
          have HM2 := Lib.hid (HMX.out.trans m2.nil)
          have HW2 := Lib.hid (HWX.out.kept0 m2)
          clear m2 HC c0 hL
          by_cases hlt : at0 m (2 * i + 1 + 1) < at0 m i
          · rw [decide_eq_true hlt]
            have c0 := HW2.out.cell
            have hL := method_Swap H sv w2 c0
            have HC := Lib.hid (isSwap_any base sv m i (2 * i + 1 + 1) w2 HW2.out.own (by omega) (by omega) (by omega))
            have HDS := Lib.hid (hd.out.step (j := 2 * i + 1 + 1) (by omega) (by omega) (by omega) (by omega) hlt HB.out)
            go_wp2_with fail
            refine HC.out.mono ?_
            rintro e w3 ⟨rfl, o3, m3⟩
            have HW3 := Lib.hid (HW2.out.turned o3 m3)
            have HM3 := Lib.hid (HM2.out.trans m3)
            clear o3 m3 HC c0 hL
            go_wp2_with fail
            go_roundw
            case rel => exact ⟨2 * i + 1 + 1, _, by first | rfl | go_num, by rw [swp_length]; exact hml, .inl (by omega), HDS, Lib.hid ((swp_perm (by omega) (by omega)).trans hp.out), Lib.hid (fun k hk1 => by rw [swp_at (by omega) (by omega), if_neg (by omega), if_neg (by omega)]; exact hk.out k hk1), HW3, HM3⟩
            case measure => simp [intOf]; omega
          · rw [decide_eq_false hlt]
            have HST := Lib.hid (hd.out.stop (fun k k1 k2 k3 => Int.le_trans (Int.not_lt.1 hlt) (HB.out k k1 k2 k3)))
            go_wp2_with fail
            go_ret
            exact ⟨⟨_, rfl⟩, m, HW2.out, HST.out, hp.out, hk.out, HM2.out⟩
        · rw [decide_eq_false hq]
          have HB : Hid (∀ k, 1 ≤ k → k < n → (k - 1) / 2 = i → at0 m (2 * i + 1) ≤ at0 m k) := Lib.hid (fun k k1 k2 k3 => by
            rcases (show k = 2 * i + 1 ∨ k = 2 * i + 1 + 1 by omega) with e | e <;> rw [e] <;> omega)
          have c0 := HWX.out.cell
          have hL := method_Less H sv w1 c0
          have HC := Lib.hid (isLess_any sv m (2 * i + 1) i w1 HWX.out.own.row (by omega) (by omega) (by omega))
          go_wp2_with fail
          refine HC.out.mono ?_
          rintro e w2 ⟨rfl, m2⟩
          have HM2 := Lib.hid (HMX.out.trans m2.nil)
          have HW2 := Lib.hid (HWX.out.kept0 m2)
          clear m2 HC c0 hL
          by_cases hlt : at0 m (2 * i + 1) < at0 m i
          · rw [decide_eq_true hlt]
            have c0 := HW2.out.cell
            have hL := method_Swap H sv w2 c0
            have HC := Lib.hid (isSwap_any base sv m i (2 * i + 1) w2 HW2.out.own (by omega) (by omega) (by omega))
            have HDS := Lib.hid (hd.out.step (j := 2 * i + 1) (by omega) (by omega) (by omega) (by omega) hlt HB.out)
            go_wp2_with fail
            refine HC.out.mono ?_
            rintro e w3 ⟨rfl, o3, m3⟩
            have HW3 := Lib.hid (HW2.out.turned o3 m3)
            have HM3 := Lib.hid (HM2.out.trans m3)
            clear o3 m3 HC c0 hL
            go_wp2_with fail
            go_roundw
            case rel => exact ⟨2 * i + 1, _, by first | rfl | go_num, by rw [swp_length]; exact hml, .inl (by omega), HDS, Lib.hid ((swp_perm (by omega) (by omega)).trans hp.out), Lib.hid (fun k hk1 => by rw [swp_at (by omega) (by omega), if_neg (by omega), if_neg (by omega)]; exact hk.out k hk1), HW3, HM3⟩
            case measure => simp [intOf]; omega
          · rw [decide_eq_false hlt]
            have HST := Lib.hid (hd.out.stop (fun k k1 k2 k3 => Int.le_trans (Int.not_lt.1 hlt) (HB.out k k1 k2 k3)))
            go_wp2_with fail
            go_ret
            exact ⟨⟨_, rfl⟩, m, HW2.out, HST.out, hp.out, hk.out, HM2.out⟩
      · have HB : Hid (∀ k, 1 ≤ k → k < n → (k - 1) / 2 = i → at0 m (2 * i + 1) ≤ at0 m k) := Lib.hid (fun k k1 k2 k3 => by
          rw [show k = 2 * i + 1 by omega]; exact Int.le_refl _)
        have HMX := hM
        have HWX := hW
        have c0 := HWX.out.cell
        have hL := method_Less H sv wr c0
        have HC := Lib.hid (isLess_any sv m (2 * i + 1) i wr HWX.out.own.row (by omega) (by omega) (by omega))
        go_wp2_with fail
        refine HC.out.mono ?_
        rintro e w2 ⟨rfl, m2⟩
        have HM2 := Lib.hid (HMX.out.trans m2.nil)
        have HW2 := Lib.hid (HWX.out.kept0 m2)
        clear m2 HC c0 hL
        by_cases hlt : at0 m (2 * i + 1) < at0 m i
        · rw [decide_eq_true hlt]
          have c0 := HW2.out.cell
          have hL := method_Swap H sv w2 c0
          have HC := Lib.hid (isSwap_any base sv m i (2 * i + 1) w2 HW2.out.own (by omega) (by omega) (by omega))
          have HDS := Lib.hid (hd.out.step (j := 2 * i + 1) (by omega) (by omega) (by omega) (by omega) hlt HB.out)
          go_wp2_with fail
          refine HC.out.mono ?_
          rintro e w3 ⟨rfl, o3, m3⟩
          have HW3 := Lib.hid (HW2.out.turned o3 m3)
          have HM3 := Lib.hid (HM2.out.trans m3)
          clear o3 m3 HC c0 hL
          go_wp2_with fail
          go_roundw
          case rel => exact ⟨2 * i + 1, _, by first | rfl | go_num, by rw [swp_length]; exact hml, .inl (by omega), HDS, Lib.hid ((swp_perm (by omega) (by omega)).trans hp.out), Lib.hid (fun k hk1 => by rw [swp_at (by omega) (by omega), if_neg (by omega), if_neg (by omega)]; exact hk.out k hk1), HW3, HM3⟩
          case measure => simp [intOf]; omega
        · rw [decide_eq_false hlt]
          have HST := Lib.hid (hd.out.stop (fun k k1 k2 k3 => Int.le_trans (Int.not_lt.1 hlt) (HB.out k k1 k2 k3)))
          go_wp2_with fail
          go_ret
          exact ⟨⟨_, rfl⟩, m, HW2.out, HST.out, hp.out, hk.out, HM2.out⟩
    · have HST := Lib.hid (hd.out.stop (fun k k1 k2 k3 => by omega))
      go_wp2_with fail
      go_ret
      exact ⟨⟨_, rfl⟩, m, hW.out, HST.out, hp.out, hk.out, hM.out⟩
set_option maxHeartbeats 2000000 in
theorem hpPop_any (base H : Nat) (sv : Value) (l : List Int) (w : World) (h : WaitAt w base H sv l) (hh : Heap l) (h0 : 0 < l.length) (hl : l.length ≤ 1000000) :
    Calls Tryz.prog 36 #[wtI H] w fun e w' => e = .returned (.iface 3 (.int .i64 (at0 l 0))) ∧ ∃ sv' l', WaitAt w' base H sv' l' ∧ Heap l' ∧ l.Perm (at0 l 0 :: l') ∧ Mod (H :: blk sv) w w' ∧ sv'.ownBlock = sv.ownBlock := by
  obtain ⟨n, hn⟩ : ∃ n, l.length = n + 1 := ⟨l.length - 1, by omega⟩
  have H0 := Lib.hid h
  have HH := Lib.hid hh
  have c0 := h.cell
  have hL := method_Len H sv w c0
  obtain ⟨a, c, rfl⟩ := h.own.row.form
  have HLN := Lib.hid (fun W => isLen_any a l.length c W)
  clear h hh
  rw [hn] at c0 hL H0 HLN
  rw [hn]
  go_enter Tryz.func36, Tryz.ntmps36
  go_wp2_with fail
  refine (HLN.out w).mono ?_
  rintro e w1 ⟨rfl, rfl⟩
  have HS := Lib.hid (isSwap_any base _ l 0 n w1 H0.out.own (by omega) (by omega) (by omega))
  have hS := method_Swap H _ w1 c0
  go_wp2_with fail
  refine HS.out.mono ?_
  rintro e w2 ⟨rfl, o2, m2⟩
  have HW2 := Lib.hid (H0.out.turned o2 m2)
  have HM2 := Lib.hid m2
  have HD := Lib.hid (hpDown_any base H _ (swp l 0 n) n w2 HW2.out (by rw [swp_length]; omega) (DownInv.pop HH.out hn) (by rw [swp_length]; omega))
  clear o2 m2 HS hS hL c0
  go_wp2_with fail
  refine HD.out.mono ?_
  rintro e w3 ⟨⟨b, rfl⟩, m, W3, hm, pm, km, m3⟩
  have hml : m.length = n + 1 := by rw [pm.length_eq, swp_length]; exact hn
  have hlast : at0 m n = at0 l 0 := by rw [km n (Nat.le_refl _), swp_at (by omega) (by omega), if_pos rfl]
  have HPP := Lib.hid (wtPop_any base H _ (m.take n) (at0 l 0) w3 (by
    have := take_last hml
    rw [hlast] at this
    rw [← this]; exact W3) (by simp; omega))
  have HF := Lib.hid (And.intro (heap_take (by omega) hm) (show l.Perm (at0 l 0 :: m.take n) by
    have := take_last hml
    rw [hlast] at this
    have h3 := List.perm_append_singleton (at0 l 0) (m.take n)
    rw [← this] at h3
    exact ((swp_perm (by omega) (by omega)).symm.trans pm.symm).trans h3))
  have HM3 := Lib.hid (HM2.out.trans m3)
  clear W3 hm pm km m3 HD hml hlast
  go_wp2_with fail
  refine HPP.out.mono ?_
  rintro e w4 ⟨rfl, sv4, W4, m4, e4⟩
  have HW4 := Lib.hid W4
  have HM4 := Lib.hid m4
  have HE4 := Lib.hid e4
  clear W4 m4 e4 HPP
  go_wp2_with fail
  go_ret
  exact ⟨rfl, sv4, _, HW4.out, HF.out.1, HF.out.2, (HM3.out.mono fun k hk => List.mem_cons_of_mem _ hk).trans (HM4.out.mono (by simp)), HE4.out⟩
end Go.Proofs.YtefaihockgebeaaGreat
