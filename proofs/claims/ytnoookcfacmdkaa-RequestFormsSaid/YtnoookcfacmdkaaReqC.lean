/- Layer 25: may a record be? -/
import Derived.Test.YtnoookcfacmdkaaReqB
namespace Go.Proofs.Ytnoookcfacmdkaa
open Go.RowKit Go.ChangeMaps
set_option linter.unusedSimpArgs false
set_option linter.unusedVariables false

/-- Texts no longer than any may be. -/
structure DoR.Fit (d : DoR) : Prop where
  nm : d.nm.size ≤ 140737488355328
  tx : d.tx.size ≤ 140737488355328
/-- A slice that reads as operations. -/
def DosAt (w : World) (v : Value) (ds : List DoR) : Prop := ∃ a cap, v = .slice a ds.length cap ∧ ∀ i d, ds[i]? = some d → ∃ b o, a = some ⟨b, o, none⟩ ∧ w.rangeAt b (o + i * 11) d.cells
theorem DosAt.kept {w w' : World} {v : Value} {ds : List DoR} {ks : List Nat} (h : DosAt w v ds) (hm : Mod ks w w') (hn : ds ≠ [] → ∀ k ∈ ks, Off v k) : DosAt w' v ds := by
  obtain ⟨a, cap, rfl, h⟩ := h
  refine ⟨a, cap, rfl, fun i d hd => ?_⟩
  obtain ⟨b, o, ha, hr⟩ := h i d hd
  refine ⟨b, o, ha, rangeAt_mod hr hm fun hb => ?_⟩
  have hne : ds ≠ [] := by intro e; rw [e] at hd; simp at hd
  exact hn hne b hb b o _ _ (by rw [ha]) rfl
theorem DosAt.kept0 {w w' : World} {v : Value} {ds : List DoR} (h : DosAt w v ds) (hm : Mod [] w w') : DosAt w' v ds := h.kept hm (by simp)
theorem may1_any (d : DoR) (hd : d.Fit) (w : World) : Calls Try.prog 48 #[.agg d.cells.toArray] w fun e w' => e = .returned (.bool (!d.may)) ∧ Mod [] w w' := by
  have HD := Lib.hid (fun w => do_any d w (by have := hd.nm; omega) (by have := hd.tx; omega))
  clear hd
  obtain ⟨k, f, nm, fk, a, b, vk, c, s, e, tx⟩ := d
  unfold DoR.cells at HD ⊢
  dsimp only at HD
  generalize DoR.may _ = B at HD ⊢
  go_enter Try.func48, Try.ntmps48
  go_wp2_with fail
  refine (HD.out _).mono ?_
  rintro x w1 ⟨rfl, h1⟩
  go_wp2_with fail
  go_ret
  exact ⟨rfl, ((Mod.refl _ _).alloc _).trans h1⟩
theorem cells_len (d : DoR) : d.cells.length = 11 := rfl
theorem load_do {w : World} {b o : Nat} {d : DoR} (h : w.rangeAt b o d.cells) : (Instr.loadAt 78 (.pointer (some ⟨b, o, none⟩))).run Try.prog w = .ok (.agg d.cells.toArray) w :=
  run_loadAt_mid (P := Try.prog) w b o 78 d.cells _ h Try.underlying78 rfl sizeDo
set_option maxHeartbeats 1000000 in
theorem index_any (a : Option Addr) (ds : List DoR) (cap : Nat) (w : World) (h : DosAt w (.slice a ds.length cap) ds) (hf : ∀ d ∈ ds, d.Fit) (hl : ds.length ≤ 9223372036854775807) :
    Calls Try.prog 62 #[.slice a ds.length cap, .func (.func 48) #[] #[]] w fun e w' => ∃ r, e = .returned (.int .i64 r) ∧ decide (0 ≤ r) = !ds.all DoR.may ∧ Mod [] w w' := by
  have H := Lib.hid h
  have HF := Lib.hid hf
  clear h hf
  go_enter Try.func62, Try.ntmps62
  go_wp2_with fail
  go_loopw [8] (fun s8 wr => ∃ i : Nat, i ≤ ds.length ∧ s8 = .int .i64 i ∧ Hid (Mod [] w wr) ∧ Hid (∀ d ∈ ds.take i, d.may = true)) (fun s8 _ => ds.length - (intOf s8).toNat)
  case atStart => exact ⟨0, by omega, rfl, Lib.hid (Mod.refl _ _), Lib.hid (by simp)⟩
  case round =>
    obtain ⟨i, hi, rfl, hm, hall⟩ := hrel
    by_cases hlt : i < ds.length
    · obtain ⟨b, o, rfl, hr⟩ : ∃ b o, a = some ⟨b, o, none⟩ ∧ wr.rangeAt b (o + i * 11) ds[i].cells := by
        obtain ⟨a', cap', e, hx⟩ := H.out
        simp only [Value.slice.injEq, true_and] at e
        obtain ⟨rfl, rfl⟩ := e
        obtain ⟨b, o, ha, hr⟩ := hx i ds[i] (by simp [hlt])
        exact ⟨b, o, ha, rangeAt_mod hr hm.out (by simp)⟩
      have hdf := HF.out ds[i] (by simp)
      have HT := Lib.hid (show ds.take (i + 1) = ds.take i ++ [ds[i]] from List.take_succ_eq_append_getElem hlt)
      have HM := Lib.hid (show ds[i] ∈ ds by simp)
      generalize ds[i] = d at hr hdf HT HM
      have HL := Lib.hid (load_do hr)
      have HC := Lib.hid (may1_any d hdf)
      have HQ : Hid (d.may = true ∨ d.may = false) := Lib.hid (by cases d.may <;> simp)
      clear hr hdf
      rcases HQ.out with hq | hq
      · rw [hq] at HC
        have HA := Lib.hid hq
        clear hq HQ
        go_wp2_with (refine xLoadAt (t := 78) rfl HL.out rfl rfl ?_)
        refine (HC.out _).mono ?_
        rintro x w1 ⟨rfl, h1⟩
        go_wp2_with fail
        go_roundw
        case rel => exact ⟨i + 1, by omega, by go_num, Lib.hid (hm.out.trans h1), Lib.hid (by
          rw [HT.out]
          intro y hy
          rcases List.mem_append.1 hy with hy | hy
          · exact hall.out y hy
          · rw [List.mem_singleton.1 hy]; exact HA.out)⟩
        case measure => simp [intOf]; omega
      · rw [hq] at HC
        have HA := Lib.hid hq
        clear hq HQ
        go_wp2_with (refine xLoadAt (t := 78) rfl HL.out rfl rfl ?_)
        refine (HC.out _).mono ?_
        rintro x w1 ⟨rfl, h1⟩
        go_wp2_with fail
        go_ret
        refine ⟨i, rfl, ?_, hm.out.trans h1⟩
        have : ds.all DoR.may = false := by
          rw [Bool.eq_false_iff]
          intro e
          rw [List.all_eq_true] at e
          have := e d HM.out
          rw [HA.out] at this
          cases this
        rw [this]
        simp
    · have e : i = ds.length := by omega
      have HA : Hid (ds.all DoR.may = true) := Lib.hid (by
        rw [List.all_eq_true]
        intro x hx
        refine hall.out x ?_
        rw [e, List.take_length]
        exact hx)
      have hge : ds.length ≤ i := by omega
      clear e
      go_wp2_with fail
      go_ret
      exact ⟨-1, rfl, by rw [HA.out]; rfl, hm.out⟩
theorem contains_any (a : Option Addr) (ds : List DoR) (cap : Nat) (w : World) (h : DosAt w (.slice a ds.length cap) ds) (hf : ∀ d ∈ ds, d.Fit) (hl : ds.length ≤ 9223372036854775807) :
    Calls Try.prog 47 #[.slice a ds.length cap, .func (.func 48) #[] #[]] w fun e w' => e = .returned (.bool (!ds.all DoR.may)) ∧ Mod [] w w' := by
  have H := Lib.hid (index_any a ds cap w h hf hl)
  clear h hf
  go_enter Try.func47, Try.ntmps47
  go_wp2_with fail
  refine H.out.mono ?_
  rintro x w1 ⟨r, rfl, h1, h2⟩
  have HB := Lib.hid h1
  clear h1
  go_wp2_with fail
  go_ret
  exact ⟨by rw [← HB.out]; rfl, h2⟩
def recV (r : RecR) (v : Value) : Value := .agg #[.int .u8 r.k, v, .int .i64 r.a, .int .i64 r.b]
set_option maxHeartbeats 1000000 in
theorem rMay_any (r : RecR) (v : Value) (w : World) (h : DosAt w v r.ds) (hf : ∀ d ∈ r.ds, d.Fit) (hl : r.ds.length ≤ 9223372036854775807) :
    Calls Try.prog 30 #[recV r v] w fun e w' => e = .returned (.bool r.may) ∧ Mod [] w w' := by
  obtain ⟨k, ds, a, b⟩ := r
  unfold recV RecR.may
  dsimp only at h hf hl ⊢
  have HA := Lib.hid (fun (x : Option Addr) (c : Nat) (w : World) (h : DosAt w (.slice x ds.length c) ds) => contains_any x ds c w h hf hl)
  have H := Lib.hid h
  have hlen : ds.length = 0 ∨ ¬ ds.length = 0 := Decidable.em _
  obtain ⟨x, c, rfl, _⟩ := h
  clear hf
  by_cases k1 : k = 1
  · subst k1
    go_enter Try.func30, Try.ntmps30
    go_wp2_with (go_at_call 47; refine (HA.out x c _ (H.out.kept0 ((Mod.refl _ _).alloc _))).mono ?_; rintro e w1 ⟨rfl, h1⟩)
    all_goals go_ret
    all_goals
      refine ⟨bool_eq ?_, by first | exact ((Mod.refl _ _).alloc _).trans h1 | exact (Mod.refl _ _).alloc _⟩
      simp [*]
    all_goals omega
  · have HP := Lib.hid (span_any a b)
    by_cases k2 : k = 2
    · subst k2
      clear k1 HA H
      rcases hlen with h0 | h0
      all_goals
        go_enter Try.func30, Try.ntmps30
        go_wp2_with (go_at_call 50; refine (HP.out _).mono ?_; rintro e w1 ⟨rfl, h1⟩)
        go_ret
        refine ⟨bool_eq ?_, by first | exact ((Mod.refl _ _).alloc _).trans h1 | exact (Mod.refl _ _).alloc _⟩
        simp [h0]
      all_goals skip
    · by_cases k3 : k = 3
      · subst k3
        clear k1 k2 HA H
        rcases hlen with h0 | h0
        all_goals
          go_enter Try.func30, Try.ntmps30
          go_wp2_with (go_at_call 50; refine (HP.out _).mono ?_; rintro e w1 ⟨rfl, h1⟩)
          go_ret
          refine ⟨bool_eq ?_, by first | exact ((Mod.refl _ _).alloc _).trans h1 | exact (Mod.refl _ _).alloc _⟩
          simp [h0]
        all_goals skip
      · clear HA H HP hlen
        go_enter Try.func30, Try.ntmps30
        go_wp2_with fail
        go_ret
        refine ⟨bool_eq ?_, (Mod.refl _ _).alloc _⟩
        simp [k1, k2, k3]
end Go.Proofs.Ytnoookcfacmdkaa
