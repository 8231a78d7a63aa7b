/- Layer 25: bytes that are a form are read; the same records. -/
import Derived.Test.YtnoookcfacmdkaaReqU
namespace Go.Proofs.Ytnoookcfacmdkaa
open Go.RowKit Go.ChangeMaps
set_option linter.unusedSimpArgs false
set_option linter.unusedVariables false
set_option maxRecDepth 20000

theorem decodeR_some {l : List Int} {r : RecR} (h : decodeR l = some r) : ∃ t, pRec l = some (r, t) ∧ r.may = true ∧ r.enc = l := by
  unfold decodeR at h
  split at h
  · cases h
  · rename_i x t e
    split at h
    · rename_i hx
      simp at h
      subst h
      exact ⟨t, e, hx⟩
    · cases h
theorem dec_some {w : World} {bb : Nat} {sv : Value} {l : List Int} (h : RdB w bb sv l) (hb : bb < w.heap.size) (hB : Byt l) (L9 : l.length ≤ 140737488355328) {r : RecR} (hd : decodeR l = some r) :
    Calls Try.prog 25 #[sv] w (DecOk w r) := by
  obtain ⟨t, hp, hm⟩ := decodeR_some hd
  clear hd
  unfold pRec at hp
  cases q0 : pNum 1 l with
  | none => rw [q0] at hp; cases hp
  | some x =>
    obtain ⟨k, r1⟩ := x
    obtain ⟨hk0, hk1, B1⟩ := pNum_byt hB q0
    rw [p1] at hk1
    rw [q0] at hp
    dsimp only at hp
    by_cases k1 : k = 1
    · subst k1
      rw [if_pos rfl] at hp
      cases q1 : pNum 1 r1 with
      | none => rw [q1] at hp; cases hp
      | some y =>
        obtain ⟨n, r2⟩ := y
        obtain ⟨hn0, hn1, B2⟩ := pNum_byt B1 q1
        rw [p1] at hn1
        obtain ⟨m, rfl⟩ := Int.eq_ofNat_of_zero_le hn0
        rw [q1] at hp
        dsimp only at hp
        rw [Int.toNat_natCast] at hp
        have l1 : r2.length ≤ l.length := by
          obtain ⟨_, _, e1⟩ := pNum_some q0
          obtain ⟨_, _, e2⟩ := pNum_some q1
          rw [e2, e1]
          simp only [List.length_drop]
          omega
        cases q2 : pDos m r2 with
        | none => rw [q2] at hp; cases hp
        | some z =>
          obtain ⟨ds, t0⟩ := z
          rw [q2] at hp
          simp at hp
          obtain ⟨rfl, _⟩ := hp
          exact dec_commit_yes h hb hB B1 (Lib.hid q0) (by omega) (Lib.hid B2) (Lib.hid l1) (Lib.hid L9) (Lib.hid q1) (Lib.hid q2) (Lib.hid hm)
    · rw [if_neg k1] at hp
      cases q1 : pSpan r1 with
      | none => rw [q1] at hp; cases hp
      | some y =>
        obtain ⟨xs, r2⟩ := y
        rw [q1] at hp
        simp at hp
        obtain ⟨rfl, _⟩ := hp
        exact dec_span_yes h hb hB hk0 hk1 k1 B1 (Lib.hid q0) (Lib.hid q1) (Lib.hid hm)
theorem neq_do (d d' : DoR) (w : World) : (binOp .neq 78 (.agg d.cells.toArray) (.agg d'.cells.toArray)).run Try.prog w = .ok (.bool (!decide (d = d'))) w := by
  have h := eq_do d d' w
  rw [run_eql_struct] at h
  rw [run_neq_struct]
  cases hq : (Op.equalIn 10000 78 (.agg d.cells.toArray) (.agg d'.cells.toArray)).run Try.prog w with
  | ok b w' =>
    rw [hq] at h
    simp only [Result.andThen_ok, Result.ok.injEq, Value.bool.injEq] at h ⊢
    exact ⟨by rw [h.1], h.2⟩
  | halt x w' => rw [hq] at h; simp [Result.andThen] at h
/-- The cells of one of some operations. -/
theorem DosAt.get {w : World} {a : Option Addr} {c : Nat} {ds : List DoR} (h : DosAt w (.slice a ds.length c) ds) {i : Nat} (hi : i < ds.length) : ∃ b o, a = some ⟨b, o, none⟩ ∧ w.rangeAt b (o + i * 11) ds[i].cells := by
  obtain ⟨a', cap', e, hx⟩ := h
  simp only [Value.slice.injEq, true_and] at e
  obtain ⟨rfl, rfl⟩ := e
  exact hx i ds[i] (by simp [hi])
set_option maxHeartbeats 2000000 in
theorem equalDo_any (w : World) (x y : Value) (ds es : List DoR) (hx : DosAt w x ds) (hy : DosAt w y es) (hl : ds.length ≤ 9223372036854775807) (hl2 : es.length ≤ 9223372036854775807) :
    Calls Try.prog 53 #[x, y] w fun e w' => e = .returned (.bool (decide (ds = es))) ∧ Mod [] w w' := by
  have HX := Lib.hid hx
  have HY := Lib.hid hy
  obtain ⟨a, c, rfl, _⟩ := hx
  obtain ⟨b, k, rfl, _⟩ := hy
  by_cases hlen : ds.length = es.length
  · have HL := Lib.hid hlen
    rw [← hlen]
    rw [← hlen] at HY hl2
    clear hlen hl2
    go_enter Try.func53, Try.ntmps53
    go_wp2_with fail
    go_loopw [13] (fun s13 wr => ∃ i : Nat, i ≤ ds.length ∧ s13 = .int .i64 i ∧ Hid (Mod [] w wr) ∧ Hid (ds.take i = es.take i)) (fun s13 _ => ds.length - (intOf s13).toNat)
    case atStart => exact ⟨0, by omega, rfl, Lib.hid (Mod.refl _ _), Lib.hid (by simp)⟩
    case round =>
      obtain ⟨i, hi, rfl, hm, hall⟩ := hrel
      by_cases hlt : i < ds.length
      · have hlt2 : i < es.length := by rw [← HL.out]; exact hlt
        obtain ⟨b1, o1, rfl, h1⟩ := HX.out.get hlt
        obtain ⟨b2, o2, rfl, h2⟩ : ∃ b2 o2, b = some ⟨b2, o2, none⟩ ∧ w.rangeAt b2 (o2 + i * 11) es[i].cells := by
          have hq := HY.out
          rw [HL.out] at hq
          exact hq.get hlt2
        have HT1 := Lib.hid (show ds.take (i + 1) = ds.take i ++ [ds[i]] from List.take_succ_eq_append_getElem hlt)
        have HT2 := Lib.hid (show es.take (i + 1) = es.take i ++ [es[i]] from List.take_succ_eq_append_getElem hlt2)
        have HNE : Hid (ds[i] ≠ es[i] → ds ≠ es) := Lib.hid (fun h e => h (by subst e; rfl))
        generalize ds[i] = d at h1 HT1 HNE
        generalize es[i] = e at h2 HT2 HNE
        have HL1 := Lib.hid (load_do (rangeAt_mod h1 ((hm.out).trans ((Mod.refl [] wr).drew)) (by simp)))
        have HL2 := Lib.hid (load_do (rangeAt_mod h2 ((hm.out).trans ((Mod.refl [] wr).drew)) (by simp)))
        have HQ := Lib.hid (neq_do d e)
        clear h1 h2 hlt2
        by_cases hde : d = e
        · rw [decide_eq_true hde] at HQ
          have HDE := Lib.hid hde
          clear hde
          go_wp2_with fail
          refine wp_plan [] [0, 1, 4, 5, 2, 6, 3, 7, 8] (by kernel_rfl) (by kernel_rfl) ?_
          simp only [wpSegs, opsOf, List.map_cons, List.map_nil, opN, List.getD_cons_zero, List.getD_cons_succ]
          go_wp2_with (first | ((with_reducible refine xLoadAt rfl HL1.out ?_ ?_ ?_); exact rfl; exact rfl) | ((with_reducible refine xLoadAt rfl HL2.out ?_ ?_ ?_); exact rfl; exact rfl) | ((with_reducible refine xEqAgg (t := 78) rfl (HQ.out _) guard_do ?_ ?_ ?_ ?_); exact rfl; exact rfl; exact rfl))
          refine ⟨by first | trivial | rfl, ?_⟩
          have HMq := Lib.hid (hm.out.trans ((Mod.refl [] wr).drew))
          go_wp2_with fail
          go_roundw
          case rel => exact ⟨i + 1, by omega, by go_num, HMq, Lib.hid (by rw [HT1.out, HT2.out, hall.out, HDE.out])⟩
          case measure => simp [intOf]; omega
        · rw [decide_eq_false hde] at HQ
          have HDE := Lib.hid (HNE.out hde)
          clear hde HNE
          go_wp2_with fail
          refine wp_plan [] [0, 1, 4, 5, 2, 6, 3, 7, 8] (by kernel_rfl) (by kernel_rfl) ?_
          simp only [wpSegs, opsOf, List.map_cons, List.map_nil, opN, List.getD_cons_zero, List.getD_cons_succ]
          go_wp2_with (first | ((with_reducible refine xLoadAt rfl HL1.out ?_ ?_ ?_); exact rfl; exact rfl) | ((with_reducible refine xLoadAt rfl HL2.out ?_ ?_ ?_); exact rfl; exact rfl) | ((with_reducible refine xEqAgg (t := 78) rfl (HQ.out _) guard_do ?_ ?_ ?_ ?_); exact rfl; exact rfl; exact rfl))
          refine ⟨by first | trivial | rfl, ?_⟩
          go_wp2_with fail
          go_ret
          exact ⟨by rw [decide_eq_false HDE.out]; rfl, hm.out.trans ((Mod.refl [] wr).drew)⟩
      · have hge : ds.length ≤ i := by omega
        have HE : Hid (ds = es) := Lib.hid (by
          have h1 := hall.out
          rw [List.take_of_length_le hge, List.take_of_length_le (by rw [← HL.out]; exact hge)] at h1
          exact h1)
        go_wp2_with fail
        go_ret
        exact ⟨by rw [decide_eq_true HE.out]; rfl, hm.out⟩
  · have hne : ds ≠ es := fun e => hlen (by rw [e])
    rw [decide_eq_false hne]
    clear hne
    go_enter Try.func53, Try.ntmps53
    go_wp2_with fail
    go_ret
    exact ⟨rfl, Mod.refl _ _⟩
end Go.Proofs.Ytnoookcfacmdkaa
