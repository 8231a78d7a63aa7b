/- Layer 25: texts, spans, values are read. -/
import Derived.Test.YtnoookcfacmdkaaReqI
namespace Go.Proofs.Ytnoookcfacmdkaa
open Go.RowKit Go.ChangeMaps
set_option linter.unusedSimpArgs false
set_option linter.unusedVariables false
set_option maxRecDepth 20000

theorem mod_size {l : List Nat} {w w' : World} (h : Mod l w w') : w.heap.size ≤ w'.heap.size := h.size
theorem Rd.lt {w : World} {rb bb : Nat} {l : List Int} (h : Rd w rb bb l) : rb < w.heap.size := by
  obtain ⟨sv, a, _⟩ := h
  exact lt_of_heap a
theorem Rd.ltb {w : World} {rb bb : Nat} {l : List Int} (h : Rd w rb bb l) : bb < w.heap.size := by
  have h1 := h.lt
  obtain ⟨sv, _, _, h2⟩ := h
  omega
theorem Mod.into {l ks : List Nat} {w0 w w' : World} (h0 : Mod l w0 w) (h : Mod ks w w') (hl : ∀ k ∈ ks, w0.heap.size ≤ k ∨ k ∈ l) : Mod l w0 w' :=
  ⟨h.os.trans h0.os, h.tape.trans h0.tape, h.output.trans h0.output, Nat.le_trans h0.size h.size, fun k hk hn => (h.block k (Nat.lt_of_lt_of_le hk h0.size) (fun hm => by
    rcases hl k hm with h1 | h1
    · omega
    · exact hn h1)).trans (h0.block k hk hn)⟩
theorem rtext_any {w : World} {rb bb : Nat} {l : List Int} (h : Rd w rb bb l) (hB : Byt l) (m : Nat) (hm8 : m ≤ 2) :
    Calls Try.prog 58 #[.pointer (some ⟨rb, 0, none⟩), .int .i64 m] w (Reads w rb bb (pText m l) fun s => .string s) := by
  have H := Lib.hid (rnum_any h hB m (by omega))
  have HB := Lib.hid hB
  clear h hB
  cases hp : pNum m l with
  | none =>
    rw [hp] at H
    have e : pText m l = none := by unfold pText; rw [hp]
    rw [e]
    clear e hp
    unfold Reads at H ⊢
    dsimp only at H ⊢
    go_enter Try.func58, Try.ntmps58
    go_wp2_with fail
    refine H.out.mono ?_
    rintro e w1 ⟨rfl, h1⟩
    go_wp2_with fail
    exact ⟨rfl, rfl, h1⟩
  | some x =>
    obtain ⟨n, r⟩ := x
    obtain ⟨hn0, hn1, hr⟩ := pNum_byt HB.out hp
    have hn2 : n < 65536 := by
      have : m = 0 ∨ m = 1 ∨ m = 2 := by omega
      rcases this with rfl | rfl | rfl <;> simp at hn1 <;> omega
    rw [hp] at H
    clear hn1
    have HTK : Hid (∀ (w1 : World), Rd w1 rb bb r → Calls Try.prog 57 #[.pointer (some ⟨rb, 0, none⟩), .int .i64 n] w1 fun e w' => match tk n r with
      | some (x, rest) => ∃ v, e = .returned v ∧ RdB w' bb v x ∧ Rd w' rb bb rest ∧ Mod [rb] w1 w'
      | none => e = .panicked wrongP ∧ Mod [rb] w1 w') := Lib.hid fun w1 h1 => take_any h1 n hn0
    have hpt : pText m l = match tk n r with | none => none | some (x, r) => some (strOfNums x, r) := by unfold pText; rw [hp]; rfl
    rw [hpt]
    clear hpt hp
    cases ht : tk n r with
    | none =>
      rw [ht] at HTK
      clear ht
      unfold Reads at H ⊢
      dsimp only at H HTK ⊢
      go_enter Try.func58, Try.ntmps58
      go_wp2_with fail
      refine H.out.mono ?_
      rintro e w1 ⟨rfl, h1, m1⟩
      go_wp2_with fail
      refine (HTK.out w1 h1).mono ?_
      rintro e w2 ⟨rfl, m2⟩
      go_wp2_with fail
      exact ⟨rfl, rfl, m1.trans m2⟩
    | some y =>
      obtain ⟨y, r2⟩ := y
      rw [ht] at HTK
      clear ht
      unfold Reads at H ⊢
      dsimp only at H HTK ⊢
      go_enter Try.func58, Try.ntmps58
      go_wp2_with fail
      refine H.out.mono ?_
      rintro e w1 ⟨rfl, h1, m1⟩
      go_wp2_with fail
      refine (HTK.out w1 h1).mono ?_
      rintro e w2 ⟨v, rfl, hv, h2, m2⟩
      have HCV := Lib.hid (conv_bytes hv.bytes)
      have H2 := Lib.hid h2
      have HM := Lib.hid (m1.trans m2)
      clear hv h1 m1 h2 m2
      go_wp2_with ((with_reducible refine xConvertAt rfl HCV.out ?_ ?_ ?_); exact rfl; exact rfl)
      go_ret
      exact ⟨rfl, H2.out, HM.out⟩
theorem rspan_any {w : World} {rb bb : Nat} {l : List Int} (h : Rd w rb bb l) (hB : Byt l) :
    Calls Try.prog 40 #[.pointer (some ⟨rb, 0, none⟩)] w (Reads w rb bb (pSpan l) fun x => .agg #[.int .i64 x.1, .int .i64 x.2]) := by
  have hm0 := (Mod.refl [] w).alloc (.cells #[.int .i64 0, .int .i64 0] 52)
  have H := Lib.hid (rnum_any (h.kept0 hm0) hB 3 (by omega))
  have HB := Lib.hid hB
  have HM0 := Lib.hid (hm0.nil (l := [rb]))
  have hlt := h.lt
  have hltb := h.ltb
  clear h hB hm0
  cases hp : pNum 3 l with
  | none =>
    rw [hp] at H
    have e : pSpan l = none := by unfold pSpan; rw [hp]
    rw [e]
    clear e hp
    unfold Reads at H ⊢
    dsimp only at H ⊢
    go_enter Try.func40, Try.ntmps40
    go_wp2_with fail
    refine H.out.mono ?_
    rintro e w1 ⟨rfl, h1⟩
    go_wp2_with fail
    exact ⟨rfl, rfl, HM0.out.trans h1⟩
  | some x =>
    obtain ⟨n, r⟩ := x
    obtain ⟨hn0, hn1, hr⟩ := pNum_byt HB.out hp
    rw [p3] at hn1
    rw [hp] at H
    have H2 : Hid (∀ (w1 : World), Rd w1 rb bb r → Calls Try.prog 38 #[.pointer (some ⟨rb, 0, none⟩), .int .i64 (3 : Nat)] w1 (Reads w1 rb bb (pNum 3 r) fun n => .int .u64 n)) := Lib.hid fun w1 h1 => rnum_any h1 hr 3 (by omega)
    have hps : pSpan l = match pNum 3 r with | none => none | some (b, r) => some ((n, b), r) := by unfold pSpan; rw [hp]; rfl
    rw [hps]
    clear hps hp
    cases hq : pNum 3 r with
    | none =>
      rw [hq] at H2
      clear hq
      unfold Reads at H H2 ⊢
      dsimp only at H H2 ⊢
      go_enter Try.func40, Try.ntmps40
      go_wp2_with fail
      refine H.out.mono ?_
      rintro e w1 ⟨rfl, h1, m1⟩
      go_wp2_with fail
      refine (H2.out w1 h1).mono ?_
      rintro e w2 ⟨rfl, m2⟩
      go_wp2_with fail
      exact ⟨rfl, rfl, HM0.out.trans (m1.trans m2)⟩
    | some y =>
      obtain ⟨b, r2⟩ := y
      obtain ⟨hb0, hb1, _⟩ := pNum_byt hr hq
      rw [p3] at hb1
      rw [hq] at H2
      clear hq
      unfold Reads at H H2 ⊢
      dsimp only at H H2 ⊢
      go_enter Try.func40, Try.ntmps40
      go_wp2_with fail
      refine H.out.mono ?_
      rintro e w1 ⟨rfl, h1, m1⟩
      go_wp2_with fail
      refine (H2.out w1 h1).mono ?_
      rintro e w2 ⟨rfl, h2, m2⟩
      have hc2 := m2.heap (m1.heap (heap_alloc_new w _) (by simp; omega)) (by simp; omega)
      obtain ⟨hst, hm3, hb3⟩ := store_blk (P := Try.prog) (w := w2) (b := w.heap.size) (c := #[.int .i64 n, .int .i64 b]) (c0 := #[.int .i64 0, .int .i64 0]) 52 hc2 rfl (by kernel_rfl) (by simp [Value.oneCell'])
      generalize hw3 : w2.setCells w.heap.size 0 (#[.int .i64 n, .int .i64 b] : Array Value).toList = w3 at hst hm3 hb3
      have h3 := h2.kept hm3 (by simp; omega) (by simp; omega)
      have q0 := cell_blk hb3 0
      have q1 := cell_blk hb3 1
      simp at q0 q1
      have HST := Lib.hid hst
      have HM := Lib.hid (((HM0.out.trans (m1.trans m2))).into hm3 (by simp))
      have H3 := Lib.hid h3
      clear hst hm3 hb3 hw3 hc2 h1 m1 h2 m2 h3
      go_wp2_with ((with_reducible refine xStoreAt rfl HST.out ?_ ?_ ?_ ?_); exact rfl; exact rfl; exact rfl)
      exact bodyPost_ret (v := .agg #[.int .i64 n, .int .i64 b]) (by simp [results, Try.results40, go_sem, q0, q1]) rfl ⟨rfl, H3.out, HM.out⟩
theorem store_ret {w : World} {b : Nat} {c c0 : Array Value} {t : TypeId} (T : TypeId) (h : w.heap[b]? = some (.cells c0 t (0, 0))) (hs : c0.size = c.size) (hi : (Try.prog.info? T).map (·.size) = some c.size) (h1 : c.all (·.oneCell') = true) :
    ∃ w', (Instr.storeAt T (.pointer (some ⟨b, 0, none⟩)) (.agg c)).run Try.prog w = .ok () w' ∧ Mod [b] w w' ∧ w'.heap[b]? = some (.cells c t (0, 0)) :=
  ⟨_, store_blk (P := Try.prog) T h hs hi h1⟩
theorem wrap_i64 (n : Int) (h0 : 0 ≤ n) (h1 : n < 18446744073709551616) : IntKind.i64.wrap n = i64of n := by
  simp [IntKind.wrap, IntKind.bits, IntKind.signed, i64of]
  split <;> omega
/-- Only the first part of a step is left to tell: it gives up. -/
theorem reads_none {α : Type} {w : World} {rb bb : Nat} {val : α → Value} {e : Ending} {w' : World} {r : Option (α × List Int)} (h : Reads w rb bb r val e w') (hr : r = none) : e = .panicked wrongP ∧ Mod [rb] w w' := by
  subst hr; exact h
theorem reads_some {α : Type} {w : World} {rb bb : Nat} {val : α → Value} {e : Ending} {w' : World} {r : Option (α × List Int)} {x : α} {rest : List Int} (h : Reads w rb bb r val e w') (hr : r = some (x, rest)) : e = .returned (val x) ∧ Rd w' rb bb rest ∧ Mod [rb] w w' := by
  subst hr; exact h
set_option maxHeartbeats 2000000 in
theorem rvalue_any {w : World} {rb bb : Nat} {l : List Int} (h : Rd w rb bb l) (hB : Byt l) :
    Calls Try.prog 59 #[.pointer (some ⟨rb, 0, none⟩)] w (Reads w rb bb (pVal l) fun x => vKey x.1 x.2.1 x.2.2 0) := by
  have hm0 := (Mod.refl [] w).alloc (.cells #[.int .u8 0, .int .i64 0, .int .i64 0, .int .i64 0] 76)
  have H := Lib.hid (rnum_any (h.kept0 hm0) hB 1 (by omega))
  have HB := Lib.hid hB
  have HM0 := Lib.hid (hm0.nil (l := [rb]))
  have hlt := h.lt
  have hltb := h.ltb
  clear h hB hm0
  cases hp : pNum 1 l with
  | none =>
    rw [hp] at H
    have e : pVal l = none := by unfold pVal; rw [hp]
    rw [e]
    clear e hp
    unfold Reads at H ⊢
    dsimp only at H ⊢
    go_enter Try.func59, Try.ntmps59
    go_wp2_with fail
    refine H.out.mono ?_
    rintro e w1 ⟨rfl, h1⟩
    go_wp2_with fail
    exact ⟨rfl, rfl, HM0.out.trans h1⟩
  | some x =>
    obtain ⟨n, r⟩ := x
    obtain ⟨hn0, hn1, hr⟩ := pNum_byt HB.out hp
    rw [Int.pow_succ] at hn1
    simp at hn1
    rw [hp] at H
    have H8 : Hid (∀ (w1 : World), Rd w1 rb bb r → Calls Try.prog 38 #[.pointer (some ⟨rb, 0, none⟩), .int .i64 (8 : Nat)] w1 (Reads w1 rb bb (pNum 8 r) fun n => .int .u64 n)) := Lib.hid fun w1 h1 => rnum_any h1 hr 8 (by omega)
    have hpv : pVal l = if n = 1 then (match pNum 8 r with | none => none | some (c, r) => match pNum 1 r with | none => none | some (s, r) => some ((n, i64of c, s), r)) else some ((n, 0, 0), r) := by unfold pVal; rw [hp]; rfl
    rw [hpv]
    clear hpv hp
    have HR := Lib.hid hr
    by_cases hn : n = 1
    · subst hn
      rw [if_pos rfl]
      clear hn0 hn1 hr
      cases hq : pNum 8 r with
      | none =>
        rw [hq] at H8
        clear hq
        unfold Reads at H H8 ⊢
        dsimp only at H H8 ⊢
        go_enter Try.func59, Try.ntmps59
        go_wp2_with fail
        refine H.out.mono ?_
        rintro e w1 ⟨rfl, h1, m1⟩
        have HA := Lib.hid (((Mod.refl [] w1).alloc (.cells #[.int .u8 1, .int .i64 0, .int .i64 0, .int .i64 0] 76)))
        go_wp2_with fail
        refine (H8.out _ (h1.kept0 HA.out)).mono ?_
        rintro e w2 ⟨rfl, m2⟩
        go_wp2_with fail
        exact ⟨rfl, rfl, (HM0.out.trans m1).trans ((HA.out.nil).trans m2)⟩
      | some y =>
        obtain ⟨c, r2⟩ := y
        obtain ⟨hc0, hc1, hr2⟩ := pNum_byt HR.out hq
        rw [p8] at hc1
        have HW := Lib.hid (wrap_i64 c hc0 hc1)
        have HR2 := Lib.hid hr2
        have H1 : Hid (∀ (w1 : World), Rd w1 rb bb r2 → Calls Try.prog 38 #[.pointer (some ⟨rb, 0, none⟩), .int .i64 (1 : Nat)] w1 (Reads w1 rb bb (pNum 1 r2) fun n => .int .u64 n)) := Lib.hid fun w1 h1 => rnum_any h1 hr2 1 (by omega)
        rw [hq] at H8
        clear hc1 hr2 hq
        dsimp only
        cases hz : pNum 1 r2 with
        | none =>
          rw [hz] at H1
          clear hz
          unfold Reads at H H8 H1 ⊢
          dsimp only at H H8 H1 ⊢
          go_enter Try.func59, Try.ntmps59
          go_wp2_with fail
          refine H.out.mono ?_
          rintro e w1 ⟨rfl, h1, m1⟩
          have HA := Lib.hid (((Mod.refl [] w1).alloc (.cells #[.int .u8 1, .int .i64 0, .int .i64 0, .int .i64 0] 76)))
          have hl1 := h1.lt
          have hlb1 := h1.ltb
          go_wp2_with fail
          refine (H8.out _ (h1.kept0 HA.out)).mono ?_
          rintro e w2 ⟨rfl, h2, m2⟩
          have hV := m2.heap (heap_alloc_new w1 _) (by simp; omega)
          have f1 := frozen_blk hV 1
          have q1 := cell_blk hV 1
          simp at q1
          have h2' : Rd (w2.setCell ⟨w1.heap.size, 1, none⟩ (.int .i64 (i64of c))) rb bb r2 := h2.kept ((Mod.refl [w1.heap.size] w2).setCell (by simp) _) (by simp; omega) (by simp; omega)
          have HM := Lib.hid (((HM0.out.trans m1).trans ((HA.out.nil).trans m2)).into ((Mod.refl [w1.heap.size] w2).setCell (p := ⟨w1.heap.size, 1, none⟩) (by simp) (.int .i64 (i64of c))) (by have := m1.size; simp at this; simp; left; omega))
          have H2 := Lib.hid h2'
          clear h1 m1 h2 m2 hV h2'
          have hw := HW.out
          go_wp2_with fail
          refine (H1.out _ H2.out).mono ?_
          rintro e w3 ⟨rfl, m3⟩
          go_wp2_with fail
          exact ⟨rfl, rfl, HM.out.trans m3⟩
        | some z =>
          obtain ⟨s, r3⟩ := z
          obtain ⟨hs0, hs1, _⟩ := pNum_byt HR2.out hz
          rw [Int.pow_succ] at hs1
          simp at hs1
          rw [hz] at H1
          clear hz
          unfold Reads at H H8 H1 ⊢
          dsimp only at H H8 H1 ⊢
          unfold vKey
          go_enter Try.func59, Try.ntmps59
          go_wp2_with fail
          refine H.out.mono ?_
          rintro e w1 ⟨rfl, h1, m1⟩
          have HA := Lib.hid (((Mod.refl [] w1).alloc (.cells #[.int .u8 1, .int .i64 0, .int .i64 0, .int .i64 0] 76)))
          have hl1 := h1.lt
          have hlb1 := h1.ltb
          have hsz1 := m1.size
          simp at hsz1
          have hR1 := m1.heap (heap_alloc_new w _) (by simp; omega)
          have hR1' := (heap_alloc_ne w1 (.cells #[.int .u8 1, .int .i64 0, .int .i64 0, .int .i64 0] 76) (lt_of_heap hR1)).trans hR1
          go_wp2_with fail
          refine (H8.out _ (h1.kept0 HA.out)).mono ?_
          rintro e w2 ⟨rfl, h2, m2⟩
          have hV := m2.heap (heap_alloc_new w1 _) (by simp; omega)
          have hR2' := m2.heap hR1' (by simp; omega)
          have f1 := frozen_blk hV 1
          have q1 := cell_blk hV 1
          simp at q1
          have hmS := (Mod.refl [w1.heap.size] w2).setCell (p := ⟨w1.heap.size, 1, none⟩) (by simp) (.int .i64 (i64of c))
          have h2' : Rd (w2.setCell ⟨w1.heap.size, 1, none⟩ (.int .i64 (i64of c))) rb bb r2 := h2.kept hmS (by simp; omega) (by simp; omega)
          have hV2 := heap_setCell_blk hV 1 (.int .i64 (i64of c))
          have hR3' := hmS.heap hR2' (by simp; omega)
          have HM := Lib.hid (((HM0.out.trans m1).trans ((HA.out.nil).trans m2)).into hmS (by simp; left; omega))
          have H2 := Lib.hid h2'
          have HV2 := Lib.hid hV2
          have HR3 := Lib.hid hR3'
          clear h1 m1 h2 m2 hV h2' hmS hV2 hR3' hR2' hR1' hR1
          have hw := HW.out
          go_wp2_with fail
          refine (H1.out _ H2.out).mono ?_
          rintro e w3 ⟨rfl, h3, m3⟩
          have hV3 := m3.heap HV2.out (by simp; omega)
          have hR4 := m3.heap HR3.out (by simp; omega)
          have f2 := frozen_blk hV3 2
          have q2 := cell_blk hV3 2
          simp at q2
          have hmT := (Mod.refl [w1.heap.size] w3).setCell (p := ⟨w1.heap.size, 2, none⟩) (by simp) (.int .i64 s)
          have hV4 := heap_setCell_blk hV3 2 (.int .i64 s)
          have hR5 := hmT.heap hR4 (by simp; omega)
          have hl4 := load_blk (P := Try.prog) 76 hV4 Try.underlying76 rfl (by kernel_rfl)
          obtain ⟨w5, hst, hm5, hb5⟩ := store_ret (c := #[.int .u8 1, .int .i64 (i64of c), .int .i64 s, .int .i64 0]) 76 hR5 rfl (by kernel_rfl) (by simp [Value.oneCell'])
          have h5 : Rd w5 rb bb r3 := (h3.kept hmT (by simp; omega) (by simp; omega)).kept hm5 (by simp; omega) (by simp; omega)
          have p0 := cell_blk hb5 0
          have p1 := cell_blk hb5 1
          have p2 := cell_blk hb5 2
          have p3 := cell_blk hb5 3
          simp at p0 p1 p2 p3
          have HST := Lib.hid hst
          have HL4 := Lib.hid hl4
          have H5 := Lib.hid h5
          have HM5 := Lib.hid (((HM.out.trans m3).into hmT (by simp; left; omega)).into hm5 (by simp))
          clear hst hl4 h5 hm5 hb5 hR5 hV4 hmT hR4 hV3 h3 m3
          go_wp2_with (first | ((with_reducible refine xLoadAt rfl HL4.out ?_ ?_ ?_); exact rfl; exact rfl) | ((with_reducible refine xStoreAt rfl HST.out ?_ ?_ ?_ ?_); exact rfl; exact rfl; exact rfl))
          exact bodyPost_ret (v := .agg #[.int .u8 1, .int .i64 (i64of c), .int .i64 s, .int .i64 0]) (by simp [results, Try.results59, go_sem, p0, p1, p2, p3]) rfl ⟨rfl, H5.out, HM5.out⟩
    · rw [if_neg hn]
      unfold Reads at H ⊢
      dsimp only at H ⊢
      unfold vKey
      go_enter Try.func59, Try.ntmps59
      go_wp2_with fail
      refine H.out.mono ?_
      rintro e w1 ⟨rfl, h1, m1⟩
      have hl1 := h1.lt
      have hlb1 := h1.ltb
      have hR1 := m1.heap (heap_alloc_new w _) (by simp; omega)
      have hR2 := (heap_alloc_ne w1 (.cells #[.int .u8 n, .int .i64 0, .int .i64 0, .int .i64 0] 76) (lt_of_heap hR1)).trans hR1
      obtain ⟨w5, hst, hm5, hb5⟩ := store_ret (c := #[.int .u8 n, .int .i64 0, .int .i64 0, .int .i64 0]) 76 hR2 rfl (by kernel_rfl) (by simp [Value.oneCell'])
      have hmA := (Mod.refl [] w1).alloc (.cells #[.int .u8 n, .int .i64 0, .int .i64 0, .int .i64 0] 76)
      have h5 : Rd w5 rb bb r := (h1.kept0 hmA).kept hm5 (by simp; omega) (by simp; omega)
      have p0 := cell_blk hb5 0
      have p1 := cell_blk hb5 1
      have p2 := cell_blk hb5 2
      have p3 := cell_blk hb5 3
      simp at p0 p1 p2 p3
      have HST := Lib.hid hst
      have H5 := Lib.hid h5
      have HM5 := Lib.hid (((HM0.out.trans m1).trans hmA.nil).into hm5 (by simp))
      clear hst h5 hm5 hb5 hR1 hR2 hmA h1 m1
      go_wp2_with ((with_reducible refine xStoreAt rfl HST.out ?_ ?_ ?_ ?_); exact rfl; exact rfl; exact rfl)
      exact bodyPost_ret (v := .agg #[.int .u8 n, .int .i64 0, .int .i64 0, .int .i64 0]) (by simp [results, Try.results59, go_sem, p0, p1, p2, p3]) rfl ⟨rfl, H5.out, HM5.out⟩
end Go.Proofs.Ytnoookcfacmdkaa
