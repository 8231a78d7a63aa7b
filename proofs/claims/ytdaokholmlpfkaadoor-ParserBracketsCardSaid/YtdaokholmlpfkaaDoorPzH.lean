/- Formulas: may a text name a field? -/
import Derived.Test.YtdaokholmlpfkaaDoorPzG
import Derived.Test.YtdaokholmlpfkaaDoorPzC
namespace Go.Proofs.YtdaokholmlpfkaaDoor
open Go.RowKit Go.ChangeMaps Go.Deep
set_option linter.unusedSimpArgs false
set_option linter.unusedVariables false
set_option maxRecDepth 20000

theorem set5 {w : World} {b : Nat} {t : TypeId} {a0 a1 a2 a3 a4 : Value} (h : w.heap[b]? = some (.cells #[a0, a1, a2, a3, a4] t (0, 0))) (x0 x1 x2 x3 x4 : Value) : ∃ W, ((((w.setCell ⟨b, 0, none⟩ x0).setCell ⟨b, 1, none⟩ x1).setCell ⟨b, 2, none⟩ x2).setCell ⟨b, 3, none⟩ x3).setCell ⟨b, 4, none⟩ x4 = W ∧ Mod [b] w W ∧ W.heap[b]? = some (.cells #[x0, x1, x2, x3, x4] t (0, 0)) :=
  ⟨_, rfl, (((((Mod.refl _ _).setCell (by simp) _).setCell (by simp) _).setCell (by simp) _).setCell (by simp) _).setCell (by simp) _, by
    have a0 := heap_setCell_blk h 0 x0
    have a1 := heap_setCell_blk a0 1 x1
    have a2 := heap_setCell_blk a1 2 x2
    have a3 := heap_setCell_blk a2 3 x3
    have a4 := heap_setCell_blk a3 4 x4
    simpa using a4⟩
theorem store_w {P : Program} {w : World} {b : Nat} {c c0 : Array Value} {t : TypeId} (T : TypeId) (h : w.heap[b]? = some (.cells c0 t (0, 0))) (hs : c0.size = c.size) (hi : (P.info? T).map (·.size) = some c.size) (h1 : c.all (·.oneCell') = true) :
    ∃ w', (Instr.storeAt T (.pointer (some ⟨b, 0, none⟩)) (.agg c)).run P w = .ok () w' ∧ Mod [b] w w' ∧ w'.heap[b]? = some (.cells c t (0, 0)) := by
  refine ⟨_, run_storeAt_mid w b 0 T c (there_blk h 0 c.size (by omega)) hi h1, (Mod.refl _ _).setCells (by simp) _ _, ?_⟩
  rw [heap_setCells_blk b c.toList 0 w h]
  have e := setRange_mid [] c.toList c0.toList [] (by simp [hs])
  simp only [List.nil_append, List.append_nil, List.length_nil] at e
  rw [e]
theorem load_w {P : Program} {w : World} {b : Nat} {c : Array Value} {t : TypeId} {d : TypeDesc} (T : TypeId) (h : w.heap[b]? = some (.cells c t (0, 0))) (hi : (P.info? T).map (·.size) = some c.size) (hu : P.underlying T = some d) (hd : d.isRow = true) :
    (Instr.loadAt T (.pointer (some ⟨b, 0, none⟩))).run P w = .ok (.agg c) w := by
  have := run_loadAt_mid (P := P) w b 0 T c.toList d (fun j u hu => by rw [Nat.zero_add, cell_blk h]; simpa using hu) hu hd (by simpa using hi)
  simpa using this
theorem store_n {w : World} {b : Nat} {t : TypeId} {a0 a1 a2 a3 a4 : Value} (h : w.heap[b]? = some (.cells #[a0, a1, a2, a3, a4] t (0, 0))) (x y : Int) : ∃ w', (Instr.storeAt 31 (.pointer (some ⟨b, 2, none⟩)) (.agg #[.int .i64 x, .int .i64 y])).run Tryd.prog w = .ok () w' ∧ Mod [b] w w' ∧ w'.heap[b]? = some (.cells #[a0, a1, .int .i64 x, .int .i64 y, a4] t (0, 0)) := by
  refine ⟨_, run_storeAt_mid w b 2 31 #[.int .i64 x, .int .i64 y] (there_blk h 2 2 (by simp)) (by rw [sizeDec]; rfl) (by simp [Value.oneCell']), (Mod.refl _ _).setCells (by simp) _ _, ?_⟩
  rw [heap_setCells_blk b _ 2 w h]
  rfl
def tokC (k : Int) (s : ByteArray) (c d a : Int) : Array Value := #[.int .u8 k, .string s, .int .i64 c, .int .i64 d, .int .i64 a]
/-- what word answers -/
def WordR (l : List UInt8) (e : Ending) : Prop := ∃ k s c d er, e = .returned (.tuple #[.agg (tokC k s c d 0), .int .i64 er]) ∧
  match wordZ l with
  | .error x => er = x ∧ er ≠ 0
  | .ok (k2, n, c2, d2) => er = 0 ∧ k = k2 ∧ s = txZ (l.take n) ∧ c = c2 ∧ d = d2
theorem sizeTok : (Tryd.prog.info? 47).map (·.size) = some 5 := by kernel_rfl
theorem word_small {b : UInt8} {r : List UInt8} (h : smallZ b = true) : wordZ (b :: r) = if 12 < namedZ (b :: r) then .error 4 else .ok (1, namedZ (b :: r), 0, 0) := by
  unfold wordZ
  dsimp only
  rw [if_pos h]
theorem word_digit_bad {b : UInt8} {r : List UInt8} {e : Int} (h : smallZ b = false) (h2 : digitZ b = true) (hd : decZ ((b :: r).take (numberZ (b :: r))) = .error e) : wordZ (b :: r) = .error e := by
  unfold wordZ
  dsimp only
  rw [if_neg (by simp [h]), if_pos h2, hd]
theorem word_digit_ok {b : UInt8} {r : List UInt8} {c d : Int} (h : smallZ b = false) (h2 : digitZ b = true) (hd : decZ ((b :: r).take (numberZ (b :: r))) = .ok (c, d)) : wordZ (b :: r) = .ok (2, numberZ (b :: r), c, d) := by
  unfold wordZ
  dsimp only
  rw [if_neg (by simp [h]), if_pos h2, hd]
theorem decR_cases (n : Nat) (whole rest : List UInt8) : (decR n whole rest = (3, 0, 0) ∧ decW n whole rest = .error 4) ∨ (∃ c d, decR n whole rest = (0, c, d) ∧ decW n whole rest = .ok (c, d)) ∨ (∃ e, (e = 4 ∨ e = 11) ∧ decR n whole rest = (e, 0, 0) ∧ decW n whole rest = .error e) := by
  by_cases h : 21 < n
  · exact .inl ⟨decR_long h, by unfold decW; rw [if_pos h]⟩
  · right
    rw [decR_short h]
    unfold decW
    rw [if_neg h]
    by_cases h1 : 1 < whole.length ∧ whole.head? = some 48
    · right; exact ⟨4, .inl rfl, by rw [if_pos h1], by rw [if_pos h1]⟩
    · rw [if_neg h1, if_neg h1]
      by_cases h2 : rest ≠ [] ∧ (9 < rest.length ∨ rest.getLast? = some 48)
      · right; exact ⟨4, .inl rfl, by rw [if_pos h2], by rw [if_pos h2]⟩
      · rw [if_neg h2, if_neg h2]
        by_cases h3 : 9223372036854775807 < digsZ (whole ++ rest)
        · right; exact ⟨11, .inr rfl, by rw [if_pos h3], by rw [if_pos h3]⟩
        · left; exact ⟨_, _, by rw [if_neg h3], by rw [if_neg h3]⟩
theorem word_sign {b : UInt8} {r : List UInt8} (h : smallZ b = false) (h2 : digitZ b = false) : wordZ (b :: r) = if 0 < signZ (b :: r) then .ok (3, signZ (b :: r), 0, 0) else .error 4 := by
  unfold wordZ
  dsimp only
  rw [if_neg (by simp [h]), if_neg (by simp [h2])]
theorem wordR_bad {l : List UInt8} {x : Int} (h : wordZ l = .error x) (hx : x ≠ 0) (k : Int) (s : ByteArray) (c d : Int) : WordR l (.returned (.tuple #[.agg (tokC k s c d 0), .int .i64 x])) := by
  refine ⟨k, s, c, d, x, rfl, ?_⟩
  rw [h]
  exact ⟨rfl, hx⟩
theorem wordR_ok {l : List UInt8} {k c d : Int} {n : Nat} (h : wordZ l = .ok (k, n, c, d)) : WordR l (.returned (.tuple #[.agg (tokC k (txZ (l.take n)) c d 0), .int .i64 0])) := by
  refine ⟨k, _, c, d, 0, rfl, ?_⟩
  rw [h]
  exact ⟨rfl, rfl, rfl, rfl, rfl⟩
theorem smallZ_digit {b : UInt8} (h : smallZ b = true) : digitZ b = false := by
  have h1 := small_nat.1 h
  rw [Bool.eq_false_iff]
  intro h2
  have := digit_nat.1 h2
  omega
set_option maxHeartbeats 4000000 in
theorem lxWord_at {w : World} (hg : Gl w) (b : UInt8) (r : List UInt8) (hl : (b :: r).length ≤ 1000000) : Calls Tryd.prog 11 #[.string (txZ (b :: r))] w fun e w' => WordR (b :: r) e ∧ Mod [] w w' := by
  have HSM := Lib.hid (word_small (b := b) (r := r))
  have HDB := Lib.hid (fun e => word_digit_bad (b := b) (r := r) (e := e))
  have HDO := Lib.hid (fun c d => word_digit_ok (b := b) (r := r) (c := c) (d := d))
  have HSI := Lib.hid (word_sign (b := b) (r := r))
  have HNW := Lib.hid (num_word (b := b) (l := r))
  have hix := tx_index (l := b :: r) (i := 0) (by simp)
  rw [show (((0 : Nat) : Int)) = 0 from rfl, List.getElem_cons_zero] at hix
  have CS := Lib.hid (fun W => lxSign_at b r W)
  have CNM := Lib.hid (fun W => lxNamed_at (b :: r) hl W)
  have CNU := Lib.hid (fun W => lxNumber_at (b :: r) hl W)
  have CL := Lib.hid (fun W => lxLetter_at b W)
  have CD := Lib.hid (fun W => lxDigit_at b W)
  have HTO := Lib.hid (fun i h => tx_to (b :: r) i h)
  have hln := whileZ_le (fun b => smallZ b || digitZ b) (b :: r)
  have hlu := numberZ_le (b :: r)
  have hls := signZ_le (b :: r)
  have hsz := tx_size (b :: r)
  have HWB := Lib.hid (fun x h hx => wordR_bad (l := b :: r) (x := x) h hx)
  have HWO := Lib.hid (fun k n c d h => wordR_ok (l := b :: r) (k := k) (n := n) (c := c) (d := d) h)
  rw [show whileZ (fun b => smallZ b || digitZ b) (b :: r) = namedZ (b :: r) from rfl] at hln
  generalize namedZ (b :: r) = nn at *
  generalize hnu : numberZ (b :: r) = nu at *
  generalize signZ (b :: r) = sg at *
  generalize (b :: r) = l at *
  obtain ⟨A1, hA1, n1, z1, m1⟩ := alloc_named2 w (.cells #[.int .u8 0, .string ⟨#[]⟩, .int .i64 0, .int .i64 0, .int .i64 0] 47)
  have HA := Lib.hid (show Gl A1 ∧ A1.heap[w.heap.size]? = some (.cells #[.int .u8 0, .string ⟨#[]⟩, .int .i64 0, .int .i64 0, .int .i64 0] 47 (0, 0)) ∧ Mod [] w A1 from ⟨hg.kept0 m1, n1, m1⟩)
  have HG9 := Lib.hid hg.big
  clear n1 m1 hg
  go_enter Tryd.func11, Tryd.ntmps11
  go_wp2_with fail
  refine (CS.out _).mono ?_
  rintro e w2 ⟨rfl, rfl⟩
  go_wp2_with fail
  refine (CL.out _).mono ?_
  rintro e w2 ⟨rfl, rfl⟩
  cases hsm : smallZ b with
  | true =>
    have HW := Lib.hid (HSM.out hsm)
    clear hsm
    go_wp2_with fail
    refine (CNM.out _).mono ?_
    rintro e w3 ⟨rfl, m3⟩
    have HA3 := Lib.hid (show Gl w3 ∧ w3.heap[w.heap.size]? = some (.cells #[.int .u8 0, .string ⟨#[]⟩, .int .i64 0, .int .i64 0, .int .i64 0] 47 (0, 0)) ∧ Mod [] w w3 from ⟨HA.out.1.kept0 m3, m3.heap HA.out.2.1 (by simp), HA.out.2.2.trans m3⟩)
    clear m3
    have htx := HTO.out nn hln
    have hxs : ((txZ l).extract 0 nn).size = nn := by rw [htx, tx_size, List.length_take]; omega
    obtain ⟨W2, e2, m2, b2⟩ := store_w (P := Tryd.prog) 47 HA3.out.2.1 (c := tokC 1 ((txZ l).extract 0 nn) 0 0 0) rfl (by rw [sizeTok]; rfl) (by simp [tokC, Value.oneCell'])
    have q1 := cell_blk b2 1
    have hlo := load_w (P := Tryd.prog) 47 b2 (by rw [sizeTok]; rfl) Tryd.underlying47 rfl
    obtain ⟨W3, e3, m4, b3⟩ := store_w (P := Tryd.prog) 47 b2 (c := tokC 1 ((txZ l).extract 0 nn) 0 0 0) rfl (by rw [sizeTok]; rfl) (by simp [tokC, Value.oneCell'])
    simp only [tokC, List.getElem?_toArray, List.getElem?_cons_succ, List.getElem?_cons_zero] at q1
    have HE2 := Lib.hid e2
    have HLO := Lib.hid hlo
    have HE3 := Lib.hid e3
    have HB3 := Lib.hid b3
    have HM3 := Lib.hid (mod_on (mod_on HA3.out.2.2 m2 (by simp)) m4 (by simp))
    have HTX := Lib.hid htx
    clear e2 m2 b2 e3 m4 b3 hlo htx
    unfold tokC at HE2 HE3 HLO
    by_cases h12 : 12 < nn
    · have d12 : decide ((12 : Int) < (nn : Int)) = true := decide_eq_true (by omega)
      have HV := Lib.hid (show wordZ l = .error 4 by rw [HW.out, if_pos h12])
      clear h12
      go_wp2_with (first | ((with_reducible refine xStoreAt rfl HE2.out ?_ ?_ ?_ ?_); exact rfl; exact rfl; exact rfl) | ((with_reducible refine xLoadAt rfl HLO.out ?_ ?_ ?_); exact rfl; exact rfl) | ((with_reducible refine xStoreAt rfl HE3.out ?_ ?_ ?_ ?_); exact rfl; exact rfl; exact rfl))
      refine bodyPost_ret (results_row_tmpP (P := Tryd.prog) (t := 47) (cs := tokC 1 ((txZ l).extract 0 nn) 0 0 0) (fr := (0, 0)) (g := w.heap.size) (h := rfl) (hp := rfl) (hg := HB3.out) (hu := Tryd.underlying47) (hd := rfl) (hi := by rw [sizeTok]; rfl) ..) rfl ⟨HWB.out 4 HV.out (by omega) 1 _ 0 0, HM3.out⟩
    · have d12 : decide ((12 : Int) < (nn : Int)) = false := decide_eq_false (by omega)
      have HV := Lib.hid (show wordZ l = .ok (1, nn, 0, 0) by rw [HW.out, if_neg h12])
      have HQ := Lib.hid (HWO.out _ _ _ _ HV.out)
      rw [← HTX.out] at HQ
      clear h12
      go_wp2_with (first | ((with_reducible refine xStoreAt rfl HE2.out ?_ ?_ ?_ ?_); exact rfl; exact rfl; exact rfl) | ((with_reducible refine xLoadAt rfl HLO.out ?_ ?_ ?_); exact rfl; exact rfl) | ((with_reducible refine xStoreAt rfl HE3.out ?_ ?_ ?_ ?_); exact rfl; exact rfl; exact rfl))
      refine bodyPost_ret (results_row_tmpP (P := Tryd.prog) (t := 47) (cs := tokC 1 ((txZ l).extract 0 nn) 0 0 0) (fr := (0, 0)) (g := w.heap.size) (h := rfl) (hp := rfl) (hg := HB3.out) (hu := Tryd.underlying47) (hd := rfl) (hi := by rw [sizeTok]; rfl) ..) rfl ⟨?_, HM3.out⟩
      exact HQ.out
  | false =>
    go_wp2_with fail
    refine (CD.out _).mono ?_
    rintro e w2 ⟨rfl, rfl⟩
    cases hdi : digitZ b with
    | false =>
      have HW := Lib.hid (HSI.out hsm hdi)
      clear hsm hdi
      by_cases hs0 : 0 < sg
      · have ds : decide (0 < sg) = true := decide_eq_true hs0
        have HV := Lib.hid (show wordZ l = .ok (3, sg, 0, 0) by rw [HW.out, if_pos hs0])
        have htx := HTO.out sg hls
        obtain ⟨W2, e2, m2, b2⟩ := store_w (P := Tryd.prog) 47 HA.out.2.1 (c := tokC 3 ((txZ l).extract 0 sg) 0 0 0) rfl (by rw [sizeTok]; rfl) (by simp [tokC, Value.oneCell'])
        have hlo := load_w (P := Tryd.prog) 47 b2 (by rw [sizeTok]; rfl) Tryd.underlying47 rfl
        obtain ⟨W3, e3, m4, b3⟩ := store_w (P := Tryd.prog) 47 b2 (c := tokC 3 ((txZ l).extract 0 sg) 0 0 0) rfl (by rw [sizeTok]; rfl) (by simp [tokC, Value.oneCell'])
        have HE2 := Lib.hid e2
        have HLO := Lib.hid hlo
        have HE3 := Lib.hid e3
        have HB3 := Lib.hid b3
        have HM3 := Lib.hid (mod_on (mod_on HA.out.2.2 m2 (by simp)) m4 (by simp))
        have HQ := Lib.hid (HWO.out _ _ _ _ HV.out)
        rw [← htx] at HQ
        clear e2 m2 b2 e3 m4 b3 hlo htx hs0
        unfold tokC at HE2 HE3 HLO
        go_wp2_with (first | ((with_reducible refine xStoreAt rfl HE2.out ?_ ?_ ?_ ?_); exact rfl; exact rfl; exact rfl) | ((with_reducible refine xLoadAt rfl HLO.out ?_ ?_ ?_); exact rfl; exact rfl) | ((with_reducible refine xStoreAt rfl HE3.out ?_ ?_ ?_ ?_); exact rfl; exact rfl; exact rfl))
        refine bodyPost_ret (results_row_tmpP (P := Tryd.prog) (t := 47) (cs := tokC 3 ((txZ l).extract 0 sg) 0 0 0) (fr := (0, 0)) (g := w.heap.size) (h := rfl) (hp := rfl) (hg := HB3.out) (hu := Tryd.underlying47) (hd := rfl) (hi := by rw [sizeTok]; rfl) ..) rfl ⟨?_, HM3.out⟩
        exact HQ.out
      · have ds : decide (0 < sg) = false := decide_eq_false hs0
        have HV := Lib.hid (show wordZ l = .error 4 by rw [HW.out, if_neg hs0])
        have hlo := load_w (P := Tryd.prog) 47 HA.out.2.1 (by rw [sizeTok]; rfl) Tryd.underlying47 rfl
        obtain ⟨W3, e3, m4, b3⟩ := store_w (P := Tryd.prog) 47 HA.out.2.1 (c := tokC 0 ⟨#[]⟩ 0 0 0) rfl (by rw [sizeTok]; rfl) (by simp [tokC, Value.oneCell'])
        have HLO := Lib.hid hlo
        have HE3 := Lib.hid e3
        have HB3 := Lib.hid b3
        have HM3 := Lib.hid (mod_on HA.out.2.2 m4 (by simp))
        have HQ := Lib.hid (HWB.out 4 HV.out (by omega) 0 ⟨#[]⟩ 0 0)
        clear e3 m4 b3 hlo hs0
        unfold tokC at HE3
        go_wp2_with (first | ((with_reducible refine xLoadAt rfl HLO.out ?_ ?_ ?_); exact rfl; exact rfl) | ((with_reducible refine xStoreAt rfl HE3.out ?_ ?_ ?_ ?_); exact rfl; exact rfl; exact rfl))
        refine bodyPost_ret (results_row_tmpP (P := Tryd.prog) (t := 47) (cs := tokC 0 ⟨#[]⟩ 0 0 0) (fr := (0, 0)) (g := w.heap.size) (h := rfl) (hp := rfl) (hg := HB3.out) (hu := Tryd.underlying47) (hd := rfl) (hi := by rw [sizeTok]; rfl) ..) rfl ⟨?_, HM3.out⟩
        exact HQ.out
    | true =>
      obtain ⟨whole, rest, hNW⟩ := HNW.out hdi
      have hcases := decR_cases (l.take nu).length whole rest
      have CP := Lib.hid (fun (W : World) (hW : Gl W) => dxParse_at hW hNW (by rw [List.length_take]; omega))
      have hdec := hNW.dec
      have HDB := Lib.hid (fun e h => HDB.out e hsm hdi (hdec.trans h))
      have HDO := Lib.hid (fun c d h => HDO.out c d hsm hdi (hdec.trans h))
      have htx := HTO.out nu hlu
      clear hsm hdi hNW hdec
      generalize decR (l.take nu).length whole rest = R at CP hcases
      generalize decW (l.take nu).length whole rest = D at hcases HDB HDO
      rw [← htx] at CP
      have HTX := Lib.hid htx
      clear htx
      obtain ⟨er, rc, rd⟩ := R
      dsimp only at CP
      go_wp2_with fail
      refine (CNU.out _).mono ?_
      rintro e w3 ⟨rfl, m3⟩
      have HA3 := Lib.hid (show Gl w3 ∧ w3.heap[w.heap.size]? = some (.cells #[.int .u8 0, .string ⟨#[]⟩, .int .i64 0, .int .i64 0, .int .i64 0] 47 (0, 0)) ∧ Mod [] w w3 from ⟨HA.out.1.kept0 m3, m3.heap HA.out.2.1 (by simp), HA.out.2.2.trans m3⟩)
      obtain ⟨W2, e2, m2, b2⟩ := store_w (P := Tryd.prog) 47 HA3.out.2.1 (c := tokC 2 ((txZ l).extract 0 nu) 0 0 0) rfl (by rw [sizeTok]; rfl) (by simp [tokC, Value.oneCell'])
      have q1 := cell_blk b2 1
      simp only [tokC, List.getElem?_toArray, List.getElem?_cons_succ, List.getElem?_cons_zero] at q1
      have HE2 := Lib.hid e2
      have h9 : 9 ≤ w.heap.size := HG9.out
      have HA4 := Lib.hid (show Gl W2 ∧ W2.heap[w.heap.size]? = some (.cells (tokC 2 ((txZ l).extract 0 nu) 0 0 0) 47 (0, 0)) ∧ Mod [] w W2 from ⟨HA3.out.1.kept m2 (by simp; omega), b2, mod_on HA3.out.2.2 m2 (by simp)⟩)
      clear m3 e2 m2 b2
      unfold tokC at HE2
      go_wp2_with ((with_reducible refine xStoreAt rfl HE2.out ?_ ?_ ?_ ?_); exact rfl; exact rfl; exact rfl)
      refine (CP.out _ HA4.out.1).mono ?_
      rintro e w5 ⟨rfl, m5⟩
      have b5 : w5.heap[w.heap.size]? = some (.cells #[.int .u8 2, .string ((txZ l).extract 0 nu), .int .i64 0, .int .i64 0, .int .i64 0] 47 (0, 0)) := m5.heap HA4.out.2.1 (by simp)
      obtain ⟨W6, e6, m6, b6⟩ := store_n b5 rc rd
      have hlo := load_w (P := Tryd.prog) 47 b6 (by rw [sizeTok]; rfl) Tryd.underlying47 rfl
      obtain ⟨W7, e7, m7, b7⟩ := store_w (P := Tryd.prog) 47 b6 (c := tokC 2 ((txZ l).extract 0 nu) rc rd 0) rfl (by rw [sizeTok]; rfl) (by simp [tokC, Value.oneCell'])
      have HE6 := Lib.hid e6
      have HLO := Lib.hid hlo
      have HE7 := Lib.hid e7
      have HB7 := Lib.hid b7
      have HM7 := Lib.hid (mod_on (mod_on (HA4.out.2.2.trans m5) m6 (by simp)) m7 (by simp))
      clear m5 b5 e6 m6 b6 hlo e7 m7 b7 q1 CP
      unfold tokC at HE7
      rcases hcases with ⟨hR, hD⟩ | ⟨c, d, hR, hD⟩ | ⟨x, hx, hR, hD⟩
      · injection hR with h1 h2
        subst h1
        have HQ := Lib.hid (HWB.out 4 (HDB.out 4 hD) (by omega) 2 ((txZ l).extract 0 nu) rc rd)
        clear hD h2
        go_wp2_with (first | ((with_reducible refine xStoreAt rfl HE6.out ?_ ?_ ?_ ?_); exact rfl; exact rfl; exact rfl) | ((with_reducible refine xLoadAt rfl HLO.out ?_ ?_ ?_); exact rfl; exact rfl) | ((with_reducible refine xStoreAt rfl HE7.out ?_ ?_ ?_ ?_); exact rfl; exact rfl; exact rfl))
        refine bodyPost_ret (results_row_tmpP (P := Tryd.prog) (t := 47) (cs := tokC 2 ((txZ l).extract 0 nu) rc rd 0) (fr := (0, 0)) (g := w.heap.size) (h := rfl) (hp := rfl) (hg := HB7.out) (hu := Tryd.underlying47) (hd := rfl) (hi := by rw [sizeTok]; rfl) ..) rfl ⟨?_, HM7.out⟩
        exact HQ.out
      · injection hR with h1 h2
        injection h2 with h2 h3
        subst h1 h2 h3
        have HQ := Lib.hid (HWO.out _ _ _ _ (HDO.out _ _ hD))
        rw [← HTX.out] at HQ
        clear hD
        go_wp2_with (first | ((with_reducible refine xStoreAt rfl HE6.out ?_ ?_ ?_ ?_); exact rfl; exact rfl; exact rfl) | ((with_reducible refine xLoadAt rfl HLO.out ?_ ?_ ?_); exact rfl; exact rfl) | ((with_reducible refine xStoreAt rfl HE7.out ?_ ?_ ?_ ?_); exact rfl; exact rfl; exact rfl))
        refine bodyPost_ret (results_row_tmpP (P := Tryd.prog) (t := 47) (cs := tokC 2 ((txZ l).extract 0 nu) rc rd 0) (fr := (0, 0)) (g := w.heap.size) (h := rfl) (hp := rfl) (hg := HB7.out) (hu := Tryd.underlying47) (hd := rfl) (hi := by rw [sizeTok]; rfl) ..) rfl ⟨?_, HM7.out⟩
        exact HQ.out
      · injection hR with h1 h2
        subst h1
        have dx : (er == 3) = false := by rw [beq_eq_false_iff_ne]; omega
        have HQ := Lib.hid (HWB.out er (HDB.out er hD) (by omega) 2 ((txZ l).extract 0 nu) rc rd)
        clear hD h2 hx
        go_wp2_with (first | ((with_reducible refine xStoreAt rfl HE6.out ?_ ?_ ?_ ?_); exact rfl; exact rfl; exact rfl) | ((with_reducible refine xLoadAt rfl HLO.out ?_ ?_ ?_); exact rfl; exact rfl) | ((with_reducible refine xStoreAt rfl HE7.out ?_ ?_ ?_ ?_); exact rfl; exact rfl; exact rfl))
        refine bodyPost_ret (results_row_tmpP (P := Tryd.prog) (t := 47) (cs := tokC 2 ((txZ l).extract 0 nu) rc rd 0) (fr := (0, 0)) (g := w.heap.size) (h := rfl) (hp := rfl) (hg := HB7.out) (hu := Tryd.underlying47) (hd := rfl) (hi := by rw [sizeTok]; rfl) ..) rfl ⟨?_, HM7.out⟩
        exact HQ.out
end Go.Proofs.YtdaokholmlpfkaaDoor
namespace Go.Proofs.YtdaokholmlpfkaaDoor
open Go.RowKit Go.ChangeMaps Go.Deep
set_option linter.unusedSimpArgs false
set_option linter.unusedVariables false
set_option maxRecDepth 20000

def encTk (t : Tk) : List Value := [.int .u8 t.kind, .string t.text, .int .i64 t.c, .int .i64 t.s, .int .i64 t.at_]
theorem encTk_len (x : Tk) : (encTk x).length = 5 := rfl
theorem encTk_one (x : Tk) : ∀ v ∈ encTk x, v.oneCell' = true := by
  intro v hv
  simp only [encTk, List.mem_cons, List.not_mem_nil, or_false] at hv
  rcases hv with rfl | rfl | rfl | rfl | rfl <;> rfl
theorem elemTk : ElemOk Tryd.prog 36 47 5 48 := .mk' Tryd.underlying36 (by omega) (by kernel_rfl)
/-- what Lex answers -/
def LexR (w : World) (l : List UInt8) (e : Ending) (w' : World) : Prop :=
  match lexZ l with
  | .error x => e = .returned (.tuple #[.slice none 0 0, .int .i64 x.1, .int .i64 x.2]) ∧ x.2 ≠ 0
  | .ok ts => ∃ v, e = .returned (.tuple #[v, .int .i64 0, .int .i64 0]) ∧ OwnR encTk 5 47 w' w.heap.size v ts
theorem lexR_bad {w w' : World} {l : List UInt8} {p x : Int} (h : lexZ l = .error (p, x)) (hx : x ≠ 0) : LexR w l (.returned (.tuple #[.slice none 0 0, .int .i64 p, .int .i64 x])) w' := by
  unfold LexR
  rw [h]
  exact ⟨rfl, hx⟩
theorem lexR_ok {w w' : World} {l : List UInt8} {v : Value} {ts : List Tk} (h : lexZ l = .ok ts) (hv : OwnR encTk 5 47 w' w.heap.size v ts) : LexR w l (.returned (.tuple #[v, .int .i64 0, .int .i64 0])) w' := by
  unfold LexR
  rw [h]
  exact ⟨v, rfl, hv⟩
theorem words_nil {f p : Nat} {out : List Tk} : wordsZ f p [] out = .ok out := by cases f <;> rfl
theorem words_blank {f p : Nat} {r : List UInt8} {out : List Tk} : wordsZ (f + 1) p (32 :: r) out = wordsZ f (p + 1) r out := by
  conv => lhs; unfold wordsZ
  simp
theorem words_bad {f p : Nat} {b : UInt8} {r : List UInt8} {out : List Tk} {x : Int} (hb : b ≠ 32) (h : wordZ (b :: r) = .error x) : wordsZ (f + 1) p (b :: r) out = .error ((p : Int), x) := by
  conv => lhs; unfold wordsZ
  simp only [if_neg hb, h]
theorem words_ok {f p : Nat} {b : UInt8} {r : List UInt8} {out : List Tk} {k c d : Int} {n : Nat} (hb : b ≠ 32) (h : wordZ (b :: r) = .ok (k, n, c, d)) : wordsZ (f + 1) p (b :: r) out = wordsZ f (p + n) ((b :: r).drop n) (out ++ [⟨k, txZ ((b :: r).take n), c, d, p⟩]) := by
  conv => lhs; unfold wordsZ
  simp only [if_neg hb, h]
theorem lex_long {l : List UInt8} (h : 400 < l.length) : lexZ l = .error (0, 3) := if_pos h
theorem lex_short {l : List UInt8} (h : ¬ 400 < l.length) : lexZ l = wordsZ l.length 0 l [] := if_neg h
set_option maxHeartbeats 8000000 in
theorem lxLex_at {w : World} (hg : Gl w) (l : List UInt8) (hl : l.length ≤ 1000000) : Calls Tryd.prog 7 #[.string (txZ l)] w fun e w' => LexR w l e w' ∧ Mod [] w w' := by
  have hsz := tx_size l
  by_cases h4 : 400 < l.length
  · have d0 : decide ((400 : Int) < (l.length : Int)) = true := decide_eq_true (by omega)
    have HB := Lib.hid (fun w' => lexR_bad (w := w) (w' := w') (lex_long h4) (by omega))
    clear h4
    go_enter Tryd.func7, Tryd.ntmps7
    go_wp2_with fail
    first | go_ret3 | go_ret2 | go_ret
    exact ⟨HB.out _, Mod.refl _ _⟩
  · have d0 : decide ((400 : Int) < (l.length : Int)) = false := decide_eq_false (by omega)
    have HLX := Lib.hid (lex_short h4)
    have hl4 : l.length ≤ 400 := by omega
    have HG := Lib.hid hg
    have HRB := Lib.hid (fun w' p x h hx => lexR_bad (w := w) (w' := w') (l := l) (p := p) (x := x) h hx)
    have HRO := Lib.hid (fun w' v ts h hv => lexR_ok (w := w) (w' := w') (l := l) (v := v) (ts := ts) h hv)
    generalize lexZ l = R at HLX HRB HRO
    clear h4 hg
    go_enter Tryd.func7, Tryd.ntmps7
    go_wp2_with fail
    go_loopw [5, 6] (fun s5 s6 W => ∃ (p f : Nat) (out : List Tk), p ≤ l.length ∧ s6 = .int .i64 p ∧ Hid (l.length - p ≤ f ∧ R = wordsZ f p (l.drop p) out ∧ out.length ≤ p ∧ OwnR encTk 5 47 W w.heap.size s5 out ∧ Mod [] w W)) (fun _ s6 _ => l.length - (intOf s6).toNat)
    case atStart => exact ⟨0, l.length, [], by omega, rfl, Lib.hid ⟨by omega, by rw [HLX.out]; rfl, by simp, OwnR.nil_ _ _, Mod.refl _ _⟩⟩
    case round =>
      obtain ⟨p, f, out, hp, rfl, hS⟩ := hrel
      obtain ⟨h1, h2, h3, h4, h5⟩ := hS.out
      obtain ⟨va, vc, rfl⟩ := h4.lens
      by_cases hlt : p < l.length
      · have hix := tx_index hlt
        have d1 : decide ((p : Int) < (l.length : Int)) = true := decide_eq_true (by omega)
        have hdr := List.drop_eq_getElem_cons hlt
        have HFR := Lib.hid (tx_from l p (by omega))
        obtain ⟨f2, rfl⟩ : ∃ f2, f = f2 + 1 := ⟨f - 1, by omega⟩
        by_cases h32 : l[p] = 32
        · have db : ((l[p].toNat : Int) == 32) = true := by rw [h32]; rfl
          rw [hdr, h32, words_blank] at h2
          have HN := Lib.hid (show l.length - (p + 1) ≤ f2 ∧ R = wordsZ f2 (p + 1) (l.drop (p + 1)) out ∧ out.length ≤ p + 1 ∧ OwnR encTk 5 47 wr w.heap.size (.slice va out.length vc) out ∧ Mod [] w wr from ⟨by omega, h2, by omega, h4, h5⟩)
          generalize l[p] = b at hix db
          clear hS h1 h2 h3 h4 h5 hdr h32
          go_wp2_with fail
          go_roundw
          case rel => exact ⟨p + 1, f2, out, by omega, by go_num, HN⟩
          case measure => simp [intOf]; omega
        · have db : ((l[p].toNat : Int) == 32) = false := by
            rw [beq_eq_false_iff_ne]
            intro h
            exact h32 ((byte_eq (n := 32) (by omega)).1 (by simpa using h))
          have CW := Lib.hid (lxWord_at (HG.out.kept0 h5) l[p] (l.drop (p + 1)) (by rw [← hdr, List.length_drop]; omega))
          rw [← hdr] at CW
          have HB := Lib.hid (fun x => words_bad (f := f2) (p := p) (r := l.drop (p + 1)) (out := out) (x := x) h32)
          have HO := Lib.hid (fun k c d n => words_ok (f := f2) (p := p) (r := l.drop (p + 1)) (out := out) (k := k) (c := c) (d := d) (n := n) h32)
          have HPOS := Lib.hid (fun k n c d => wordZ_pos (l := l.drop p) (k := k) (n := n) (c := c) (s := d))
          rw [← hdr] at HB HO
          have HST := Lib.hid (And.intro h1 (And.intro h2 (And.intro h3 (And.intro h4 h5))))
          have hpl : (l.drop p).length = l.length - p := List.length_drop
          generalize l[p] = b at hix db
          clear hS h1 h2 h3 h4 h5 hdr h32
          go_wp2_with fail
          simp only [HFR.out]
          refine CW.out.mono ?_
          rintro e w2 ⟨⟨k, tx, c, d, er, rfl, hW⟩, m2⟩
          have HW := Lib.hid hW
          have HM2 := Lib.hid m2
          clear hW m2 CW
          unfold tokC
          by_cases he : er = 0
          · subst he
            obtain ⟨n, hwd⟩ : ∃ n, wordZ (l.drop p) = .ok (k, n, c, d) ∧ tx = txZ ((l.drop p).take n) := by
              have h := HW.out
              cases hw : wordZ (l.drop p) with
              | error x => rw [hw] at h; exact absurd rfl h.2
              | ok q =>
                obtain ⟨k2, n2, c2, d2⟩ := q
                rw [hw] at h
                obtain ⟨_, rfl, h2, rfl, rfl⟩ := h
                exact ⟨n2, rfl, h2⟩
            obtain ⟨hwd, rfl⟩ := hwd
            have hpos := HPOS.out _ _ _ _ hwd
            have hR := HST.out.2.1.trans (HO.out _ _ _ _ hwd)
            rw [List.drop_drop] at hR
            have hsum : p + n ≤ l.length := by have := hpos.2; omega
            have hts := tx_size ((l.drop p).take n)
            rw [List.length_take, Nat.min_eq_left hpos.2] at hts
            have HR := Lib.hid hR
            have HPS := Lib.hid hpos
            clear hwd hpos hR
            generalize txZ ((l.drop p).take n) = tx at hts HR ⊢
            have mI := HM2.out.alloc (.cells #[.int .u8 k, .string tx, .int .i64 c, .int .i64 d, .int .i64 p] 47)
            have nI := heap_alloc_new w2 (.cells #[.int .u8 k, .string tx, .int .i64 c, .int .i64 d, .int .i64 p] 47)
            obtain ⟨k1, k2, k3, k4, k5⟩ := HST.out
            have hvb : ∀ x, (Value.slice va out.length vc).ownBlock = some x → w.heap.size ≤ x ∧ x < wr.heap.size := fun x hx => World.ownsRow.lt k4 x hx
            obtain ⟨v', w', ra, ho', gr⟩ := own_append1 (P := Tryd.prog) (ty := 36) elemTk encTk_len encTk_one (k4.kept0 mI) (Nat.le_trans k5.size mI.size) ⟨k, tx, c, d, p⟩ (by omega) (by omega)
            dsimp only [encTk] at ra
            simp only [World.size_alloc] at ra
            obtain ⟨a', n', c', rfl⟩ : ∃ a n c, v' = .slice a n c := by obtain ⟨a, c, e⟩ := ho'.lens; exact ⟨a, _, c, e⟩
            have tI := gr.mod.heap nI (by rw [mem_blk]; intro hm; have := (hvb _ hm).2; have := HM2.out.size; omega)
            have t1 := cell_blk tI 1
            simp only [List.getElem?_toArray, List.getElem?_cons_succ, List.getElem?_cons_zero] at t1
            have HN := Lib.hid (show l.length - (p + n) ≤ f2 ∧ R = wordsZ f2 (p + n) (l.drop (p + n)) (out ++ [⟨k, tx, c, d, p⟩]) ∧ (out ++ [(⟨k, tx, c, d, p⟩ : Tk)]).length ≤ p + n ∧ OwnR encTk 5 47 w' w.heap.size (.slice a' n' c') (out ++ [⟨k, tx, c, d, p⟩]) ∧ Mod [] w w' from ⟨by have := HPS.out.1; omega, HR.out, by have := HPS.out.1; simp; omega, ho', mod_on (k5.trans mI) gr.mod (fun x hx => by rw [mem_blk] at hx; exact (hvb x hx).1)⟩)
            have RA := Lib.hid ra
            have hp2 := HPS.out.1
            clear mI nI k1 k2 k3 k4 k5 hvb ra ho' gr tI
            go_wp2_with ((with_reducible refine xAppendAt RA.out rfl rfl ?_ ?_ ?_ ?_); exact rfl; exact rfl; exact rfl)
            go_roundw
            case rel => exact ⟨p + n, f2, _, hsum, by go_num, HN⟩
            case measure => simp [intOf]; omega
          · have dne : (er == 0) = false := by rw [beq_eq_false_iff_ne]; exact he
            have hbad : wordZ (l.drop p) = .error er := by
              have h := HW.out
              cases hw : wordZ (l.drop p) with
              | error x => rw [hw] at h; rw [h.1]
              | ok q => rw [hw] at h; exact absurd h.1 he
            have HQ := Lib.hid (fun w' => HRB.out w' (p : Int) er (HST.out.2.1.trans (HB.out er hbad)) he)
            have HMM := Lib.hid (HST.out.2.2.2.2.trans HM2.out)
            clear he hbad
            go_wp2_with fail
            first | go_ret3 | go_ret2 | go_ret
            exact ⟨HQ.out _, HMM.out.alloc _⟩
      · have d1 : decide ((p : Int) < (l.length : Int)) = false := decide_eq_false (by omega)
        rw [List.drop_of_length_le (by omega), words_nil] at h2
        have HE := Lib.hid (And.intro h4 h5)
        have HQ := Lib.hid (HRO.out wr _ _ h2 h4)
        clear hS h1 h2 h3 h4 h5
        go_wp2_with fail
        first | go_ret3 | go_ret2 | go_ret
        exact ⟨HQ.out, HE.out.2⟩
end Go.Proofs.YtdaokholmlpfkaaDoor
namespace Go.Proofs.YtdaokholmlpfkaaDoor
open Go.RowKit Go.ChangeMaps Go.Deep
set_option linter.unusedSimpArgs false
set_option linter.unusedVariables false
set_option maxRecDepth 20000

theorem kept_contains {w : World} (x : ByteArray) : Calls Tryd.prog 54 #[.slice (some ⟨w.heap.size, 0, none⟩) 17 17, .string x] (w.alloc (.cells (keptZ.map Value.string).toArray 9)) fun e w' => e = .returned (.bool (keptZ.any fun y => decide (y = x))) ∧ w' = w.alloc (.cells (keptZ.map Value.string).toArray 9) := by
  refine (Tryd.slices_Contains_string w.heap.size 0 17 17 keptZ x _ (by decide) (by omega) (fun j hj => ?_)).mono ?_
  · rw [Nat.zero_add, cell_blk (heap_alloc_new w _)]
    simp only [List.getElem?_toArray, List.getElem?_map]
    rw [List.getElem?_eq_getElem hj, List.getD_eq_getElem?_getD, List.getElem?_eq_getElem hj]
    rfl
  · rintro e w' ⟨rfl, rfl⟩
    refine ⟨?_, rfl⟩
    congr 2
    rw [List.take_of_length_le (by decide)]
    have h1 := Lib.containsS_iff keptZ x
    cases h : Lib.containsS keptZ x with
    | true =>
      symm
      rw [List.any_eq_true]
      exact ⟨x, h1.1 h, by simp⟩
    | false =>
      symm
      rw [List.any_eq_false]
      intro y hy hyx
      have : y = x := by simpa using hyx
      subst this
      rw [h1.2 hy] at h
      cases h
theorem name_cons (b : UInt8) (r : List UInt8) : nameZ (txZ (b :: r)) = (decide (r.length < 12) && smallZ b && r.all (fun c => smallZ c || digitZ c) && !(keptZ.any fun y => decide (y = txZ (b :: r)))) := rfl
theorem mem_while {p : UInt8 → Bool} {l : List UInt8} : ∀ b ∈ l.takeWhile p, p b = true := fun b hb => by
  induction l with
  | nil => simp at hb
  | cons c l ih =>
    rw [List.takeWhile_cons] at hb
    split at hb
    · rename_i hc
      rcases List.mem_cons.1 hb with rfl | hb
      · exact hc
      · exact ih hb
    · simp at hb
theorem named_all {b : UInt8} {r : List UInt8} (hb : smallZ b = true) : (namedZ (b :: r) = (b :: r).length) ↔ r.all (fun c => smallZ c || digitZ c) = true := by
  unfold namedZ whileZ
  rw [List.takeWhile_cons, if_pos (by simp [hb])]
  simp only [List.length_cons, Nat.add_right_cancel_iff]
  constructor
  · intro h
    rw [List.all_eq_true]
    intro c hc
    have e : r.takeWhile (fun c => smallZ c || digitZ c) = r := by
      have h2 := List.takeWhile_prefix (l := r) (fun c => smallZ c || digitZ c)
      exact h2.eq_of_length h
    rw [← e] at hc
    exact mem_while c hc
  · intro h
    have := while_all (p := fun c => smallZ c || digitZ c) (l := r) (fun c hc => List.all_eq_true.1 h c hc)
    exact this
set_option maxHeartbeats 4000000 in
theorem lxName_at {w : World} (hg : Gl w) (l : List UInt8) (hl : l.length ≤ 1000000) : Calls Tryd.prog 47 #[.string (txZ l)] w fun e w' => e = .returned (.bool (nameZ (txZ l))) ∧ Mod [] w w' := by
  have hsz := tx_size l
  cases l with
  | nil =>
    have HV := Lib.hid (show nameZ (txZ []) = false from rfl)
    have he : (txZ []).toList.isEmpty = true := by rw [tx_list]; rfl
    go_enter Tryd.func47, Tryd.ntmps47
    go_wp2_with fail
    go_ret
    exact ⟨by rw [HV.out]; first | rfl | simp [he], Mod.refl _ _⟩
  | cons b r =>
    have he : (txZ (b :: r)).toList.isEmpty = false := by rw [tx_list]; rfl
    have hix := tx_index (l := b :: r) (i := 0) (by simp)
    rw [show (((0 : Nat) : Int)) = 0 from rfl, List.getElem_cons_zero] at hix
    have HNM := Lib.hid (name_cons b r)
    have HAL := Lib.hid (named_all (b := b) (r := r))
    have CL := Lib.hid (fun W => lxLetter_at b W)
    have CN := Lib.hid (fun W => lxNamed_at (b :: r) hl W)
    have CF := Lib.hid (fun (W : World) (h : Gl W) => sFields_at h)
    have CK := Lib.hid (fun (W : World) => kept_contains (w := W) (txZ (b :: r)))
    have HG := Lib.hid hg
    have hlen : (b :: r).length = r.length + 1 := rfl
    generalize nameZ (txZ (b :: r)) = R at HNM ⊢
    generalize (keptZ.any fun y => decide (y = txZ (b :: r))) = kk at HNM CK
    generalize hal : r.all (fun c => smallZ c || digitZ c) = al at HNM HAL
    generalize smallZ b = sm at HNM HAL CL
    generalize namedZ (b :: r) = nn at HAL CN
    generalize txZ (b :: r) = s at hix CN CK hsz he ⊢
    rw [hlen] at hsz HAL
    clear hg hl hlen hal
    by_cases h12 : r.length < 12
    · have d0 : decide ((r.length : Int) + 1 ≤ 12) = true := decide_eq_true (by omega)
      cases sm with
      | false =>
        have HV := Lib.hid (show R = false by rw [HNM.out]; simp)
        clear h12
        go_enter Tryd.func47, Tryd.ntmps47
        go_wp2_with fail
        refine (CL.out _).mono ?_
        rintro e w2 ⟨rfl, rfl⟩
        go_wp2_with fail
        go_ret
        exact ⟨by rw [HV.out]; first | rfl | simp [he], Mod.refl _ _⟩
      | true =>
        by_cases hn : nn = r.length + 1
        · have hal : al = true := (HAL.out rfl).1 hn
          have HV := Lib.hid (show R = !kk by rw [HNM.out, decide_eq_true h12, hal]; simp)
          have dn : ((nn : Int) == (r.length : Int) + 1) = true := by rw [beq_iff_eq]; omega
          clear hn hal h12
          go_enter Tryd.func47, Tryd.ntmps47
          go_wp2_with fail
          refine (CL.out _).mono ?_
          rintro e w2 ⟨rfl, rfl⟩
          go_wp2_with fail
          refine (CN.out _).mono ?_
          rintro e w3 ⟨rfl, m3⟩
          have HM3 := Lib.hid m3
          clear m3
          go_wp2_with fail
          refine (CF.out _ (HG.out.kept0 HM3.out)).mono ?_
          rintro e w4 ⟨rfl, rfl⟩
          go_wp2_with fail
          refine (CK.out _).mono ?_
          rintro e w4 ⟨rfl, rfl⟩
          cases kk with
          | true =>
            go_wp2_with fail
            go_ret
            exact ⟨by rw [HV.out]; rfl, HM3.out.alloc _⟩
          | false =>
            go_wp2_with fail
            go_ret
            exact ⟨by rw [HV.out]; rfl, HM3.out.alloc _⟩
        · have hal : al = false := by
            rw [Bool.eq_false_iff]
            exact fun h => hn ((HAL.out rfl).2 h)
          have HV := Lib.hid (show R = false by rw [HNM.out, hal]; simp)
          have dn : ((nn : Int) == (r.length : Int) + 1) = false := by rw [beq_eq_false_iff_ne]; omega
          clear hn hal h12
          go_enter Tryd.func47, Tryd.ntmps47
          go_wp2_with fail
          refine (CL.out _).mono ?_
          rintro e w2 ⟨rfl, rfl⟩
          go_wp2_with fail
          refine (CN.out _).mono ?_
          rintro e w3 ⟨rfl, m3⟩
          have HM3 := Lib.hid m3
          clear m3
          go_wp2_with fail
          go_ret
          exact ⟨by rw [HV.out]; rfl, HM3.out⟩
    · have d0 : decide ((r.length : Int) + 1 ≤ 12) = false := decide_eq_false (by omega)
      have HV := Lib.hid (show R = false by rw [HNM.out, decide_eq_false h12]; simp)
      clear h12
      go_enter Tryd.func47, Tryd.ntmps47
      go_wp2_with fail
      go_ret
      exact ⟨by rw [HV.out]; first | rfl | simp [he], Mod.refl _ _⟩
end Go.Proofs.YtdaokholmlpfkaaDoor
