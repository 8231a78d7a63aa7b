/- Slices of the call's own that grow by append, whatever is appended; what grows from what. No program is named here. -/
import Derived.Test.YtdaokholmlpfkaaDoorPzA
import Derived.Test.YtdaokholmlpfkaaDoorPzB
import Derived.Laws.RangeAny
import Derived.Deep.LoopGhost
import Derived.Test.YtdaokholmlpfkaaDoorShelf6
import Derived.Deep.AppendSrc
import Derived.OwnWalk
import Derived.Deep.MidRow
namespace Go.Proofs.YtdaokholmlpfkaaDoor
open Go.RowKit Go.ChangeMaps
set_option linter.unusedSimpArgs false
set_option linter.unusedVariables false
set_option maxRecDepth 20000

theorem lxLetter_at (b : UInt8) (w : World) : Calls Tryd.prog 22 #[.int .u8 (b.toNat : Nat)] w fun e w' => e = .returned (.bool (smallZ b)) ∧ w' = w := by
  by_cases h1 : 97 ≤ b.toNat
  · have d1 : decide ((97 : Int) ≤ (b.toNat : Int)) = true := decide_eq_true (by omega)
    by_cases h2 : b.toNat ≤ 122
    · have d2 : decide ((b.toNat : Int) ≤ 122) = true := decide_eq_true (by omega)
      have HS := Lib.hid (show smallZ b = true from small_nat.2 ⟨h1, h2⟩)
      clear h1 h2
      go_enter Tryd.func22, Tryd.ntmps22
      go_wp2_with fail
      go_ret
      exact ⟨by rw [HS.out]; rfl, rfl⟩
    · have d2 : decide ((b.toNat : Int) ≤ 122) = false := decide_eq_false (by omega)
      have HS := Lib.hid (show smallZ b = false from by rw [Bool.eq_false_iff]; exact fun h => h2 (small_nat.1 h).2)
      clear h1 h2
      go_enter Tryd.func22, Tryd.ntmps22
      go_wp2_with fail
      go_ret
      exact ⟨by rw [HS.out]; rfl, rfl⟩
  · have d1 : decide ((97 : Int) ≤ (b.toNat : Int)) = false := decide_eq_false (by omega)
    have HS := Lib.hid (show smallZ b = false from by rw [Bool.eq_false_iff]; exact fun h => h1 (small_nat.1 h).1)
    clear h1
    go_enter Tryd.func22, Tryd.ntmps22
    go_wp2_with fail
    go_ret
    exact ⟨by rw [HS.out]; rfl, rfl⟩
theorem lxDigit_at (b : UInt8) (w : World) : Calls Tryd.prog 24 #[.int .u8 (b.toNat : Nat)] w fun e w' => e = .returned (.bool (digitZ b)) ∧ w' = w := by
  by_cases h1 : 48 ≤ b.toNat
  · have d1 : decide ((48 : Int) ≤ (b.toNat : Int)) = true := decide_eq_true (by omega)
    by_cases h2 : b.toNat ≤ 57
    · have d2 : decide ((b.toNat : Int) ≤ 57) = true := decide_eq_true (by omega)
      have HS := Lib.hid (show digitZ b = true from digit_nat.2 ⟨h1, h2⟩)
      clear h1 h2
      go_enter Tryd.func24, Tryd.ntmps24
      go_wp2_with fail
      go_ret
      exact ⟨by rw [HS.out]; rfl, rfl⟩
    · have d2 : decide ((b.toNat : Int) ≤ 57) = false := decide_eq_false (by omega)
      have HS := Lib.hid (show digitZ b = false from by rw [Bool.eq_false_iff]; exact fun h => h2 (digit_nat.1 h).2)
      clear h1 h2
      go_enter Tryd.func24, Tryd.ntmps24
      go_wp2_with fail
      go_ret
      exact ⟨by rw [HS.out]; rfl, rfl⟩
  · have d1 : decide ((48 : Int) ≤ (b.toNat : Int)) = false := decide_eq_false (by omega)
    have HS := Lib.hid (show digitZ b = false from by rw [Bool.eq_false_iff]; exact fun h => h1 (digit_nat.1 h).1)
    clear h1
    go_enter Tryd.func24, Tryd.ntmps24
    go_wp2_with fail
    go_ret
    exact ⟨by rw [HS.out]; rfl, rfl⟩
theorem lxNamed1_at (b : UInt8) (w : World) : Calls Tryd.prog 38 #[.int .u8 (b.toNat : Nat)] w fun e w' => e = .returned (.bool (smallZ b || digitZ b)) ∧ w' = w := by
  have CL := Lib.hid (lxLetter_at b w)
  have CD := Lib.hid (lxDigit_at b w)
  generalize smallZ b = x at CL ⊢
  generalize digitZ b = y at CD ⊢
  cases x with
  | true =>
    go_enter Tryd.func38, Tryd.ntmps38
    go_wp2_with fail
    refine CL.out.mono ?_
    rintro e w1 ⟨rfl, rfl⟩
    go_wp2_with fail
    go_ret
    exact ⟨rfl, rfl⟩
  | false =>
    go_enter Tryd.func38, Tryd.ntmps38
    go_wp2_with fail
    refine CL.out.mono ?_
    rintro e w1 ⟨rfl, rfl⟩
    go_wp2_with fail
    refine CD.out.mono ?_
    rintro e w2 ⟨rfl, rfl⟩
    go_wp2_with fail
    go_ret
    exact ⟨rfl, rfl⟩
theorem tx_size (l : List UInt8) : (txZ l).size = l.length := by simp [txZ, ByteArray.size]
theorem tx_get {l : List UInt8} {i : Nat} (h : i < l.length) (h2 : i < (txZ l).size) : (txZ l)[i]'h2 = l[i] := by
  show ((txZ l).data)[i] = l[i]
  simp [txZ]
  rfl
theorem tx_index {l : List UInt8} {i : Nat} (h : i < l.length) (w : World) : (Instr.index 9 (.string (txZ l)) (.int .i64 i)).run Tryd.prog w = .ok (.int .u8 (l[i].toNat : Nat)) w := by
  have hs := tx_size l
  rw [run_index_string w 9 _ .i64 i Tryd.underlying9, dif_pos (by omega)]
  have := tx_get h (show i < (txZ l).size by omega)
  simp [this]
  rfl
/-- a function of bytes, as a value -/
def IsP (fv : Nat) (p : UInt8 → Bool) : Prop := ∀ (b : UInt8) (w : World), Calls Tryd.prog fv #[.int .u8 (b.toNat : Nat)] w fun e w' => e = .returned (.bool (p b)) ∧ w' = w
theorem iter_mod (w : World) (s : ByteArray) (n : Nat) : Mod [] w (w.iter s n) := (Mod.refl [] w).alloc _
theorem while_yes {p : UInt8 → Bool} {l : List UInt8} {i : Nat} (hi : i < l.length) (h : ∀ b ∈ l.take i, p b = true) (hb : p l[i] = true) : ∀ b ∈ l.take (i + 1), p b = true := fun b k => by
  rw [List.take_succ_eq_append_getElem hi] at k
  rcases List.mem_append.1 k with k | k
  · exact h b k
  · simp at k
    rw [k]
    exact hb
theorem while_no {p : UInt8 → Bool} {l : List UInt8} {i : Nat} (hi : i < l.length) (h : ∀ b ∈ l.take i, p b = true) (hb : p l[i] = false) : whileZ p l = i := by
  unfold whileZ
  have e : l = l.take i ++ l.drop i := (List.take_append_drop i l).symm
  have : l.takeWhile p = l.take i := by
    conv => lhs; rw [e]
    exact takeWhile_all h (fun b hbb => by
      rw [List.drop_eq_getElem_cons hi] at hbb
      have hbb2 : l[i] = b := by simpa [List.getElem?_eq_getElem hi] using hbb
      rw [← hbb2]
      exact hb)
  rw [this, List.length_take]
  omega
theorem while_all {p : UInt8 → Bool} {l : List UInt8} (h : ∀ b ∈ l, p b = true) : whileZ p l = l.length := by
  unfold whileZ
  have := takeWhile_all (p := p) (r := []) h (by simp)
  rw [List.append_nil] at this
  rw [this]
theorem lxWhile_at {fv : Nat} {p : UInt8 → Bool} (hf : fv = 24 ∨ fv = 38) (hp : IsP fv p) (ha : ∀ b, p b = true → b.toNat < 128) (l : List UInt8) (hl : l.length ≤ 1000000) (w : World) : Calls Tryd.prog 37 #[.string (txZ l), .func (.func fv) #[] #[]] w fun e w' => e = .returned (.int .i64 (whileZ p l : Nat)) ∧ Mod [] w w' := by
  have hsz := tx_size l
  have HP := Lib.hid hp
  have HA := Lib.hid ha
  clear hp ha
  rcases hf with rfl | rfl
  all_goals
    go_enter Tryd.func37, Tryd.ntmps37
    go_wp2_with fail
    go_loopg [5] l.length (fun g s5 wx => ∃ i : Nat, i + g = l.length ∧ Hid (∀ b ∈ l.take i, p b = true) ∧ wx = w.iter (txZ l) i)
    case atStart => exact ⟨0, by omega, Lib.hid (by simp), rfl⟩
    case round =>
      obtain ⟨i, hig, hall, rfl⟩ := hrel
      cases gk with
      | zero =>
        have hnx := fun ty => run_next_end (P := Tryd.prog) w (txZ l) i ty (by omega)
        have HW := Lib.hid (show whileZ p l = l.length from while_all (by have := hall.out; rwa [List.take_of_length_le (by omega)] at this))
        go_wp2_with fail
        go_ret
        exact ⟨by rw [HW.out]; first | rfl | simp [hsz], iter_mod _ _ _⟩
      | succ g =>
        have hi : i < l.length := by omega
        have hix := tx_index hi
        have hnx := fun ty => run_next_any (P := Tryd.prog) w (txZ l) i ty (by omega)
        have hd : p l[i] = true → (Utf8.decode (txZ l) i).2 = 1 := fun h => by
          have h1 := HA.out _ h
          have h2 := tx_get hi (show i < (txZ l).size by omega)
          rw [decode_ascii (txZ l) i (by omega) (by rw [h2]; exact h1)]
        have HY := Lib.hid (while_yes hi hall.out)
        have HN := Lib.hid (while_no hi hall.out)
        have HD := Lib.hid hd
        generalize l[i] = b at hix HY HN HD
        clear hd
        go_wp2_with fail
        refine (HP.out b _).mono ?_
        rintro e w2 ⟨rfl, rfl⟩
        cases hpb : p b with
        | false =>
          have HW := Lib.hid (HN.out hpb)
          go_wp2_with fail
          go_ret
          exact ⟨by rw [HW.out]; rfl, iter_mod _ _ _⟩
        | true =>
          have HW := Lib.hid (HY.out hpb)
          have HE := Lib.hid (HD.out hpb)
          go_wp2_with fail
          go_roundg g
          case measure => omega
          case rel => exact ⟨i + 1, by omega, HW, by rw [HE.out]⟩
theorem lxNamed_at (l : List UInt8) (hl : l.length ≤ 1000000) (w : World) : Calls Tryd.prog 23 #[.string (txZ l)] w fun e w' => e = .returned (.int .i64 (namedZ l : Nat)) ∧ Mod [] w w' := by
  have C := Lib.hid (lxWhile_at (p := fun b => smallZ b || digitZ b) (fv := 38) (.inr rfl) lxNamed1_at (fun b h => by
    rw [Bool.or_eq_true] at h
    rcases h with h | h
    · have := small_nat.1 h; omega
    · have := digit_nat.1 h; omega) l hl w)
  go_enter Tryd.func23, Tryd.ntmps23
  go_wp2_with fail
  refine C.out.mono ?_
  rintro e w1 ⟨rfl, m1⟩
  have HM := Lib.hid m1
  clear m1
  go_wp2_with fail
  go_ret
  exact ⟨rfl, HM.out⟩
end Go.Proofs.YtdaokholmlpfkaaDoor
namespace Go.Proofs.YtdaokholmlpfkaaDoor
open Go.RowKit Go.ChangeMaps
set_option linter.unusedSimpArgs false
set_option linter.unusedVariables false
set_option maxRecDepth 20000

theorem tx_slice (l : List UInt8) (i j : Nat) (h : i ≤ j) (hj : j ≤ l.length) : (txZ l).extract i j = txZ ((l.drop i).take (j - i)) := by
  apply ByteArray.ext
  rw [ByteArray.data_extract]
  apply Array.ext'
  simp [txZ, Array.toList_extract, List.extract_eq_take_drop]
theorem tx_from (l : List UInt8) (i : Nat) (h : i ≤ l.length) : (txZ l).extract i l.length = txZ (l.drop i) := by
  rw [tx_slice l i l.length h (Nat.le_refl _), List.take_of_length_le (by simp)]
theorem tx_to (l : List UInt8) (i : Nat) (h : i ≤ l.length) : (txZ l).extract 0 i = txZ (l.take i) := by
  rw [tx_slice l 0 i (Nat.zero_le _) h]
  simp
theorem byte_eq {b : UInt8} {n : Nat} (hn : n < 256) : (b.toNat : Int) = n ↔ b = UInt8.ofNat n := by
  constructor
  · intro h
    have h1 : b.toNat = n := by omega
    rw [← h1]
    simp
  · rintro rfl
    simp
    omega
theorem num_yes {l : List UInt8} (h : whileZ digitZ l + 1 < l.length) (h1 : l[whileZ digitZ l] = 46) (h2 : digitZ l[whileZ digitZ l + 1] = true) : numberZ l = whileZ digitZ l + 1 + whileZ digitZ (l.drop (whileZ digitZ l + 1)) := by
  unfold numberZ
  have e : l.drop (whileZ digitZ l) = l[whileZ digitZ l] :: l[whileZ digitZ l + 1] :: l.drop (whileZ digitZ l + 2) := by
    rw [List.drop_eq_getElem_cons (by omega), List.drop_eq_getElem_cons h]
  have e2 : l.drop (whileZ digitZ l + 1) = l[whileZ digitZ l + 1] :: l.drop (whileZ digitZ l + 2) := by
    rw [List.drop_eq_getElem_cons h]
  rw [e, e2]
  dsimp only
  rw [if_pos ⟨h1, h2⟩]
theorem num_no {l : List UInt8} (h : ∀ (k : whileZ digitZ l + 1 < l.length), ¬ (l[whileZ digitZ l] = 46 ∧ digitZ l[whileZ digitZ l + 1] = true)) : numberZ l = whileZ digitZ l := by
  unfold numberZ
  split
  · rename_i b c r e
    have hl : whileZ digitZ l + 1 < l.length := by
      have := congrArg List.length e
      simp at this
      omega
    have e1 : l.drop (whileZ digitZ l) = l[whileZ digitZ l] :: l[whileZ digitZ l + 1] :: l.drop (whileZ digitZ l + 2) := by
      rw [List.drop_eq_getElem_cons (by omega), List.drop_eq_getElem_cons hl]
    rw [e1] at e
    injection e with e2 e3
    injection e3 with e4 e5
    have := h hl
    rw [e2, e4] at this
    rw [if_neg this]
  · rfl
theorem num_yes' {l : List UInt8} {n m : Nat} (hn : whileZ digitZ l = n) (hm : whileZ digitZ (l.drop (n + 1)) = m) (h : n + 1 < l.length) (h1 : l[n] = 46) (h2 : digitZ l[n + 1] = true) : numberZ l = n + 1 + m := by
  subst hn hm
  exact num_yes h h1 h2
theorem num_no' {l : List UInt8} {n : Nat} (hn : whileZ digitZ l = n) (h : ∀ (k : n + 1 < l.length), ¬ (l[n] = 46 ∧ digitZ l[n + 1] = true)) : numberZ l = n := by
  subst hn
  exact num_no h
theorem digit_ascii (b : UInt8) (h : digitZ b = true) : b.toNat < 128 := by have := digit_nat.1 h; omega
theorem lxNumber_at (l : List UInt8) (hl : l.length ≤ 1000000) (w : World) : Calls Tryd.prog 25 #[.string (txZ l)] w fun e w' => e = .returned (.int .i64 (numberZ l : Nat)) ∧ Mod [] w w' := by
  have hsz := tx_size l
  obtain ⟨n, hn⟩ : ∃ n, whileZ digitZ l = n := ⟨_, rfl⟩
  obtain ⟨m, hm⟩ : ∃ m, whileZ digitZ (l.drop (n + 1)) = m := ⟨_, rfl⟩
  have CW := fun W => lxWhile_at (p := digitZ) (fv := 24) (.inl rfl) lxDigit_at digit_ascii l hl W
  have CV := fun W => lxWhile_at (p := digitZ) (fv := 24) (.inl rfl) lxDigit_at digit_ascii (l.drop (n + 1)) (by rw [List.length_drop]; omega) W
  rw [hn] at CW
  rw [hm] at CV
  have CW := Lib.hid CW
  have CV := Lib.hid CV
  have hle := whileZ_le digitZ l
  have hle2 := whileZ_le digitZ (l.drop (n + 1))
  rw [List.length_drop, hm] at hle2
  rw [hn] at hle
  have HFR := Lib.hid (fun h => tx_from l (n + 1) h)
  have HY := Lib.hid (num_yes' hn hm)
  have HN := Lib.hid (num_no' hn)
  clear hn hm
  generalize numberZ l = N at HY HN ⊢
  go_enter Tryd.func25, Tryd.ntmps25
  go_wp2_with fail
  refine (CW.out _).mono ?_
  rintro e w1 ⟨rfl, m1⟩
  have HM1 := Lib.hid m1
  clear m1 CW
  by_cases hnl : n + 1 < l.length
  · have d1 : decide ((n : Int) + 1 < (l.length : Int)) = true := decide_eq_true (by omega)
    have hix := tx_index (show n < l.length by omega)
    have hix2 := tx_index hnl
    rw [show ((n + 1 : Nat) : Int) = (n : Int) + 1 by omega] at hix2
    have HY := Lib.hid (HY.out hnl)
    have HN : Hid (¬ (l[n] = 46 ∧ digitZ l[n + 1] = true) → N = n) := Lib.hid (fun h => HN.out (fun _ => h))
    have HDR := Lib.hid (HFR.out (by omega))
    have hw1 : IntKind.i64.wrap ((n : Int) + 1) = (n : Int) + 1 := by rw [IntKind.wrap_i64]; omega
    have hw2 : IntKind.i64.wrap (1 + (m : Int)) = 1 + (m : Int) := by rw [IntKind.wrap_i64]; omega
    have hw3 : IntKind.i64.wrap ((n : Int) + (1 + (m : Int))) = (n : Int) + (1 + (m : Int)) := by rw [IntKind.wrap_i64]; omega
    generalize l[n] = b at hix HY HN
    generalize l[n + 1] = c at hix2 HY HN
    by_cases hb : b = 46
    · have d2 : ((b.toNat : Int) == 46) = true := by subst hb; rfl
      cases hc : digitZ c with
      | true =>
        have HV := Lib.hid (HY.out hb hc)
        have CD := Lib.hid (fun W => lxDigit_at c W)
        rw [hc] at CD
        clear hb hc
        go_wp2_with fail
        refine (CD.out _).mono ?_
        rintro e w2 ⟨rfl, rfl⟩
        go_wp2_with fail
        simp only [HDR.out]
        refine (CV.out _).mono ?_
        rintro e w2 ⟨rfl, m2⟩
        have HM2 := Lib.hid (HM1.out.trans m2)
        clear m2
        go_wp2_with fail
        go_ret
        exact ⟨by rw [HV.out]; first | rfl | (simp; omega), HM2.out⟩
      | false =>
        have HV := Lib.hid (HN.out (fun h => by rw [hc] at h; exact absurd h.2 (by simp)))
        have CD := Lib.hid (fun W => lxDigit_at c W)
        rw [hc] at CD
        clear hb hc
        go_wp2_with fail
        refine (CD.out _).mono ?_
        rintro e w2 ⟨rfl, rfl⟩
        go_wp2_with fail
        go_ret
        exact ⟨by rw [HV.out]; rfl, HM1.out⟩
    · have d2 : ((b.toNat : Int) == 46) = false := by
        rw [beq_eq_false_iff_ne]
        intro h
        exact hb ((byte_eq (n := 46) (by omega)).1 (by simpa using h))
      have HV := Lib.hid (HN.out (fun h => hb h.1))
      clear hb
      go_wp2_with fail
      go_ret
      exact ⟨by rw [HV.out]; rfl, HM1.out⟩
  · have d1 : decide ((n : Int) + 1 < (l.length : Int)) = false := decide_eq_false (by omega)
    have hw1 : IntKind.i64.wrap ((n : Int) + 1) = (n : Int) + 1 := by rw [IntKind.wrap_i64]; omega
    have HV := Lib.hid (HN.out (fun h => absurd h hnl))
    go_wp2_with fail
    go_ret
    exact ⟨by rw [HV.out]; rfl, HM1.out⟩
end Go.Proofs.YtdaokholmlpfkaaDoor
namespace Go.Proofs.YtdaokholmlpfkaaDoor
open Go.RowKit Go.ChangeMaps
set_option linter.unusedSimpArgs false
set_option linter.unusedVariables false
set_option maxRecDepth 20000

def signsT : List UInt8 := [61, 60, 62, 43, 45, 42, 47, 40, 41, 44]
theorem index_mem {l : List UInt8} {b : UInt8} : 0 ≤ Lib.indexByte l b ↔ b ∈ l := by
  induction l with
  | nil => simp [Lib.indexByte]
  | cons c l ih =>
    unfold Lib.indexByte
    by_cases h : c = b
    · subst h; simp
    · have hc : (c == b) = false := by simpa using h
      rw [hc]
      simp only [Bool.false_eq_true, if_false, List.mem_cons]
      have hne : b ≠ c := fun e => h e.symm
      by_cases h2 : Lib.indexByte l b = -1
      · rw [h2] at ih ⊢
        simp [hne] at ih ⊢
        exact ih
      · have hb : (Lib.indexByte l b == -1) = false := by simpa using h2
        rw [hb]
        simp only [Bool.false_eq_true, if_false, hne, false_or]
        rw [← ih]
        have : -1 ≤ Lib.indexByte l b := by
          clear ih hb h2
          induction l with
          | nil => simp [Lib.indexByte]
          | cons d l ih2 =>
            unfold Lib.indexByte
            split
            · omega
            · split
              · omega
              · omega
        omega
theorem sign_is (b : UInt8) (r : List UInt8) : signZ (b :: r) = if Lib.hasPrefix (b :: r) [60, 61] = true ∨ Lib.hasPrefix (b :: r) [62, 61] = true ∨ Lib.hasPrefix (b :: r) [60, 62] = true then 2 else if 0 ≤ Lib.indexByte signsT b then 1 else 0 := by
  have hp : ∀ x y : UInt8, Lib.hasPrefix (b :: r) [x, y] = true ↔ b = x ∧ r.head? = some y := fun x y => by
    cases r with
    | nil => simp [Lib.hasPrefix]
    | cons c r =>
      simp only [Lib.hasPrefix, List.isPrefixOf, Bool.and_eq_true, beq_iff_eq, Bool.and_true, List.head?_cons, Option.some.injEq]
      constructor
      · rintro ⟨h1, h2⟩; exact ⟨h1.symm, h2.symm⟩
      · rintro ⟨h1, h2⟩; exact ⟨h1.symm, h2.symm⟩
  unfold signZ
  simp only [hp, index_mem]
  rfl
theorem lxSign_at (b : UInt8) (r : List UInt8) (w : World) : Calls Tryd.prog 21 #[.string (txZ (b :: r))] w fun e w' => e = .returned (.int .i64 (signZ (b :: r) : Nat)) ∧ w' = w := by
  have HS := Lib.hid (sign_is b r)
  have hix := tx_index (l := b :: r) (i := 0) (by simp)
  rw [show (((0 : Nat) : Int)) = 0 from rfl, List.getElem_cons_zero] at hix
  have CP := Lib.hid (fun p W => Tryd.strings_HasPrefix (txZ (b :: r)) p W)
  have CI := Lib.hid (fun W => Tryd.strings_IndexByte (txZ signsT) (b.toNat : Nat) W)
  rw [show (txZ (b :: r)).data.toList = b :: r from rfl] at CP
  rw [show (txZ signsT).data.toList = signsT from rfl, show ((b.toNat : Nat) : Int).toNat.toUInt8 = b by simp] at CI
  generalize signZ (b :: r) = N at HS ⊢
  have HP1 := Lib.hid (CP.out ⟨#[60, 61]⟩)
  have HP2 := Lib.hid (CP.out ⟨#[62, 61]⟩)
  have HP3 := Lib.hid (CP.out ⟨#[60, 62]⟩)
  dsimp only at HP1 HP2 HP3
  clear CP
  generalize Lib.hasPrefix (b :: r) [60, 61] = x1 at HP1 HS
  generalize Lib.hasPrefix (b :: r) [62, 61] = x2 at HP2 HS
  generalize Lib.hasPrefix (b :: r) [60, 62] = x3 at HP3 HS
  generalize Lib.indexByte signsT b = q at CI HS
  generalize txZ (b :: r) = s at HP1 HP2 HP3 hix ⊢
  have hA0 : ∀ w : World, (Instr.index 68 (.agg #[.string ⟨#[60, 61]⟩, .string ⟨#[62, 61]⟩, .string ⟨#[60, 62]⟩]) (.int .i64 0)).run Tryd.prog w = .ok (.string ⟨#[60, 61]⟩) w := fun w => by kernel_rfl
  have hA1 : ∀ w : World, (Instr.index 68 (.agg #[.string ⟨#[60, 61]⟩, .string ⟨#[62, 61]⟩, .string ⟨#[60, 62]⟩]) (.int .i64 1)).run Tryd.prog w = .ok (.string ⟨#[62, 61]⟩) w := fun w => by kernel_rfl
  have hA2 : ∀ w : World, (Instr.index 68 (.agg #[.string ⟨#[60, 61]⟩, .string ⟨#[62, 61]⟩, .string ⟨#[60, 62]⟩]) (.int .i64 2)).run Tryd.prog w = .ok (.string ⟨#[60, 62]⟩) w := fun w => by kernel_rfl
  go_enter Tryd.func21, Tryd.ntmps21
  go_wp2_with fail
  go_loop [6] (fun s6 => ∃ i : Nat, i ≤ 3 ∧ s6 = .int .i64 i ∧ Hid ((0 < i → x1 = false) ∧ (1 < i → x2 = false) ∧ (2 < i → x3 = false))) (fun s6 => 3 - (intOf s6).toNat)
  case atStart => exact ⟨0, by omega, rfl, Lib.hid ⟨by omega, by omega, by omega⟩⟩
  case round =>
    obtain ⟨i, hi, rfl, hX⟩ := hrel
    rcases (show i = 0 ∨ i = 1 ∨ i = 2 ∨ i = 3 by omega) with rfl | rfl | rfl | rfl
    · go_wp2_with fail
      refine (HP1.out _).mono ?_
      rintro e w2 ⟨rfl, rfl⟩
      cases x1 with
      | true =>
        have HV := Lib.hid (show N = 2 by rw [HS.out]; simp)
        go_wp2_with fail
        go_ret
        exact ⟨by rw [HV.out]; rfl, rfl⟩
      | false =>
        go_wp2_with fail
        go_round
        case rel => exact ⟨1, by omega, by go_num, Lib.hid ⟨fun _ => by first | trivial | rfl, by omega, by omega⟩⟩
        case measure => simp [intOf]
    · go_wp2_with fail
      refine (HP2.out _).mono ?_
      rintro e w2 ⟨rfl, rfl⟩
      cases x2 with
      | true =>
        have HV := Lib.hid (show N = 2 by rw [HS.out]; simp)
        go_wp2_with fail
        go_ret
        exact ⟨by rw [HV.out]; rfl, rfl⟩
      | false =>
        go_wp2_with fail
        go_round
        case rel => exact ⟨2, by omega, by go_num, Lib.hid ⟨fun _ => hX.out.1 (by omega), fun _ => by first | trivial | rfl, by omega⟩⟩
        case measure => simp [intOf]
    · go_wp2_with fail
      refine (HP3.out _).mono ?_
      rintro e w2 ⟨rfl, rfl⟩
      cases x3 with
      | true =>
        have HV := Lib.hid (show N = 2 by rw [HS.out]; simp)
        go_wp2_with fail
        go_ret
        exact ⟨by rw [HV.out]; rfl, rfl⟩
      | false =>
        go_wp2_with fail
        go_round
        case rel => exact ⟨3, by omega, by go_num, Lib.hid ⟨fun _ => hX.out.1 (by omega), fun _ => hX.out.2.1 (by omega), fun _ => by first | trivial | rfl⟩⟩
        case measure => simp [intOf]
    · have h1 := hX.out.1 (by omega)
      have h2 := hX.out.2.1 (by omega)
      have h3 := hX.out.2.2 (by omega)
      subst h1 h2 h3
      have HS := Lib.hid (show N = if 0 ≤ q then 1 else 0 by rw [HS.out]; simp)
      by_cases hq : 0 ≤ q
      · have hd : decide (0 ≤ q) = true := decide_eq_true hq
        have HV := Lib.hid (show N = 1 by rw [HS.out, if_pos hq])
        clear hq
        go_wp2_with fail
        refine (CI.out _).mono ?_
        rintro e w2 ⟨rfl, rfl⟩
        go_wp2_with fail
        go_ret
        exact ⟨by rw [HV.out]; rfl, rfl⟩
      · have hd : decide (0 ≤ q) = false := decide_eq_false hq
        have HV := Lib.hid (show N = 0 by rw [HS.out, if_neg hq])
        clear hq
        go_wp2_with fail
        refine (CI.out _).mono ?_
        rintro e w2 ⟨rfl, rfl⟩
        go_wp2_with fail
        go_ret
        exact ⟨by rw [HV.out]; rfl, rfl⟩
end Go.Proofs.YtdaokholmlpfkaaDoor
namespace Go.Proofs.YtdaokholmlpfkaaDoor
open Go.RowKit
set_option linter.unusedSimpArgs false
set_option linter.unusedVariables false

/-- The block in which a slice begins, if it is of the call's own. -/
def blk (v : Value) : List Nat := v.ownBlock.toList
/-- v' has grown out of v. -/
structure Grew (w : World) (v : Value) (w' : World) (v' : Value) : Prop where
  mod : Mod (blk v) w w'
  heir : v'.ownBlock = v.ownBlock ∨ ∀ k, v'.ownBlock = some k → w.heap.size ≤ k
theorem mem_blk {v : Value} {k : Nat} : k ∈ blk v ↔ v.ownBlock = some k := by
  unfold blk
  cases v.ownBlock <;> simp [eq_comm]
theorem Grew.refl (w : World) (v : Value) : Grew w v w v := ⟨Mod.refl _ _, .inl rfl⟩
theorem Grew.trans {w w1 w2 : World} {v v1 v2 : Value} (h : Grew w v w1 v1) (k : Grew w1 v1 w2 v2) : Grew w v w2 v2 := by
  have hs := h.mod.size
  refine ⟨⟨k.mod.os.trans h.mod.os, k.mod.tape.trans h.mod.tape, k.mod.output.trans h.mod.output, Nat.le_trans hs k.mod.size, fun b hb hn => ?_⟩, ?_⟩
  · refine (k.mod.block b (by omega) fun hm => ?_).trans (h.mod.block b hb hn)
    rw [mem_blk] at hm
    rcases h.heir with e | e
    · exact hn (mem_blk.2 (e ▸ hm))
    · have := e b hm; omega
  · rcases k.heir with e | e
    · rcases h.heir with e' | e'
      · exact .inl (e.trans e')
      · exact .inr fun b hb => e' b (e ▸ hb)
    · exact .inr fun b hb => by have := e b hb; omega
theorem Grew.step {w w1 w2 : World} {v v1 : Value} (h : Grew w v w1 v1) (k : Mod [] w1 w2) : Grew w v w2 v1 := h.trans ⟨k.nil, .inl rfl⟩
theorem Grew.of {w w1 : World} (v : Value) (k : Mod [] w w1) : Grew w v w1 v := ⟨k.nil, .inl rfl⟩
theorem ownsRow_kept {w w' : World} {base : Nat} {e : TypeId} {size : Nat} {v : Value} {n : Nat} {xs : List Value} {l : List Nat} (h : w.ownsRow base e size v n xs) (hm : Mod l w w') (hn : ∀ k, v.ownBlock = some k → k ∉ l) : w'.ownsRow base e size v n xs := by
  obtain ⟨h1, h2⟩ := h
  refine ⟨h1, h2.imp id ?_⟩
  rintro ⟨g, cap, cur, rfl, hb, hg, hr⟩
  exact ⟨g, cap, cur, rfl, hb, hm.heap hg (hn g rfl), hr⟩
theorem ownsRow_kept0 {w w' : World} {base : Nat} {e : TypeId} {size : Nat} {v : Value} {n : Nat} {xs : List Value} (h : w.ownsRow base e size v n xs) (hm : Mod [] w w') : w'.ownsRow base e size v n xs := ownsRow_kept h hm (by simp)
/-- What grew out of a slice of the call's own turned nothing that was there when the call began. -/
theorem Grew.intoNil {w0 w w' : World} {base : Nat} {e : TypeId} {size : Nat} {v v' : Value} {n : Nat} {xs : List Value} (h : Grew w v w' v') (hown : w.ownsRow base e size v n xs) (hb : w0.heap.size ≤ base) (h0 : Mod [] w0 w) : Mod [] w0 w' :=
  ⟨h.mod.os.trans h0.os, h.mod.tape.trans h0.tape, h.mod.output.trans h0.output, Nat.le_trans h0.size h.mod.size, fun k hk _ =>
    (h.mod.block k (Nat.lt_of_lt_of_le hk h0.size) (fun hm => by have := (hown.lt k (mem_blk.1 hm)).1; omega)).trans (h0.block k hk (by simp))⟩
section
variable {P : Program} {w : World}
theorem append_own (base : Nat) (t tx ty e : TypeId) (i : TypeInfo) (z : Value) (size bytes : Nat) (ht : P.underlying t = some (.slice e)) (hi : P.info? e = some i) (hz : i.zero = some z)
    (hsize : i.size = size) (hby : i.bytes = bytes) (hzs : z.cells.size = size) (hsz : 0 < size)
    {v : Value} {n : Nat} {xs : List Value} (hown : w.ownsRow base e size v n xs) {x : Value} {m : Nat} {news : List Value} (hs : Src P size tx x m news w)
    (h63 : n + m ≤ maxLen) (hbytes : (n + m) * bytes ≤ 140737488355328) (hbase : base ≤ w.heap.size) :
    ∃ v' w', (Builtin.append_ #[t, tx] ty #[v, x]).run P w = .ok v' w' ∧ w'.ownsRow base e size v' (n + m) (xs ++ news) ∧ Grew w v w' v' := by
  subst hsize
  subst hby
  have hsmall : n + m ≤ 9223372036854775807 := by simp only [maxLen] at h63; omega
  have hl := hs.newsLen
  have hlen : (xs ++ news).length = (n + m) * i.size := by rw [List.length_append, hown.1, hl, Nat.add_mul]
  have grown : ∀ (old : Nat), old < n + m →
      (w.drew.alloc (.cells ((xs ++ news).toArray ++ Builtin.zeroCells z.cells (grownCap w (n + m) old e - (n + m))) e)).ownsRow base e i.size
        (.slice (some ⟨w.heap.size, 0, none⟩) (n + m) (grownCap w (n + m) old e)) (n + m) (xs ++ news) ∧
      Grew w v (w.drew.alloc (.cells ((xs ++ news).toArray ++ Builtin.zeroCells z.cells (grownCap w (n + m) old e - (n + m))) e)) (.slice (some ⟨w.heap.size, 0, none⟩) (n + m) (grownCap w (n + m) old e)) := by
    intro old ho
    have hge := grownCap_ge w (n + m) old e
    have hcm : grownCap w (n + m) old e ≤ maxLen := grownCap_le_maxLen w (n + m) old e h63
    refine ⟨⟨hlen, .inr ⟨w.heap.size, _, _, rfl, hbase, heap_alloc_new w.drew _, hge, hcm, ?_, ?_⟩⟩, ⟨((Mod.refl _ w).drew).alloc _, .inr fun k hk => by simp [Value.ownBlock] at hk; omega⟩⟩
    · simp only [Array.size_append, List.size_toArray, size_zeroCells, hzs, hlen, ← Nat.add_mul]
      congr 1
      omega
    · simp only [Array.toList_append]
      rw [← hlen]
      exact List.take_left
  rcases hown.2 with ⟨rfl, rfl⟩ | ⟨g, cap, cur, rfl, hbg, hg, hnc, hcm, hcs, htake⟩
  · have hx : xs = [] := List.eq_nil_of_length_eq_zero (by simpa using hown.1)
    subst hx
    by_cases hm : m = 0
    · subst hm
      have hn : news = [] := List.eq_nil_of_length_eq_zero (by simpa using hl)
      subst hn
      refine ⟨.slice none 0 0, w, ?_, World.ownsRow_nil w base e i.size, Grew.refl _ _⟩
      rcases hs.kind with ⟨e', hk⟩ | hk <;>
        simp [Builtin.append_, run_underlying ht, run_underlying hk, sizeOf, typeInfo, hi, hs.len, hs.cells, storeCells]
    · have hold : (Builtin.firstCells i.size 0 (.slice none 0 0)).run P w.drew = .ok (#[] : Array Value) w.drew := run_firstCells_none w.drew i.size 0 0 0
      have hr := run_append_grow_src (P := P) w t tx ty e i z ht hi hz none 0 0 [] (by simpa using hold) x m news hs (by omega) (by omega) (growslice_fits (by omega) (by simpa using hbytes))
      have hgr := grown 0 (by omega)
      simp only [Nat.zero_add, List.nil_append] at hgr hr ⊢
      exact ⟨_, _, hr, hgr.1, hgr.2⟩
  · by_cases hroom : n + m ≤ cap
    · have hfit : n * i.size + news.length ≤ cur.size := by rw [hl, hcs, ← Nat.add_mul]; exact Nat.mul_le_mul_right _ hroom
      have hth := there_blk hg (n * i.size) news.length hfit
      have hr := run_append_room_src (P := P) w t tx ty e i ht hi g 0 n cap x m news hs hroom (fun j hj => by rw [Nat.zero_add]; exact (hth j hj).1) (fun j hj => by rw [Nat.zero_add]; exact (hth j hj).2)
      have hcur : cur = (cur.toList.take (n * i.size) ++ ((cur.toList.drop (n * i.size)).take news.length ++ (cur.toList.drop (n * i.size)).drop news.length)).toArray := by
        rw [List.take_append_drop, List.take_append_drop]
      have hset := heap_setCells_blk g news (n * i.size) w hg
      have hmid := setRange_mid (cur.toList.take (n * i.size)) news ((cur.toList.drop (n * i.size)).take news.length) ((cur.toList.drop (n * i.size)).drop news.length) (by
        simp only [List.length_take, List.length_drop, Array.length_toList]
        omega)
      have hle : n * i.size ≤ cur.toList.length := by rw [Array.length_toList]; omega
      rw [List.length_take, Nat.min_eq_left hle, List.take_append_drop, List.take_append_drop] at hmid
      rw [hmid] at hset
      simp only [Nat.zero_add] at hr
      refine ⟨_, _, hr, ⟨hlen, .inr ⟨g, cap, _, rfl, hbg, hset, hroom, hcm, ?_, ?_⟩⟩, ⟨(Mod.refl _ w).setCells (by simp [blk, Value.ownBlock]) _ _, .inl rfl⟩⟩
      · simp only [List.size_toArray, List.length_append, List.length_take, List.length_drop, Array.length_toList]
        omega
      · rw [htake, ← hlen, ← List.append_assoc]
        exact List.take_left
    · have holds : ∀ j u, xs[j]? = some u → w.cell? ((⟨g, 0, none⟩ : Addr).add j) = some u := hown.cells (g := g) rfl
      have hold := run_firstCells_some (P := P) w.drew i.size n ⟨g, 0, none⟩ n cap xs hown.1 (by simpa using holds)
      have hr := run_append_grow_src (P := P) w t tx ty e i z ht hi hz (some ⟨g, 0, none⟩) n cap xs hold x m news hs (by omega) (by omega) (growslice_fits (by omega) hbytes)
      have hgr := grown cap (by omega)
      exact ⟨_, _, hr, hgr.1, hgr.2⟩
end
end Go.Proofs.YtdaokholmlpfkaaDoor
