/- Layer 25: bytes are taken, numbers read. -/
import Derived.Test.YtnoookcfacmdkaaReqH
import Derived.Laws.BitsAllLaws
namespace Go.Proofs.Ytnoookcfacmdkaa
open Go.RowKit Go.ChangeMaps
set_option linter.unusedSimpArgs false
set_option linter.unusedVariables false
set_option maxRecDepth 20000

/-- What is thrown where bytes are no form. -/
def wrongP : List PanicEntry := [{ v := .iface 80 (.agg #[]), recovered := false }]
/-- Bytes in block bb. -/
inductive RdB (w : World) (bb : Nat) : Value → List Int → Prop
  | nil : RdB w bb (.slice none 0 0) []
  | at_ (o cap : Nat) (l : List Int) (h : w.rangeAt bb o (bv l)) (hc : l.length ≤ cap) (hm : cap ≤ 9223372036854775807) : RdB w bb (.slice (some ⟨bb, o, none⟩) l.length cap) l
theorem RdB.kept {w w' : World} {bb : Nat} {v : Value} {l : List Int} {ks : List Nat} (h : RdB w bb v l) (hm : Mod ks w w') (hn : bb ∉ ks) : RdB w' bb v l := by
  cases h with
  | nil => exact .nil
  | at_ o cap l h hc hx => exact .at_ o cap l (rangeAt_mod h hm hn) hc hx
theorem RdB.bytes {w : World} {bb : Nat} {v : Value} {l : List Int} (h : RdB w bb v l) : BytesAt w v l := by
  cases h with
  | nil => exact .nil none 0
  | at_ o cap l h hc hx => exact .at_ bb o cap l h
/-- A reader, and what is left. -/
def Rd (w : World) (rb bb : Nat) (l : List Int) : Prop := ∃ sv, w.heap[rb]? = some (.cells #[sv] 83 (0, 0)) ∧ RdB w bb sv l ∧ bb < rb
theorem Rd.kept {w w' : World} {rb bb : Nat} {l : List Int} {ks : List Nat} (h : Rd w rb bb l) (hm : Mod ks w w') (h1 : rb ∉ ks) (h2 : bb ∉ ks) : Rd w' rb bb l := by
  obtain ⟨sv, a, b, c⟩ := h
  exact ⟨sv, hm.heap a h1, b.kept hm h2, c⟩
theorem Rd.kept0 {w w' : World} {rb bb : Nat} {l : List Int} (h : Rd w rb bb l) (hm : Mod [] w w') : Rd w' rb bb l := h.kept hm (by simp) (by simp)
theorem range_take {w : World} {bb o : Nat} {l : List Int} (h : w.rangeAt bb o (bv l)) (n : Nat) : w.rangeAt bb o (bv (l.take n)) := fun j v hj => by
  refine h j v ?_
  rw [bv, List.map_take, List.getElem?_take] at hj
  split at hj
  · exact hj
  · cases hj
theorem range_drop {w : World} {bb o : Nat} {l : List Int} (h : w.rangeAt bb o (bv l)) (n : Nat) : w.rangeAt bb (o + n) (bv (l.drop n)) := fun j v hj => by
  rw [bv, List.map_drop, List.getElem?_drop] at hj
  rw [Nat.add_assoc]
  exact h (n + j) v hj
theorem take_no {w : World} {rb bb : Nat} {l : List Int} (h : Rd w rb bb l) (n : Int) (hn : (l.length : Int) < n) :
    Calls Try.prog 57 #[.pointer (some ⟨rb, 0, none⟩), .int .i64 n] w fun e w' => e = .panicked wrongP ∧ w' = w := by
  obtain ⟨sv, hb, hs, hne⟩ := h
  have q0 := cell_blk hb 0
  simp at q0
  have hl : ∃ a c, sv = .slice a l.length c := hs.bytes.form
  obtain ⟨a, c, rfl⟩ := hl
  clear hs
  go_enter Try.func57, Try.ntmps57
  go_wp2_with fail
  exact ⟨rfl, rfl, rfl⟩
theorem take_ok {w : World} {rb bb : Nat} {l : List Int} (h : Rd w rb bb l) (n : Nat) (hn : n ≤ l.length) :
    Calls Try.prog 57 #[.pointer (some ⟨rb, 0, none⟩), .int .i64 n] w fun e w' => ∃ x, e = .returned x ∧ RdB w' bb x (l.take n) ∧ Rd w' rb bb (l.drop n) ∧ Mod [rb] w w' := by
  obtain ⟨sv, hb, hs, hltb⟩ := h
  have hne : bb ≠ rb := by omega
  have q0 := cell_blk hb 0
  have f0 := frozen_blk hb 0
  simp at q0
  cases hs with
  | nil =>
    have hn0 : n = 0 := by simpa using hn
    subst hn0
    go_enter Try.func57, Try.ntmps57
    go_wp2_with fail
    go_ret
    refine ⟨_, rfl, .nil, ⟨_, heap_setCell_blk hb 0 _, ?_, hltb⟩, (Mod.refl _ _).setCell (by simp) _⟩
    exact .nil
  | at_ o cap l hr hc hm =>
    have hset : ∀ u : Value, Mod [rb] w (w.setCell ⟨rb, 0, none⟩ u) := fun u => (Mod.refl _ _).setCell (by simp) _
    by_cases hcn : cap = n
    · have hln : l.length = n := by omega
      have HL := Lib.hid hln
      have HR := Lib.hid hr
      have HB := Lib.hid hb
      subst hcn
      clear hb hr hln hc
      go_enter Try.func57, Try.ntmps57
      go_wp2_with fail
      go_ret
      refine ⟨_, rfl, ?_, ⟨_, heap_setCell_blk HB.out 0 _, ?_, hltb⟩, hset _⟩
      · have e := fun u => RdB.at_ o cap (l.take cap) (range_take (rangeAt_mod HR.out (hset u) (by simpa using hne)) cap) (by rw [List.length_take]; omega) hm
        rw [List.length_take, Nat.min_eq_left hn] at e
        exact e _
      · rw [List.drop_of_length_le (by rw [HL.out]; exact Nat.le_refl _)]
        have e := fun u => RdB.at_ (w := w.setCell ⟨rb, 0, none⟩ u) (bb := bb) o 0 [] (fun j v hj => by simp [bv] at hj) (by simp) (by omega)
        have e0 : l.length - cap = 0 := by rw [HL.out]; omega
        rw [e0]
        exact e _
    · have hlt : n < cap := by omega
      have HR := Lib.hid hr
      have HB := Lib.hid hb
      clear hcn hb hr
      go_enter Try.func57, Try.ntmps57
      go_wp2_with fail
      go_ret
      refine ⟨_, rfl, ?_, ⟨_, heap_setCell_blk HB.out 0 _, ?_, hltb⟩, hset _⟩
      · have e := RdB.at_ o cap (l.take n) (range_take (rangeAt_mod HR.out (hset (.slice (some ⟨bb, o + n, none⟩) (l.length - n) (cap - n))) (by simpa using hne)) n) (by rw [List.length_take]; omega) hm
        rw [List.length_take, Nat.min_eq_left hn] at e
        exact e
      · have e := RdB.at_ (o + n) (cap - n) (l.drop n) (range_drop (rangeAt_mod HR.out (hset (.slice (some ⟨bb, o + n, none⟩) (l.length - n) (cap - n))) (by simpa using hne)) n) (by rw [List.length_drop]; omega) (by omega)
        rw [List.length_drop] at e
        exact e
theorem run_or8 (n x : Int) (hn0 : 0 ≤ n) (hn1 : n * 256 < 18446744073709551616) (hx0 : 0 ≤ x) (hx1 : x < 256) (w : World) :
    (binOp .or 32 (.int .u64 (n * 256)) (.int .u64 x)).run Try.prog w = .ok (.int .u64 (n * 256 + x)) w := by
  obtain ⟨a, rfl⟩ := Int.eq_ofNat_of_zero_le hn0
  obtain ⟨b, rfl⟩ := Int.eq_ofNat_of_zero_le hx0
  have h := u64_or_nat (a * 256) b (by omega) (by omega)
  have e : (a * 256 ||| b) = a * 256 + b := by
    have := Nat.shiftLeft_add_eq_or_of_lt (i := 8) (show b < 2 ^ 8 by omega) a
    rw [Nat.shiftLeft_eq] at this
    exact this.symm
  rw [e] at h
  simp only [binOp]
  rw [if_neg (by simp)]
  have e2 : ((a : Int) * 256) = ((a * 256 : Nat) : Int) := by simp
  have e3 : ((a : Int) * 256 + b) = ((a * 256 + b : Nat) : Int) := by simp
  rw [e3, e2, ← h]
  rfl
/-- A number of so many bytes is read, or that is none's form. -/
theorem u64_shl (n : Int) (hn0 : 0 ≤ n) (hn1 : n * 256 < 18446744073709551616) (w : World) : (binOp .shl 32 (.int .u64 n) (.int .u64 8)).run Try.prog w = .ok (.int .u64 (n * 256)) w := by
  simp only [binOp]
  rw [shift_shl_any _ _ _ _ (by omega)]
  have e : min (8 : Int).toNat IntKind.u64.bits = 8 := by decide
  rw [e]
  have e2 : IntKind.u64.wrap (n * 2 ^ 8) = n * 256 := by
    simp [IntKind.wrap, IntKind.bits, IntKind.signed]
    omega
  rw [e2]
  rfl
theorem readNum_snoc (t : List Int) (i : Nat) (h : i < t.length) : readNum (t.take (i + 1)) = readNum (t.take i) * 256 + t[i] := by
  rw [List.take_succ_eq_append_getElem h]
  unfold readNum
  rw [List.foldl_append]
  rfl
section
variable {P : Program} {ops : Array Oper} {rest : List Oper} {o : Oper} {a : Act} {w w' : World} {Q : Exit → Act → World → Prop} {v : Value}
theorem xBits {bop : BinOp} {t u : TypeId} {x y : Operand} {X Y : Value} (ho : o.op = .binOp bop t x y u) (hb : bop = .or ∨ bop = .xor ∨ bop = .and) (hrun : (binOp bop t X Y).run P w = .ok v w') (hx : a.eval x = X) (hy : a.eval y = Y)
    (hg : Region.wanted o (yielded ops a.tmps) = true) (h : wpList P ops Q rest (a.put o.dst v) w') : wpList P ops Q (o :: rest) a w := by
  refine wpList_val hg ?_ h
  unfold execOp
  rw [ho]
  rcases hb with rfl | rfl | rfl <;> simp [hx, hy, Sem.run_bind, eqGuard, hrun]
end
set_option maxHeartbeats 1000000 in
theorem rnum_ok {w : World} {rb bb : Nat} {l : List Int} (h : Rd w rb bb l) (hB : Byt l) (m : Nat) (hm : m ≤ l.length) (hm8 : m ≤ 8) :
    Calls Try.prog 38 #[.pointer (some ⟨rb, 0, none⟩), .int .i64 m] w fun e w' => e = .returned (.int .u64 (readNum (l.take m))) ∧ Rd w' rb bb (l.drop m) ∧ Mod [rb] w w' := by
  have H := Lib.hid h
  have HB := Lib.hid (hB.take m)
  clear h hB
  go_enter Try.func38, Try.ntmps38
  go_wp2_with fail
  refine (take_ok H.out m hm).mono ?_
  rintro e w1 ⟨x, rfl, hx, hr, hmod⟩
  have hxl : (l.take m).length = m := by rw [List.length_take]; omega
  generalize hxx : l.take m = t at hx HB hxl ⊢
  have HXX := Lib.hid hxx
  clear hxx
  obtain ⟨a, c, hform⟩ := hx.bytes.form
  rw [hxl] at hform
  subst hform
  have HX := Lib.hid hx
  have HR := Lib.hid hr
  have HM := Lib.hid hmod
  have HXL := Lib.hid hxl
  clear hx hr hmod hxl
  go_wp2_with fail
  go_loop [4, 11] (fun s4 s11 => ∃ i : Nat, i ≤ m ∧ s11 = .int .i64 i ∧ s4 = .int .u64 (readNum (t.take i))) (fun _ s11 => m - (intOf s11).toNat)
  case atStart => exact ⟨0, by omega, rfl, rfl⟩
  case round =>
    obtain ⟨i, hi, rfl, rfl⟩ := hrel
    by_cases hlt : i < m
    · have hit : i < t.length := by rw [HXL.out]; exact hlt
      obtain ⟨o, rfl, hcell⟩ : ∃ o, a = some ⟨bb, o, none⟩ ∧ w1.cell? ⟨bb, o + i, none⟩ = some (.int .u8 t[i]) := by
        have hx := HX.out
        have hl := HXL.out
        generalize hs : (Value.slice a m c) = sv at hx
        cases hx with
        | nil => simp at hit
        | at_ o cap l h hc hm =>
          simp only [Value.slice.injEq] at hs
          exact ⟨o, hs.1, h i _ (by simp [bv, hit])⟩
      obtain ⟨hx0, hx1⟩ := HB.out t[i] (by simp)
      have hn0 := readNum_low (HB.out.take i)
      have hn2 := readNum_high (HB.out.take i)
      rw [List.length_take, Nat.min_eq_left (by omega)] at hn2
      have hp : (256 : Int) ^ i ≤ 72057594037927936 := by
        have : i = 0 ∨ i = 1 ∨ i = 2 ∨ i = 3 ∨ i = 4 ∨ i = 5 ∨ i = 6 ∨ i = 7 := by omega
        rcases this with rfl | rfl | rfl | rfl | rfl | rfl | rfl | rfl <;> decide
      have HS := Lib.hid (readNum_snoc t i hit)
      generalize t[i] = x at hcell hx0 hx1 HS
      generalize readNum (t.take i) = n at hn0 hn2 HS
      have HSH := Lib.hid (u64_shl n hn0 (by omega))
      have HOR := Lib.hid (run_or8 n x hn0 (by omega) hx0 hx1)
      clear hn2 hp hit
      go_wp2_with (first
        | ((with_reducible refine xShift (bop := .shl) rfl (.inr rfl) (HSH.out _) ?_ ?_ ?_ ?_); exact rfl; exact rfl; exact rfl)
        | ((with_reducible refine xBits (bop := .or) rfl (.inl rfl) (HOR.out _) ?_ ?_ ?_ ?_); exact rfl; exact rfl; exact rfl))
      go_round
      case rel => exact ⟨i + 1, by omega, by go_num, by rw [HS.out]⟩
      case measure => simp [intOf]; omega
    · have hge : m ≤ i := by omega
      have HT : Hid (t.take i = t) := Lib.hid (List.take_of_length_le (by rw [HXL.out]; exact hge))
      go_wp2_with fail
      go_ret
      refine ⟨?_, HR.out, HM.out⟩
      rw [HXX.out, HT.out]
      rfl
theorem rnum_no {w : World} {rb bb : Nat} {l : List Int} (h : Rd w rb bb l) (m : Nat) (hm : l.length < m) :
    Calls Try.prog 38 #[.pointer (some ⟨rb, 0, none⟩), .int .i64 m] w fun e w' => e = .panicked wrongP ∧ w' = w := by
  have H := Lib.hid (take_no h m (by omega))
  clear h
  go_enter Try.func38, Try.ntmps38
  go_wp2_with fail
  refine H.out.mono ?_
  rintro e w1 ⟨rfl, rfl⟩
  go_wp2_with fail
  exact ⟨rfl, rfl, rfl⟩
/-- What a reading gives: what it reads, and the rest; or it gives up. -/
def Reads {α : Type} (w : World) (rb bb : Nat) (r : Option (α × List Int)) (val : α → Value) (e : Ending) (w' : World) : Prop :=
  match r with
  | some (x, rest) => e = .returned (val x) ∧ Rd w' rb bb rest ∧ Mod [rb] w w'
  | none => e = .panicked wrongP ∧ Mod [rb] w w'
theorem rnum_any {w : World} {rb bb : Nat} {l : List Int} (h : Rd w rb bb l) (hB : Byt l) (m : Nat) (hm8 : m ≤ 8) :
    Calls Try.prog 38 #[.pointer (some ⟨rb, 0, none⟩), .int .i64 m] w (Reads w rb bb (pNum m l) fun n => .int .u64 n) := by
  by_cases hm : m ≤ l.length
  · have e : pNum m l = some (readNum (l.take m), l.drop m) := by
      unfold pNum tk
      rw [if_pos (by omega)]
      simp
    rw [e]
    exact rnum_ok h hB m hm hm8
  · have e : pNum m l = none := by
      unfold pNum tk
      rw [if_neg (by omega)]
      rfl
    rw [e]
    exact (rnum_no h m (by omega)).mono fun e w' ⟨he, hw⟩ => ⟨he, by rw [hw]; exact Mod.refl _ _⟩
theorem take_any {w : World} {rb bb : Nat} {l : List Int} (h : Rd w rb bb l) (n : Int) (h0 : 0 ≤ n) :
    Calls Try.prog 57 #[.pointer (some ⟨rb, 0, none⟩), .int .i64 n] w fun e w' => match tk n l with
      | some (x, rest) => ∃ v, e = .returned v ∧ RdB w' bb v x ∧ Rd w' rb bb rest ∧ Mod [rb] w w'
      | none => e = .panicked wrongP ∧ Mod [rb] w w' := by
  obtain ⟨k, rfl⟩ := Int.eq_ofNat_of_zero_le h0
  by_cases hn : (k : Int) ≤ l.length
  · rw [show tk (k : Int) l = some (l.take k, l.drop k) by unfold tk; rw [if_pos hn]; simp]
    exact take_ok h k (by omega)
  · rw [show tk (k : Int) l = none by unfold tk; rw [if_neg hn]]
    exact (take_no h k (by omega)).mono fun e w' ⟨he, hw⟩ => ⟨he, by rw [hw]; exact Mod.refl _ _⟩
end Go.Proofs.Ytnoookcfacmdkaa
