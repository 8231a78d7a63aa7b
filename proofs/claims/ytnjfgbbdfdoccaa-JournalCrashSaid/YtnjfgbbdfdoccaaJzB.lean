/- The document's journal: superblocks and frames. -/
import Derived.Test.YtnjfgbbdfdoccaaJnF
import Derived.Test.YtnjfgbbdfdoccaaJnN
import Derived.BigQuiet
namespace Go.Proofs.Ytnjfgbbdfdoccaa
open Go.RowKit Go.ChangeMaps
set_option linter.unusedSimpArgs false
set_option linter.unusedVariables false
set_option maxRecDepth 20000

theorem mjHalf_at (n : Int) (h0 : 2 ≤ n) (h1 : n ≤ 65536) (w : World) :
    Calls Try.prog 46 #[.int .i64 n] w fun e w' => e = .returned (.int .i64 (halfP n)) ∧ w = w' := by
  go_enter Try.func46, Try.ntmps46
  go_wp2_with fail
  go_ret
  exact ⟨rfl, rfl⟩
theorem mjBegin_at (n ep : Int) (h0 : 2 ≤ n) (h1 : n ≤ 65536) (e0 : 0 ≤ ep) (e1 : ep ≤ 4294967296) (w : World) :
    Calls Try.prog 47 #[.int .i64 n, .int .i64 ep] w fun e w' => e = .returned (.int .i64 (beginP n ep)) ∧ w = w' := by
  have C := Lib.hid (mjHalf_at n h0 h1 w)
  have hh : 0 ≤ halfP n ∧ halfP n ≤ 32767 := by unfold halfP; omega
  have HE := Lib.hid (show beginP n ep = 2 + (1 - ep % 2) * halfP n from rfl)
  generalize halfP n = hf at C hh HE
  obtain ⟨hh0, hh1⟩ := hh
  obtain ⟨r, hr⟩ : ∃ r, ep % 2 = r := ⟨_, rfl⟩
  have hr0 : r = 0 ∨ r = 1 := by omega
  rw [hr] at HE
  rcases hr0 with rfl | rfl
  · have h2 : (ep % 2 == 1) = false := by rw [hr]; rfl
    go_enter Try.func47, Try.ntmps47
    go_wp2_with fail
    refine C.out.mono ?_
    rintro e w' ⟨rfl, rfl⟩
    go_wp2_with fail
    go_ret
    exact ⟨by rw [HE.out]; simp, rfl⟩
  · have h2 : (ep % 2 == 1) = true := by rw [hr]; rfl
    go_enter Try.func47, Try.ntmps47
    go_wp2_with fail
    go_ret
    exact ⟨by rw [HE.out]; simp, rfl⟩
theorem mjMany_at (n : Nat) (h1 : n ≤ 1099511627776) (w : World) :
    Calls Try.prog 45 #[.int .i64 n] w fun e w' => e = .returned (.int .i64 (manyP n)) ∧ w = w' := by
  have HM := Lib.hid (show manyP n = (n + 81) / 64 from rfl)
  go_enter Try.func45, Try.ntmps45
  go_wp2_with fail
  go_loop [3] (fun s3 => ∃ k : Nat, k ≤ (n + 81) / 64 ∧ s3 = .int .i64 k) (fun s3 => (n + 81) / 64 - (intOf s3).toNat)
  case atStart => exact ⟨0, by omega, rfl⟩
  case round =>
    obtain ⟨k, hk, rfl⟩ := hrel
    by_cases hlt : k < (n + 81) / 64
    · have d1 : decide ((k : Int) * 64 < (n : Int) + 18) = true := decide_eq_true (by omega)
      go_wp2_with fail
      go_round
      case rel => exact ⟨k + 1, by omega, by go_num⟩
      case measure => simp [intOf]; omega
    · have d1 : decide ((k : Int) * 64 < (n : Int) + 18) = false := decide_eq_false (by omega)
      have HK := Lib.hid (show k = manyP n from by have := HM.out; omega)
      go_wp2_with fail
      go_ret
      exact ⟨by rw [← HK.out]; rfl, rfl⟩
theorem mjFour_at (n : Int) (h0 : 0 ≤ n) (h1 : n ≤ 9223372036854775807) (w : World) :
    Calls Try.prog 44 #[.int .i64 n] w fun e w' => e = .returned (.string (strOfNums (fourP n))) ∧ Mod [] w w' := by
  have h := own8_new (E := 5) w (fourP n) w.heap.size (Nat.le_refl _) (by rw [fourP_len]; omega)
  have HCV := Lib.hid (conv_bytes h.row.bytes)
  clear h
  go_enter Try.func44, Try.ntmps44
  go_wp2_with ((with_reducible refine xConvertAt rfl HCV.out ?_ ?_ ?_); exact rfl; exact rfl)
  go_ret
  exact ⟨rfl, (Mod.refl _ _).alloc _⟩
end Go.Proofs.Ytnjfgbbdfdoccaa
namespace Go.Proofs.Ytnjfgbbdfdoccaa
open Go.RowKit Go.ChangeMaps
set_option linter.unusedSimpArgs false
set_option linter.unusedVariables false
set_option maxRecDepth 20000

theorem strs_append (a b : List Int) : strOfNums a ++ strOfNums b = strOfNums (a ++ b) := by
  apply ByteArray.ext
  simp [strOfNums]
theorem strs_len (a : List Int) : (strOfNums a).size = a.length := by simp [strOfNums, ByteArray.size]
theorem strs_get {l : List Int} (hb : IsB l) (i : Nat) (h : i < l.length) (h2 : i < (strOfNums l).size) : (((strOfNums l)[i]'h2).toNat : Int) = l[i] := by
  have := hb l[i] (List.getElem_mem h)
  show ((((strOfNums l).data)[i]'h2).toNat : Int) = l[i]
  simp only [strOfNums, List.getElem_toArray, List.getElem_map]
  rw [UInt8.toNat_ofNat']
  omega
theorem str_index {l : List Int} (hb : IsB l) (i : Nat) (h : i < l.length) (w : World) : (Instr.index 9 (.string (strOfNums l)) (.int .i64 i)).run Try.prog w = .ok (.int .u8 l[i]) w := by
  have hs := strs_len l
  rw [run_index_string w 9 _ .i64 i Try.underlying9, dif_pos (by omega)]
  congr 2
  exact strs_get hb i h (by omega)
theorem xIndexJ {P : Program} {ops : Array Oper} {rest : List Oper} {o : Oper} {a : Act} {w w' : World} {Q : Exit → Act → World → Prop} {v : Value} {t : TypeId} {x i : Operand} {X I : Value} (ho : o.op = .index t x i) (hrun : (Instr.index t X I).run P w = .ok v w') (hx : a.eval x = X) (hi : a.eval i = I)
    (hg : Region.wanted o (yielded ops a.tmps) = true) (h : wpList P ops Q rest (a.put o.dst v) w') : wpList P ops Q (o :: rest) a w := by
  subst hx hi
  exact wpList_val hg (by unfold execOp; rw [ho]; simp [Sem.run_bind, hrun, Result.andThen]) h
theorem made8 (n : Nat) : madeCells #[Value.int .u8 0] n = (bv (List.replicate n 0)).toArray := by
  unfold madeCells bv
  apply Array.ext'
  simp
  refine List.ext_getElem (by simp) fun i h1 h2 => ?_
  simp [Nat.mod_one]
theorem mjPadded_at (l : List Int) (n : Nat) (h : l.length ≤ n) (hn : n ≤ 1073741824) (w : World) :
    Calls Try.prog 40 #[.string (strOfNums l), .int .i64 n] w fun e w' => e = .returned (.string (strOfNums (l ++ List.replicate (n - l.length) 0))) ∧ Mod [] w w' := by
  obtain ⟨m, hm⟩ : ∃ m, n = l.length + m := ⟨n - l.length, by omega⟩
  subst hm
  have hmk := run_make_row' (P := Try.prog) 33 5 (.int .u8 0) 1 Try.underlying33 info5 rfl .i64 .i64 m (by omega) (by omega) w
  rw [made8] at hmk
  rw [show (m : Int) = (l.length : Int) + m - l.length from by omega] at hmk
  have hcv := conv_bytes (bytes_new w (List.replicate m 0) 5)
  rw [List.length_replicate] at hcv
  have HM := Lib.hid hmk
  have HC := Lib.hid hcv
  have HE := Lib.hid (strs_append l (List.replicate m 0))
  have hs := strs_len l
  have ht := strs_len (List.replicate m 0)
  rw [List.length_replicate] at ht
  rw [Nat.add_sub_cancel_left]
  generalize strOfNums (List.replicate m 0) = t at *
  generalize strOfNums l = s at *
  have hsz : ¬ 9223372036854775807 < s.size + t.size := by omega
  clear hmk hcv
  go_enter Try.func40, Try.ntmps40
  go_wp2_with first
    | (refine wpList_makeSlice rfl (t := 33) rfl rfl rfl HM.out ?_)
    | ((with_reducible refine xConvertAt rfl HC.out ?_ ?_ ?_); exact rfl; exact rfl)
  go_ret
  exact ⟨by rw [HE.out]; rfl, (Mod.refl _ _).alloc _⟩
theorem u32_nat (op : BinOp) (f : Nat → Nat → Nat) (a b : Nat) (ha : a < 4294967296) (hb : b < 4294967296) (hx : op = .xor ∧ f = (· ^^^ ·) ∨ op = .and ∧ f = (· &&& ·)) : bits op .u32 (a : Int) (b : Int) = ((f a b : Nat) : Int) := by
  have h1 : (BitVec.ofInt 32 (a : Int)).toNat = a := by
    rw [BitVec.ofInt_natCast, BitVec.toNat_ofNat]; exact Nat.mod_eq_of_lt (by omega)
  have h2 : (BitVec.ofInt 32 (b : Int)).toNat = b := by
    rw [BitVec.ofInt_natCast, BitVec.toNat_ofNat]; exact Nat.mod_eq_of_lt (by omega)
  rcases hx with ⟨rfl, rfl⟩ | ⟨rfl, rfl⟩
  · have hx : a ^^^ b < 2 ^ 32 := Nat.xor_lt_two_pow (by omega) (by omega)
    show IntKind.u32.wrap ((BitVec.ofInt 32 (a : Int) ^^^ BitVec.ofInt 32 (b : Int)).toNat : Int) = _
    rw [BitVec.toNat_xor, h1, h2]
    dsimp only
    show (((_ : Nat) : Int) % 4294967296) = _
    omega
  · have hx : a &&& b < 2 ^ 32 := Nat.and_lt_two_pow _ (by omega)
    show IntKind.u32.wrap ((BitVec.ofInt 32 (a : Int) &&& BitVec.ofInt 32 (b : Int)).toNat : Int) = _
    rw [BitVec.toNat_and, h1, h2]
    dsimp only
    show (((_ : Nat) : Int) % 4294967296) = _
    omega
theorem xor_ones32 (b : Nat) (hb : b < 2 ^ 32) : (2 ^ 32 - 1) ^^^ b = 2 ^ 32 - 1 - b := by
  have h := congrArg BitVec.toNat (BitVec.allOnes_xor (x := BitVec.ofNat 32 b))
  rw [BitVec.toNat_xor, BitVec.toNat_allOnes, BitVec.toNat_not, BitVec.toNat_ofNat, Nat.mod_eq_of_lt hb] at h
  exact h
/-- the document's step -/
def bitD (z : Int) : Int := if z % 2 = 1 then bits .xor .u32 (z / 2) 3988292384 else z / 2
theorem bitD_eq {z : Int} (h : 0 ≤ z ∧ z ≤ 4294967295) : bitD z = bitC z := by
  obtain ⟨n, rfl⟩ := Int.eq_ofNat_of_zero_le h.1
  unfold bitC bitD
  have h1 := u32_nat .and _ n 1 (by omega) (by omega) (.inr ⟨rfl, rfl⟩)
  rw [show ((1 : Nat) : Int) = 1 from rfl] at h1
  rw [h1]
  simp only [Nat.and_one_is_mod]
  have h2 : ((n : Int) / 2) = ((n / 2 : Nat) : Int) := by omega
  by_cases hm : n % 2 = 1
  · rw [if_pos (by omega), hm]; rfl
  · have hm0 : n % 2 = 0 := by omega
    rw [if_neg (by omega), hm0, h2]
    have := u32_nat .xor _ (n / 2) 0 (by omega) (by omega) (.inl ⟨rfl, rfl⟩)
    simp only [Nat.xor_zero] at this
    exact this.symm
theorem sumP_sub (l : List Int) (h : 0 ≤ crcP l ∧ crcP l ≤ 4294967295) : sumP l = 4294967295 - crcP l := by
  unfold sumP
  obtain ⟨n, hn⟩ := Int.eq_ofNat_of_zero_le h.1
  rw [hn] at h ⊢
  have := u32_nat .xor _ 4294967295 n (by omega) (by omega) (.inl ⟨rfl, rfl⟩)
  have h3 := xor_ones32 n (by omega)
  rw [show (2 ^ 32 - 1 : Nat) = 4294967295 from rfl] at h3
  simp only [h3] at this
  rw [show IntKind.u32.max = ((4294967295 : Nat) : Int) from by decide, this]
  omega
set_option maxHeartbeats 4000000 in
theorem mjSum_at (l : List Int) (hl : l.length ≤ 1073741824) (hb : IsB l) (w : World) :
    Calls Try.prog 61 #[.string (strOfNums l)] w fun e w' => e = .returned (.int .i64 (sumP l)) ∧ w = w' := by
  have hs := strs_len l
  have HX := Lib.hid (fun i h => str_index hb i h w)
  have HB := Lib.hid hb
  obtain ⟨n0, hn0⟩ : ∃ n0, l.length = n0 := ⟨_, rfl⟩
  have HN := Lib.hid hn0
  rw [hn0] at hs hl
  generalize strOfNums l = s at hs HX
  clear hb hn0
  go_enter Try.func61, Try.ntmps61
  go_wp2_with fail
  go_loop [3, 4] (fun s3 s4 => ∃ (n : Nat) (x : Int), n ≤ n0 ∧ s4 = .int .i64 n ∧ s3 = .int .u32 x ∧ 0 ≤ x ∧ x ≤ 4294967295 ∧ Hid (x = crcP (l.take n))) (fun _ s4 => n0 - (intOf s4).toNat)
  case atStart => exact ⟨0, 4294967295, by omega, rfl, rfl, by omega, by omega, Lib.hid rfl⟩
  case round =>
    obtain ⟨n, x, hn, rfl, rfl, hx0, hx1, HC⟩ := hrel
    by_cases hlt : n < n0
    · have hlt2 : n < l.length := by rw [HN.out]; exact hlt
      have hbn := HB.out l[n] (List.getElem_mem hlt2)
      have HS := Lib.hid (show byteC x l[n] = crcP (l.take (n + 1)) from by
        rw [List.take_succ_eq_append_getElem hlt2]
        unfold crcP
        rw [List.foldl_append, HC.out]
        rfl)
      have hix := HX.out n hlt2
      generalize l[n] = y at hix hbn HS
      have HIX := Lib.hid hix
      obtain ⟨hb0, hb1⟩ := hbn
      have h3 : decide ((n : Int) < n0) = true := decide_eq_true (by omega)
      obtain ⟨g0, g1⟩ := u32_in .xor x y
      clear hlt2 hix
      go_wp2_with ((with_reducible refine xIndexJ rfl HIX.out ?_ ?_ ?_ ?_); exact rfl; exact rfl; exact rfl)
      go_loop [3, 5] (fun s3 s5 => ∃ (k : Nat) (z : Int), k ≤ 8 ∧ s5 = .int .i64 k ∧ s3 = .int .u32 z ∧ 0 ≤ z ∧ z ≤ 4294967295 ∧ Hid (z = bitsC k (bits .xor .u32 x y))) (fun _ s5 => 8 - (intOf s5).toNat)
      case atStart => exact ⟨0, _, by omega, rfl, rfl, g0, g1, Lib.hid rfl⟩
      case round =>
        obtain ⟨k, z, hk, rfl, rfl, hz0, hz1, HZ⟩ := hrel
        by_cases hlt2 : k < 8
        · have h4 : decide ((k : Int) < 8) = true := decide_eq_true (by omega)
          have HN := Lib.hid (show bitD z = bitsC (k + 1) (bits .xor .u32 x y) from by rw [bitD_eq ⟨hz0, hz1⟩, HZ.out]; rfl)
          have HI := Lib.hid (show 0 ≤ bitD z ∧ bitD z ≤ 4294967295 from by rw [bitD_eq ⟨hz0, hz1⟩]; exact u32_in _ _ _)
          by_cases hodd : z % 2 = 1
          · have HD := Lib.hid (show bitD z = bits .xor .u32 (z / 2) 3988292384 from if_pos hodd)
            go_wp2_with fail
            go_round
            case rel => exact ⟨k + 1, bitD z, by omega, by go_num, by rw [HD.out], HI.out.1, HI.out.2, HN⟩
            case measure => simp [intOf]; omega
          · have HD := Lib.hid (show bitD z = z / 2 from if_neg hodd)
            go_wp2_with fail
            go_round
            case rel => exact ⟨k + 1, bitD z, by omega, by go_num, by rw [HD.out], HI.out.1, HI.out.2, HN⟩
            case measure => simp [intOf]; omega
        · have h4 : decide ((k : Int) < 8) = false := decide_eq_false (by omega)
          obtain rfl : k = 8 := by omega
          have HF := Lib.hid (show z = crcP (l.take (n + 1)) from by rw [HZ.out, ← HS.out]; rfl)
          go_wp2_with fail
          go_round
          case rel => exact ⟨n + 1, z, by omega, by go_num, rfl, hz0, hz1, HF⟩
          case measure => simp [intOf]; omega
    · have h3 : decide ((n : Int) < n0) = false := decide_eq_false (by omega)
      have HF := Lib.hid (show x = crcP l from by rw [HC.out, List.take_of_length_le (by have := HN.out; omega)])
      have HW := Lib.hid (show 4294967295 - x = sumP l from by rw [HF.out, sumP_sub l (by rw [← HF.out]; exact ⟨hx0, hx1⟩)])
      go_wp2_with fail
      go_ret
      exact ⟨by rw [← HW.out]; rfl, rfl⟩
theorem Mod.drewN {w w' : World} {ks : List Nat} (h : Mod ks w w') (n : Nat) : Mod ks w (w'.drewN n) := ⟨h.os, h.tape, h.output, h.size, h.block⟩
theorem drop_getD (l : List Int) (k i : Nat) : (l.drop k).getD i 0 = l.getD (k + i) 0 := by
  simp [List.getD_eq_getElem?_getD, List.getElem?_drop]
set_option maxHeartbeats 2000000 in
theorem mjNumber_at (l : List Int) (k : Nat) (h : k + 4 ≤ l.length) (hk : k ≤ 1099511627776) (hb : IsB l) (w : World) :
    Calls Try.prog 65 #[.string (strOfNums l), .int .i64 k] w fun e w' => e = .returned (.int .i64 (numP (l.drop k))) ∧ Mod [] w w' := by
  have hg : ∀ i : Nat, k + i < l.length → l.getD (k + i) 0 = l.getD (k + i) 0 ∧ 0 ≤ l.getD (k + i) 0 ∧ l.getD (k + i) 0 < 256 ∧ ∀ u : World, (Instr.index 9 (.string (strOfNums l)) (.int .i64 ((k + i : Nat) : Int))).run Try.prog u = .ok (.int .u8 (l.getD (k + i) 0)) u := fun i hi => by
    have e : l.getD (k + i) 0 = l[k + i] := by rw [List.getD_eq_getElem?_getD, List.getElem?_eq_getElem hi]; rfl
    rw [e]
    exact ⟨rfl, (hb _ (List.getElem_mem hi)).1, (hb _ (List.getElem_mem hi)).2, fun u => str_index hb _ hi u⟩
  have HE := Lib.hid (show numP (l.drop k) = l.getD (k + 0) 0 * 16777216 + l.getD (k + 1) 0 * 65536 + l.getD (k + 2) 0 * 256 + l.getD (k + 3) 0 from by
    unfold numP
    rw [drop_getD, drop_getD, drop_getD, drop_getD])
  obtain ⟨_, a0, a1, ax⟩ := hg 0 (by omega)
  obtain ⟨_, b0, b1, bx⟩ := hg 1 (by omega)
  obtain ⟨_, c0, c1, cx⟩ := hg 2 (by omega)
  obtain ⟨_, d0, d1, dx⟩ := hg 3 (by omega)
  have hs := strs_len l
  generalize l.getD (k + 0) 0 = x0 at *
  generalize l.getD (k + 1) 0 = x1 at *
  generalize l.getD (k + 2) 0 = x2 at *
  generalize l.getD (k + 3) 0 = x3 at *
  rw [← hs] at h
  generalize strOfNums l = s at *
  rw [Nat.add_zero] at ax
  have bx : ∀ u : World, (Instr.index 9 (.string s) (.int .i64 ((k : Int) + 1))).run Try.prog u = .ok (.int .u8 x1) u := bx
  have cx : ∀ u : World, (Instr.index 9 (.string s) (.int .i64 ((k : Int) + 2))).run Try.prog u = .ok (.int .u8 x2) u := cx
  have dx : ∀ u : World, (Instr.index 9 (.string s) (.int .i64 ((k : Int) + 3))).run Try.prog u = .ok (.int .u8 x3) u := dx
  clear hg hs
  have wr0 : IntKind.i64.wrap x0 = x0 := IntWalk.i64_in _ (by omega)
  have wr1 : IntKind.i64.wrap x1 = x1 := IntWalk.i64_in _ (by omega)
  have wr2 : IntKind.i64.wrap x2 = x2 := IntWalk.i64_in _ (by omega)
  have wr3 : IntKind.i64.wrap x3 = x3 := IntWalk.i64_in _ (by omega)
  have wr4 : IntKind.i64.wrap (x0 * 16777216) = (x0 * 16777216) := IntWalk.i64_in _ (by omega)
  have wr5 : IntKind.i64.wrap (x1 * 65536) = (x1 * 65536) := IntWalk.i64_in _ (by omega)
  have wr6 : IntKind.i64.wrap (x2 * 256) = (x2 * 256) := IntWalk.i64_in _ (by omega)
  have wr7 : IntKind.i64.wrap (x0 * 16777216 + x1 * 65536) = (x0 * 16777216 + x1 * 65536) := IntWalk.i64_in _ (by omega)
  have wr8 : IntKind.i64.wrap (x0 * 16777216 + x1 * 65536 + x2 * 256) = (x0 * 16777216 + x1 * 65536 + x2 * 256) := IntWalk.i64_in _ (by omega)
  have wr9 : IntKind.i64.wrap (x0 * 16777216 + x1 * 65536 + x2 * 256 + x3) = (x0 * 16777216 + x1 * 65536 + x2 * 256 + x3) := IntWalk.i64_in _ (by omega)
  have wr10 : IntKind.i64.wrap ((k : Int) + 1) = ((k : Int) + 1) := IntWalk.i64_in _ (by omega)
  have wr11 : IntKind.i64.wrap ((k : Int) + 2) = ((k : Int) + 2) := IntWalk.i64_in _ (by omega)
  have wr12 : IntKind.i64.wrap ((k : Int) + 3) = ((k : Int) + 3) := IntWalk.i64_in _ (by omega)
  go_enter Try.func65, Try.ntmps65
  go_wp2_with fail
  go_quiet (fail)
  go_wp2_with fail
  go_ret
  exact ⟨by rw [HE.out]; rfl, Mod.drewN (Mod.refl _ _) _⟩
end Go.Proofs.Ytnjfgbbdfdoccaa
namespace Go.Proofs.Ytnjfgbbdfdoccaa
open Go.RowKit Go.ChangeMaps
set_option linter.unusedSimpArgs false
set_option linter.unusedVariables false
set_option maxRecDepth 20000

set_option maxHeartbeats 2000000 in
theorem mjSuper_at (ep : Int) (h0 : 0 ≤ ep) (h1 : ep ≤ 4294967296) (w : World) :
    Calls Try.prog 42 #[.int .i64 ep] w fun e w' => e = .returned (.string (strOfNums (superP ep))) ∧ Mod [] w w' := by
  have C1 := Lib.hid (mjFour_at ep h0 (by omega) w)
  have HE := Lib.hid (show (⟨#[165]⟩ : ByteArray) ++ strOfNums (fourP ep) = strOfNums (165 :: fourP ep) from strs_append [165] (fourP ep))
  have hz : ∀ (a b : ByteArray), a.size ≤ 1000 → b.size ≤ 1000 → ¬ 9223372036854775807 < a.size + b.size := fun a b _ _ => by omega
  have l1 : (strOfNums (fourP ep)).size = 4 := strs_len _
  have hs1 := hz ⟨#[165]⟩ (strOfNums (fourP ep)) (by decide) (by omega)
  have hb := superH_isB ep
  have HS := Lib.hid (show superP ep = superH ep ++ fourP (sumP (superH ep)) from rfl)
  have HP : (165 :: fourP ep) ++ List.replicate (60 - (165 :: fourP ep).length) 0 = superH ep := rfl
  have HQ := Lib.hid HP
  clear HP
  go_enter Try.func42, Try.ntmps42
  go_wp2_with fail
  refine C1.out.mono ?_
  rintro e w1 ⟨rfl, m1⟩
  have C2 := Lib.hid (mjPadded_at (165 :: fourP ep) 60 (by show (5 : Nat) ≤ 60; omega) (by omega) w1)
  rw [HQ.out] at C2
  have HM := Lib.hid m1
  clear m1 C1
  generalize strOfNums (fourP ep) = s1 at *
  go_wp2_with fail
  rw [HE.out]
  refine C2.out.mono ?_
  rintro e w2 ⟨rfl, m2⟩
  have HM := Lib.hid (HM.out.trans m2)
  have C3 := Lib.hid (mjSum_at (superH ep) (by show (60 : Nat) ≤ _; omega) hb w2)
  have hv := sumP_in (superH ep)
  clear m2 C2 hs1 l1
  go_wp2_with fail
  refine C3.out.mono ?_
  rintro e w3 ⟨rfl, rfl⟩
  have C4 := Lib.hid (mjFour_at (sumP (superH ep)) hv.1 (by omega) w2)
  have HE2 := Lib.hid (strs_append (superH ep) (fourP (sumP (superH ep))))
  have l1 : (strOfNums (superH ep)).size = 60 := strs_len _
  have l2 : (strOfNums (fourP (sumP (superH ep)))).size = 4 := strs_len _
  have hs1 := hz _ _ (show (strOfNums (superH ep)).size ≤ 1000 by omega) (show (strOfNums (fourP (sumP (superH ep)))).size ≤ 1000 by omega)
  generalize strOfNums (superH ep) = s2 at *
  generalize sumP (superH ep) = sm at *
  generalize strOfNums (fourP sm) = s3 at *
  clear C3
  go_wp2_with fail
  refine C4.out.mono ?_
  rintro e w4 ⟨rfl, m4⟩
  have HM := Lib.hid (HM.out.trans m4)
  clear m4 C4
  go_wp2_with fail
  go_ret
  exact ⟨by rw [HS.out, ← HE2.out]; rfl, HM.out⟩
theorem frameB_is (kind ep n : Int) (own : List Int) : strOfNums [199] ++ strOfNums [kind] ++ strOfNums (fourP ep) ++ strOfNums (fourP n) ++ strOfNums (fourP own.length) ++ strOfNums own = strOfNums (frameB kind ep n own) := by
  simp only [strs_append]
  unfold frameB
  simp
set_option maxHeartbeats 8000000 in
theorem mjFrame_at (kind ep n : Int) (own : List Int) (hl : own.length ≤ 134217728) (ho : IsB own) (hk : 0 ≤ kind ∧ kind < 256) (he : 0 ≤ ep ∧ ep ≤ 4294967296) (hn : 0 ≤ n ∧ n ≤ 4294967296) (w : World) :
    Calls Try.prog 49 #[.int .i64 kind, .int .i64 ep, .int .i64 n, .string (strOfNums own)] w fun e w' => e = .returned (.string (strOfNums (frameP kind ep n own))) ∧ Mod [] w w' := by
  obtain ⟨hk0, hk1⟩ := hk
  have hwk : IntKind.u8.wrap kind = kind := by simp [IntKind.wrap, IntKind.signed, IntKind.bits]; omega
  have F1 : ∀ u : World, Calls Try.prog 44 #[.int .i64 ep] u fun e w' => e = .returned (.string (strOfNums (fourP ep))) ∧ Mod [] u w' := fun u => mjFour_at ep he.1 (by omega) u
  have F2 : ∀ u : World, Calls Try.prog 44 #[.int .i64 n] u fun e w' => e = .returned (.string (strOfNums (fourP n))) ∧ Mod [] u w' := fun u => mjFour_at n hn.1 (by omega) u
  have F3 : ∀ u : World, Calls Try.prog 44 #[.int .i64 own.length] u fun e w' => e = .returned (.string (strOfNums (fourP own.length))) ∧ Mod [] u w' := fun u => mjFour_at own.length (by omega) (by omega) u
  have HB := Lib.hid (frameB_is kind ep n own)
  have z1 : (strOfNums [kind]).size = 1 := strs_len _
  have z2 : (strOfNums (fourP ep)).size = 4 := strs_len _
  have z3 : (strOfNums (fourP n)).size = 4 := strs_len _
  have z4 : (strOfNums (fourP own.length)).size = 4 := strs_len _
  have z5 : (strOfNums own).size = own.length := strs_len _
  have z0 : (strOfNums [199]).size = 1 := strs_len _
  have hs1 : ¬ 9223372036854775807 < (strOfNums [199]).size + (strOfNums [kind]).size := by omega
  have hs2 : ¬ 9223372036854775807 < (strOfNums [199] ++ strOfNums [kind]).size + (strOfNums (fourP ep)).size := by rw [ByteArray.size_append]; omega
  have hs3 : ¬ 9223372036854775807 < (strOfNums [199] ++ strOfNums [kind] ++ strOfNums (fourP ep)).size + (strOfNums (fourP n)).size := by rw [ByteArray.size_append, ByteArray.size_append]; omega
  have hs4 : ¬ 9223372036854775807 < (strOfNums [199] ++ strOfNums [kind] ++ strOfNums (fourP ep) ++ strOfNums (fourP n)).size + (strOfNums (fourP own.length)).size := by rw [ByteArray.size_append, ByteArray.size_append, ByteArray.size_append]; omega
  have hs5 : ¬ 9223372036854775807 < (strOfNums [199] ++ strOfNums [kind] ++ strOfNums (fourP ep) ++ strOfNums (fourP n) ++ strOfNums (fourP own.length)).size + (strOfNums own).size := by rw [ByteArray.size_append, ByteArray.size_append, ByteArray.size_append, ByteArray.size_append]; omega
  have HR : ∀ (u : World) (b : Nat), u.heap[b]? = some (.cells #[.int .u8 kind] 5 (0, 0)) → (convert 33 9 (.slice (some ⟨b, 0, none⟩) 1 1)).run Try.prog u = .ok (.string (strOfNums [kind])) u := fun u b hb => conv_bytes (row_litJ (enc := enc8) (l := [kind]) hb rfl rfl).bytes
  have HSUM := Lib.hid (show ∀ u, Calls Try.prog 61 #[.string (strOfNums (frameB kind ep n own))] u fun e w' => e = .returned (.int .i64 (sumP (frameB kind ep n own))) ∧ u = w' from fun u => mjSum_at _ (by rw [frameB_len]; omega) (frameB_isB ⟨hk0, hk1⟩ ho) u)
  have HS := sumP_in (frameB kind ep n own)
  have HMANY := Lib.hid (show ∀ u, Calls Try.prog 45 #[.int .i64 own.length] u fun e w' => e = .returned (.int .i64 (manyP own.length)) ∧ u = w' from fun u => mjMany_at own.length (by omega) u)
  have hmz : manyP own.length * 64 ≤ 1073741824 ∧ own.length + 18 ≤ manyP own.length * 64 := by unfold manyP; omega
  have HF := Lib.hid (show frameP kind ep n own = frameC kind ep n own ++ List.replicate (manyP own.length * 64 - (frameC kind ep n own).length) 0 from by rw [frameC_len]; rfl)
  have HC := Lib.hid (show frameC kind ep n own = frameB kind ep n own ++ fourP (sumP (frameB kind ep n own)) from rfl)
  have z6 : (strOfNums (frameB kind ep n own)).size = own.length + 14 := by rw [strs_len, frameB_len]
  have HCL := Lib.hid (frameC_len kind ep n own)
  have HK := Lib.hid (show (⟨#[199]⟩ : ByteArray) = strOfNums [199] from rfl)
  have F1 := Lib.hid F1
  have F2 := Lib.hid F2
  have F3 := Lib.hid F3
  have HR := Lib.hid HR
  clear ho he hn
  generalize strOfNums [kind] = t1 at *
  generalize strOfNums (fourP ep) = t2 at *
  generalize strOfNums (fourP n) = t3 at *
  generalize strOfNums (fourP own.length) = t4 at *
  generalize strOfNums own = t5 at *
  generalize strOfNums [199] = t0 at *
  go_enter Try.func49, Try.ntmps49
  go_upto_region 1 with fail
  go_cut [9] from 10 to 26 (fun s9 wx => s9 = .string (t0 ++ t1 ++ t2 ++ t3 ++ t4 ++ t5) ∧ Hid (Mod [] w wx))
  case first =>
    rw [HK.out]
    refine wp_sched (by kernel_rfl) (sched_either 2 6 (by decide) (sched_plan1 [([0, 5, 8, 11, 15, 1, 12], 2, [12]), ([3, 4], 6, [12, 3, 4]), ([7], 9, [12, 3, 4, 7]), ([10], 13, [3, 4, 7, 10])] [14, 16, 17] (by kernel_rfl) ?L1) (sched_either 2 9 (by decide) (sched_plan2 [([0, 5, 8, 11, 15, 1, 12], 6, [1, 12]), ([], 2, [12]), ([3, 4, 7], 9, [12, 3, 4, 7]), ([10], 13, [3, 4, 7, 10])] [14, 16, 17] (by kernel_rfl) ?L2) (sched_either 2 13 (by decide) (sched_plan3 [([0, 5, 8, 11, 15, 1, 12], 6, [1, 12]), ([], 9, [1, 12]), ([], 2, [12]), ([3, 4, 7, 10], 13, [3, 4, 7, 10])] [14, 16, 17] (by kernel_rfl) ?L3) (sched_plan3 [([0, 5, 8, 11, 15, 1, 12], 6, [1, 12]), ([], 9, [1, 12]), ([], 13, [1]), ([], 2, [12])] [3, 4, 7, 10, 14, 16, 17] (by kernel_rfl) ?L4))))
    case L1 =>
      simp only [wpSegs, opsOf, List.map_cons, List.map_nil, opN, List.getD_cons_zero, List.getD_cons_succ]
      obtain ⟨W0, hW0, mW0⟩ : ∃ D, w.drew = D ∧ Mod [] w D := ⟨_, rfl, (Mod.refl [] w).drew⟩
      rw [hW0]
      have HM := Lib.hid mW0
      clear hW0 mW0
      go_wp2_with fail
      refine ⟨by first | trivial | rfl, ?_⟩
      obtain ⟨W1, hAl, kA, zA, mA⟩ := alloc_named2 W0 (.cells #[.int .u8 kind] 5)
      obtain ⟨g, hg⟩ : ∃ g, W0.heap.size = g := ⟨_, rfl⟩
      rw [hg] at kA
      have cv := HR.out _ _ kA
      have HM := Lib.hid (HM.out.trans mA)
      have HK2 := Lib.hid kA
      go_wp2_with fail
      try rw [hg]
      try rw [hAl]
      clear hAl kA zA mA hg
      refine ⟨?ag0, ?_⟩
      case ag0 =>
        intro i hi hw
        simp only [List.mem_cons, List.not_mem_nil, or_false] at hi
        subst hi
        all_goals (simp only [opN, List.getD_cons_zero, List.getD_cons_succ, slotOf]; go_simp)
      go_wp2_with fail
      refine ⟨by first | trivial | rfl, ?_⟩
      go_wp2_with fail
      refine (F1.out _).mono ?_
      rintro e W2 ⟨rfl, mA⟩
      have HM := Lib.hid (HM.out.trans mA)
      have kA := mA.heap HK2.out (by simp)
      have cv := HR.out _ _ kA
      have HK2 := Lib.hid kA
      clear kA
      clear mA
      go_wp2_with fail
      refine ⟨?ag1, ?_⟩
      case ag1 =>
        intro i hi hw
        simp only [List.mem_cons, List.not_mem_nil, or_false] at hi
        rcases hi with rfl | rfl | rfl
        all_goals (simp only [opN, List.getD_cons_zero, List.getD_cons_succ, slotOf]; go_simp)
      go_wp2_with fail
      refine ⟨by first | trivial | rfl, ?_⟩
      go_wp2_with fail
      refine (F2.out _).mono ?_
      rintro e W3 ⟨rfl, mA⟩
      have HM := Lib.hid (HM.out.trans mA)
      have kA := mA.heap HK2.out (by simp)
      have cv := HR.out _ _ kA
      have HK2 := Lib.hid kA
      clear kA
      clear mA
      go_wp2_with fail
      refine ⟨?ag2, ?_⟩
      case ag2 =>
        intro i hi hw
        simp only [List.mem_cons, List.not_mem_nil, or_false] at hi
        rcases hi with rfl | rfl | rfl | rfl
        all_goals (simp only [opN, List.getD_cons_zero, List.getD_cons_succ, slotOf]; go_simp)
      go_wp2_with fail
      refine ⟨by first | trivial | rfl, ?_⟩
      go_wp2_with fail
      refine (F3.out _).mono ?_
      rintro e W4 ⟨rfl, mA⟩
      have HM := Lib.hid (HM.out.trans mA)
      have kA := mA.heap HK2.out (by simp)
      have cv := HR.out _ _ kA
      have HK2 := Lib.hid kA
      clear kA
      clear mA
      go_wp2_with fail
      refine ⟨?ag3, ?_⟩
      case ag3 =>
        intro i hi hw
        simp only [List.mem_cons, List.not_mem_nil, or_false] at hi
        rcases hi with rfl | rfl | rfl | rfl
        all_goals (simp only [opN, List.getD_cons_zero, List.getD_cons_succ, slotOf]; go_simp)
      go_wp2_with fail
      refine ⟨by first | trivial | rfl, ?_⟩
      go_wp2_with fail
      go_meet
      case rel => exact ⟨rfl, HM⟩
    case L2 =>
      simp only [wpSegs, opsOf, List.map_cons, List.map_nil, opN, List.getD_cons_zero, List.getD_cons_succ]
      obtain ⟨W0, hW0, mW0⟩ : ∃ D, w.drew = D ∧ Mod [] w D := ⟨_, rfl, (Mod.refl [] w).drew⟩
      rw [hW0]
      have HM := Lib.hid mW0
      clear hW0 mW0
      go_wp2_with fail
      refine ⟨by first | trivial | rfl, ?_⟩
      go_wp2_with fail
      refine (F1.out _).mono ?_
      rintro e W1 ⟨rfl, mA⟩
      have HM := Lib.hid (HM.out.trans mA)
      clear mA
      go_wp2_with fail
      refine ⟨?ag0, ?_⟩
      case ag0 =>
        intro i hi hw
        simp only [List.mem_cons, List.not_mem_nil, or_false] at hi
        rcases hi with rfl | rfl
        all_goals (simp only [opN, List.getD_cons_zero, List.getD_cons_succ, slotOf]; go_simp)
      go_wp2_with fail
      refine ⟨by first | trivial | rfl, ?_⟩
      obtain ⟨W2, hAl, kA, zA, mA⟩ := alloc_named2 W1 (.cells #[.int .u8 kind] 5)
      obtain ⟨g, hg⟩ : ∃ g, W1.heap.size = g := ⟨_, rfl⟩
      rw [hg] at kA
      have cv := HR.out _ _ kA
      have HM := Lib.hid (HM.out.trans mA)
      have HK2 := Lib.hid kA
      go_wp2_with fail
      try rw [hg]
      try rw [hAl]
      clear hAl kA zA mA hg
      refine ⟨?ag1, ?_⟩
      case ag1 =>
        intro i hi hw
        simp only [List.mem_cons, List.not_mem_nil, or_false] at hi
        subst hi
        all_goals (simp only [opN, List.getD_cons_zero, List.getD_cons_succ, slotOf]; go_simp)
      go_wp2_with fail
      refine ⟨by first | trivial | rfl, ?_⟩
      go_wp2_with fail
      refine (F2.out _).mono ?_
      rintro e W3 ⟨rfl, mA⟩
      have HM := Lib.hid (HM.out.trans mA)
      have kA := mA.heap HK2.out (by simp)
      have cv := HR.out _ _ kA
      have HK2 := Lib.hid kA
      clear kA
      clear mA
      go_wp2_with fail
      refine ⟨?ag2, ?_⟩
      case ag2 =>
        intro i hi hw
        simp only [List.mem_cons, List.not_mem_nil, or_false] at hi
        rcases hi with rfl | rfl | rfl | rfl
        all_goals (simp only [opN, List.getD_cons_zero, List.getD_cons_succ, slotOf]; go_simp)
      go_wp2_with fail
      refine ⟨by first | trivial | rfl, ?_⟩
      go_wp2_with fail
      refine (F3.out _).mono ?_
      rintro e W4 ⟨rfl, mA⟩
      have HM := Lib.hid (HM.out.trans mA)
      have kA := mA.heap HK2.out (by simp)
      have cv := HR.out _ _ kA
      have HK2 := Lib.hid kA
      clear kA
      clear mA
      go_wp2_with fail
      refine ⟨?ag3, ?_⟩
      case ag3 =>
        intro i hi hw
        simp only [List.mem_cons, List.not_mem_nil, or_false] at hi
        rcases hi with rfl | rfl | rfl | rfl
        all_goals (simp only [opN, List.getD_cons_zero, List.getD_cons_succ, slotOf]; go_simp)
      go_wp2_with fail
      refine ⟨by first | trivial | rfl, ?_⟩
      go_wp2_with fail
      go_meet
      case rel => exact ⟨rfl, HM⟩
    case L3 =>
      simp only [wpSegs, opsOf, List.map_cons, List.map_nil, opN, List.getD_cons_zero, List.getD_cons_succ]
      obtain ⟨W0, hW0, mW0⟩ : ∃ D, w.drew = D ∧ Mod [] w D := ⟨_, rfl, (Mod.refl [] w).drew⟩
      rw [hW0]
      have HM := Lib.hid mW0
      clear hW0 mW0
      go_wp2_with fail
      refine ⟨by first | trivial | rfl, ?_⟩
      go_wp2_with fail
      refine (F1.out _).mono ?_
      rintro e W1 ⟨rfl, mA⟩
      have HM := Lib.hid (HM.out.trans mA)
      clear mA
      go_wp2_with fail
      refine ⟨?ag0, ?_⟩
      case ag0 =>
        intro i hi hw
        simp only [List.mem_cons, List.not_mem_nil, or_false] at hi
        rcases hi with rfl | rfl
        all_goals (simp only [opN, List.getD_cons_zero, List.getD_cons_succ, slotOf]; go_simp)
      go_wp2_with fail
      refine ⟨by first | trivial | rfl, ?_⟩
      go_wp2_with fail
      refine (F2.out _).mono ?_
      rintro e W2 ⟨rfl, mA⟩
      have HM := Lib.hid (HM.out.trans mA)
      clear mA
      go_wp2_with fail
      refine ⟨?ag1, ?_⟩
      case ag1 =>
        intro i hi hw
        simp only [List.mem_cons, List.not_mem_nil, or_false] at hi
        rcases hi with rfl | rfl
        all_goals (simp only [opN, List.getD_cons_zero, List.getD_cons_succ, slotOf]; go_simp)
      go_wp2_with fail
      refine ⟨by first | trivial | rfl, ?_⟩
      obtain ⟨W3, hAl, kA, zA, mA⟩ := alloc_named2 W2 (.cells #[.int .u8 kind] 5)
      obtain ⟨g, hg⟩ : ∃ g, W2.heap.size = g := ⟨_, rfl⟩
      rw [hg] at kA
      have cv := HR.out _ _ kA
      have HM := Lib.hid (HM.out.trans mA)
      have HK2 := Lib.hid kA
      go_wp2_with fail
      try rw [hg]
      try rw [hAl]
      clear hAl kA zA mA hg
      refine ⟨?ag2, ?_⟩
      case ag2 =>
        intro i hi hw
        simp only [List.mem_cons, List.not_mem_nil, or_false] at hi
        subst hi
        all_goals (simp only [opN, List.getD_cons_zero, List.getD_cons_succ, slotOf]; go_simp)
      go_wp2_with fail
      refine ⟨by first | trivial | rfl, ?_⟩
      go_wp2_with fail
      refine (F3.out _).mono ?_
      rintro e W4 ⟨rfl, mA⟩
      have HM := Lib.hid (HM.out.trans mA)
      have kA := mA.heap HK2.out (by simp)
      have cv := HR.out _ _ kA
      have HK2 := Lib.hid kA
      clear kA
      clear mA
      go_wp2_with fail
      refine ⟨?ag3, ?_⟩
      case ag3 =>
        intro i hi hw
        simp only [List.mem_cons, List.not_mem_nil, or_false] at hi
        rcases hi with rfl | rfl | rfl | rfl
        all_goals (simp only [opN, List.getD_cons_zero, List.getD_cons_succ, slotOf]; go_simp)
      go_wp2_with fail
      refine ⟨by first | trivial | rfl, ?_⟩
      go_wp2_with fail
      go_meet
      case rel => exact ⟨rfl, HM⟩
    case L4 =>
      simp only [wpSegs, opsOf, List.map_cons, List.map_nil, opN, List.getD_cons_zero, List.getD_cons_succ]
      obtain ⟨W0, hW0, mW0⟩ : ∃ D, w.drew = D ∧ Mod [] w D := ⟨_, rfl, (Mod.refl [] w).drew⟩
      rw [hW0]
      have HM := Lib.hid mW0
      clear hW0 mW0
      go_wp2_with fail
      refine ⟨by first | trivial | rfl, ?_⟩
      go_wp2_with fail
      refine (F1.out _).mono ?_
      rintro e W1 ⟨rfl, mA⟩
      have HM := Lib.hid (HM.out.trans mA)
      clear mA
      go_wp2_with fail
      refine ⟨?ag0, ?_⟩
      case ag0 =>
        intro i hi hw
        simp only [List.mem_cons, List.not_mem_nil, or_false] at hi
        rcases hi with rfl | rfl
        all_goals (simp only [opN, List.getD_cons_zero, List.getD_cons_succ, slotOf]; go_simp)
      go_wp2_with fail
      refine ⟨by first | trivial | rfl, ?_⟩
      go_wp2_with fail
      refine (F2.out _).mono ?_
      rintro e W2 ⟨rfl, mA⟩
      have HM := Lib.hid (HM.out.trans mA)
      clear mA
      go_wp2_with fail
      refine ⟨?ag1, ?_⟩
      case ag1 =>
        intro i hi hw
        simp only [List.mem_cons, List.not_mem_nil, or_false] at hi
        rcases hi with rfl | rfl
        all_goals (simp only [opN, List.getD_cons_zero, List.getD_cons_succ, slotOf]; go_simp)
      go_wp2_with fail
      refine ⟨by first | trivial | rfl, ?_⟩
      go_wp2_with fail
      refine (F3.out _).mono ?_
      rintro e W3 ⟨rfl, mA⟩
      have HM := Lib.hid (HM.out.trans mA)
      clear mA
      go_wp2_with fail
      refine ⟨?ag2, ?_⟩
      case ag2 =>
        intro i hi hw
        simp only [List.mem_cons, List.not_mem_nil, or_false] at hi
        subst hi
        all_goals (simp only [opN, List.getD_cons_zero, List.getD_cons_succ, slotOf]; go_simp)
      go_wp2_with fail
      refine ⟨by first | trivial | rfl, ?_⟩
      obtain ⟨W4, hAl, kA, zA, mA⟩ := alloc_named2 W3 (.cells #[.int .u8 kind] 5)
      obtain ⟨g, hg⟩ : ∃ g, W3.heap.size = g := ⟨_, rfl⟩
      rw [hg] at kA
      have cv := HR.out _ _ kA
      have HM := Lib.hid (HM.out.trans mA)
      have HK2 := Lib.hid kA
      go_wp2_with fail
      try rw [hg]
      try rw [hAl]
      clear hAl kA zA mA hg
      refine ⟨?ag3, ?_⟩
      case ag3 =>
        intro i hi hw
        simp only [List.mem_cons, List.not_mem_nil, or_false] at hi
        subst hi
        all_goals (simp only [opN, List.getD_cons_zero, List.getD_cons_succ, slotOf]; go_simp)
      go_wp2_with fail
      refine ⟨by first | trivial | rfl, ?_⟩
      go_wp2_with fail
      go_meet
      case rel => exact ⟨rfl, HM⟩
  case rest =>
    obtain ⟨rfl, HM⟩ := hcut
    rw [HB.out]
    generalize hFB : frameB kind ep n own = FB at *
    go_wp2_with fail
    refine (HSUM.out _).mono ?_
    rintro e w1 ⟨rfl, rfl⟩
    have F4 := Lib.hid (mjFour_at (sumP FB) HS.1 (by omega) wc)
    have HE2 := Lib.hid ((strs_append FB (fourP (sumP FB))).trans (congrArg strOfNums HC.out.symm))
    have z7 : (strOfNums (fourP (sumP FB))).size = 4 := strs_len _
    have hs6 : ¬ 9223372036854775807 < (strOfNums FB).size + (strOfNums (fourP (sumP FB))).size := by omega
    have HP := Lib.hid (show ∀ u, Calls Try.prog 40 #[.string (strOfNums (frameC kind ep n own)), .int .i64 ((manyP own.length : Int) * 64)] u fun e w' => e = .returned (.string (strOfNums (frameP kind ep n own))) ∧ Mod [] u w' from fun u => by
      have hp := mjPadded_at (frameC kind ep n own) (manyP own.length * 64) (by rw [HCL.out]; exact hmz.2) hmz.1 u
      rw [← HF.out, Int.natCast_mul] at hp
      exact hp)
    clear HSUM HB
    generalize sumP FB = sm at *
    generalize strOfNums (fourP sm) = t6 at *
    generalize strOfNums FB = t7 at *
    generalize manyP own.length = M at *
    generalize strOfNums (frameC kind ep n own) = t8 at *
    go_wp2_with fail
    refine F4.out.mono ?_
    rintro e w1 ⟨rfl, m1⟩
    have HM := Lib.hid (HM.out.trans m1)
    clear m1 F4
    go_wp2_with fail
    refine (HMANY.out _).mono ?_
    rintro e w2 ⟨rfl, rfl⟩
    go_wp2_with fail
    rw [HE2.out]
    refine (HP.out _).mono ?_
    rintro e w3 ⟨rfl, m1⟩
    have HM := Lib.hid (HM.out.trans m1)
    clear m1
    go_wp2_with fail
    go_ret
    exact ⟨rfl, HM.out⟩
end Go.Proofs.Ytnjfgbbdfdoccaa
