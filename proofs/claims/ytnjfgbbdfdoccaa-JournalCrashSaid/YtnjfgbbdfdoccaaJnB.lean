/- The sum of bytes: the program's. -/
import Derived.Laws.Closers25b
import Derived.Test.YtnjfgbbdfdoccaaJnA
namespace Go.Proofs.Ytnjfgbbdfdoccaa
open Go.RowKit Go.ChangeMaps
set_option linter.unusedSimpArgs false
set_option linter.unusedVariables false
set_option maxRecDepth 20000

/-- one bit, one byte, all bytes -/
def bitC (z : Int) : Int := bits .xor .u32 (z / 2) (3988292384 * bits .and .u32 z 1 % 4294967296)
def bitsC : Nat → Int → Int
  | 0, z => z
  | k + 1, z => bitC (bitsC k z)
def byteC (x y : Int) : Int := bitsC 8 (bits .xor .u32 x y)
def crcP (l : List Int) : Int := l.foldl byteC 4294967295
def sumP (l : List Int) : Int := bits .xor .u32 IntKind.u32.max (crcP l)
theorem u32_in (op : BinOp) (a b : Int) : 0 ≤ bits op .u32 a b ∧ bits op .u32 a b ≤ 4294967295 := ⟨bits_lo_u32 op a b, bits_hi_u32 op a b⟩
theorem bitsC_in (k : Nat) (z : Int) (h : 0 ≤ z ∧ z ≤ 4294967295) : 0 ≤ bitsC k z ∧ bitsC k z ≤ 4294967295 := by
  cases k with
  | zero => exact h
  | succ k =>
    unfold bitsC bitC
    exact u32_in _ _ _
theorem sumP_in (l : List Int) : 0 ≤ sumP l ∧ sumP l ≤ 4294967295 := u32_in _ _ _
set_option maxHeartbeats 4000000 in
theorem jSum_at {w : World} {v : Value} {l : List Int} (h : RowAt enc8 w v l) (hl : l.length ≤ 1073741824) (hb : ∀ x ∈ l, 0 ≤ x ∧ x < 256) :
    Calls Try.prog 59 #[v] w fun e w' => e = .returned (.int .i64 (sumP l)) ∧ w = w' := by
  obtain ⟨a, c, rfl⟩ := h.form
  have H := Lib.hid h
  have HB := Lib.hid hb
  clear h hb
  go_enter Try.func59, Try.ntmps59
  go_wp2_with fail
  go_loop [3, 8] (fun s3 s8 => ∃ (n : Nat) (x : Int), n ≤ l.length ∧ s8 = .int .i64 n ∧ s3 = .int .u32 x ∧ 0 ≤ x ∧ x ≤ 4294967295 ∧ Hid (x = crcP (l.take n))) (fun _ s8 => l.length - (intOf s8).toNat)
  case atStart => exact ⟨0, 4294967295, by omega, rfl, rfl, by omega, by omega, Lib.hid rfl⟩
  case round =>
    obtain ⟨n, x, hn, rfl, rfl, hx0, hx1, HX⟩ := hrel
    by_cases hlt : n < l.length
    · obtain ⟨b, o, heq, hc, hg⟩ := RowAt.get enc8_len H.out (i := n) hlt
      cases heq
      have p0 := hg 0 (.int .u8 l[n]) (by omega) rfl
      simp only [Nat.mul_one, Nat.add_zero] at p0
      have hbn := HB.out l[n] (List.getElem_mem hlt)
      have HS := Lib.hid (show byteC x l[n] = crcP (l.take (n + 1)) from by
        rw [List.take_succ_eq_append_getElem hlt]
        unfold crcP
        rw [List.foldl_append, HX.out]
        rfl)
      generalize l[n] = y at p0 hbn HS
      obtain ⟨hb0, hb1⟩ := hbn
      clear hg
      have h1 : decide ((n : Int) < 0) = false := decide_eq_false (by omega)
      have h2 : decide ((l.length : Int) ≤ n) = false := decide_eq_false (by omega)
      have h3 : decide ((n : Int) < l.length) = true := decide_eq_true (by omega)
      obtain ⟨g0, g1⟩ := u32_in .xor x y
      go_wp2_with fail
      go_loop [3, 16] (fun s3 s16 => ∃ (k : Nat) (z : Int), k ≤ 8 ∧ s16 = .int .i64 k ∧ s3 = .int .u32 z ∧ 0 ≤ z ∧ z ≤ 4294967295 ∧ Hid (z = bitsC k (bits .xor .u32 x y))) (fun _ s16 => 8 - (intOf s16).toNat)
      case atStart => exact ⟨0, _, by omega, rfl, rfl, g0, g1, Lib.hid rfl⟩
      case round =>
        obtain ⟨k, z, hk, rfl, rfl, hz0, hz1, HZ⟩ := hrel
        by_cases hlt2 : k < 8
        · have h4 : decide ((k : Int) < 8) = true := decide_eq_true (by omega)
          have HN := Lib.hid (show bitC z = bitsC (k + 1) (bits .xor .u32 x y) from by rw [HZ.out]; rfl)
          have HI := Lib.hid (show 0 ≤ bitC z ∧ bitC z ≤ 4294967295 from u32_in _ _ _)
          go_wp2_with fail
          go_round
          case rel => exact ⟨k + 1, bitC z, by omega, by go_num, rfl, HI.out.1, HI.out.2, HN⟩
          case measure => simp [intOf]; omega
        · have h4 : decide ((k : Int) < 8) = false := decide_eq_false (by omega)
          obtain rfl : k = 8 := by omega
          have HF := Lib.hid (show z = crcP (l.take (n + 1)) from by rw [HZ.out, ← HS.out]; rfl)
          go_wp2_with fail
          go_round
          case rel => exact ⟨n + 1, z, by omega, by go_num, rfl, hz0, hz1, HF⟩
          case measure => simp [intOf]; omega
    · have h3 : decide ((n : Int) < l.length) = false := decide_eq_false (by omega)
      obtain ⟨g0, g1⟩ := u32_in .xor IntKind.u32.max x
      have HF := Lib.hid (show x = crcP l from by rw [HX.out, List.take_of_length_le (by omega)])
      have HW := Lib.hid (show wrap64 (bits .xor .u32 IntKind.u32.max x) = sumP l from by
        rw [IntWalk.wrap64_in _ ⟨by omega, by omega⟩, HF.out]
        rfl)
      go_wp2_with fail
      go_ret
      exact ⟨by show Ending.returned (.int .i64 (wrap64 (bits .xor .u32 IntKind.u32.max x))) = _; rw [HW.out], rfl⟩
end Go.Proofs.Ytnjfgbbdfdoccaa
