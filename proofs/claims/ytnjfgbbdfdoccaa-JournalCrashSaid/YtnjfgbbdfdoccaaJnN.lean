/- The journal is read: numbers. -/
import Derived.Test.YtnjfgbbdfdoccaaJnM
namespace Go.Proofs.Ytnjfgbbdfdoccaa
open Go.RowKit Go.ChangeMaps
set_option linter.unusedSimpArgs false
set_option linter.unusedVariables false
set_option maxRecDepth 20000

def numP (l : List Int) : Int := l.getD 0 0 * 16777216 + l.getD 1 0 * 65536 + l.getD 2 0 * 256 + l.getD 3 0
theorem bits_or_i64_nat (a b : Nat) (ha : a < 4611686018427387904) (hb : b < 4611686018427387904) : bits .or .i64 (a : Int) (b : Int) = ((a ||| b : Nat) : Int) := by
  have hx : a ||| b < 2 ^ 62 := Nat.or_lt_two_pow (by omega) (by omega)
  have h1 : (BitVec.ofInt 64 (a : Int)).toNat = a := by
    rw [BitVec.ofInt_natCast, BitVec.toNat_ofNat]; exact Nat.mod_eq_of_lt (by omega)
  have h2 : (BitVec.ofInt 64 (b : Int)).toNat = b := by
    rw [BitVec.ofInt_natCast, BitVec.toNat_ofNat]; exact Nat.mod_eq_of_lt (by omega)
  show IntKind.i64.wrap ((BitVec.ofInt 64 (a : Int) ||| BitVec.ofInt 64 (b : Int)).toNat : Int) = _
  rw [BitVec.toNat_or, h1, h2]
  exact IntWalk.i64_in _ (by omega)
theorem or_add {a b i : Nat} (h : b < 2 ^ i) : a * 2 ^ i ||| b = a * 2 ^ i + b := by
  rw [← Nat.shiftLeft_eq]
  exact (Nat.shiftLeft_add_eq_or_of_lt h a).symm
theorem or_four {x0 x1 x2 x3 : Int} (h0 : 0 ≤ x0 ∧ x0 < 256) (h1 : 0 ≤ x1 ∧ x1 < 256) (h2 : 0 ≤ x2 ∧ x2 < 256) (h3 : 0 ≤ x3 ∧ x3 < 256) :
    bits .or .i64 (bits .or .i64 (bits .or .i64 (x0 * 16777216) (x1 * 65536)) (x2 * 256)) x3 = x0 * 16777216 + x1 * 65536 + x2 * 256 + x3 := by
  obtain ⟨a, rfl⟩ := Int.eq_ofNat_of_zero_le h0.1
  obtain ⟨b, rfl⟩ := Int.eq_ofNat_of_zero_le h1.1
  obtain ⟨c, rfl⟩ := Int.eq_ofNat_of_zero_le h2.1
  obtain ⟨d, rfl⟩ := Int.eq_ofNat_of_zero_le h3.1
  have e1 : bits .or .i64 ((a : Int) * 16777216) ((b : Int) * 65536) = ((a * 16777216 + b * 65536 : Nat) : Int) := by
    have := bits_or_i64_nat (a * 16777216) (b * 65536) (by omega) (by omega)
    have h := or_add (a := a) (b := b * 65536) (i := 24) (by omega)
    rw [show (2 : Nat) ^ 24 = 16777216 from by decide] at h
    rw [h] at this
    rw [← this]
    simp
  have e2 : bits .or .i64 ((a * 16777216 + b * 65536 : Nat) : Int) ((c : Int) * 256) = ((a * 16777216 + b * 65536 + c * 256 : Nat) : Int) := by
    have := bits_or_i64_nat (a * 16777216 + b * 65536) (c * 256) (by omega) (by omega)
    have h := or_add (a := a * 256 + b) (b := c * 256) (i := 16) (by omega)
    rw [show (2 : Nat) ^ 16 = 65536 from by decide, show (a * 256 + b) * 65536 = a * 16777216 + b * 65536 from by omega] at h
    rw [h] at this
    rw [← this]
    simp
  have e3 : bits .or .i64 ((a * 16777216 + b * 65536 + c * 256 : Nat) : Int) (d : Int) = ((a * 16777216 + b * 65536 + c * 256 + d : Nat) : Int) := by
    have := bits_or_i64_nat (a * 16777216 + b * 65536 + c * 256) d (by omega) (by omega)
    have h := or_add (a := a * 65536 + b * 256 + c) (b := d) (i := 8) (by omega)
    rw [show (2 : Nat) ^ 8 = 256 from by decide, show (a * 65536 + b * 256 + c) * 256 = a * 16777216 + b * 65536 + c * 256 from by omega] at h
    rw [h] at this
    exact this
  rw [e1, e2, e3]
  simp
set_option maxHeartbeats 1000000 in
theorem jNumber_at {w : World} {v : Value} {l : List Int} (h : RowAt enc8 w v l) (hl : 4 ≤ l.length) (hb : IsB l) :
    Calls Try.prog 67 #[v] w fun e w' => e = .returned (.int .i64 (numP l)) ∧ Mod [] w w' := by
  obtain ⟨a, c, rfl⟩ := h.form
  obtain ⟨b, o, heq, hc, hg⟩ := RowAt.get enc8_len h (i := 0) (by omega)
  cases heq
  have p0 := hg 0 (.int .u8 l[0]) (by omega) rfl
  obtain ⟨_, _, heq, _, hg⟩ := RowAt.get enc8_len h (i := 1) (by omega)
  cases heq
  have p1 := hg 0 (.int .u8 l[1]) (by omega) rfl
  obtain ⟨_, _, heq, _, hg⟩ := RowAt.get enc8_len h (i := 2) (by omega)
  cases heq
  have p2 := hg 0 (.int .u8 l[2]) (by omega) rfl
  obtain ⟨_, _, heq, _, hg⟩ := RowAt.get enc8_len h (i := 3) (by omega)
  cases heq
  have p3 := hg 0 (.int .u8 l[3]) (by omega) rfl
  simp only [Nat.zero_mul, Nat.mul_one, Nat.add_zero, Nat.one_mul] at p0 p1 p2 p3
  have b0 := hb l[0] (List.getElem_mem _)
  have b1 := hb l[1] (List.getElem_mem _)
  have b2 := hb l[2] (List.getElem_mem _)
  have b3 := hb l[3] (List.getElem_mem _)
  have hll : (4 : Int) ≤ l.length := by omega
  have HN := Lib.hid (show numP l = l[0] * (16777216 : Int) + l[1] * (65536 : Int) + l[2] * (256 : Int) + l[3] from by
    unfold numP
    simp only [List.getD_eq_getElem?_getD]
    rw [List.getElem?_eq_getElem (show 0 < l.length by omega), List.getElem?_eq_getElem (show 1 < l.length by omega), List.getElem?_eq_getElem (show 2 < l.length by omega), List.getElem?_eq_getElem (show 3 < l.length by omega)]
    rfl)
  have HOR := Lib.hid (or_four b0 b1 b2 b3)
  generalize l[0] = x0 at *
  generalize l[1] = x1 at *
  generalize l[2] = x2 at *
  generalize l[3] = x3 at *
  obtain ⟨b00, b01⟩ := b0
  obtain ⟨b10, b11⟩ := b1
  obtain ⟨b20, b21⟩ := b2
  obtain ⟨b30, b31⟩ := b3
  clear hb h hg
  go_enter Try.func67, Try.ntmps67
  go_wp2_with fail
  refine wp_plan [] [0, 5, 11, 17, 1, 6, 12, 18, 2, 7, 13, 19, 3, 8, 14, 20, 4, 9, 15, 10, 16, 21, 22] (by kernel_rfl) (by kernel_rfl) ?_
  simp only [wpSegs, opsOf, List.map_cons, List.map_nil, opN, List.getD_cons_zero, List.getD_cons_succ]
  go_wp2_with fail
  refine ⟨by first | trivial | rfl, ?_⟩
  go_wp2_with fail
  go_ret
  exact ⟨by rw [HN.out, ← HOR.out]; rfl, (Mod.refl _ _).drew⟩
end Go.Proofs.Ytnjfgbbdfdoccaa
