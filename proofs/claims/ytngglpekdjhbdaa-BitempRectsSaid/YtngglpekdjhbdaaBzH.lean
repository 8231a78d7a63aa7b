/- The library's insertion sort at rectangles. -/
import Derived.Test.YtngglpekdjhbdaaBzG
import Derived.Test.YtngglpekdjhbdaaBzA
import Derived.Test.YtngglpekdjhbdaaBzD
namespace Go.Proofs.Ytngglpekdjhbdaa
open Go.RowKit Go.ChangeMaps Go.Deep
set_option linter.unusedSimpArgs false
set_option linter.unusedVariables false
set_option maxRecDepth 20000

def encRc (r : Rc) : List Value := [.int .i64 r.f, .int .i64 r.t, .int .i64 r.s, .int .i64 r.u, .int .i64 r.v]
theorem encRc_len (x : Rc) : (encRc x).length = 5 := rfl
theorem encRc_one (x : Rc) : ∀ v ∈ encRc x, v.oneCell' = true := by simp [encRc, Value.oneCell']
theorem sizeRect : (Try.prog.info? 61).map (·.size) = some 5 := by kernel_rfl
/-- a row of N rectangles -/
structure RcRow (w : World) (base g N cap : Nat) (l : List Rc) : Prop where
  len : l.length = N
  own : OwnR encRc 5 61 w base (.slice (some ⟨g, 0, none⟩) N cap) l
theorem RcRow.own' {w : World} {base g N cap : Nat} {l : List Rc} (h : RcRow w base g N cap l) : OwnR encRc 5 61 w base (.slice (some ⟨g, 0, none⟩) l.length cap) l := by rw [h.len]; exact h.own
theorem RcRow.kept {ks : List Nat} {w w' : World} {base g N cap : Nat} {l : List Rc} (h : RcRow w base g N cap l) (m : Mod ks w w') (hg : g ∉ ks) : RcRow w' base g N cap l :=
  ⟨h.len, h.own.kept m (fun k hk => by simp [Value.ownBlock] at hk; subst hk; exact hg)⟩
theorem RcRow.kept0 {w w' : World} {base g N cap : Nat} {l : List Rc} (h : RcRow w base g N cap l) (m : Mod [] w w') : RcRow w' base g N cap l := h.kept m (by simp)
theorem RcRow.load {w : World} {base g N cap : Nat} {l : List Rc} (h : RcRow w base g N cap l) {i : Nat} {x : Rc} (hx : l[i]? = some x) :
    (Instr.loadAt 61 (.pointer (some ⟨g, i * 5, none⟩))).run Try.prog w = .ok (.agg #[.int .i64 x.f, .int .i64 x.t, .int .i64 x.s, .int .i64 x.u, .int .i64 x.v]) w := by
  obtain ⟨hlt, e⟩ := List.getElem?_eq_some_iff.1 hx
  have hrow : w.rangeAt g (i * 5) [.int .i64 x.f, .int .i64 x.t, .int .i64 x.s, .int .i64 x.u, .int .i64 x.v] := fun jj u hu => (h.own'.cell encRc_len hlt (j := jj) (by have := (List.getElem?_eq_some_iff.1 hu).1; simpa using this) (u := u) (by rw [e]; exact hu)).1
  exact run_loadAt_mid (P := Try.prog) _ g (i * 5) 61 _ _ hrow Try.underlying61 rfl (by kernel_rfl)
theorem RcRow.store {w : World} {base g N cap : Nat} {l : List Rc} (h : RcRow w base g N cap l) {i : Nat} (hi : i < N) (y : Rc) :
    ∃ w', (Instr.storeAt 61 (.pointer (some ⟨g, i * 5, none⟩)) (.agg #[.int .i64 y.f, .int .i64 y.t, .int .i64 y.s, .int .i64 y.u, .int .i64 y.v])).run Try.prog w = .ok () w' ∧ Mod [g] w w' ∧ RcRow w' base g N cap (l.set i y) := by
  obtain ⟨w', r, m, o⟩ := h.own'.setAll (P := Try.prog) encRc_len encRc_one (by rw [h.len]; exact hi) y sizeRect
  rw [h.len] at o
  exact ⟨w', r, m, by rw [List.length_set, h.len], o⟩
/-- two elements of a row change places: the two loads, the two stores -/
theorem RcRow.swap {w : World} {base g N cap : Nat} {l : List Rc} (h : RcRow w base g N cap l) {i j : Nat} {x y : Rc} (hx : l[i]? = some x) (hy : l[j]? = some y) :
    ∃ w1 w2, (Instr.storeAt 61 (.pointer (some ⟨g, i * 5, none⟩)) (.agg #[.int .i64 y.f, .int .i64 y.t, .int .i64 y.s, .int .i64 y.u, .int .i64 y.v])).run Try.prog w = .ok () w1 ∧
      (Instr.storeAt 61 (.pointer (some ⟨g, j * 5, none⟩)) (.agg #[.int .i64 x.f, .int .i64 x.t, .int .i64 x.s, .int .i64 x.u, .int .i64 x.v])).run Try.prog w1 = .ok () w2 ∧ Mod [g] w w2 ∧ RcRow w2 base g N cap ((l.set i y).set j x) := by
  have hi := (List.getElem?_eq_some_iff.1 hx).1
  have hj := (List.getElem?_eq_some_iff.1 hy).1
  obtain ⟨w1, r1, m1, o1⟩ := h.store (i := i) (by rw [← h.len]; exact hi) y
  obtain ⟨w2, r2, m2, o2⟩ := o1.store (i := j) (by rw [← h.len]; exact hj) x
  exact ⟨w1, w2, r1, r2, m1.trans m2, o2⟩
set_option maxHeartbeats 4000000 in
theorem swr_at {w : World} {base g N cap a b n : Nat} {P A Q B R : List Rc} {fv : Value} (h : RcRow w base g N cap (swrAt P A Q B R 0)) (ha : P.length = a) (hb : P.length + (A.length + Q.length) = b) (hn : A.length = n) (hn2 : B.length = n) (hN : N ≤ 1000000) :
    Calls Try.prog 130 #[.slice (some ⟨g, 0, none⟩) N cap, .int .i64 a, .int .i64 b, .int .i64 n, fv] w fun e w' => e = .returned (.tuple #[]) ∧ RcRow w' base g N cap (swrAt P A Q B R n) ∧ Mod [g] w w' := by
  have HR := Lib.hid h
  have HM := Lib.hid (Mod.refl [g] w)
  have hlen : b + n ≤ N := by
    have := h.len
    simp only [swrAt, List.length_append, List.length_take, List.length_drop] at this
    omega
  have hab : a + n ≤ b := by omega
  clear h
  go_enter Try.func130, Try.ntmps130
  go_wp2_with fail
  go_loopw [10] (fun s10 W => ∃ i : Nat, i ≤ n ∧ s10 = .int .i64 i ∧ Hid (RcRow W base g N cap (swrAt P A Q B R i)) ∧ Hid (Mod [g] w W)) (fun s10 _ => n - (intOf s10).toNat)
  case atStart => exact ⟨0, by omega, rfl, HR, HM⟩
  case round =>
    obtain ⟨i, hi, rfl, hR, hM⟩ := hrel
    by_cases hlt : i < n
    · obtain ⟨x, hx⟩ : ∃ x, A[i]? = some x := ⟨A[i], List.getElem?_eq_getElem (by omega)⟩
      obtain ⟨y, hy⟩ : ∃ y, B[i]? = some y := ⟨B[i], List.getElem?_eq_getElem (by omega)⟩
      obtain ⟨k1, k2, k3⟩ := swr_step P A Q B R i x y hx hy
      rw [hb, ha] at k3
      rw [ha] at k1
      rw [hb] at k2
      obtain ⟨w1, w2, r1, r2, m, o⟩ := (hR.out.kept0 ((Mod.refl [] _).drew)).swap k1 k2
      rw [k3] at o
      have L1 := Lib.hid ((hR.out.kept0 ((Mod.refl [] _).drew)).load k1)
      have L2 := Lib.hid ((hR.out.kept0 ((Mod.refl [] _).drew)).load k2)
      have R1 := Lib.hid r1
      have R2 := Lib.hid r2
      have HO := Lib.hid o
      have HM2 := Lib.hid ((hM.out.trans ((Mod.refl [g] _).drew)).trans m)
      have hd : decide ((i : Int) < (n : Int)) = true := decide_eq_true (by omega)
      have i1 : decide ((a : Int) + (i : Int) < 0) = false := decide_eq_false (by omega)
      have i2 : decide ((N : Int) ≤ (a : Int) + (i : Int)) = false := decide_eq_false (by omega)
      have i3 : decide ((b : Int) + (i : Int) < 0) = false := decide_eq_false (by omega)
      have i4 : decide ((N : Int) ≤ (b : Int) + (i : Int)) = false := decide_eq_false (by omega)
      clear r1 r2 m o k1 k2 k3 hx hy HR HM
      go_wp2_with fail
      refine wp_plan [([0, 1, 2, 4, 5, 6, 8, 9, 10, 14, 15, 16, 3, 7, 11, 17, 12, 18, 13, 19, 20], 21, [7]), ([22], 23, [])] [] (by kernel_rfl) (by kernel_rfl) ?_
      simp only [wpSegs, opsOf, List.map_cons, List.map_nil, opN, List.getD_cons_zero, List.getD_cons_succ]
      go_wp2_with (first | ((with_reducible refine xLoadAt rfl L1.out ?_ ?_ ?_); exact rfl; exact rfl) | ((with_reducible refine xLoadAt rfl L2.out ?_ ?_ ?_); exact rfl; exact rfl))
      refine ⟨by first | trivial | rfl, ?_⟩
      go_wp2_with ((with_reducible refine xStoreAt rfl R1.out ?_ ?_ ?_ ?_); exact rfl; exact rfl; exact rfl)
      refine ⟨?ag1, ?_⟩
      case ag1 =>
        intro i hi hw
        simp only [List.mem_cons, List.not_mem_nil, or_false] at hi
        subst hi
        all_goals (simp only [opN, List.getD_cons_zero, List.getD_cons_succ, slotOf]; go_simp; rw [IntKind.wrap_i64]; omega)
      go_wp2_with fail
      refine ⟨by first | trivial | rfl, ?_⟩
      go_wp2_with ((with_reducible refine xStoreAt rfl R2.out ?_ ?_ ?_ ?_); exact rfl; exact rfl; exact rfl)
      refine ⟨again_nil, ?_⟩
      go_wp2_with fail
      refine ⟨by first | trivial | rfl, ?_⟩
      go_wp2_with fail
      go_roundw
      case rel => exact ⟨i + 1, by omega, by go_num, HO, HM2⟩
      case measure => simp [intOf]; omega
    · have hd : decide ((i : Int) < (n : Int)) = false := decide_eq_false (by omega)
      have hin : i = n := by omega
      subst hin
      go_wp2_with fail
      go_end0
      exact ⟨rfl, hR.out, hM.out⟩
end Go.Proofs.Ytngglpekdjhbdaa
namespace Go.Proofs.Ytngglpekdjhbdaa
open Go.RowKit Go.ChangeMaps Go.Deep
set_option linter.unusedSimpArgs false
set_option linter.unusedVariables false
set_option maxRecDepth 20000

theorem RotAt.len {α : Type} {T l : List α} {m i j : Nat} (h : RotAt T m i j l) : i ≤ m ∧ m + j ≤ l.length ∧ T.length = l.length := by
  obtain ⟨P, U, V, R, rfl, rfl, h1, h2, h3⟩ := h
  simp only [List.length_append]
  omega
set_option maxHeartbeats 4000000 in
theorem rot_at {w : World} {base g N cap a m b : Nat} {T l : List Rc} {fv : Value} (h : RcRow w base g N cap l) (hR : RotAt T m (m - a) (b - m) l) (ham : a < m) (hmb : m < b) (hN : N ≤ 1000000) :
    Calls Try.prog 121 #[.slice (some ⟨g, 0, none⟩) N cap, .int .i64 a, .int .i64 m, .int .i64 b, fv] w fun e w' => e = .returned (.tuple #[]) ∧ RcRow w' base g N cap T ∧ Mod [g] w w' := by
  have hlen := hR.len
  rw [h.len] at hlen
  have HM := Lib.hid (Mod.refl [g] w)
  have h0 : Hid (∃ l', RotAt T m (m - a) (b - m) l' ∧ RcRow w base g N cap l') := Lib.hid ⟨l, hR, h⟩
  have e1 : (m : Int) - (a : Int) = ((m - a : Nat) : Int) := by omega
  have e2 : (b : Int) - (m : Int) = ((b - m : Nat) : Int) := by omega
  clear h hR
  go_enter Try.func121, Try.ntmps121
  go_wp2_with fail
  go_loopw [10, 11] (fun s10 s11 W => ∃ i j : Nat, 0 < i ∧ 0 < j ∧ i ≤ m ∧ m + j ≤ N ∧ s10 = .int .i64 i ∧ s11 = .int .i64 j ∧ Hid (∃ l', RotAt T m i j l' ∧ RcRow W base g N cap l') ∧ Hid (Mod [g] w W)) (fun s10 s11 _ => (intOf s10).toNat + (intOf s11).toNat)
  case atStart => exact ⟨m - a, b - m, by omega, by omega, by omega, by omega, by rw [← e1], by rw [← e2], h0, HM⟩
  case round =>
    obtain ⟨i, j, hi, hj, him, hjm, rfl, rfl, hR, hM⟩ := hrel
    obtain ⟨l', hr, hl⟩ := hR.out
    have e3 : (m : Int) - (i : Int) = ((m - i : Nat) : Int) := by omega
    have w3 : wrap64 ((m : Int) - (i : Int)) = ((m - i : Nat) : Int) := by unfold wrap64; omega
    clear e1 e2 h0 HM
    rcases Nat.lt_trichotomy j i with hc | hc | hc
    · obtain ⟨P, A, Q, B, R, rfl, k1, k2, k3, k4, k5, k6⟩ := hr.more hc
      have C := Lib.hid (swr_at (fv := fv) hl k3 k4 k1 k2 hN)
      have HK := Lib.hid k6
      have d1 : ((i : Int) != (j : Int)) = true := by simp; omega
      have d2 : decide ((j : Int) < (i : Int)) = true := decide_eq_true (by omega)
      clear hr hl k6 hR
      go_wp2_with fail
      refine C.out.mono ?_
      rintro e w2 ⟨rfl, hl2, m2⟩
      have HR2 := Lib.hid (show ∃ l', RotAt T m (i - j) j l' ∧ RcRow w2 base g N cap l' from ⟨_, HK.out, hl2⟩)
      have HM2 := Lib.hid (hM.out.trans m2)
      have e5 : (i : Int) - (j : Int) = ((i - j : Nat) : Int) := by omega
      clear C HK hl2 m2
      go_wp2_with fail
      go_roundw
      case rel => exact ⟨i - j, j, by omega, by omega, by omega, by omega, by first | rfl | go_num, rfl, HR2, HM2⟩
      case measure => simp [intOf]; omega
    · subst hc
      obtain ⟨P, A, Q, B, R, rfl, k1, k2, k3, k4, k5, k6⟩ := hr.last
      have C := Lib.hid (swr_at (fv := fv) hl k3 k4 k1 k2 hN)
      have HK := Lib.hid k6
      have d1 : ((j : Int) != (j : Int)) = false := by simp
      clear hr hl k6 hR
      go_wp2_with fail
      refine C.out.mono ?_
      rintro e w2 ⟨rfl, hl2, m2⟩
      rw [HK.out] at hl2
      have HL := Lib.hid hl2
      have HM2 := Lib.hid (hM.out.trans m2)
      clear C HK hl2 m2
      go_wp2_with fail
      go_end0
      exact ⟨rfl, HL.out, HM2.out⟩
    · obtain ⟨P, A, Q, B, R, rfl, k1, k2, k3, k4, k5, k6⟩ := hr.less hc
      have C := Lib.hid (swr_at (fv := fv) hl k3 k4 k1 k2 hN)
      have HK := Lib.hid k6
      have d1 : ((i : Int) != (j : Int)) = true := by simp; omega
      have d2 : decide ((j : Int) < (i : Int)) = false := decide_eq_false (by omega)
      have e4 : (m : Int) + (j : Int) - (i : Int) = ((m + j - i : Nat) : Int) := by omega
      clear hr hl k6 hR
      go_wp2_with fail
      refine C.out.mono ?_
      rintro e w2 ⟨rfl, hl2, m2⟩
      have HR2 := Lib.hid (show ∃ l', RotAt T m i (j - i) l' ∧ RcRow w2 base g N cap l' from ⟨_, HK.out, hl2⟩)
      have HM2 := Lib.hid (hM.out.trans m2)
      have e5 : (j : Int) - (i : Int) = ((j - i : Nat) : Int) := by omega
      clear C HK hl2 m2
      go_wp2_with fail
      go_roundw
      case rel => exact ⟨i, j - i, by omega, by omega, by omega, by omega, rfl, by first | rfl | go_num, HR2, HM2⟩
      case measure => simp [intOf]; omega
end Go.Proofs.Ytngglpekdjhbdaa
namespace Go.Proofs.Ytngglpekdjhbdaa
open Go.RowKit Go.ChangeMaps Go.Deep
set_option linter.unusedSimpArgs false
set_option linter.unusedVariables false
set_option maxRecDepth 20000

theorem or2_any {w : World} {g : Nat} {a b R : Int} (hR : Hid (R = if a ≠ 0 then a else b)) (h0 : w.cell? ⟨g, 0, none⟩ = some (.int .i64 a)) (h1 : w.cell? ⟨g, 1, none⟩ = some (.int .i64 b)) :
    Calls Try.prog 54 #[.slice (some ⟨g, 0, none⟩) 2 2] w fun e w' => e = .returned (.int .i64 R) ∧ w' = w := by
  go_enter Try.func54, Try.ntmps54
  go_wp2_with fail
  go_loopw [8] (fun s8 wj => ∃ k : Nat, k ≤ 2 ∧ s8 = .int .i64 k ∧ wj = w ∧ (0 < k → a = 0) ∧ (1 < k → b = 0)) (fun s8 _ => 2 - (intOf s8).toNat)
  case atStart => exact ⟨0, by omega, rfl, rfl, fun h => by omega, fun h => by omega⟩
  case round =>
    obtain ⟨k, hk, rfl, rfl, k0, k1⟩ := hrel
    rcases (show k = 0 ∨ k = 1 ∨ k = 2 by omega) with rfl | rfl | rfl
    · by_cases ha : a = 0
      · have hq : (a != 0) = false := by simp [ha]
        go_wp2_with fail
        go_roundw
        case rel => exact ⟨1, by omega, by go_num, by first | trivial | rfl, fun _ => ha, fun h => by omega⟩
        case measure => simp [intOf]
      · have hq : (a != 0) = true := by simp [ha]
        go_wp2_with fail
        go_ret
        exact ⟨by rw [hR.out, if_pos ha]; rfl, rfl⟩
    · by_cases hb : b = 0
      · have hq : (b != 0) = false := by simp [hb]
        go_wp2_with fail
        go_roundw
        case rel => exact ⟨2, by omega, by go_num, by first | trivial | rfl, fun _ => k0 (by omega), fun _ => hb⟩
        case measure => simp [intOf]
      · have hq : (b != 0) = true := by simp [hb]
        go_wp2_with fail
        go_ret
        exact ⟨by rw [hR.out, if_neg (by simpa using k0 (by omega))]; rfl, rfl⟩
    · go_wp2_with fail
      go_ret
      exact ⟨by rw [hR.out, if_neg (by simpa using k0 (by omega)), k1 (by omega)]; rfl, rfl⟩
/-- by the first day, then by the transaction -/
def ordR (x y : Rc) : Int := if cmpI x.f y.f ≠ 0 then cmpI x.f y.f else cmpI x.s y.s
def ltR (x y : Rc) : Bool := decide (ordR x y < 0)
theorem ltR_iff (x y : Rc) : ltR x y = true ↔ x.f < y.f ∨ (x.f = y.f ∧ x.s < y.s) := by
  unfold ltR ordR cmpI
  rw [decide_eq_true_iff]
  by_cases h1 : x.f < y.f
  · simp [h1]
  · by_cases h2 : y.f < x.f
    · simp [h1, h2]; omega
    · by_cases h3 : x.s < y.s
      · simp [h1, h2, h3]; omega
      · by_cases h4 : y.s < x.s <;> simp [h1, h2, h3, h4]
theorem ordLtR : Ord3 ltR where
  asymm x y h := by
    rw [Bool.eq_false_iff, Ne, ltR_iff]
    rw [ltR_iff] at h
    omega
  ntrans x y z h1 h2 := by
    rw [Bool.eq_false_iff, Ne, ltR_iff] at *
    omega
def rcV (x : Rc) : Value := .agg #[.int .i64 x.f, .int .i64 x.t, .int .i64 x.s, .int .i64 x.u, .int .i64 x.v]
theorem rects1_any (x y : Rc) (w : World) : Calls Try.prog 53 #[rcV x, rcV y] w fun e w' => e = .returned (.int .i64 (ordR x y)) ∧ Mod [] w w' := by
  obtain ⟨a, b, c, d, e⟩ := x
  obtain ⟨a', b', c', d', e'⟩ := y
  unfold rcV
  dsimp only
  have HM := Lib.hid (((((Mod.refl [] w).alloc (.cells #[.int .i64 a, .int .i64 b, .int .i64 c, .int .i64 d, .int .i64 e] 61)).alloc (.cells #[.int .i64 a', .int .i64 b', .int .i64 c', .int .i64 d', .int .i64 e'] 61)).drew).alloc (.cells #[.int .i64 (cmpI a a'), .int .i64 (cmpI c c')] 3))
  have HR : Hid (ordR ⟨a, b, c, d, e⟩ ⟨a', b', c', d', e'⟩ = if cmpI a a' ≠ 0 then cmpI a a' else cmpI c c') := Lib.hid rfl
  generalize ordR ⟨a, b, c, d, e⟩ ⟨a', b', c', d', e'⟩ = R at HR ⊢
  have hb := heap_alloc_new (((w.alloc (.cells #[.int .i64 a, .int .i64 b, .int .i64 c, .int .i64 d, .int .i64 e] 61)).alloc (.cells #[.int .i64 a', .int .i64 b', .int .i64 c', .int .i64 d', .int .i64 e'] 61)).drew) (.cells #[.int .i64 (cmpI a a'), .int .i64 (cmpI c c')] 3)
  rw [show (((w.alloc (.cells #[.int .i64 a, .int .i64 b, .int .i64 c, .int .i64 d, .int .i64 e] 61)).alloc (.cells #[.int .i64 a', .int .i64 b', .int .i64 c', .int .i64 d', .int .i64 e'] 61)).drew).heap.size = w.heap.size + 2 from by
    show ((w.alloc (.cells #[.int .i64 a, .int .i64 b, .int .i64 c, .int .i64 d, .int .i64 e] 61)).alloc (.cells #[.int .i64 a', .int .i64 b', .int .i64 c', .int .i64 d', .int .i64 e'] 61)).heap.size = _
    simp] at hb
  have HO := Lib.hid (or2_any HR (w := (((w.alloc (.cells #[.int .i64 a, .int .i64 b, .int .i64 c, .int .i64 d, .int .i64 e] 61)).alloc (.cells #[.int .i64 a', .int .i64 b', .int .i64 c', .int .i64 d', .int .i64 e'] 61)).drew).alloc (.cells #[.int .i64 (cmpI a a'), .int .i64 (cmpI c c')] 3)) (g := w.heap.size + 2) (a := cmpI a a') (b := cmpI c c') (by rw [cell_blk hb 0]; rfl) (by rw [cell_blk hb 1]; rfl))
  clear hb
  go_enter Try.func53, Try.ntmps53
  go_wp2_with fail
  refine wp_plan [([0, 2, 5, 7, 1, 3, 6, 8], 4, [5, 7, 6, 8]), ([], 9, []), ([], 10, []), ([], 11, [])] [12] (by kernel_rfl) (by kernel_rfl) ?_
  simp only [wpSegs, opsOf, List.map_cons, List.map_nil, opN, List.getD_cons_zero, List.getD_cons_succ]
  go_wp2_with fail
  refine ⟨by first | trivial | rfl, ?_⟩
  go_wp2_with fail
  refine (compare_any a a' _).mono ?_
  rintro e1 w1 ⟨rfl, rfl⟩
  go_wp2_with fail
  refine ⟨?agA, ?_⟩
  case agA =>
    intro i hi hw
    simp only [List.mem_cons, List.not_mem_nil, or_false] at hi
    rcases hi with rfl | rfl | rfl | rfl
    all_goals (simp only [opN, List.getD_cons_zero, List.getD_cons_succ, slotOf]; go_simp)
  go_wp2_with fail
  refine ⟨by first | trivial | rfl, ?_⟩
  go_wp2_with fail
  refine (compare_any c c' _).mono ?_
  rintro e1 w1 ⟨rfl, rfl⟩
  go_wp2_with fail
  refine ⟨again_nil, ?_⟩
  go_wp2_with fail
  refine ⟨by first | trivial | rfl, ?_⟩
  go_wp2_with fail
  refine ⟨again_nil, ?_⟩
  go_wp2_with fail
  refine ⟨by first | trivial | rfl, ?_⟩
  go_wp2_with fail
  refine HO.out.mono ?_
  rintro e1 w1 ⟨rfl, rfl⟩
  go_wp2_with fail
  refine ⟨again_nil, ?_⟩
  go_wp2_with fail
  refine ⟨by first | trivial | rfl, ?_⟩
  go_wp2_with fail
  go_ret
  exact ⟨rfl, HM.out⟩
end Go.Proofs.Ytngglpekdjhbdaa
namespace Go.Proofs.Ytngglpekdjhbdaa
open Go.RowKit Go.ChangeMaps Go.Deep
set_option linter.unusedSimpArgs false
set_option linter.unusedVariables false
set_option maxRecDepth 20000

theorem swap_down {α : Type} (Q T : List α) (x y : α) : (Q ++ y :: x :: T)[Q.length + 1]? = some x ∧ (Q ++ y :: x :: T)[Q.length]? = some y ∧ ((Q ++ y :: x :: T).set (Q.length + 1) y).set Q.length x = Q ++ x :: y :: T := by
  refine ⟨?_, get_mid _ _ _, ?_⟩
  · rw [List.getElem?_append_right (by omega), show Q.length + 1 - Q.length = 1 by omega]; rfl
  · rw [List.set_append_right _ _ (by omega), show Q.length + 1 - Q.length = 1 by omega, List.set_append_right _ _ (Nat.le_refl _), Nat.sub_self]; rfl
/-- where the outer loop stands -/
def InsOut {α : Type} (lt : α → α → Bool) (P A R : List α) (k : Nat) (l : List α) : Prop := ∃ S, l = P ++ (S ++ (A.drop k ++ R)) ∧ Merged lt (A.take k) S
/-- where the inner loop stands: x at place j -/
def InsIn {α : Type} (lt : α → α → Bool) (P A R : List α) (k : Nat) (x : α) (j : Nat) (l : List α) : Prop :=
  ∃ S1 S2, l = P ++ ((S1 ++ x :: S2) ++ (A.drop (k + 1) ++ R)) ∧ P.length + S1.length = j ∧ (A.take k).Perm (S1 ++ S2) ∧ Srt lt (S1 ++ S2) ∧ EndLe lt [x] S2
theorem InsOut.start {α : Type} {lt : α → α → Bool} {P A R : List α} {k : Nat} {l : List α} (h : InsOut lt P A R k l) {x : α} (hx : A[k]? = some x) : InsIn lt P A R k x (P.length + k) l := by
  obtain ⟨S, rfl, hm⟩ := h
  obtain ⟨h1, e1⟩ := List.getElem?_eq_some_iff.1 hx
  refine ⟨S, [], ?_, by rw [hm.len, List.length_take]; omega, by rw [List.append_nil]; exact hm.1, by rw [List.append_nil]; exact hm.2, .inr (.inl rfl)⟩
  rw [List.drop_eq_getElem_cons h1, e1]
  simp
theorem InsIn.stop {α : Type} {lt : α → α → Bool} (O : Ord3 lt) {P A R : List α} {k j : Nat} {x : α} {l : List α} (h : InsIn lt P A R k x j l) (hx : A[k]? = some x) (hs : j = P.length ∨ ∃ p y, j = p + 1 ∧ P.length ≤ p ∧ l[p]? = some y ∧ lt x y = false) : InsOut lt P A R (k + 1) l := by
  obtain ⟨S1, S2, rfl, hj, hp, hs1, he⟩ := h
  obtain ⟨h1, e1⟩ := List.getElem?_eq_some_iff.1 hx
  have hE : EndLe lt S1 [x] := by
    rcases hs with hs | ⟨p, y, rfl, hP, hy, hlt⟩
    · left
      exact List.eq_nil_of_length_eq_zero (by omega)
    · refine .inr (.inr ⟨y, x, ?_, rfl, hlt⟩)
      rw [List.getElem?_append_right hP, List.append_assoc, List.getElem?_append_left (by omega)] at hy
      rw [List.getLast?_eq_getElem?, ← hy]
      congr 1
      omega
  have hm := merged_one O hs1 hE he
  refine ⟨_, rfl, ?_, hm.2⟩
  have e2 : A.take (k + 1) = A.take k ++ [x] := by rw [List.take_succ_eq_append_getElem h1, e1]
  rw [e2]
  refine List.Perm.trans ?_ hm.1
  exact (List.perm_append_comm.trans (List.Perm.refl _)).trans (List.Perm.cons x hp)
theorem InsIn.step {α : Type} {lt : α → α → Bool} (O : Ord3 lt) {P A R : List α} {k p : Nat} {x : α} {l : List α} (h : InsIn lt P A R k x (p + 1) l) (hp : P.length ≤ p) : ∃ y, l[p + 1]? = some x ∧ l[p]? = some y ∧ (lt x y = true → InsIn lt P A R k x p ((l.set (p + 1) y).set p x)) := by
  obtain ⟨S1, S2, rfl, hj, hp1, hs1, he⟩ := h
  rcases List.eq_nil_or_concat S1 with rfl | ⟨S, y, rfl⟩
  · simp at hj; omega
  · rw [List.concat_eq_append] at *
    have hl : (P ++ S).length = p := by simp at hj ⊢; omega
    have e : P ++ ((S ++ [y] ++ x :: S2) ++ (A.drop (k + 1) ++ R)) = (P ++ S) ++ y :: x :: (S2 ++ (A.drop (k + 1) ++ R)) := by simp
    obtain ⟨k1, k2, k3⟩ := swap_down (P ++ S) (S2 ++ (A.drop (k + 1) ++ R)) x y
    rw [hl] at k1 k2 k3
    rw [e]
    refine ⟨y, k1, k2, fun hlt => ⟨S, y :: S2, ?_, by rw [← hl, List.length_append], ?_, ?_, .inr (.inr ⟨x, y, rfl, rfl, O.asymm _ _ hlt⟩)⟩⟩
    · rw [k3]; simp
    · simpa using hp1
    · simpa using hs1
theorem InsIn.len {α : Type} {lt : α → α → Bool} {P A R : List α} {k j : Nat} {x : α} {l : List α} (h : InsIn lt P A R k x j l) (hk : k < A.length) : P.length ≤ j ∧ j ≤ P.length + k ∧ l.length = P.length + A.length + R.length := by
  obtain ⟨S1, S2, rfl, hj, hp1, hs1, he⟩ := h
  have := hp1.length_eq
  simp only [List.length_append, List.length_take, List.length_cons, List.length_drop] at *
  omega
set_option maxHeartbeats 8000000 in
theorem insert_sort {w : World} {base g N cap a b : Nat} {P A R : List Rc} (h : RcRow w base g N cap (P ++ (A ++ R))) (ha : P.length = a) (hb : a + A.length = b) (hN : N ≤ 1000000) :
    Calls Try.prog 101 #[.slice (some ⟨g, 0, none⟩) N cap, .int .i64 a, .int .i64 b, .func (.func 53) #[] #[]] w fun e w' => e = .returned (.tuple #[]) ∧ ∃ W, Merged ltR A W ∧ RcRow w' base g N cap (P ++ (W ++ R)) ∧ Mod [g] w w' := by
  have HM := Lib.hid (Mod.refl [g] w)
  have hlen : b ≤ N := by have := h.len; simp only [List.length_append] at this; omega
  have h0 : Hid (∃ l, InsOut ltR P A R 1 l ∧ RcRow w base g N cap l) := Lib.hid ⟨_, ⟨A.take 1, by rw [← List.append_assoc (A.take 1), List.take_append_drop], .refl _, by
    cases A with
    | nil => exact srt_nil _
    | cons x A => exact srt_one _ x⟩, h⟩
  clear h
  go_enter Try.func101, Try.ntmps101
  go_wp2_with fail
  go_loopw [8] (fun s8 W => ∃ k i : Nat, i = a + k ∧ 1 ≤ k ∧ (k ≤ A.length ∨ k = 1) ∧ s8 = .int .i64 (i : Int) ∧ Hid (∃ l, InsOut ltR P A R k l ∧ RcRow W base g N cap l) ∧ Hid (Mod [g] w W)) (fun s8 _ => b + 1 - (intOf s8).toNat)
  case atStart => exact ⟨1, a + 1, rfl, by omega, .inr rfl, by go_num, h0, HM⟩
  case round =>
    obtain ⟨k, i, hik, hk1, hk2, rfl, hR, hM⟩ := hrel
    clear h0 HM
    by_cases hlt : k < A.length
    · obtain ⟨x, hx⟩ : ∃ x, A[k]? = some x := ⟨A[k], List.getElem?_eq_getElem hlt⟩
      obtain ⟨l, hl, hrow⟩ := hR.out
      have hst := hl.start hx
      rw [ha, ← hik] at hst
      have HX := Lib.hid hx
      have H1 : Hid (∃ l, InsIn ltR P A R k x i l ∧ RcRow wr base g N cap l) := Lib.hid ⟨l, hst, hrow⟩
      have HIK := Lib.hid hik
      have hib : i < b := by omega
      have hai : a < i := by omega
      clear hR hl hrow hst hx hik
      rename World => wo
      go_wp2_with fail
      go_loopw [9] (fun s9 W => ∃ j : Nat, a ≤ j ∧ j ≤ i ∧ s9 = .int .i64 (j : Int) ∧ Hid (∃ l, InsIn ltR P A R k x j l ∧ RcRow W base g N cap l) ∧ Hid (Mod [g] w W)) (fun s9 _ => (intOf s9).toNat)
      case atStart => exact ⟨i, by omega, by omega, rfl, H1, hM⟩
      case round =>
        obtain ⟨j, hj1, hj2, rfl, hR, hM2⟩ := hrel
        obtain ⟨l, hl, hrow⟩ := hR.out
        clear H1 hM hR
        rcases Nat.lt_or_ge a j with hj | hj
        · obtain ⟨p, rfl⟩ : ∃ p, j = p + 1 := ⟨j - 1, by omega⟩
          obtain ⟨y, k1, k2, k3⟩ := hl.step ordLtR (by omega)
          have rowD := hrow.kept0 ((Mod.refl [] wr).drew)
          have L1 := Lib.hid (rowD.load k1)
          have L2 := Lib.hid (rowD.load k2)
          have C := Lib.hid (fun W => rects1_any x y W)
          simp only [rcV] at C
          have d1 : decide ((a : Int) < (p : Int) + 1) = true := decide_eq_true (by omega)
          have pN : p + 1 < N := by omega
          by_cases hc : ordR x y < 0
          · have dc : decide (ordR x y < 0) = true := decide_eq_true hc
            go_wp2_with fail
            refine wp_plan [([0, 1, 2, 3, 4, 5, 6, 9, 10, 11, 7, 8, 12, 13], 14, [])] [15, 16] (by kernel_rfl) (by kernel_rfl) ?_
            simp only [wpSegs, opsOf, List.map_cons, List.map_nil, opN, List.getD_cons_zero, List.getD_cons_succ]
            go_wp2_with (first | ((with_reducible refine xLoadAt rfl L1.out ?_ ?_ ?_); exact rfl; exact rfl) | ((with_reducible refine xLoadAt rfl L2.out ?_ ?_ ?_); exact rfl; exact rfl))
            refine ⟨by first | trivial | rfl, ?_⟩
            go_wp2_with fail
            refine (C.out _).mono ?_
            rintro e w1 ⟨rfl, m1⟩
            have row1 := (rowD.kept0 m1).kept0 ((Mod.refl [] w1).drew)
            have M1 := Lib.hid ((((hM2.out.trans ((Mod.refl [] wr).drew).nil).trans m1.nil)).trans ((Mod.refl [] w1).drew).nil)
            obtain ⟨w2, w3, r1, r2, m3, o3⟩ := row1.swap k1 k2
            have HO : Hid (∃ l, InsIn ltR P A R k x p l ∧ RcRow w3 base g N cap l) := Lib.hid ⟨_, k3 (by unfold ltR; exact dc), o3⟩
            have HM3 := Lib.hid (M1.out.trans m3)
            have L3 := Lib.hid (row1.load k1)
            have L4 := Lib.hid (row1.load k2)
            have R1 := Lib.hid r1
            have R2 := Lib.hid r2
            clear L1 L2 C m1 row1 rowD hrow hl k1 k2 k3 r1 r2 o3 m3 M1 hM2
            go_wp2_with fail
            refine ⟨again_nil, ?_⟩
            go_wp2_with fail
            refine ⟨by first | trivial | rfl, ?_⟩
            go_wp2_with fail
            refine wp_plan [([0, 1, 2, 3, 5, 6, 10, 11, 4, 7, 12, 8, 13, 9, 14], 15, [4]), ([16], 17, [])] [] (by kernel_rfl) (by kernel_rfl) ?_
            simp only [wpSegs, opsOf, List.map_cons, List.map_nil, opN, List.getD_cons_zero, List.getD_cons_succ]
            go_wp2_with (first | ((with_reducible refine xLoadAt rfl L3.out ?_ ?_ ?_); exact rfl; exact rfl) | ((with_reducible refine xLoadAt rfl L4.out ?_ ?_ ?_); exact rfl; exact rfl))
            refine ⟨by first | trivial | rfl, ?_⟩
            go_wp2_with ((with_reducible refine xStoreAt rfl R1.out ?_ ?_ ?_ ?_); exact rfl; exact rfl; exact rfl)
            refine ⟨?ag1, ?_⟩
            case ag1 =>
              intro i hi hw
              simp only [List.mem_cons, List.not_mem_nil, or_false] at hi
              subst hi
              all_goals (simp only [opN, List.getD_cons_zero, List.getD_cons_succ, slotOf]; go_simp; rw [IntKind.wrap_i64]; omega)
            go_wp2_with fail
            refine ⟨by first | trivial | rfl, ?_⟩
            go_wp2_with ((with_reducible refine xStoreAt rfl R2.out ?_ ?_ ?_ ?_); exact rfl; exact rfl; exact rfl)
            refine ⟨again_nil, ?_⟩
            go_wp2_with fail
            refine ⟨by first | trivial | rfl, ?_⟩
            go_wp2_with fail
            go_roundw
            case rel => exact ⟨p, by omega, by omega, by go_num, HO, HM3⟩
            case measure => simp [intOf]
          · have dc : decide (ordR x y < 0) = false := decide_eq_false hc
            go_wp2_with fail
            refine wp_plan [([0, 1, 2, 3, 4, 5, 6, 9, 10, 11, 7, 8, 12, 13], 14, [])] [15, 16] (by kernel_rfl) (by kernel_rfl) ?_
            simp only [wpSegs, opsOf, List.map_cons, List.map_nil, opN, List.getD_cons_zero, List.getD_cons_succ]
            go_wp2_with (first | ((with_reducible refine xLoadAt rfl L1.out ?_ ?_ ?_); exact rfl; exact rfl) | ((with_reducible refine xLoadAt rfl L2.out ?_ ?_ ?_); exact rfl; exact rfl))
            refine ⟨by first | trivial | rfl, ?_⟩
            go_wp2_with fail
            refine (C.out _).mono ?_
            rintro e w1 ⟨rfl, m1⟩
            have M1 := Lib.hid ((hM2.out.trans ((Mod.refl [] wr).drew).nil).trans m1.nil)
            have HO : Hid (∃ l, InsOut ltR P A R (k + 1) l ∧ RcRow w1 base g N cap l) := Lib.hid ⟨_, hl.stop ordLtR HX.out (.inr ⟨p, y, rfl, by omega, k2, by unfold ltR; exact dc⟩), rowD.kept0 m1⟩
            clear L1 L2 C m1 rowD hrow hl k1 k2 k3 hM2
            go_wp2_with fail
            refine ⟨again_nil, ?_⟩
            go_wp2_with fail
            refine ⟨by first | trivial | rfl, ?_⟩
            go_wp2_with fail
            exact ⟨⟨k + 1, i + 1, by rw [HIK.out]; omega, by omega, by omega, by go_num, HO, M1⟩, by simp [intOf]; omega⟩
        · obtain rfl : j = a := by omega
          have d1 : decide ((j : Int) < (j : Int)) = false := decide_eq_false (by omega)
          have HO : Hid (∃ l, InsOut ltR P A R (k + 1) l ∧ RcRow wr.drew base g N cap l) := Lib.hid ⟨_, hl.stop ordLtR HX.out (.inl ha.symm), hrow.kept0 ((Mod.refl [] wr).drew)⟩
          have M1 := Lib.hid (hM2.out.trans ((Mod.refl [] wr).drew).nil)
          clear hM2 hl hrow
          go_wp2_with fail
          refine wp_plan [([0, 1, 2, 3, 4, 5, 6, 9, 10, 11, 7, 8, 12, 13], 14, [])] [15, 16] (by kernel_rfl) (by kernel_rfl) ?_
          simp only [wpSegs, opsOf, List.map_cons, List.map_nil, opN, List.getD_cons_zero, List.getD_cons_succ]
          go_wp2_with fail
          refine ⟨by first | trivial | rfl, ?_⟩
          go_wp2_with fail
          refine ⟨again_nil, ?_⟩
          go_wp2_with fail
          refine ⟨by first | trivial | rfl, ?_⟩
          go_wp2_with fail
          exact ⟨⟨k + 1, i + 1, by rw [HIK.out]; omega, by omega, by omega, by go_num, HO, M1⟩, by simp [intOf]; omega⟩
    · obtain ⟨l, ⟨S, rfl, hS⟩, hrow⟩ := hR.out
      have hAk : A.length ≤ k := by omega
      rw [List.take_of_length_le hAk] at hS
      rw [List.drop_of_length_le hAk] at hrow
      have HE : Hid (∃ W, Merged ltR A W ∧ RcRow wr base g N cap (P ++ (W ++ R)) ∧ Mod [g] w wr) := Lib.hid ⟨S, hS, hrow, hM.out⟩
      clear hS hrow hR
      go_wp2_with fail
      go_end0
      exact ⟨rfl, HE.out⟩
end Go.Proofs.Ytngglpekdjhbdaa
