/- The library's symMerge at rectangles: where the second row has one element. -/
import Derived.Test.YtngglpekdjhbdaaBzG
import Derived.Test.YtngglpekdjhbdaaBzH
namespace Go.Proofs.Ytngglpekdjhbdaa
set_option linter.unusedVariables false
set_option linter.unusedSimpArgs false

/-- a search for the first place at which p turns true, in a row Y that begins at place s: where it stands -/
structure SrchAt {α : Type} (p : α → Bool) (Y : List α) (s lo hi i j : Nat) : Prop where
  low : lo ≤ i
  le : i ≤ j
  high : j ≤ hi
  left : i = lo ∨ ∃ y, Y[i - 1 - s]? = some y ∧ p y = true
  right : j = hi ∨ ∃ y, Y[j - s]? = some y ∧ p y = false
theorem SrchAt.mid {α : Type} {p : α → Bool} {Y : List α} {s lo hi i j : Nat} (h : SrchAt p Y s lo hi i j) (hij : i < j) (hs : s ≤ lo) {y : α} (hy : Y[(i + j) / 2 - s]? = some y) :
    (p y = true → SrchAt p Y s lo hi ((i + j) / 2 + 1) j) ∧ (p y = false → SrchAt p Y s lo hi i ((i + j) / 2)) := by
  have h1 := h.low
  have h2 := h.high
  refine ⟨fun hp => ⟨by omega, by omega, h2, .inr ⟨y, ?_, hp⟩, h.right⟩, fun hp => ⟨h1, by omega, by omega, h.left, .inr ⟨y, hy, hp⟩⟩⟩
  rw [show (i + j) / 2 + 1 - 1 - s = (i + j) / 2 - s by omega]
  exact hy
theorem endLe_take_one {α : Type} {lt : α → α → Bool} {V : List α} {x : α} {n : Nat} (h : n = 0 ∨ ∃ y, V[n - 1]? = some y ∧ lt x y = false) : EndLe lt (V.take n) [x] := by
  rcases h with rfl | ⟨y, hy, hl⟩
  · exact .inl (by simp)
  · rcases Nat.eq_zero_or_pos n with rfl | hn
    · exact .inl (by simp)
    · refine .inr (.inr ⟨y, x, ?_, rfl, hl⟩)
      obtain ⟨h1, e1⟩ := List.getElem?_eq_some_iff.1 hy
      rw [List.getLast?_eq_getElem?, List.length_take, show min n V.length - 1 = n - 1 by omega, List.getElem?_take_of_lt (by omega)]
      exact hy
theorem endLe_one_drop {α : Type} {lt : α → α → Bool} {V : List α} {x : α} {n : Nat} (h : V.length ≤ n ∨ ∃ y, V[n]? = some y ∧ lt y x = false) : EndLe lt [x] (V.drop n) := by
  rcases h with h | ⟨y, hy, hl⟩
  · exact .inr (.inl (List.drop_of_length_le h))
  · exact .inr (.inr ⟨x, y, rfl, by rw [List.head?_drop]; exact hy, hl⟩)
theorem endLe_take_drop {α : Type} {lt : α → α → Bool} {U V : List α} {n k : Nat} (h : n = 0 ∨ V.length ≤ k ∨ ∃ x y, U[n - 1]? = some x ∧ V[k]? = some y ∧ lt y x = false) : EndLe lt (U.take n) (V.drop k) := by
  rcases h with rfl | h | ⟨x, y, hx, hy, hl⟩
  · exact .inl (by simp)
  · exact .inr (.inl (List.drop_of_length_le h))
  · rcases Nat.eq_zero_or_pos n with rfl | hn
    · exact .inl (by simp)
    · refine .inr (.inr ⟨x, y, ?_, by rw [List.head?_drop]; exact hy, hl⟩)
      obtain ⟨h1, e1⟩ := List.getElem?_eq_some_iff.1 hx
      rw [List.getLast?_eq_getElem?, List.length_take, show min n U.length - 1 = n - 1 by omega, List.getElem?_take_of_lt (by omega)]
      exact hx
/-- one element ahead of a sorted row: found its place -/
theorem srch_left {α : Type} {lt : α → α → Bool} (O : Ord3 lt) {V : List α} {x : α} {m i : Nat} (hV : Srt lt V) (h : SrchAt (fun y => lt y x) V m m (m + V.length) i i) : Merged lt (x :: V) (V.take (i - m) ++ x :: V.drop (i - m)) := by
  have h1 := h.low
  have e : x :: V = x :: (V.take (i - m) ++ V.drop (i - m)) := by rw [List.take_append_drop]
  rw [e]
  refine merged_one O (by rw [List.take_append_drop]; exact hV) (endLe_take_one ?_) (endLe_one_drop ?_)
  · rcases h.left with e | ⟨y, hy, hp⟩
    · left; omega
    · exact .inr ⟨y, by rw [show i - m - 1 = i - 1 - m by omega]; exact hy, O.asymm _ _ hp⟩
  · rcases h.right with e | ⟨y, hy, hp⟩
    · left; omega
    · exact .inr ⟨y, hy, hp⟩
/-- one element behind a sorted row: found its place -/
theorem srch_right {α : Type} {lt : α → α → Bool} (O : Ord3 lt) {U : List α} {x : α} {a i : Nat} (hU : Srt lt U) (h : SrchAt (fun y => !(lt x y)) U a a (a + U.length) i i) : Merged lt (U ++ [x]) (U.take (i - a) ++ x :: U.drop (i - a)) := by
  have h1 := h.low
  have hm : Merged lt (x :: (U.take (i - a) ++ U.drop (i - a))) (U.take (i - a) ++ x :: U.drop (i - a)) := by
    refine merged_one O (by rw [List.take_append_drop]; exact hU) (endLe_take_one ?_) (endLe_one_drop ?_)
    · rcases h.left with e | ⟨y, hy, hp⟩
      · left; omega
      · exact .inr ⟨y, by rw [show i - a - 1 = i - 1 - a by omega]; exact hy, by simpa using hp⟩
    · rcases h.right with e | ⟨y, hy, hp⟩
      · left; omega
      · exact .inr ⟨y, hy, O.asymm _ _ (by simpa using hp)⟩
  rw [List.take_append_drop] at hm
  exact ⟨List.perm_append_comm.trans hm.1, hm.2⟩
/-- an element on its way through a row -/
def Way {α : Type} (P V R : List α) (x : α) (n : Nat) : List α := P ++ ((V.take n ++ x :: V.drop n) ++ R)
theorem way_up {α : Type} (P V R : List α) (x : α) {n : Nat} (hn : n < V.length) : ∃ y, (Way P V R x n)[P.length + n]? = some x ∧ (Way P V R x n)[P.length + n + 1]? = some y ∧ ((Way P V R x n).set (P.length + n) y).set (P.length + n + 1) x = Way P V R x (n + 1) := by
  have hl : (P ++ V.take n).length = P.length + n := by rw [List.length_append, List.length_take]; omega
  have e : Way P V R x n = (P ++ V.take n) ++ x :: (V[n] :: (V.drop (n + 1) ++ R)) := by
    unfold Way; rw [List.drop_eq_getElem_cons hn]; simp only [List.append_assoc, List.cons_append, List.nil_append]
  have e2 : Way P V R x (n + 1) = (P ++ V.take n) ++ V[n] :: (x :: (V.drop (n + 1) ++ R)) := by
    unfold Way; rw [List.take_succ_eq_append_getElem hn]; simp only [List.append_assoc, List.cons_append, List.nil_append]
  rw [e, e2]
  refine ⟨V[n], by rw [← hl]; exact get_mid _ _ _, ?_, ?_⟩
  · rw [List.getElem?_append_right (by omega), show P.length + n + 1 - (P ++ V.take n).length = 1 by omega]; rfl
  · have := swap_mid (P ++ V.take n) [] (V.drop (n + 1) ++ R) x V[n]
    simp only [List.nil_append, List.length_nil, Nat.zero_add] at this
    rw [← hl]
    exact this
theorem way_down {α : Type} (P V R : List α) (x : α) {n : Nat} (hn : n < V.length) : ∃ y, (Way P V R x (n + 1))[P.length + n + 1]? = some x ∧ (Way P V R x (n + 1))[P.length + n]? = some y ∧ ((Way P V R x (n + 1)).set (P.length + n + 1) y).set (P.length + n) x = Way P V R x n := by
  have hl : (P ++ V.take n).length = P.length + n := by rw [List.length_append, List.length_take]; omega
  have e : Way P V R x n = (P ++ V.take n) ++ x :: (V[n] :: (V.drop (n + 1) ++ R)) := by
    unfold Way; rw [List.drop_eq_getElem_cons hn]; simp only [List.append_assoc, List.cons_append, List.nil_append]
  have e2 : Way P V R x (n + 1) = (P ++ V.take n) ++ V[n] :: (x :: (V.drop (n + 1) ++ R)) := by
    unfold Way; rw [List.take_succ_eq_append_getElem hn]; simp only [List.append_assoc, List.cons_append, List.nil_append]
  rw [e, e2]
  refine ⟨V[n], ?_, by rw [← hl]; exact get_mid _ _ _, ?_⟩
  · rw [List.getElem?_append_right (by omega), show P.length + n + 1 - (P ++ V.take n).length = 1 by omega]; rfl
  · rw [← hl, List.set_append_right _ _ (by omega), show (P ++ V.take n).length + 1 - (P ++ V.take n).length = 1 by omega, List.set_append_right _ _ (Nat.le_refl _), Nat.sub_self]
    rfl
/-- the cut that the third search finds: places c of U and mid - 1 - (c - a).. of V that mirror each other -/
structure SymAt {α : Type} (lt : α → α → Bool) (U V : List α) (a mid s0 r0 start r : Nat) : Prop where
  low : s0 ≤ start
  le : start ≤ r
  high : r ≤ r0
  left : start = s0 ∨ ∃ x y, U[start - 1 - a]? = some x ∧ V[mid - start]? = some y ∧ lt y x = false
  right : r = r0 ∨ ∃ x y, U[r - a]? = some x ∧ V[mid - 1 - r]? = some y ∧ lt y x = true
theorem SymAt.mid {α : Type} {lt : α → α → Bool} {U V : List α} {a mid s0 r0 start r : Nat} (h : SymAt lt U V a mid s0 r0 start r) (hsr : start < r) {x y : α} (hx : U[(start + r) / 2 - a]? = some x) (hy : V[mid - 1 - (start + r) / 2]? = some y) :
    (lt y x = false → SymAt lt U V a mid s0 r0 ((start + r) / 2 + 1) r) ∧ (lt y x = true → SymAt lt U V a mid s0 r0 start ((start + r) / 2)) := by
  have h1 := h.low
  have h2 := h.high
  refine ⟨fun hp => ⟨by omega, by omega, h2, .inr ⟨x, y, ?_, ?_, hp⟩, h.right⟩, fun hp => ⟨h1, by omega, by omega, h.left, .inr ⟨x, y, hx, hy, hp⟩⟩⟩
  · rw [show (start + r) / 2 + 1 - 1 - a = (start + r) / 2 - a by omega]; exact hx
  · rw [show mid - ((start + r) / 2 + 1) = mid - 1 - (start + r) / 2 by omega]; exact hy
/-- the bounds that symMerge begins its third search with -/
def symLo (a m b : Nat) : Nat := if (a + b) / 2 < m then (a + b) / 2 + m - b else a
def symHi (a m b : Nat) : Nat := if (a + b) / 2 < m then (a + b) / 2 else m
theorem sym_bounds {a m b : Nat} (h1 : a < m) (h2 : m < b) : a ≤ symLo a m b ∧ symLo a m b ≤ symHi a m b ∧ symHi a m b ≤ m ∧ symHi a m b ≤ (a + b) / 2 ∧ (a + b) / 2 + m ≤ b + symLo a m b := by
  unfold symLo symHi
  split <;> omega
/-- what the cut gives -/
theorem sym_cut {α : Type} {lt : α → α → Bool} (O : Ord3 lt) {U V : List α} {a m b mid s : Nat} (hm : m = a + U.length) (hb : b = m + V.length) (h1 : a < m) (h2 : m < b) (hmid : mid = (a + b) / 2) (hU : Srt lt U) (hV : Srt lt V) (h : SymAt lt U V a mid (symLo a m b) (symHi a m b) s s) :
    AllLe lt (U.take (s - a) ++ V.take (mid - s)) (U.drop (s - a) ++ V.drop (mid - s)) := by
  obtain ⟨b1, b2, b3, b4, b5⟩ := sym_bounds h1 h2
  have k1 := h.low
  have k2 := h.high
  rw [← hmid] at b4 b5
  refine cut_le O (by rw [List.take_append_drop]; exact hU) (by rw [List.take_append_drop]; exact hV) (endLe_take_drop ?_) (endLe_take_drop ?_)
  · rcases h.left with e | ⟨x, y, hx, hy, hl⟩
    · unfold symLo at e
      rw [← hmid] at e
      split at e
      · right; left; omega
      · left; omega
    · exact .inr (.inr ⟨x, y, by rw [show s - a - 1 = s - 1 - a by omega]; exact hx, hy, hl⟩)
  · rcases h.right with e | ⟨x, y, hx, hy, hl⟩
    · unfold symHi at e
      rw [← hmid] at e
      split at e
      · left; omega
      · right; left; omega
    · exact .inr (.inr ⟨y, x, by rw [show mid - s - 1 = mid - 1 - s by omega]; exact hy, hx, O.asymm _ _ hl⟩)
/-- the row when it is cut and turned -/
def symMid {α : Type} (P U V R : List α) (n k : Nat) : List α := P ++ ((U.take n ++ V.take k) ++ ((U.drop n ++ V.drop k) ++ R))
theorem sym_rot {α : Type} (P U V R : List α) {m n k : Nat} (hn : n ≤ U.length) (hk : k ≤ V.length) (hm : m = P.length + U.length) : RotAt (symMid P U V R n k) m (U.length - n) k (P ++ ((U ++ V) ++ R)) := by
  refine ⟨P ++ U.take n, U.drop n, V.take k, V.drop k ++ R, ?_, ?_, by rw [List.length_append, List.length_take]; omega, by rw [List.length_drop], by rw [List.length_take]; omega⟩
  · rw [← List.append_assoc (V.take k), List.take_append_drop, List.append_assoc P, ← List.append_assoc (U.take n), List.take_append_drop, List.append_assoc]
  · unfold symMid
    simp [List.append_assoc]
theorem sym_same {α : Type} (P U V R : List α) {n k : Nat} (h : U.length ≤ n ∨ k = 0) : symMid P U V R n k = P ++ ((U ++ V) ++ R) := by
  unfold symMid
  rcases h with h | rfl
  · rw [List.take_of_length_le h, List.drop_of_length_le h, List.nil_append, ← List.append_assoc (U ++ V.take k), List.append_assoc U, List.take_append_drop]
  · simp [← List.append_assoc]
theorem sym_merged {α : Type} {lt : α → α → Bool} {U V W1 W2 : List α} {n k : Nat} (h1 : Merged lt (U.take n ++ V.take k) W1) (h2 : Merged lt (U.drop n ++ V.drop k) W2) (h : AllLe lt (U.take n ++ V.take k) (U.drop n ++ V.drop k)) : Merged lt (U ++ V) (W1 ++ W2) := by
  have hm := merged_two h1 h2 h
  refine ⟨List.Perm.trans ?_ hm.1, hm.2⟩
  have e : U ++ V = U.take n ++ (U.drop n ++ (V.take k ++ V.drop k)) := by rw [List.take_append_drop, ← List.append_assoc, List.take_append_drop]
  rw [e]
  have := perm_four (U.take n) (U.drop n) (V.take k) (V.drop k)
  simpa [List.append_assoc] using this
end Go.Proofs.Ytngglpekdjhbdaa
namespace Go.Proofs.Ytngglpekdjhbdaa
open Go.RowKit Go.ChangeMaps Go.Deep
set_option linter.unusedSimpArgs false
set_option linter.unusedVariables false
set_option maxRecDepth 20000

/-- what symMerge leaves -/
def SymPost (w : World) (base g N cap : Nat) (P A R : List Rc) (w' : World) : Prop := ∃ W, Merged ltR A W ∧ RcRow w' base g N cap (P ++ (W ++ R)) ∧ Mod [g] w w'
theorem way_zero {α : Type} (P V R : List α) (x : α) : Way P V R x 0 = P ++ ((x :: V) ++ R) := by simp [Way]
theorem way_all {α : Type} (P V R : List α) (x : α) : Way P V R x V.length = P ++ ((V ++ [x]) ++ R) := by simp [Way]
theorem way_get {α : Type} (P V R : List α) (x : α) {c : Nat} (hc : c < V.length) : (P ++ ((x :: V) ++ R))[P.length + 1 + c]? = some V[c] := by
  rw [List.getElem?_append_right (by omega), show P.length + 1 + c - P.length = c + 1 by omega, List.cons_append, List.getElem?_cons_succ, List.getElem?_append_left hc, List.getElem?_eq_getElem hc]
set_option maxHeartbeats 8000000 in
theorem sym_left {w : World} {base g N cap a m b : Nat} {P V R : List Rc} {x : Rc} (h : RcRow w base g N cap (P ++ ((x :: V) ++ R))) (ha : P.length = a) (hm : a + 1 = m) (hb : m + V.length = b) (hV : 0 < V.length) (hN : N ≤ 1000000) (hs : Srt ltR V) :
    Calls Try.prog 102 #[.slice (some ⟨g, 0, none⟩) N cap, .int .i64 a, .int .i64 m, .int .i64 b, .func (.func 53) #[] #[]] w fun e w' => e = .returned (.tuple #[]) ∧ SymPost w base g N cap P (x :: V) R w' := by
  have HM := Lib.hid (Mod.refl [g] w)
  have e1 : (m : Int) - (a : Int) = 1 := by omega
  have hlen : b ≤ N := by have := h.len; simp only [List.length_append, List.length_cons] at this; omega
  have HR := Lib.hid h
  have HS := Lib.hid hs
  have HF := Lib.hid (show SrchAt (fun y => ltR y x) V m m b m b from ⟨Nat.le_refl _, by omega, Nat.le_refl _, .inl rfl, .inl rfl⟩)
  clear h hs
  go_enter Try.func102, Try.ntmps102
  go_wp2_with fail
  go_loopw [10, 11] (fun s10 s11 W => ∃ i j : Nat, s10 = .int .i64 (i : Int) ∧ s11 = .int .i64 (j : Int) ∧ m ≤ i ∧ i ≤ j ∧ j ≤ b ∧ Hid (SrchAt (fun y => ltR y x) V m m b i j) ∧ Hid (RcRow W base g N cap (P ++ ((x :: V) ++ R))) ∧ Hid (Mod [g] w W)) (fun s10 s11 _ => (intOf s11).toNat - (intOf s10).toNat)
  case atStart => exact ⟨m, b, rfl, rfl, by omega, by omega, by omega, HF, HR, HM⟩
  case round =>
    obtain ⟨i, j, rfl, rfl, hi, hij, hj, hF, hR, hM⟩ := hrel
    clear HF HR HM
    by_cases hlt : i < j
    · obtain ⟨h, hh⟩ : ∃ h, h = (i + j) / 2 := ⟨_, rfl⟩
      have hh1 : i ≤ h ∧ h < j := by omega
      go_upto_region 5 with fail
      simp only [show ((i : Int) + (j : Int)) / 2 = (h : Int) from by omega]
      obtain ⟨c, hc⟩ : ∃ c, h = a + 1 + c := ⟨h - (a + 1), by omega⟩
      have hcm : h = m + c := by omega
      have hcV : c < V.length := by omega
      have k1 := way_get P V R x hcV
      have k0 := way_zero P V R x
      have kx : (P ++ ((x :: V) ++ R))[a]? = some x := by rw [← ha]; exact get_mid P (V ++ R) x
      obtain ⟨y, hy⟩ : ∃ y, V[c]'hcV = y := ⟨_, rfl⟩
      rw [ha, ← hc, hy] at k1
      have hyg : V[(i + j) / 2 - m]? = some y := by rw [← hh, show h - m = c by omega, List.getElem?_eq_getElem hcV, hy]
      have rowD := hR.out.kept0 ((Mod.refl [] wr).drew)
      have L1 := Lib.hid (rowD.load k1)
      have L2 := Lib.hid (rowD.load kx)
      have C := Lib.hid (fun W => rects1_any y x W)
      simp only [rcV] at C
      obtain ⟨q1, q2⟩ := hF.out.mid hlt (Nat.le_refl _) hyg
      rw [← hh] at q1 q2
      have hhN : h < N := by omega
      have haN : a < N := by omega
      have HHH := Lib.hid hc
      have HH2 := Lib.hid hh
      clear k1 kx k0 hyg hF hc hcm hh hy hcV
      refine wp_plan [([0, 1, 2, 5, 6, 3, 7, 4, 8], 9, [])] [10] (by kernel_rfl) (by kernel_rfl) ?_
      simp only [wpSegs, opsOf, List.map_cons, List.map_nil, opN, List.getD_cons_zero, List.getD_cons_succ]
      go_wp2_with (first | ((with_reducible refine xLoadAt rfl L1.out ?_ ?_ ?_); exact rfl; exact rfl) | ((with_reducible refine xLoadAt rfl L2.out ?_ ?_ ?_); exact rfl; exact rfl))
      refine ⟨by first | trivial | rfl, ?_⟩
      go_wp2_with fail
      refine (C.out _).mono ?_
      rintro e w1 ⟨rfl, m1⟩
      have HR2 := Lib.hid (rowD.kept0 m1)
      have HM2 := Lib.hid ((hM.out.trans ((Mod.refl [] wr).drew).nil).trans m1.nil)
      clear L1 L2 C rowD m1 hR hM
      by_cases hc0 : ordR y x < 0
      · have dc : decide (ordR y x < 0) = true := decide_eq_true hc0
        have HF2 := Lib.hid (q1 (by unfold ltR; exact dc))
        clear q1 q2
        go_wp2_with fail
        refine ⟨again_nil, ?_⟩
        go_wp2_with fail
        refine ⟨by first | trivial | rfl, ?_⟩
        go_wp2_with fail
        go_roundw
        case rel => exact ⟨h + 1, j, by go_num, rfl, by omega, by omega, by omega, HF2, HR2, HM2⟩
        case measure => simp [intOf]; omega
      · have dc : decide (ordR y x < 0) = false := decide_eq_false hc0
        have HF2 := Lib.hid (q2 (by unfold ltR; exact dc))
        clear q1 q2
        go_wp2_with fail
        refine ⟨again_nil, ?_⟩
        go_wp2_with fail
        refine ⟨by first | trivial | rfl, ?_⟩
        go_wp2_with fail
        go_roundw
        case rel => exact ⟨i, h, rfl, rfl, by omega, by omega, by omega, HF2, HR2, HM2⟩
        case measure => simp [intOf]; omega
    · obtain rfl : i = j := by omega
      obtain ⟨n, hn⟩ : ∃ n, i = a + 1 + n := ⟨i - (a + 1), by omega⟩
      have hnV : n ≤ V.length := by omega
      have HW := Lib.hid (srch_left ordLtR HS.out (m := m) (by rw [hb]; exact hF.out))
      rw [show i - m = n by omega] at HW
      have HR0 := Lib.hid (show RcRow wr base g N cap (Way P V R x 0) by rw [way_zero]; exact hR.out)
      clear hF hR
      go_wp2_with fail
      go_loopw [13] (fun s13 W => ∃ k : Nat, k ≤ n ∧ s13 = .int .i64 ((a + k : Nat) : Int) ∧ Hid (RcRow W base g N cap (Way P V R x k)) ∧ Hid (Mod [g] w W)) (fun s13 _ => b - (intOf s13).toNat)
      case atStart => exact ⟨0, by omega, by go_num, HR0, hM⟩
      case round =>
        obtain ⟨k, hk, rfl, hR, hM2⟩ := hrel
        clear HR0 hM
        by_cases hkn : k < n
        · obtain ⟨y, k1, k2, k3⟩ := way_up P V R x (show k < V.length by omega)
          rw [ha] at k1 k2 k3
          obtain ⟨q, hq⟩ : ∃ q, q = a + k := ⟨_, rfl⟩
          rw [← hq] at k1 k2 k3
          have rowD := hR.out.kept0 ((Mod.refl [] wr).drew)
          obtain ⟨w2, w3, r1, r2, m3, o3⟩ := rowD.swap k1 k2
          rw [k3] at o3
          have HO := Lib.hid o3
          have HM3 := Lib.hid ((hM2.out.trans ((Mod.refl [] wr).drew).nil).trans m3)
          have L3 := Lib.hid (rowD.load k1)
          have L4 := Lib.hid (rowD.load k2)
          have R1 := Lib.hid r1
          have R2 := Lib.hid r2
          have hqN : q + 1 < N := by omega
          have hqi : decide ((q : Int) < (i : Int) - 1) = true := decide_eq_true (by omega)
          have HQ := Lib.hid hq
          have HN := Lib.hid hn
          clear k1 k2 k3 rowD r1 r2 m3 o3 hR hM2
          rw [← hq]
          clear hq hn
          go_wp2_with fail
          refine wp_plan [([0, 1, 2, 3, 5, 6, 10, 11, 4, 7, 12, 8, 13, 9, 14], 15, [4]), ([16], 17, [])] [] (by kernel_rfl) (by kernel_rfl) ?_
          simp only [wpSegs, opsOf, List.map_cons, List.map_nil, opN, List.getD_cons_zero, List.getD_cons_succ]
          go_wp2_with (first | ((with_reducible refine xLoadAt rfl L3.out ?_ ?_ ?_); exact rfl; exact rfl) | ((with_reducible refine xLoadAt rfl L4.out ?_ ?_ ?_); exact rfl; exact rfl))
          refine ⟨by first | trivial | rfl, ?_⟩
          go_wp2_with ((with_reducible refine xStoreAt rfl R1.out ?_ ?_ ?_ ?_); exact rfl; exact rfl; exact rfl)
          refine ⟨?ag1, ?_⟩
          case ag1 =>
            intro i hi hw
            simp only [List.mem_cons, List.not_mem_nil, or_false] at hi
            subst hi
            all_goals (simp only [opN, List.getD_cons_zero, List.getD_cons_succ, slotOf]; go_simp; rw [IntKind.wrap_i64]; omega)
          go_wp2_with fail
          refine ⟨by first | trivial | rfl, ?_⟩
          go_wp2_with ((with_reducible refine xStoreAt rfl R2.out ?_ ?_ ?_ ?_); exact rfl; exact rfl; exact rfl)
          refine ⟨again_nil, ?_⟩
          go_wp2_with fail
          refine ⟨by first | trivial | rfl, ?_⟩
          go_wp2_with fail
          go_roundw
          case rel => exact ⟨k + 1, by omega, by rw [HQ.out]; go_num, HO, HM3⟩
          case measure =>
            have z1 := HQ.out
            have z2 := HN.out
            simp [intOf]; omega
        · obtain rfl : k = n := by omega
          have HE : Hid (SymPost w base g N cap P (x :: V) R wr) := Lib.hid ⟨_, HW.out, hR.out, hM2.out⟩
          have hqi : decide ((a : Int) + (k : Int) < (i : Int) - 1) = false := decide_eq_false (by omega)
          clear hR hM2 HW
          go_wp2_with fail
          refine bodyPost_ret (results_none rfl _ _ _) rfl ?_
          exact ⟨rfl, HE.out⟩
end Go.Proofs.Ytngglpekdjhbdaa
namespace Go.Proofs.Ytngglpekdjhbdaa
open Go.RowKit Go.ChangeMaps Go.Deep
set_option linter.unusedSimpArgs false
set_option linter.unusedVariables false
set_option maxRecDepth 20000

theorem way_get2 {α : Type} (P U R : List α) (x : α) {c : Nat} (hc : c < U.length) : (P ++ ((U ++ [x]) ++ R))[P.length + c]? = some U[c] := by
  rw [List.getElem?_append_right (by omega), show P.length + c - P.length = c by omega, List.append_assoc, List.getElem?_append_left hc, List.getElem?_eq_getElem hc]
theorem way_get3 {α : Type} (P U R : List α) (x : α) : (P ++ ((U ++ [x]) ++ R))[P.length + U.length]? = some x := by
  rw [List.getElem?_append_right (by omega), show P.length + U.length - P.length = U.length by omega, List.append_assoc]
  exact get_mid U R x
set_option maxHeartbeats 8000000 in
theorem sym_right {w : World} {base g N cap a m b : Nat} {P U R : List Rc} {x : Rc} (h : RcRow w base g N cap (P ++ ((U ++ [x]) ++ R))) (ha : P.length = a) (hm : a + U.length = m) (hb : m + 1 = b) (hU : 1 < U.length) (hN : N ≤ 1000000) (hs : Srt ltR U) :
    Calls Try.prog 102 #[.slice (some ⟨g, 0, none⟩) N cap, .int .i64 a, .int .i64 m, .int .i64 b, .func (.func 53) #[] #[]] w fun e w' => e = .returned (.tuple #[]) ∧ SymPost w base g N cap P (U ++ [x]) R w' := by
  have HM := Lib.hid (Mod.refl [g] w)
  have e1 : ((m : Int) - (a : Int) == 1) = false := by simp; omega
  have e2 : (b : Int) - (m : Int) = 1 := by omega
  have hlen : b ≤ N := by have := h.len; simp only [List.length_append, List.length_cons] at this; omega
  have HR := Lib.hid h
  have HS := Lib.hid hs
  have HF := Lib.hid (show SrchAt (fun y => !(ltR x y)) U a a m a m from ⟨Nat.le_refl _, by omega, Nat.le_refl _, .inl rfl, .inl rfl⟩)
  clear h hs
  go_enter Try.func102, Try.ntmps102
  go_wp2_with fail
  go_loopw [14, 15] (fun s14 s15 W => ∃ i j : Nat, s14 = .int .i64 (i : Int) ∧ s15 = .int .i64 (j : Int) ∧ a ≤ i ∧ i ≤ j ∧ j ≤ m ∧ Hid (SrchAt (fun y => !(ltR x y)) U a a m i j) ∧ Hid (RcRow W base g N cap (P ++ ((U ++ [x]) ++ R))) ∧ Hid (Mod [g] w W)) (fun s14 s15 _ => (intOf s15).toNat - (intOf s14).toNat)
  case atStart => exact ⟨a, m, rfl, rfl, by omega, by omega, by omega, HF, HR, HM⟩
  case round =>
    obtain ⟨i, j, rfl, rfl, hi, hij, hj, hF, hR, hM⟩ := hrel
    clear HF HR HM
    by_cases hlt : i < j
    · obtain ⟨h, hh⟩ : ∃ h, h = (i + j) / 2 := ⟨_, rfl⟩
      have hh1 : i ≤ h ∧ h < j := by omega
      go_upto_region 17 with fail
      simp only [show ((i : Int) + (j : Int)) / 2 = (h : Int) from by omega]
      obtain ⟨c, hc⟩ : ∃ c, h = a + c := ⟨h - a, by omega⟩
      have hcU : c < U.length := by omega
      have k1 := way_get2 P U R x hcU
      have kx := way_get3 P U R x
      obtain ⟨y, hy⟩ : ∃ y, U[c]'hcU = y := ⟨_, rfl⟩
      rw [ha, ← hc, hy] at k1
      rw [ha, hm] at kx
      have hyg : U[(i + j) / 2 - a]? = some y := by rw [← hh, show h - a = c by omega, List.getElem?_eq_getElem hcU, hy]
      have rowD := hR.out.kept0 ((Mod.refl [] wr).drew)
      have L1 := Lib.hid (rowD.load k1)
      have L2 := Lib.hid (rowD.load kx)
      have C := Lib.hid (fun W => rects1_any x y W)
      simp only [rcV] at C
      obtain ⟨q1, q2⟩ := hF.out.mid hlt (Nat.le_refl _) hyg
      rw [← hh] at q1 q2
      have hhN : h < N := by omega
      have haN : m < N := by omega
      have HHH := Lib.hid hc
      have HH2 := Lib.hid hh
      clear k1 kx hyg hF hc hh hy hcU
      refine wp_plan [([0, 1, 2, 5, 6, 3, 7, 4, 8], 9, [])] [10, 11] (by kernel_rfl) (by kernel_rfl) ?_
      simp only [wpSegs, opsOf, List.map_cons, List.map_nil, opN, List.getD_cons_zero, List.getD_cons_succ]
      go_wp2_with (first | ((with_reducible refine xLoadAt rfl L1.out ?_ ?_ ?_); exact rfl; exact rfl) | ((with_reducible refine xLoadAt rfl L2.out ?_ ?_ ?_); exact rfl; exact rfl))
      refine ⟨by first | trivial | rfl, ?_⟩
      go_wp2_with fail
      refine (C.out _).mono ?_
      rintro e w1 ⟨rfl, m1⟩
      have HR2 := Lib.hid (rowD.kept0 m1)
      have HM2 := Lib.hid ((hM.out.trans ((Mod.refl [] wr).drew).nil).trans m1.nil)
      clear L1 L2 C rowD m1 hR hM
      by_cases hc0 : ordR x y < 0
      · have dc : decide (ordR x y < 0) = true := decide_eq_true hc0
        have HF2 := Lib.hid (q2 (by unfold ltR; rw [dc]; rfl))
        clear q1 q2
        go_wp2_with fail
        refine ⟨again_nil, ?_⟩
        go_wp2_with fail
        refine ⟨by first | trivial | rfl, ?_⟩
        go_wp2_with fail
        go_roundw
        case rel => exact ⟨i, h, rfl, rfl, by omega, by omega, by omega, HF2, HR2, HM2⟩
        case measure => simp [intOf]; omega
      · have dc : decide (ordR x y < 0) = false := decide_eq_false hc0
        have HF2 := Lib.hid (q1 (by unfold ltR; rw [dc]; rfl))
        clear q1 q2
        go_wp2_with fail
        refine ⟨again_nil, ?_⟩
        go_wp2_with fail
        refine ⟨by first | trivial | rfl, ?_⟩
        go_wp2_with fail
        go_roundw
        case rel => exact ⟨h + 1, j, by go_num, rfl, by omega, by omega, by omega, HF2, HR2, HM2⟩
        case measure => simp [intOf]; omega
    · obtain rfl : i = j := by omega
      obtain ⟨n, hn⟩ : ∃ n, i = a + n := ⟨i - a, by omega⟩
      have hnU : n ≤ U.length := by omega
      have HW := Lib.hid (srch_right ordLtR HS.out (a := a) (by rw [hm]; exact hF.out))
      rw [show i - a = n by omega] at HW
      have HR0 := Lib.hid (show RcRow wr base g N cap (Way P U R x U.length) by rw [way_all]; exact hR.out)
      have HN := Lib.hid hn
      have HHM := Lib.hid hm
      clear hF hR hn hm
      go_wp2_with fail
      go_loopw [17] (fun s17 W => ∃ k q : Nat, n ≤ k ∧ k ≤ U.length ∧ Hid (q = a + k) ∧ i ≤ q ∧ q ≤ m ∧ s17 = .int .i64 (q : Int) ∧ Hid (RcRow W base g N cap (Way P U R x k)) ∧ Hid (Mod [g] w W)) (fun s17 _ => (intOf s17).toNat)
      case atStart => exact ⟨U.length, m, by omega, by omega, Lib.hid HHM.out.symm, by omega, by omega, rfl, HR0, hM⟩
      case round =>
        obtain ⟨k, q, hk, hkU, HQ, hiq, hqm, rfl, hR, hM2⟩ := hrel
        clear HR0 hM
        by_cases hkn : n < k
        · obtain ⟨p, rfl⟩ : ∃ p, k = p + 1 := ⟨k - 1, by omega⟩
          obtain ⟨q', rfl⟩ : ∃ q', q = q' + 1 := ⟨q - 1, by have := HQ.out; omega⟩
          obtain ⟨y, k1, k2, k3⟩ := way_down P U R x (show p < U.length by omega)
          have hq' : a + p = q' := by have := HQ.out; omega
          rw [ha, hq'] at k1 k2 k3
          have rowD := hR.out.kept0 ((Mod.refl [] wr).drew)
          obtain ⟨w2, w3, r1, r2, m3, o3⟩ := rowD.swap k1 k2
          rw [k3] at o3
          have HO := Lib.hid o3
          have HM3 := Lib.hid ((hM2.out.trans ((Mod.refl [] wr).drew).nil).trans m3)
          have L3 := Lib.hid (rowD.load k1)
          have L4 := Lib.hid (rowD.load k2)
          have R1 := Lib.hid r1
          have R2 := Lib.hid r2
          have hqN : q' + 1 < N := by omega
          have hqi : decide ((i : Int) < (q' : Int) + 1) = true := decide_eq_true (by have := HN.out; omega)
          have HQ' := Lib.hid hq'
          have HPN := Lib.hid (show i ≤ q' by have := HN.out; omega)
          clear k1 k2 k3 rowD r1 r2 m3 o3 hR hM2 hq'
          go_wp2_with fail
          refine wp_plan [([0, 1, 2, 3, 5, 6, 10, 11, 4, 7, 12, 8, 13, 9, 14], 15, [4]), ([16], 17, [])] [] (by kernel_rfl) (by kernel_rfl) ?_
          simp only [wpSegs, opsOf, List.map_cons, List.map_nil, opN, List.getD_cons_zero, List.getD_cons_succ]
          go_wp2_with (first | ((with_reducible refine xLoadAt rfl L3.out ?_ ?_ ?_); exact rfl; exact rfl) | ((with_reducible refine xLoadAt rfl L4.out ?_ ?_ ?_); exact rfl; exact rfl))
          refine ⟨by first | trivial | rfl, ?_⟩
          go_wp2_with ((with_reducible refine xStoreAt rfl R1.out ?_ ?_ ?_ ?_); exact rfl; exact rfl; exact rfl)
          refine ⟨?ag1, ?_⟩
          case ag1 =>
            intro i hi hw
            simp only [List.mem_cons, List.not_mem_nil, or_false] at hi
            subst hi
            all_goals (simp only [opN, List.getD_cons_zero, List.getD_cons_succ, slotOf]; go_simp; rw [IntKind.wrap_i64]; omega)
          go_wp2_with fail
          refine ⟨by first | trivial | rfl, ?_⟩
          go_wp2_with ((with_reducible refine xStoreAt rfl R2.out ?_ ?_ ?_ ?_); exact rfl; exact rfl; exact rfl)
          refine ⟨again_nil, ?_⟩
          go_wp2_with fail
          refine ⟨by first | trivial | rfl, ?_⟩
          go_wp2_with fail
          go_roundw
          case rel => exact ⟨p, q', by omega, by omega, Lib.hid HQ'.out.symm, HPN.out, by omega, by go_num, HO, HM3⟩
          case measure => simp [intOf]
        · obtain rfl : k = n := by omega
          have HE : Hid (SymPost w base g N cap P (U ++ [x]) R wr) := Lib.hid ⟨_, HW.out, hR.out, hM2.out⟩
          obtain rfl : q = i := by have := HQ.out; have := HN.out; omega
          have hqi : decide ((q : Int) < (q : Int)) = false := decide_eq_false (by omega)
          clear hR hM2 HW
          go_wp2_with fail
          refine bodyPost_ret (results_none rfl _ _ _) rfl ?_
          exact ⟨rfl, HE.out⟩
end Go.Proofs.Ytngglpekdjhbdaa
