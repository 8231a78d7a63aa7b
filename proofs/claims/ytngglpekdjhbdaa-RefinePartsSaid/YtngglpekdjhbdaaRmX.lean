/- Layer 12: ref12's Cut. -/
import Derived.Test.YtngglpekdjhbdaaRmW
namespace Go.Proofs.Ytngglpekdjhbdaa
open Go.RowKit Go.ChangeMaps Go.Deep Tr
set_option linter.unusedSimpArgs false
set_option linter.unusedVariables false
set_option maxRecDepth 20000

/-- the value on a day, of the last put that holds it -/
def lastV (L : List Sg) (d : Int) : Int := L.foldl (fun v s => if s.f ≤ d ∧ d < s.t then s.v else v) 0
theorem lastV_snoc (L : List Sg) (s : Sg) (d : Int) : lastV (L ++ [s]) d = if s.f ≤ d ∧ d < s.t then s.v else lastV L d := by
  unfold lastV
  rw [List.foldl_append]
  rfl
theorem made_lastV (ops : List Sg) (d : Int) : madeF ops d = lastV (madeL ops) d := by
  have h : ∀ n, n ≤ ops.length → madeF (ops.take n) d = lastV (madeL (ops.take n)) d := by
    intro n
    induction n with
    | zero => intro _; rfl
    | succ n ih =>
      intro hn
      have ih := ih (by omega)
      rw [List.take_succ_eq_append_getElem (by omega), madeF_snoc, madeL_snoc]
      generalize ops[n] = o
      by_cases hm : mayS o.f o.t
      · rw [show putL (madeL (ops.take n)) o.f o.t o.v = madeL (ops.take n) ++ [⟨o.f, o.t, o.v⟩] from if_pos hm, lastV_snoc, show updM (madeF (ops.take n)) o.f o.t o.v = upd (madeF (ops.take n)) o.f o.t o.v from if_pos hm]
        unfold upd
        rw [ih]
      · rw [show putL (madeL (ops.take n)) o.f o.t o.v = madeL (ops.take n) from if_neg hm, show updM (madeF (ops.take n)) o.f o.t o.v = madeF (ops.take n) from if_neg hm]
        exact ih
  have := h ops.length (Nat.le_refl _)
  rwa [List.take_length] at this
/-- none of the puts from i on holds the day: the value is that of the first i -/
theorem lastV_take (L : List Sg) (d : Int) : ∀ n, n ≤ L.length → (∀ i (h : i < L.length), n ≤ i → ¬ (L[i].f ≤ d ∧ d < L[i].t)) → lastV L d = lastV (L.take n) d := by
  intro n hn h
  have hk : ∀ k, n + k ≤ L.length → lastV (L.take (n + k)) d = lastV (L.take n) d := by
    intro k
    induction k with
    | zero => intro _; rfl
    | succ k ih =>
      intro hk
      rw [show n + (k + 1) = n + k + 1 from rfl, List.take_succ_eq_append_getElem (by omega), lastV_snoc, if_neg (h _ _ (by omega))]
      exact ih (by omega)
  have := hk (L.length - n) (by omega)
  rwa [show n + (L.length - n) = L.length from by omega, List.take_length] at this
end Go.Proofs.Ytngglpekdjhbdaa
namespace Go.Proofs.Ytngglpekdjhbdaa
open Go.RowKit Go.ChangeMaps Go.Deep Tr
set_option linter.unusedSimpArgs false
set_option linter.unusedVariables false
set_option maxRecDepth 20000

theorem rlAt_at {W : World} {r base : Nat} {L : List Sg} (h : RefAt W r base L) (hl : L.length ≤ 1000000) (day : Int) :
    Calls Try.prog 35 #[.pointer (some ⟨r, 0, none⟩), .int .i64 day] W fun e w' => e = .returned (.int .i64 (lastV L day)) ∧ Mod [] W w' := by
  obtain ⟨v, hr, ho⟩ := h
  have c0 := cell_blk hr 0
  simp only [List.getElem?_toArray, List.getElem?_cons_zero] at c0
  obtain ⟨va, vc, rfl⟩ := ho.lens
  have HM := Lib.hid (Mod.refl [] W)
  have HO := Lib.hid ho
  clear hr ho
  go_enter Try.func35, Try.ntmps35
  have hw : wrap64 ((L.length : Int) - 1) = (L.length : Int) - 1 := by unfold wrap64; omega
  go_wp2_with fail
  clear hw
  go_loop [5] (fun s5 => ∃ n : Nat, n ≤ L.length ∧ s5 = .int .i64 ((n : Int) - 1) ∧ Hid (∀ i (h : i < L.length), n ≤ i → ¬ (L[i].f ≤ day ∧ day < L[i].t))) (fun s5 => (intOf s5 + 1).toNat)
  case atStart => exact ⟨L.length, by omega, rfl, Lib.hid (fun i h hi => absurd h (by omega))⟩
  case round =>
    obtain ⟨n, hn, rfl, HN⟩ := hrel
    rcases Nat.eq_zero_or_pos n with hz | hz
    · subst hz
      have HE := Lib.hid (show lastV L day = 0 from lastV_take L day 0 (by omega) HN.out)
      go_wp2_with fail
      go_ret
      exact ⟨by rw [HE.out]; rfl, HM.out⟩
    · obtain ⟨m, rfl⟩ : ∃ m, n = m + 1 := ⟨n - 1, by omega⟩
      obtain ⟨b, o, rfl, hc, hg⟩ := RowAt.get encSg_len HO.out.row (i := m) (by omega)
      have p0 := hg 0 (.int .i64 L[m].f) (by omega) rfl
      have p1 := hg 1 (.int .i64 L[m].t) (by omega) rfl
      have p2 := hg 2 (.int .i64 L[m].v) (by omega) rfl
      simp only [Nat.add_zero] at p0
      have HX := Lib.hid (show ¬ (L[m].f ≤ day ∧ day < L[m].t) → ∀ i (h : i < L.length), m ≤ i → ¬ (L[i].f ≤ day ∧ day < L[i].t) from fun hx i h hi => by
        by_cases he : i = m
        · subst he; exact hx
        · exact HN.out i h (by omega))
      have HV := Lib.hid (show L[m].f ≤ day ∧ day < L[m].t → lastV L day = L[m].v from fun hx => by
        rw [lastV_take L day (m + 1) (by omega) HN.out, List.take_succ_eq_append_getElem (by omega), lastV_snoc, if_pos hx])
      clear hg
      generalize L[m] = x at p0 p1 p2 HX HV
      obtain ⟨xf, xt, xv⟩ := x
      dsimp only at p0 p1 p2 HX HV
      have h1 : ((m + 1 : Nat) : Int) - 1 = (m : Int) := by omega
      rw [h1]
      have h2 : decide (0 ≤ (m : Int)) = true := decide_eq_true (by omega)
      have h3 : decide ((m : Int) < 0) = false := decide_eq_false (by omega)
      have h4 : decide ((L.length : Int) ≤ m) = false := decide_eq_false (by omega)
      have h5 : (m : Int) < L.length := by omega
      rw [show o + (m * 3 + 1) = o + m * 3 + 1 from by omega] at p1
      rw [show o + (m * 3 + 2) = o + m * 3 + 2 from by omega] at p2
      by_cases q1 : xf ≤ day
      · have q1d : decide (xf ≤ day) = true := decide_eq_true q1
        by_cases q2 : day < xt
        · have q2d : decide (day < xt) = true := decide_eq_true q2
          go_wp2_with fail
          go_ret
          exact ⟨by rw [HV.out ⟨q1, q2⟩]; rfl, HM.out⟩
        · have q2d : decide (day < xt) = false := decide_eq_false q2
          go_wp2_with fail
          go_round
          case rel => exact ⟨m, by omega, by go_num, Lib.hid (HX.out (fun h => q2 h.2))⟩
          case measure => simp [intOf, wrap64]
      · have q1d : decide (xf ≤ day) = false := decide_eq_false q1
        go_wp2_with fail
        go_round
        case rel => exact ⟨m, by omega, by go_num, Lib.hid (HX.out (fun h => q1 h.1))⟩
        case measure => simp [intOf, wrap64]
end Go.Proofs.Ytngglpekdjhbdaa
namespace Go.Proofs.Ytngglpekdjhbdaa
open Go.RowKit Go.ChangeMaps Go.Deep Tr
set_option linter.unusedSimpArgs false
set_option linter.unusedVariables false
set_option maxRecDepth 20000

/-- the nearest end behind a day -/
def nextE (d m e : Int) : Int := if d < e ∧ e < m then e else m
def nextL (L : List Sg) (d b : Int) : Int := L.foldl (fun m s => nextE d (nextE d m s.f) s.t) b
theorem nextE_of {d m e : Int} : nextE d m e ≤ m ∧ (d < e → nextE d m e ≤ e) ∧ (nextE d m e = m ∨ nextE d m e = e ∧ d < e) := by
  unfold nextE
  split <;> omega
theorem nextL_of (L : List Sg) (d : Int) : ∀ b, d < b → nextL L d b ≤ b ∧ d < nextL L d b ∧ (∀ s ∈ L, (d < s.f → nextL L d b ≤ s.f) ∧ (d < s.t → nextL L d b ≤ s.t)) ∧ (nextL L d b = b ∨ ∃ s ∈ L, nextL L d b = s.f ∨ nextL L d b = s.t) := by
  induction L with
  | nil => intro b hb; exact ⟨Int.le_refl _, hb, fun s hs => by simp at hs, .inl rfl⟩
  | cons x L ih =>
    intro b hb
    obtain ⟨a1, a2, a3⟩ := nextE_of (d := d) (m := b) (e := x.f)
    obtain ⟨b1, b2, b3⟩ := nextE_of (d := d) (m := nextE d b x.f) (e := x.t)
    have hd : d < nextE d (nextE d b x.f) x.t := by omega
    obtain ⟨c1, c2, c3, c4⟩ := ih (nextE d (nextE d b x.f) x.t) hd
    have e : nextL (x :: L) d b = nextL L d (nextE d (nextE d b x.f) x.t) := rfl
    rw [e]
    refine ⟨by omega, c2, ?_, ?_⟩
    · intro s hs
      rcases List.mem_cons.1 hs with rfl | hs
      · exact ⟨fun h => by have := a2 h; omega, fun h => by have := b2 h; omega⟩
      · exact c3 s hs
    · rcases c4 with c4 | ⟨s, hs, c4⟩
      · rcases b3 with b3 | b3
        · rcases a3 with a3 | a3
          · exact .inl (by omega)
          · exact .inr ⟨x, by simp, .inl (by omega)⟩
        · exact .inr ⟨x, by simp, .inr (by omega)⟩
      · exact .inr ⟨s, by simp [hs], c4⟩
end Go.Proofs.Ytngglpekdjhbdaa
namespace Go.Proofs.Ytngglpekdjhbdaa
open Go.RowKit Go.ChangeMaps Go.Deep Tr
set_option linter.unusedSimpArgs false
set_option linter.unusedVariables false
set_option maxRecDepth 20000

theorem nextE_yes {d m e : Int} (h1 : d < e) (h2 : e < m) : nextE d m e = e := if_pos ⟨h1, h2⟩
theorem nextE_no1 {d m e : Int} (h1 : ¬ d < e) : nextE d m e = m := if_neg fun h => h1 h.1
theorem nextE_no2 {d m e : Int} (h2 : ¬ e < m) : nextE d m e = m := if_neg fun h => h2 h.2
set_option maxHeartbeats 4000000 in
theorem rlNext_at {W : World} {r base : Nat} {L : List Sg} (h : RefAt W r base L) (hl : L.length ≤ 1000000) (day b : Int) :
    Calls Try.prog 64 #[.pointer (some ⟨r, 0, none⟩), .int .i64 day, .int .i64 b] W fun e w' => e = .returned (.int .i64 (nextL L day b)) ∧ Mod [] W w' := by
  obtain ⟨v, hr, ho⟩ := h
  have c0 := cell_blk hr 0
  simp only [List.getElem?_toArray, List.getElem?_cons_zero] at c0
  obtain ⟨va, vc, rfl⟩ := ho.lens
  have HM := Lib.hid (Mod.refl [] W)
  have HO := Lib.hid ho
  clear hr ho
  go_enter Try.func64, Try.ntmps64
  go_wp2_with fail
  go_loop [7, 8] (fun s7 s8 => ∃ (n : Nat) (m : Int), n ≤ L.length ∧ s8 = .int .i64 n ∧ s7 = .int .i64 m ∧ Hid (m = nextL (L.take n) day b)) (fun _ s8 => L.length - (intOf s8).toNat)
  case atStart => exact ⟨0, b, by omega, rfl, rfl, Lib.hid rfl⟩
  case round =>
    obtain ⟨n, m, hn, rfl, rfl, HN⟩ := hrel
    by_cases hlt : n < L.length
    · obtain ⟨bb, o, rfl, hc, hg⟩ := RowAt.get encSg_len HO.out.row (i := n) hlt
      have p0 := hg 0 (.int .i64 L[n].f) (by omega) rfl
      have p1 := hg 1 (.int .i64 L[n].t) (by omega) rfl
      simp only [Nat.add_zero] at p0
      rw [show o + (n * 3 + 1) = o + n * 3 + 1 from by omega] at p1
      have HX := Lib.hid (show ∀ k, k = nextE day (nextE day m L[n].f) L[n].t → k = nextL (L.take (n + 1)) day b from fun k hk => by
        rw [hk, HN.out, List.take_succ_eq_append_getElem hlt]
        unfold nextL
        rw [List.foldl_append]
        rfl)
      clear hg
      generalize L[n] = x at p0 p1 HX
      obtain ⟨xf, xt, xv⟩ := x
      dsimp only at p0 p1 HX
      have h3 : decide ((n : Int) < 0) = false := decide_eq_false (by omega)
      have h4 : decide ((L.length : Int) ≤ n) = false := decide_eq_false (by omega)
      have h5 : (n : Int) < L.length := by omega
      have h6 : decide ((n : Int) < L.length) = true := decide_eq_true h5
      rcases (show (day < xf ∧ xf < m) ∨ (day < xf ∧ ¬ xf < m) ∨ ¬ day < xf by omega) with ⟨q1, q2⟩ | ⟨q1, q2⟩ | q1
      · have e1 := decide_eq_true q1
        have e2 := decide_eq_true q2
        rcases (show (day < xt ∧ xt < xf) ∨ (day < xt ∧ ¬ xt < xf) ∨ ¬ day < xt by omega) with ⟨q3, q4⟩ | ⟨q3, q4⟩ | q3
        · have e3 := decide_eq_true q3
          have e4 := decide_eq_true q4
          go_wp2_with fail
          go_round
          case rel => exact ⟨n + 1, _, by omega, by go_num, rfl, Lib.hid (HX.out _ (by rw [nextE_yes q1 q2, nextE_yes q3 q4]))⟩
          case measure => simp [intOf]; omega
        · have e3 := decide_eq_true q3
          have e4 := decide_eq_false q4
          go_wp2_with fail
          go_round
          case rel => exact ⟨n + 1, _, by omega, by go_num, rfl, Lib.hid (HX.out _ (by rw [nextE_yes q1 q2, nextE_no2 q4]))⟩
          case measure => simp [intOf]; omega
        · have e3 := decide_eq_false q3
          go_wp2_with fail
          go_round
          case rel => exact ⟨n + 1, _, by omega, by go_num, rfl, Lib.hid (HX.out _ (by rw [nextE_yes q1 q2, nextE_no1 q3]))⟩
          case measure => simp [intOf]; omega
      · have e1 := decide_eq_true q1
        have e2 := decide_eq_false q2
        rcases (show (day < xt ∧ xt < m) ∨ (day < xt ∧ ¬ xt < m) ∨ ¬ day < xt by omega) with ⟨q3, q4⟩ | ⟨q3, q4⟩ | q3
        · have e3 := decide_eq_true q3
          have e4 := decide_eq_true q4
          go_wp2_with fail
          go_round
          case rel => exact ⟨n + 1, _, by omega, by go_num, rfl, Lib.hid (HX.out _ (by rw [nextE_no2 q2, nextE_yes q3 q4]))⟩
          case measure => simp [intOf]; omega
        · have e3 := decide_eq_true q3
          have e4 := decide_eq_false q4
          go_wp2_with fail
          go_round
          case rel => exact ⟨n + 1, _, by omega, by go_num, rfl, Lib.hid (HX.out _ (by rw [nextE_no2 q2, nextE_no2 q4]))⟩
          case measure => simp [intOf]; omega
        · have e3 := decide_eq_false q3
          go_wp2_with fail
          go_round
          case rel => exact ⟨n + 1, _, by omega, by go_num, rfl, Lib.hid (HX.out _ (by rw [nextE_no2 q2, nextE_no1 q3]))⟩
          case measure => simp [intOf]; omega
      · have e1 := decide_eq_false q1
        rcases (show (day < xt ∧ xt < m) ∨ (day < xt ∧ ¬ xt < m) ∨ ¬ day < xt by omega) with ⟨q3, q4⟩ | ⟨q3, q4⟩ | q3
        · have e3 := decide_eq_true q3
          have e4 := decide_eq_true q4
          go_wp2_with fail
          go_round
          case rel => exact ⟨n + 1, _, by omega, by go_num, rfl, Lib.hid (HX.out _ (by rw [nextE_no1 q1, nextE_yes q3 q4]))⟩
          case measure => simp [intOf]; omega
        · have e3 := decide_eq_true q3
          have e4 := decide_eq_false q4
          go_wp2_with fail
          go_round
          case rel => exact ⟨n + 1, _, by omega, by go_num, rfl, Lib.hid (HX.out _ (by rw [nextE_no1 q1, nextE_no2 q4]))⟩
          case measure => simp [intOf]; omega
        · have e3 := decide_eq_false q3
          go_wp2_with fail
          go_round
          case rel => exact ⟨n + 1, _, by omega, by go_num, rfl, Lib.hid (HX.out _ (by rw [nextE_no1 q1, nextE_no1 q3]))⟩
          case measure => simp [intOf]; omega
    · go_wp2_with fail
      go_ret
      exact ⟨by rw [HN.out, List.take_of_length_le (by omega)]; rfl, HM.out⟩
end Go.Proofs.Ytngglpekdjhbdaa
namespace Go.Proofs.Ytngglpekdjhbdaa
open Go.RowKit Go.ChangeMaps Go.Deep Tr
set_option linter.unusedSimpArgs false
set_option linter.unusedVariables false
set_option maxRecDepth 20000

/-- up to the next end the value stays -/
theorem lastV_const {L : List Sg} {d0 b d : Int} (h0 : d0 < b) (h1 : d0 ≤ d) (h2 : d < nextL L d0 b) : lastV L d = lastV L d0 := by
  obtain ⟨_, _, h3, _⟩ := nextL_of L d0 b h0
  generalize nextL L d0 b = y at h2 h3
  unfold lastV
  have key : ∀ (K : List Sg), (∀ s ∈ K, s ∈ L) → ∀ v : Int, K.foldl (fun v s => if s.f ≤ d ∧ d < s.t then s.v else v) v = K.foldl (fun v s => if s.f ≤ d0 ∧ d0 < s.t then s.v else v) v := by
    intro K
    induction K with
    | nil => intro _ v; rfl
    | cons s K ih =>
      intro hK v
      obtain ⟨hs1, hs2⟩ := h3 s (hK s List.mem_cons_self)
      simp only [List.foldl_cons]
      have e : (if s.f ≤ d ∧ d < s.t then s.v else v) = (if s.f ≤ d0 ∧ d0 < s.t then s.v else v) := by
        by_cases c : s.f ≤ d0 ∧ d0 < s.t
        · rw [if_pos c, if_pos (by obtain ⟨c1, c2⟩ := c; have := hs2 c2; omega)]
        · rw [if_neg c, if_neg (fun c' => c (by
            obtain ⟨c1, c2⟩ := c'
            refine ⟨?_, by omega⟩
            by_cases g : d0 < s.f
            · have := hs1 g; omega
            · omega))]
      rw [e]
      exact ih (fun x hx => hK x (List.mem_cons_of_mem _ hx)) _
  exact key L (fun s h => h) 0
/-- the last segment goes on -/
theorem SegsTo.more {g : Int → Int} {a z y : Int} {K : List Sg} {s : Sg} (h : SegsTo g a z (K ++ [s])) (hy : z < y) (hg : ∀ d, z ≤ d → d < y → g d = s.v) : SegsTo g a y (K ++ [⟨s.f, y, s.v⟩]) := by
  rcases h.cases' with ⟨e, _⟩ | ⟨K', s', e, h1, h2, h3, h4, h5⟩
  · simp at e
  · obtain ⟨rfl, e⟩ := List.append_inj' e rfl
    obtain rfl : s = s' := by simpa using e
    subst h1
    exact SegsTo.snoc ⟨s.f, y, s.v⟩ h2 rfl (by dsimp only; omega) (fun d c1 c2 => by
      dsimp only at c1 c2 ⊢
      by_cases c : d < s.t
      · exact h4 d c1 c
      · exact hg d (by omega) c2) h5
theorem rlSegs_not {W : World} {r : Nat} {a b : Int} (hab : ¬ mayS a b) :
    Calls Try.prog 34 #[.pointer (some ⟨r, 0, none⟩), .agg #[.int .i64 a, .int .i64 b]] W fun e w' => e = .returned (.slice none 0 0) ∧ Mod [] W w' := by
  have mA := (Mod.refl [] W).alloc (.cells #[.int .i64 a, .int .i64 b] 24)
  have bA := heap_alloc_new W (.cells #[.int .i64 a, .int .i64 b] 24)
  have CM := Lib.hid (rlMay_at (W.alloc (.cells #[.int .i64 a, .int .i64 b] 24)) a b)
  rw [decide_eq_false hab] at CM
  have s0 := cell_blk bA 0
  have s1 := cell_blk bA 1
  simp only [List.getElem?_toArray, List.getElem?_cons_succ, List.getElem?_cons_zero] at s0 s1
  have HMA := Lib.hid mA
  clear mA bA
  go_enter Try.func34, Try.ntmps34
  go_wp2_with fail
  refine CM.out.mono ?_
  rintro e w2 ⟨rfl, m2⟩
  have HM2 := Lib.hid (HMA.out.trans m2)
  go_wp2_with fail
  go_ret
  exact ⟨rfl, HM2.out⟩
set_option maxHeartbeats 4000000 in
theorem rlSegs_at {W : World} {r base : Nat} {L : List Sg} (h : RefAt W r base L) (hl : L.length ≤ 1000000) {a b : Int} (hab : mayS a b) :
    Calls Try.prog 34 #[.pointer (some ⟨r, 0, none⟩), .agg #[.int .i64 a, .int .i64 b]] W fun e w' => ∃ v O, e = .returned v ∧ OwnR encSg 3 82 w' W.heap.size v O ∧ SegsTo (lastV L) a b O ∧ Mod [] W w' := by
  have mA := (Mod.refl [] W).alloc (.cells #[.int .i64 a, .int .i64 b] 24)
  have bA := heap_alloc_new W (.cells #[.int .i64 a, .int .i64 b] 24)
  have CM := Lib.hid (rlMay_at (W.alloc (.cells #[.int .i64 a, .int .i64 b] 24)) a b)
  rw [decide_eq_true hab] at CM
  have s0 := cell_blk bA 0
  have s1 := cell_blk bA 1
  simp only [List.getElem?_toArray, List.getElem?_cons_succ, List.getElem?_cons_zero] at s0 s1
  obtain ⟨hb0, hb1, hb2⟩ := hab
  have H := Lib.hid h
  have HMA := Lib.hid mA
  have HBA := Lib.hid bA
  clear mA bA h
  go_enter Try.func34, Try.ntmps34
  go_wp2_with fail
  refine CM.out.mono ?_
  rintro e w2 ⟨rfl, m2⟩
  have HB2 := Lib.hid (m2.heap HBA.out (by simp))
  have HM2 := Lib.hid (HMA.out.trans m2)
  have t0 := cell_blk HB2.out 0
  have t1 := cell_blk HB2.out 1
  simp only [List.getElem?_toArray, List.getElem?_cons_succ, List.getElem?_cons_zero] at t0 t1
  clear CM m2 s0 s1
  go_wp2_with fail
  go_loopw [5, 6] (fun s5 s6 X => ∃ (z : Int) (O : List Sg), a ≤ z ∧ z ≤ b ∧ s6 = .int .i64 z ∧ Hid (OwnR encSg 3 82 X w2.heap.size s5 O ∧ SegsTo (lastV L) a z O ∧ Mod [] w2 X)) (fun _ s6 _ => (b - intOf s6).toNat)
  case atStart => exact ⟨a, [], by omega, by omega, rfl, Lib.hid ⟨OwnR.nil_ _ _, SegsTo.nil, Mod.refl _ _⟩⟩
  case round =>
    obtain ⟨z, O, hz1, hz2, rfl, hS⟩ := hrel
    obtain ⟨q1, q2, q3⟩ := hS.out
    clear t0 t1
    have bW := q3.heap HB2.out (by simp)
    have k0 := cell_blk bW 0
    have k1 := cell_blk bW 1
    simp only [List.getElem?_toArray, List.getElem?_cons_succ, List.getElem?_cons_zero] at k0 k1
    by_cases hlt : z < b
    · have hzd : decide (z < b) = true := decide_eq_true hlt
      have hO := segsTo_len q2
      have HR := Lib.hid (H.out.kept0 (HM2.out.trans q3))
      have CN := Lib.hid (rlNext_at HR.out hl z b)
      obtain ⟨n1, n2, _, _⟩ := nextL_of L z b hlt
      have HC := Lib.hid (fun d h1 h2 => lastV_const (L := L) (d0 := z) (b := b) (d := d) hlt h1 h2)
      generalize nextL L z b = y at CN n1 n2 HC
      have HB := Lib.hid bW
      clear bW q1 q2 q3
      go_wp2_with fail
      refine CN.out.mono ?_
      rintro e w3 ⟨rfl, m3⟩
      have CA := Lib.hid (rlAt_at (HR.out.kept0 m3) hl z)
      have HM3 := Lib.hid m3
      clear CN m3 k0 k1
      go_wp2_with fail
      refine CA.out.mono ?_
      rintro e w4 ⟨rfl, m4⟩
      obtain ⟨q1, q2, q3⟩ := hS.out
      have o4 := (q1.kept0 HM3.out).kept0 m4
      have mW := (q3.trans HM3.out).trans m4
      have HM4 := Lib.hid (HM3.out.trans m4)
      generalize lastV L z = v at HC
      clear q1 CA m4
      obtain ⟨oa, oc, rfl⟩ := o4.lens
      rcases List.eq_nil_or_concat O with ho | ⟨O', s, ho⟩
      · subst ho
        have HS2 := Lib.hid (show SegsTo (lastV L) a y ([] ++ [⟨z, y, v⟩]) from SegsTo.snoc ⟨z, y, v⟩ q2 rfl n2 HC.out (by simp))
        obtain ⟨v', w', ra, ho', gr⟩ := own_append1 (P := Try.prog) (ty := 70) elemRl encSg_len encSg_one o4 mW.size ⟨z, y, v⟩ (by simp) (by omega)
        dsimp only [encSg, List.length_nil] at ra
        obtain ⟨a', n', c', rfl⟩ : ∃ a n c, v' = .slice a n c := by obtain ⟨a, c, e⟩ := ho'.lens; exact ⟨a, _, c, e⟩
        have HN := Lib.hid (show OwnR encSg 3 82 w' w2.heap.size (.slice a' n' c') ([] ++ [⟨z, y, v⟩]) ∧ SegsTo (lastV L) a y ([] ++ [⟨z, y, v⟩]) ∧ Mod [] w2 w' from ⟨ho', HS2.out, Mod.into' mW gr.mod (fun k hk => .inl (by rw [mem_blk] at hk; exact (World.ownsRow.lt o4 k hk).1))⟩)
        have RA := Lib.hid ra
        clear o4 mW ra ho' gr q2 q3
        go_wp2_with ((with_reducible refine xAppendAt RA.out rfl rfl ?_ ?_ ?_ ?_); exact rfl; exact rfl; exact rfl)
        go_roundw
        case rel => exact ⟨y, _, by omega, by omega, rfl, HN⟩
        case measure => simp [intOf]; omega
      · have ho : O = O' ++ [s] := by rw [ho, List.concat_eq_append]
        obtain ⟨m, hm⟩ : ∃ m, O'.length = m := ⟨_, rfl⟩
        have hom : O.length = m + 1 := by rw [ho, List.length_append, hm]; rfl
        have hget : O[m]'(by omega) = s := by subst hm; simp [ho]
        have hset : O.set m ⟨s.f, y, s.v⟩ = O' ++ [⟨s.f, y, s.v⟩] := by subst hm; simp [ho]
        have hlast : O.getLast? = some s := by rw [ho]; simp
        rw [ho] at q2
        have hm1 : (m : Int) < 4000000 := by omega
        have h01 : decide (0 < (m : Int) + 1) = true := decide_eq_true (by omega)
        have h02 : decide ((m : Int) < 0) = false := decide_eq_false (by omega)
        have h03 : decide ((m : Int) + 1 ≤ m) = false := decide_eq_false (by omega)
        have h06 : 0 ≤ (m : Int) ∧ (m : Int) < (m : Int) + 1 := ⟨Int.natCast_nonneg m, Int.lt_succ _⟩
        have h05 : ((m : Int)).toNat = m := Int.toNat_natCast m
        have H04 : Hid (wrap64 (m : Int) = m) := Lib.hid <| by
          unfold wrap64
          omega
        obtain ⟨og, ocap, heo, _, _⟩ := o4.at_ (show O[m]? = some s from by rw [← hget]; exact List.getElem?_eq_getElem _)
        simp only [Value.slice.injEq] at heo
        obtain ⟨rfl, _, rfl⟩ := heo
        have p0 := (o4.cell encSg_len (i := m) (by omega) (j := 2) (by omega) (u := .int .i64 s.v) (by rw [hget]; rfl)).1
        by_cases hsv : s.v = v
        · have hd1 : (s.v == v) = true := by simpa using hsv
          have hd2 : decide (s.v = v) = true := decide_eq_true hsv
          have HS2 := Lib.hid (show SegsTo (lastV L) a y (O.set m ⟨s.f, y, s.v⟩) from by
            rw [hset]
            exact q2.more n2 (fun d h1 h2 => by rw [hsv]; exact HC.out d h1 h2))
          have p1 := o4.cell encSg_len (i := m) (by omega) (j := 1) (by omega) (u := .int .i64 s.t) (by rw [hget]; rfl)
          have p2 := o4.set encSg_len (i := m) (by omega) (j := 1) (by omega) (u := .int .i64 y) (y := ⟨s.f, y, s.v⟩) (by rw [hget]; rfl)
          have hogb : w2.heap.size ≤ og := (World.ownsRow.lt o4 og rfl).1
          have HN := Lib.hid (show OwnR encSg 3 82 (w4.setCell ⟨og, m * 3 + 1, none⟩ (.int .i64 y)) w2.heap.size (.slice (some ⟨og, 0, none⟩) (m + 1) oc) (O.set m ⟨s.f, y, s.v⟩) ∧ SegsTo (lastV L) a y (O.set m ⟨s.f, y, s.v⟩) ∧ Mod [] w2 (w4.setCell ⟨og, m * 3 + 1, none⟩ (.int .i64 y)) from ⟨by rw [← hom]; exact p2, HS2.out, mW.setCellNew hogb _⟩)
          clear ho hset hlast hget q2 q3 p2 o4 mW hO HS2
          obtain ⟨p1, p3⟩ := p1
          go_wp2_with fail
          go_roundw
          case rel => exact ⟨y, _, by omega, by omega, rfl, HN⟩
          case measure => simp [intOf]; omega
        · have hd1 : (s.v == v) = false := by simpa using hsv
          have hd2 : decide (s.v = v) = false := decide_eq_false hsv
          have HS2 := Lib.hid (show SegsTo (lastV L) a y (O ++ [⟨z, y, v⟩]) from by
            rw [ho]
            exact SegsTo.snoc ⟨z, y, v⟩ q2 rfl n2 HC.out (fun r hr => by rw [← ho, hlast] at hr; cases hr; exact hsv))
          obtain ⟨v', w', ra, ho', gr⟩ := own_append1 (P := Try.prog) (ty := 70) elemRl encSg_len encSg_one o4 mW.size ⟨z, y, v⟩ (by omega) (by omega)
          dsimp only [encSg] at ra
          rw [hom] at ra
          obtain ⟨a', n', c', rfl⟩ : ∃ a n c, v' = .slice a n c := by obtain ⟨a, c, e⟩ := ho'.lens; exact ⟨a, _, c, e⟩
          have HN := Lib.hid (show OwnR encSg 3 82 w' w2.heap.size (.slice a' n' c') (O ++ [⟨z, y, v⟩]) ∧ SegsTo (lastV L) a y (O ++ [⟨z, y, v⟩]) ∧ Mod [] w2 w' from ⟨ho', HS2.out, Mod.into' mW gr.mod (fun k hk => .inl (by rw [mem_blk] at hk; exact (World.ownsRow.lt o4 k hk).1))⟩)
          have RA := Lib.hid ra
          clear ho hset hlast hget q2 q3 o4 mW hO HS2 ra ho' gr
          go_wp2_with ((with_reducible refine xAppendAt RA.out rfl rfl ?_ ?_ ?_ ?_); exact rfl; exact rfl; exact rfl)
          go_roundw
          case rel => exact ⟨y, _, by omega, by omega, rfl, HN⟩
          case measure => simp [intOf]; omega
    · have hzd : decide (z < b) = false := decide_eq_false hlt
      have hzb : z = b := by omega
      have HE := Lib.hid (show OwnR encSg 3 82 wr W.heap.size u5 O ∧ SegsTo (lastV L) a b O ∧ Mod [] W wr from ⟨q1.mono HM2.out.size, hzb ▸ q2, HM2.out.trans q3⟩)
      clear q1 q2 q3 bW
      go_wp2_with fail
      go_ret
      first | exact ⟨_, O, rfl, HE.out⟩ | exact ⟨_, rfl, O, HE.out⟩
end Go.Proofs.Ytngglpekdjhbdaa
namespace Go.Proofs.Ytngglpekdjhbdaa
open Go.RowKit Go.ChangeMaps Go.Deep Tr
set_option linter.unusedSimpArgs false
set_option linter.unusedVariables false
set_option maxRecDepth 20000

/-- the nearest of some days behind a day -/
def nearL (l : List Int) (d b : Int) : Int := l.foldl (fun m e => nextE d m e) b
theorem nearL_of (l : List Int) (d : Int) : ∀ b, d < b → nearL l d b ≤ b ∧ d < nearL l d b ∧ (∀ e ∈ l, d < e → nearL l d b ≤ e) ∧ (nearL l d b = b ∨ nearL l d b ∈ l) := by
  induction l with
  | nil => intro b hb; exact ⟨Int.le_refl _, hb, fun s hs => by simp at hs, .inl rfl⟩
  | cons x l ih =>
    intro b hb
    obtain ⟨a1, a2, a3⟩ := nextE_of (d := d) (m := b) (e := x)
    obtain ⟨c1, c2, c3, c4⟩ := ih (nextE d b x) (by omega)
    have e : nearL (x :: l) d b = nearL l d (nextE d b x) := rfl
    rw [e]
    refine ⟨by omega, c2, ?_, ?_⟩
    · intro s hs h
      rcases List.mem_cons.1 hs with rfl | hs
      · have := a2 h; omega
      · exact c3 s hs h
    · rcases c4 with c4 | c4
      · rcases a3 with a3 | a3
        · exact .inl (by omega)
        · exact .inr (by rw [c4, a3.1]; exact List.mem_cons_self)
      · exact .inr (List.mem_cons_of_mem _ c4)
theorem rgCut_not {W : World} {v : Value} {a b : Int} (hab : ¬ mayS a b) :
    Calls Try.prog 15 #[.agg #[.int .i64 a, .int .i64 b], v] W fun e w' => e = .returned (.slice none 0 0) ∧ Mod [] W w' := by
  have mA := (Mod.refl [] W).alloc (.cells #[.int .i64 a, .int .i64 b] 24)
  have bA := heap_alloc_new W (.cells #[.int .i64 a, .int .i64 b] 24)
  have CM := Lib.hid (rlMay_at (W.alloc (.cells #[.int .i64 a, .int .i64 b] 24)) a b)
  rw [decide_eq_false hab] at CM
  have s0 := cell_blk bA 0
  have s1 := cell_blk bA 1
  simp only [List.getElem?_toArray, List.getElem?_cons_succ, List.getElem?_cons_zero] at s0 s1
  have HMA := Lib.hid mA
  clear mA bA
  go_enter Try.func15, Try.ntmps15
  go_wp2_with fail
  refine CM.out.mono ?_
  rintro e w2 ⟨rfl, m2⟩
  have HM2 := Lib.hid (HMA.out.trans m2)
  go_wp2_with fail
  go_ret
  exact ⟨rfl, HM2.out⟩
set_option maxHeartbeats 4000000 in
theorem rgCut_at {W : World} {v : Value} {l : List Int} (h : RowAt encI W v l) (hl : l.length ≤ 1000000000) {a b : Int} (hab : mayS a b) :
    Calls Try.prog 15 #[.agg #[.int .i64 a, .int .i64 b], v] W fun e w' => ∃ u O, e = .returned u ∧ OwnR encC 2 24 w' W.heap.size u O ∧ CutTo (· ∈ l) a b O ∧ Mod [] W w' := by
  obtain ⟨la, lc, rfl⟩ := h.form
  have mA := (Mod.refl [] W).alloc (.cells #[.int .i64 a, .int .i64 b] 24)
  have bA := heap_alloc_new W (.cells #[.int .i64 a, .int .i64 b] 24)
  have CM := Lib.hid (rlMay_at (W.alloc (.cells #[.int .i64 a, .int .i64 b] 24)) a b)
  rw [decide_eq_true hab] at CM
  have s0 := cell_blk bA 0
  have s1 := cell_blk bA 1
  simp only [List.getElem?_toArray, List.getElem?_cons_succ, List.getElem?_cons_zero] at s0 s1
  obtain ⟨hb0, hb1, hb2⟩ := hab
  have H := Lib.hid h
  have HMA := Lib.hid mA
  have HBA := Lib.hid bA
  clear mA bA h
  go_enter Try.func15, Try.ntmps15
  go_wp2_with fail
  refine CM.out.mono ?_
  rintro e w2 ⟨rfl, m2⟩
  have HB2 := Lib.hid (m2.heap HBA.out (by simp))
  have HM2 := Lib.hid (HMA.out.trans m2)
  have t0 := cell_blk HB2.out 0
  have t1 := cell_blk HB2.out 1
  simp only [List.getElem?_toArray, List.getElem?_cons_succ, List.getElem?_cons_zero] at t0 t1
  clear CM m2 s0 s1
  go_wp2_with fail
  go_loopw [5, 6] (fun s5 s6 X => ∃ (z : Int) (O : List Cs), a ≤ z ∧ z ≤ b ∧ s6 = .int .i64 z ∧ Hid (OwnR encC 2 24 X w2.heap.size s5 O ∧ (CutTo (· ∈ l) a z O ∧ (z = a ∨ z = b ∨ z ∈ l)) ∧ Mod [] w2 X)) (fun _ s6 _ => (b - intOf s6).toNat)
  case atStart => exact ⟨a, [], by omega, by omega, rfl, Lib.hid ⟨OwnR.nil_ _ _, ⟨CutTo.nil, .inl rfl⟩, Mod.refl _ _⟩⟩
  case round =>
    obtain ⟨z, O, hz1, hz2, rfl, hS⟩ := hrel
    have HS := hS
    clear hS
    obtain ⟨q1, q2, q3⟩ := HS.out
    clear t0 t1
    have bW := q3.heap HB2.out (by simp)
    have k0 := cell_blk bW 0
    have k1 := cell_blk bW 1
    simp only [List.getElem?_toArray, List.getElem?_cons_succ, List.getElem?_cons_zero] at k0 k1
    by_cases hlt : z < b
    · have hzd : decide (z < b) = true := decide_eq_true hlt
      have hO := q2.1.len
      have HR := Lib.hid (H.out.kept0 (HM2.out.trans q3))
      clear bW q1 q2 q3
      go_wp2_with fail
      go_loop [7, 8] (fun s7 s8 => ∃ (n : Nat) (m : Int), n ≤ l.length ∧ s8 = .int .i64 n ∧ s7 = .int .i64 m ∧ Hid (m = nearL (l.take n) z b)) (fun _ s8 => l.length - (intOf s8).toNat)
      case atStart => exact ⟨0, b, by omega, rfl, rfl, Lib.hid rfl⟩
      case round =>
        obtain ⟨n, m, hn, rfl, rfl, HN⟩ := hrel
        by_cases hlt2 : n < l.length
        · obtain ⟨bb, o, heq, hc, hg⟩ := RowAt.get encI_len HR.out (i := n) hlt2
          cases heq
          have p0 := hg 0 (.int .i64 l[n]) (by omega) rfl
          simp only [Nat.add_zero, Nat.mul_one] at p0
          have HX := Lib.hid (show ∀ k, k = nextE z m l[n] → k = nearL (l.take (n + 1)) z b from fun k hk => by
            rw [hk, HN.out, List.take_succ_eq_append_getElem hlt2]
            unfold nearL
            rw [List.foldl_append]
            rfl)
          clear hg
          generalize l[n] = x at p0 HX
          have h3 : decide ((n : Int) < 0) = false := decide_eq_false (by omega)
          have h4 : decide ((l.length : Int) ≤ n) = false := decide_eq_false (by omega)
          have h6 : decide ((n : Int) < l.length) = true := decide_eq_true (by omega)
          rcases (show (z < x ∧ x < m) ∨ (z < x ∧ ¬ x < m) ∨ ¬ z < x by omega) with ⟨q3, q4⟩ | ⟨q3, q4⟩ | q3
          · have e3 := decide_eq_true q3
            have e4 := decide_eq_true q4
            go_wp2_with fail
            go_round
            case rel => exact ⟨n + 1, _, by omega, by go_num, rfl, Lib.hid (HX.out _ (by rw [nextE_yes q3 q4]))⟩
            case measure => simp [intOf]; omega
          · have e3 := decide_eq_true q3
            have e4 := decide_eq_false q4
            go_wp2_with fail
            go_round
            case rel => exact ⟨n + 1, _, by omega, by go_num, rfl, Lib.hid (HX.out _ (by rw [nextE_no2 q4]))⟩
            case measure => simp [intOf]; omega
          · have e3 := decide_eq_false q3
            go_wp2_with fail
            go_round
            case rel => exact ⟨n + 1, _, by omega, by go_num, rfl, Lib.hid (HX.out _ (by rw [nextE_no1 q3]))⟩
            case measure => simp [intOf]; omega
        · have h6 : decide ((n : Int) < l.length) = false := decide_eq_false (by omega)
          have HE := Lib.hid (show m = nearL l z b from by rw [HN.out, List.take_of_length_le (by omega)])
          obtain ⟨n1, n2, n3, n4⟩ := nearL_of l z b hlt
          rw [← HE.out] at n1 n2 n3 n4
          obtain ⟨q1, ⟨q2, q4⟩, q3⟩ := HS.out
          have q5 : z = a ∨ z ∈ l := by
            rcases q4 with h | h | h
            · exact .inl h
            · omega
            · exact .inr h
          have HC := Lib.hid (show CutTo (· ∈ l) a m (O ++ [(z, m)]) ∧ (m = a ∨ m = b ∨ m ∈ l) from ⟨CutTo.snoc m q2 n2 (fun d h1 h2 h3 => by have := n3 d h3 h1; omega) q5, .inr n4⟩)
          obtain ⟨v', w', ra, ho', gr⟩ := own_append1 (P := Try.prog) (ty := 41) elemCs encC_len encC_one q1 q3.size (z, m) (by omega) (by omega)
          dsimp only [encC] at ra
          obtain ⟨oa, oc, rfl⟩ := q1.lens
          obtain ⟨a', n', c', rfl⟩ : ∃ a n c, v' = .slice a n c := by obtain ⟨a, c, e⟩ := ho'.lens; exact ⟨a, _, c, e⟩
          have HNX := Lib.hid (show OwnR encC 2 24 w' w2.heap.size (.slice a' n' c') (O ++ [(z, m)]) ∧ (CutTo (· ∈ l) a m (O ++ [(z, m)]) ∧ (m = a ∨ m = b ∨ m ∈ l)) ∧ Mod [] w2 w' from ⟨ho', HC.out, Mod.into' q3 gr.mod (fun k hk => .inl (by rw [mem_blk] at hk; exact (World.ownsRow.lt q1 k hk).1))⟩)
          have RA := Lib.hid ra
          clear q1 q2 q3 q4 q5 n3 n4 ra ho' gr
          go_wp2_with ((with_reducible refine xAppendAt RA.out rfl rfl ?_ ?_ ?_ ?_); exact rfl; exact rfl; exact rfl)
          go_roundw
          case rel => exact ⟨m, _, by omega, by omega, rfl, HNX⟩
          case measure => simp [intOf]; omega
    · have hzd : decide (z < b) = false := decide_eq_false hlt
      have hzb : z = b := by omega
      have HE := Lib.hid (show OwnR encC 2 24 wr W.heap.size u5 O ∧ CutTo (· ∈ l) a b O ∧ Mod [] W wr from ⟨q1.mono HM2.out.size, hzb ▸ q2.1, HM2.out.trans q3⟩)
      clear q1 q2 q3 bW
      go_wp2_with fail
      go_ret
      first | exact ⟨_, O, rfl, HE.out⟩ | exact ⟨_, rfl, O, HE.out⟩
end Go.Proofs.Ytngglpekdjhbdaa
