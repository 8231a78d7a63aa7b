/- Layer 11 in plain: the segments of a function over a span; they are one list alone; how a row of segments is told whole. No program is named here. -/
import Derived.Test.YtngglpekdjhbdaaRmK
namespace Go.Proofs.Ytngglpekdjhbdaa
open Go.RowKit Go.ChangeMaps Go.Deep Tr
set_option linter.unusedSimpArgs false
set_option linter.unusedVariables false
set_option maxRecDepth 20000

set_option maxHeartbeats 4000000 in
theorem at_line {w : World} {g : Nat} {B : List Nat} {n : Nat} {gf : Int → Int} (h : LineAt w g B n gf) (hn : n ≤ 40000) {day : Int} (hd : -9223372036854775808 ≤ day ∧ day ≤ 9223372036854775807) :
    Calls Try.prog 16 #[.pointer (some ⟨g, 0, none⟩), .int .i64 day] w fun e w' => e = .returned (.int .i64 (gf day)) ∧ Mod [] w w' := by
  obtain ⟨M, E, hL, hok, hrep, hE, hM⟩ := h.ex
  have CN := Lib.hid (tlNone_at hL)
  obtain ⟨tb, vv, gv, nv, fv, ns, fr, T, vs, fs, S, rfl, hp, hns, hvs⟩ := hL
  have hTs : T.size ≤ 100000 := by have := S.full; omega
  have c0 := cell_blk S.blk 0
  simp only [List.getElem?_toArray, List.getElem?_cons_zero] at c0
  have hcov : ∀ x ∈ T.items, x.f ≤ day → day < x.t → gf day = (valOf vs x).2 := fun x hx h1 h2 => (hrep day).1 (sg (valOf vs x)) (List.mem_map_of_mem (hp.mem_iff.1 (List.mem_map_of_mem hx))) h1 h2
  have hnone : (∀ x ∈ T.items, ¬ (x.f ≤ day ∧ day < x.t)) → gf day = 0 := fun hh => (hrep day).2 fun s hs => by
    obtain ⟨e, he, rfl⟩ := List.mem_map.1 hs
    obtain ⟨x, hx, rfl⟩ := List.mem_map.1 (hp.mem_iff.2 he)
    exact hh x hx
  obtain ⟨L, hL⟩ : ∃ L, L = (if day < 9223372036854775807 then over day (day + 1) T else []) := ⟨_, rfl⟩
  have CS : Calls Try.prog 42 #[.pointer (some ⟨tb, 0, none⟩), .int .i64 day] w fun e w' => ∃ v, e = .returned v ∧ OwnR encIt 3 92 w' w.heap.size v L ∧ Mod [] w w' := by
    by_cases hmx : day < 9223372036854775807
    · rw [if_pos hmx] at hL
      subst hL
      exact stab_at S.tree hTs day ⟨hd.1, hmx⟩
    · rw [if_neg hmx] at hL
      subst hL
      obtain rfl : day = 9223372036854775807 := by omega
      refine stab_max.mono ?_
      rintro e w' ⟨rfl, m⟩
      exact ⟨_, rfl, OwnR.nil_ _ _, m⟩
  have hmem : ∀ x ∈ T.items, x ∈ L ↔ x.f ≤ day ∧ day < x.t := fun x hx => by
    have hone := hok.one (sg (valOf vs x)) (List.mem_map_of_mem (hp.mem_iff.1 (List.mem_map_of_mem hx)))
    have hone' : x.t ≤ 3652060 := hone.2.2.1
    rw [hL]
    split
    · unfold over
      rw [List.mem_filter]
      simp only [hx, true_and, Bool.and_eq_true, decide_eq_true_eq]
      omega
    · simp only [List.not_mem_nil, false_iff]
      omega
  have hsub : ∀ x ∈ L, x ∈ T.items := fun x hx => by
    rw [hL] at hx
    split at hx
    · exact (List.mem_filter.1 hx).1
    · cases hx
  have hLl : L.length ≤ 100000 := by
    rw [hL]
    split
    · exact Nat.le_trans (over_len _ _ T) hTs
    · simp
  have HCS := Lib.hid CS
  have HS := Lib.hid S
  clear CS S hL hok hrep hp h hE
  go_enter Try.func16, Try.ntmps16
  go_wp2_with fail
  refine CN.out.mono ?_
  rintro e w1 ⟨rfl, rfl⟩
  go_wp2_with fail
  refine HCS.out.mono ?_
  rintro e w2 ⟨lv, rfl, oL, m2⟩
  obtain ⟨la, lc, rfl⟩ := oL.lens
  have S2 := HS.out.kept m2 (by simp)
  have HM2 := Lib.hid m2
  cases L with
  | nil =>
    have HG := Lib.hid (hnone fun x hx hc => by
      have := (hmem x hx).2 hc
      cases this)
    have hl0 : decide ((0 : Int) < ((([] : List It).length : Nat) : Int)) = false := by simp
    clear S2 oL m2 hmem hsub hcov hnone HCS HS
    go_wp2_with fail
    go_ret
    exact ⟨by rw [HG.out]; rfl, HM2.out⟩
  | cons x L =>
    have hxi := hsub x (by simp)
    have hxd := (hmem x hxi).1 (by simp)
    have HG := Lib.hid (hcov x hxi hxd.1 hxd.2)
    obtain ⟨k, hk, hkl, hkf⟩ := S2.ids x hxi
    obtain ⟨f, t, id⟩ := x
    dsimp only at hk
    subst hk
    obtain ⟨q, cap, heq, hq, hcap⟩ := oL.at_ (show ((⟨f, t, (k : Int)⟩ : It) :: L)[0]? = some ⟨f, t, k⟩ from rfl)
    simp only [Value.slice.injEq] at heq
    obtain ⟨rfl, _, rfl⟩ := heq
    obtain ⟨y, yc, rfl, hy, hyc⟩ := S2.vals.at_ (show vs[k]? = some vs[k] from List.getElem?_eq_getElem hkl)
    have i2 := (oL.cell encIt_len (i := 0) (by simp) (j := 2) (by omega) (u := .int .i64 (k : Int)) (by simp [encIt])).1
    have vk := (S2.vals.cell encI_len hkl (j := 0) (by omega) (u := .int .i64 vs[k]) rfl).1
    have c1 := cell_blk S2.blk 1
    simp only [Nat.mul_one, Nat.add_zero, Nat.zero_mul, Nat.zero_add] at i2 vk
    simp only [List.getElem?_toArray, List.getElem?_cons_succ, List.getElem?_cons_zero] at c1
    have hl0 : decide ((0 : Int) < (((⟨f, t, (k : Int)⟩ : It) :: L).length : Int)) = true := by simp
    have hl1 : ((((⟨f, t, (k : Int)⟩ : It) :: L).length : Nat) : Int) = (L.length : Int) + 1 := by simp
    have hk0 : decide ((k : Int) < 0) = false := decide_eq_false (by omega)
    have hk1 : decide ((vs.length : Int) ≤ (k : Int)) = false := decide_eq_false (by omega)
    have hz : decide ((L.length : Int) + 1 ≤ 0) = false := decide_eq_false (by omega)
    have HV := Lib.hid (show (valOf vs ⟨f, t, k⟩).2 = vs[k] by simp [valOf, hkl])
    generalize vs[k] = vk0 at *
    clear S2 oL m2 hmem hsub hcov hnone HCS HS hxd hxi
    go_wp2_with fail
    refine wp_plan [] [0, 4, 1, 5, 2, 6, 3, 7, 8, 9, 10] (by kernel_rfl) (by kernel_rfl) ?_
    simp only [wpSegs, opsOf, List.map_cons, List.map_nil, opN, List.getD_cons_zero, List.getD_cons_succ]
    go_wp2_with fail
    refine ⟨by first | trivial | rfl, ?_⟩
    go_wp2_with fail
    go_ret
    exact ⟨by rw [HG.out, HV.out]; rfl, HM2.out.drew⟩
end Go.Proofs.Ytngglpekdjhbdaa
namespace Go.Proofs.Ytngglpekdjhbdaa
set_option linter.unusedSimpArgs false
set_option linter.unusedVariables false

/-- L: the segments of g from a on, up to z -/
inductive SegsTo (g : Int → Int) (a : Int) : Int → List Sg → Prop
  | nil : SegsTo g a a []
  | snoc {z : Int} {L : List Sg} (s : Sg) : SegsTo g a z L → s.f = z → z < s.t → (∀ d, z ≤ d → d < s.t → g d = s.v) → (∀ r, L.getLast? = some r → r.v ≠ s.v) → SegsTo g a s.t (L ++ [s])
theorem SegsTo.cases' {g : Int → Int} {a z : Int} {L : List Sg} (h : SegsTo g a z L) : (L = [] ∧ z = a) ∨ ∃ L' s, L = L' ++ [s] ∧ s.t = z ∧ SegsTo g a s.f L' ∧ s.f < s.t ∧ (∀ d, s.f ≤ d → d < s.t → g d = s.v) ∧ (∀ r, L'.getLast? = some r → r.v ≠ s.v) := by
  cases h with
  | nil => exact .inl ⟨rfl, rfl⟩
  | snoc s h h1 h2 h3 h4 => subst h1; exact .inr ⟨_, s, rfl, rfl, h, h2, h3, h4⟩
theorem SegsTo.le {g : Int → Int} {a z : Int} {L : List Sg} (h : SegsTo g a z L) : a ≤ z ∧ (a < z → L ≠ []) := by
  induction h with
  | nil => exact ⟨Int.le_refl _, fun h => by omega⟩
  | snoc s h h1 h2 h3 h4 ih => exact ⟨by omega, fun _ => by simp⟩
/-- the last segment's begin: ahead of it the value is another one -/
theorem SegsTo.pre {g : Int → Int} {a : Int} {L : List Sg} {s : Sg} (h : SegsTo g a s.f L) (hv : ∀ r, L.getLast? = some r → r.v ≠ s.v) : s.f = a ∨ (a < s.f ∧ g (s.f - 1) ≠ s.v) := by
  rcases h.cases' with ⟨_, e⟩ | ⟨L', r, rfl, h1, h2, h3, h4, h5⟩
  · exact .inl e
  · refine .inr ⟨by have := h2.le.1; omega, ?_⟩
    rw [h4 (s.f - 1) (by omega) (by omega)]
    exact hv r (by simp)
theorem SegsTo.unique {g : Int → Int} {a : Int} : ∀ (n : Nat) {z : Int} {L L' : List Sg}, L.length ≤ n → SegsTo g a z L → SegsTo g a z L' → L = L'
  | n, z, L, L', hn, h, h' => by
    rcases h.cases' with ⟨rfl, e⟩ | ⟨K, s, rfl, h1, h2, h3, h4, h5⟩ <;> rcases h'.cases' with ⟨rfl, e'⟩ | ⟨K', s', rfl, h1', h2', h3', h4', h5'⟩
    · rfl
    · have := h2'.le.1; omega
    · have := h2.le.1; omega
    · have hv : s.v = s'.v := by rw [← h4 (z - 1) (by omega) (by omega), ← h4' (z - 1) (by omega) (by omega)]
      have hf : s.f = s'.f := by
        have p := h2.pre h5
        have p' := h2'.pre h5'
        have q := h2.le.1
        have q' := h2'.le.1
        rcases Int.lt_trichotomy s.f s'.f with c | c | c
        · rcases p' with e | ⟨_, e⟩
          · omega
          · exact absurd ((h4 (s'.f - 1) (by omega) (by omega)).trans hv) e
        · exact c
        · rcases p with e | ⟨_, e⟩
          · omega
          · exact absurd ((h4' (s.f - 1) (by omega) (by omega)).trans hv.symm) e
      cases n with
      | zero => simp at hn
      | succ n =>
        have hK := SegsTo.unique n (L := K) (L' := K') (by simp at hn; omega) h2 (by rw [hf]; exact h2')
        have hs : s = s' := by
          obtain ⟨f, t, v⟩ := s
          obtain ⟨f', t', v'⟩ := s'
          dsimp only at *
          subst hv hf
          rw [h1, h1']
        rw [hK, hs]
def addS (o : List Sg × Int) (tz v : Int) : List Sg × Int := if o.2 < tz then (o.1 ++ [⟨o.2, tz, v⟩], tz) else o
def stepS (b : Int) (o : List Sg × Int) (x : Sg) : List Sg × Int := addS (addS o x.f 0) (min x.t b) x.v
/-- where the telling stands: the last item told, if any -/
structure ToldS (g : Int → Int) (a b : Int) (o : List Sg × Int) (y : Option Sg) : Prop where
  segs : SegsTo g a o.2 o.1
  at_ : match y with | none => o = ([], a) | some y => o.2 = min y.t b ∧ ∃ r, o.1.getLast? = some r ∧ r.v = y.v
theorem told_step {g : Int → Int} {a b : Int} (hab : a < b) {o : List Sg × Int} {y : Option Sg} (h : ToldS g a b o y) {x : Sg} (hx : a < x.t ∧ x.f < b ∧ x.f < x.t ∧ x.v ≠ 0) (hy : ∀ z, y = some z → z.t ≤ x.f ∧ z.v ≠ 0 ∧ (z.t = x.f → z.v ≠ x.v)) (hcov : ∀ d, x.f ≤ d → d < x.t → g d = x.v) (hgap : ∀ d, o.2 ≤ d → d < x.f → g d = 0) : ToldS g a b (stepS b o x) (some x) := by
  unfold stepS
  have h2 : (addS o x.f 0).2 < min x.t b ∧ SegsTo g a (addS o x.f 0).2 (addS o x.f 0).1 ∧ (∀ r, (addS o x.f 0).1.getLast? = some r → r.v ≠ x.v) ∧ x.f ≤ (addS o x.f 0).2 := by
    unfold addS
    by_cases hc : o.2 < x.f
    · rw [if_pos hc]
      refine ⟨by dsimp only; omega, SegsTo.snoc ⟨o.2, x.f, 0⟩ h.segs rfl hc hgap ?_, ?_, by dsimp only; omega⟩
      · intro r hr
        have h3 := h.at_
        cases y with
        | none => dsimp only at h3; rw [h3] at hr; simp at hr
        | some z =>
          obtain ⟨h4, r', h5, h6⟩ := h3
          rw [h5] at hr
          cases hr
          rw [h6]
          exact (hy z rfl).2.1
      · intro r hr
        simp at hr
        subst hr
        exact Ne.symm hx.2.2.2
    · rw [if_neg hc]
      have h3 := h.at_
      cases y with
      | none =>
        dsimp only at h3
        have : o.2 = a := by rw [h3]
        refine ⟨by omega, h.segs, fun r hr => by rw [h3] at hr; simp at hr, by omega⟩
      | some z =>
        obtain ⟨h4, r', h5, h6⟩ := h3
        obtain ⟨h7, h8, h9⟩ := hy z rfl
        refine ⟨by omega, h.segs, fun r hr => ?_, by omega⟩
        rw [h5] at hr
        cases hr
        rw [h6]
        exact h9 (by omega)
  obtain ⟨c1, c2, c3, c4⟩ := h2
  generalize addS o x.f 0 = o1 at c1 c2 c3 c4
  unfold addS
  rw [if_pos c1]
  refine ⟨SegsTo.snoc ⟨o1.2, min x.t b, x.v⟩ c2 rfl c1 (fun d h1 h2 => hcov d (by omega) (by dsimp only at h2; omega)) c3, rfl, ⟨o1.2, min x.t b, x.v⟩, by simp, rfl⟩
theorem told_end {g : Int → Int} {a b : Int} (hab : a < b) {o : List Sg × Int} {y : Option Sg} (h : ToldS g a b o y) (hy : ∀ z, y = some z → z.v ≠ 0) (hgap : ∀ d, o.2 ≤ d → d < b → g d = 0) (hle : o.2 ≤ b) : SegsTo g a b (addS o b 0).1 := by
  unfold addS
  by_cases hc : o.2 < b
  · rw [if_pos hc]
    refine SegsTo.snoc ⟨o.2, b, 0⟩ h.segs rfl hc hgap ?_
    intro r hr
    have h3 := h.at_
    cases y with
    | none => dsimp only at h3; rw [h3] at hr; simp at hr
    | some z =>
      obtain ⟨h4, r', h5, h6⟩ := h3
      rw [h5] at hr
      cases hr
      rw [h6]
      exact hy z rfl
  · rw [if_neg hc]
    have : o.2 = b := by omega
    rw [← this]
    exact h.segs
/-- the segments that meet a span, in order, told whole -/
theorem told_all {g : Int → Int} {a b : Int} (hab : a < b) {Y : List Sg} (hone : ∀ x ∈ Y, a < x.t ∧ x.f < b ∧ x.f < x.t ∧ x.v ≠ 0) (hord : Y.Pairwise (fun x y => x.t ≤ y.f)) (hun : ∀ x ∈ Y, ∀ y ∈ Y, x.t = y.f → x.v ≠ y.v) (hcov : ∀ x ∈ Y, ∀ d, x.f ≤ d → d < x.t → g d = x.v) (hno : ∀ d, a ≤ d → d < b → (∀ x ∈ Y, ¬ (x.f ≤ d ∧ d < x.t)) → g d = 0) :
    SegsTo g a b (addS (Y.foldl (stepS b) ([], a)) b 0).1 := by
  have main : ∀ (n : Nat), n ≤ Y.length → ToldS g a b ((Y.take n).foldl (stepS b) ([], a)) (Y.take n).getLast? := fun n => by
    induction n with
    | zero => intro _; exact ⟨SegsTo.nil, rfl⟩
    | succ n ih =>
      intro hn
      have h := ih (by omega)
      have hlt : n < Y.length := by omega
      rw [List.take_succ_eq_append_getElem hlt, List.foldl_append]
      simp only [List.foldl_cons, List.foldl_nil, List.getLast?_append, List.getLast?_singleton, Option.some_or]
      have hmem := List.getElem_mem hlt
      have hspl : Y.take n ++ Y[n] :: Y.drop (n + 1) = Y := by rw [← List.drop_eq_getElem_cons hlt, List.take_append_drop]
      have hp : (Y.take n ++ Y[n] :: Y.drop (n + 1)).Pairwise (fun x y => x.t ≤ y.f) := by rw [hspl]; exact hord
      have hbef : ∀ z ∈ Y.take n, z.t ≤ (Y[n]).f := fun z hz => (List.pairwise_append.1 hp).2.2 z hz _ List.mem_cons_self
      have haft : ∀ z ∈ Y.drop (n + 1), (Y[n]).t ≤ z.f := fun z hz => (List.pairwise_cons.1 (List.pairwise_append.1 hp).2.1).1 z hz
      refine told_step hab h (hone _ hmem) (fun z hz => ?_) (hcov _ hmem) (fun d h1 h2 => ?_)
      · have hz' := List.mem_of_getLast? hz
        have hzY := List.mem_of_mem_take hz'
        exact ⟨hbef z hz', (hone z hzY).2.2.2, fun e => hun z hzY _ hmem e⟩
      · have ha : a ≤ ((Y.take n).foldl (stepS b) ([], a)).2 := h.segs.le.1
        refine hno d (by omega) (by have := hone _ hmem; omega) fun x hx hc => ?_
        rw [← List.take_append_drop n Y, List.drop_eq_getElem_cons hlt] at hx
        rcases List.mem_append.1 hx with hx | hx
        · have hat := h.at_
          cases hl : (Y.take n).getLast? with
          | none => rw [List.getLast?_eq_none_iff] at hl; rw [hl] at hx; cases hx
          | some y =>
            rw [hl] at hat
            obtain ⟨h4, _⟩ := hat
            have hyt : x.t ≤ y.t := by
              obtain ⟨K, hK⟩ := List.getLast?_eq_some_iff.1 hl
              rw [hK] at hx
              rcases List.mem_append.1 hx with hx | hx
              · have hp := hord
                rw [← List.take_append_drop n Y, hK] at hp
                have h5 := (List.pairwise_append.1 (List.pairwise_append.1 hp).1).2.2 x hx y (by simp)
                have := (hone y (List.mem_of_mem_take (List.mem_of_getLast? hl))).2.2.1
                omega
              · simp at hx; subst hx; omega
            have := hone _ hmem
            omega
        · rcases List.mem_cons.1 hx with rfl | hx
          · omega
          · have := haft x hx
            have := (hone _ hmem).2.2.1
            omega
  have h := main Y.length (Nat.le_refl _)
  rw [List.take_length] at h
  have ha : a ≤ (Y.foldl (stepS b) ([], a)).2 := h.segs.le.1
  have hat := h.at_
  refine told_end hab h (fun z hz => (hone z (List.mem_of_getLast? hz)).2.2.2) (fun d h1 h2 => ?_) ?_
  · refine hno d (by omega) h2 fun x hx hc => ?_
    cases hl : Y.getLast? with
    | none => rw [List.getLast?_eq_none_iff] at hl; rw [hl] at hx; cases hx
    | some y =>
      rw [hl] at hat
      obtain ⟨h4, _⟩ := hat
      have hyt : x.t ≤ y.t := by
        obtain ⟨K, hK⟩ := List.getLast?_eq_some_iff.1 hl
        rw [hK] at hx
        rcases List.mem_append.1 hx with hx | hx
        · have hp := hord
          rw [hK] at hp
          have h5 := (List.pairwise_append.1 hp).2.2 x hx y (by simp)
          have := (hone y (List.mem_of_getLast? hl)).2.2.1
          omega
        · simp at hx; subst hx; omega
      omega
  · cases hl : Y.getLast? with
    | none =>
      rw [hl] at hat
      dsimp only at hat
      rw [hat]
      dsimp only
      omega
    | some y =>
      rw [hl] at hat
      obtain ⟨h4, _⟩ := hat
      omega
end Go.Proofs.Ytngglpekdjhbdaa
