/- The journal: a frame is laid. -/
import Derived.Test.YtnjfgbbdfdoccaaJnG
namespace Go.Proofs.Ytnjfgbbdfdoccaa
open Go.RowKit Go.ChangeMaps
set_option linter.unusedSimpArgs false
set_option linter.unusedVariables false
set_option maxRecDepth 20000

/-- writes, up to one that is refused -/
def Jk.writes (J : Jk) (D : Dk) : List (Int × List Int) → Int × Jk × Dk
  | [] => (0, J, D)
  | x :: r => if (J.write D x.1 x.2).1 = 0 then Jk.writes (J.write D x.1 x.2).2.1 (J.write D x.1 x.2).2.2 r else J.write D x.1 x.2
theorem Jk.writes_snoc (p : List (Int × List Int)) (x : Int × List Int) : ∀ (J : Jk) (D : Dk), J.writes D (p ++ [x]) = if (J.writes D p).1 = 0 then (J.writes D p).2.1.write (J.writes D p).2.2 x.1 x.2 else J.writes D p := by
  induction p with
  | nil =>
    intro J D
    simp only [List.nil_append, Jk.writes, if_true]
    split
    · rename_i h
      have : J.write D x.1 x.2 = (0, (J.write D x.1 x.2).2.1, (J.write D x.1 x.2).2.2) := by rw [← h]
      exact this.symm
    · rfl
  | cons y p ih =>
    intro J D
    simp only [List.cons_append, Jk.writes]
    by_cases h : (J.write D y.1 y.2).1 = 0
    · simp only [if_pos h]; exact ih _ _
    · simp only [if_neg h]
theorem Jk.writes_stop {J : Jk} {D : Dk} {p : List (Int × List Int)} (h : (J.writes D p).1 ≠ 0) : ∀ q, J.writes D (p ++ q) = J.writes D p := by
  intro q
  obtain ⟨n, hn⟩ : ∃ n, q.length = n := ⟨_, rfl⟩
  induction n generalizing q with
  | zero => rw [List.length_eq_zero_iff] at hn; subst hn; rw [List.append_nil]
  | succ n ih =>
    rcases List.eq_nil_or_concat q with e | ⟨q', x, e⟩
    · subst e; simp at hn
    · rw [List.concat_eq_append] at e
      subst e
      have hq := ih q' (by simpa using hn)
      rw [← List.append_assoc, Jk.writes_snoc, hq, if_neg h]
theorem Dk.write_same (D : Dk) (k : Int) (l : List Int) : (D.write k l).2.n = D.n ∧ D.written ≤ (D.write k l).2.written ∧ (D.write k l).2.written ≤ D.written + 1 := by
  unfold Dk.write Dk.lay
  repeat' split
  all_goals exact ⟨rfl, by dsimp only; omega, by dsimp only; omega⟩
theorem Jk.write_same (J : Jk) (D : Dk) (k : Int) (l : List Int) : (J.write D k l).2.2.n = D.n ∧ D.written ≤ (J.write D k l).2.2.written ∧ (J.write D k l).2.2.written ≤ D.written + 1 ∧ (J.write D k l).2.1.epoch = J.epoch ∧ (J.write D k l).2.1.at_ = J.at_ ∧ (J.write D k l).2.1.l = J.l := by
  unfold Jk.write
  obtain ⟨h1, h2, h3⟩ := D.write_same k l
  split
  · exact ⟨rfl, Int.le_refl _, by dsimp only; omega, rfl, rfl, rfl⟩
  · exact ⟨h1, h2, h3, rfl, rfl, rfl⟩
theorem Jk.writes_same (p : List (Int × List Int)) : ∀ (J : Jk) (D : Dk), (J.writes D p).2.2.n = D.n ∧ D.written ≤ (J.writes D p).2.2.written ∧ (J.writes D p).2.2.written ≤ D.written + p.length ∧ (J.writes D p).2.1.epoch = J.epoch ∧ (J.writes D p).2.1.at_ = J.at_ ∧ (J.writes D p).2.1.l = J.l := by
  induction p with
  | nil => intro J D; exact ⟨rfl, Int.le_refl _, by simp [Jk.writes], rfl, rfl, rfl⟩
  | cons x p ih =>
    intro J D
    obtain ⟨a1, a2, a3, a4, a5, a6⟩ := J.write_same D x.1 x.2
    simp only [Jk.writes, List.length_cons]
    split
    · obtain ⟨b1, b2, b3, b4, b5, b6⟩ := ih (J.write D x.1 x.2).2.1 (J.write D x.1 x.2).2.2
      exact ⟨b1.trans a1, by omega, by omega, b4.trans a4, b5.trans a5, b6.trans a6⟩
    · exact ⟨a1, a2, by omega, a4, a5, a6⟩
def layPlan (at_ : Int) (b : List Int) (M : Nat) : List (Int × List Int) := (at_, zeros64) :: (at_ + M, zeros64) :: (List.range' 1 M).map fun i => (at_ + ((i % M : Nat) : Int), (b.drop (i % M * 64)).take 64)
theorem layPlan_len (at_ : Int) (b : List Int) (M : Nat) : (layPlan at_ b M).length = M + 2 := by simp [layPlan]
theorem layPlan_take (at_ : Int) (b : List Int) (M i : Nat) (h1 : 1 ≤ i) (h2 : i ≤ M) : (layPlan at_ b M).take (i + 2) = (layPlan at_ b M).take (i + 1) ++ [(at_ + ((i % M : Nat) : Int), (b.drop (i % M * 64)).take 64)] := by
  rw [List.take_succ_eq_append_getElem (by rw [layPlan_len]; omega)]
  congr 2
  obtain ⟨k, rfl⟩ : ∃ k, i = k + 1 := ⟨i - 1, by omega⟩
  simp only [layPlan, List.getElem_cons_succ, List.getElem_map, List.getElem_range']
  rw [show 1 + 1 * k = k + 1 from by omega]
/-- where the laying stands behind i - 1 rounds -/
def layAt (J : Jk) (D : Dk) (at_ : Int) (b : List Int) (M i : Nat) : Int × Jk × Dk := J.writes D ((layPlan at_ b M).take (i + 1))
theorem layAt_succ {J : Jk} {D : Dk} {at_ : Int} {b : List Int} {M i : Nat} (h1 : 1 ≤ i) (h2 : i ≤ M) (h : (layAt J D at_ b M i).1 = 0) : layAt J D at_ b M (i + 1) = (layAt J D at_ b M i).2.1.write (layAt J D at_ b M i).2.2 (at_ + ((i % M : Nat) : Int)) ((b.drop (i % M * 64)).take 64) := by
  unfold layAt at h ⊢
  rw [layPlan_take at_ b M i h1 h2, Jk.writes_snoc, if_pos h]
theorem layAt_end {J : Jk} {D : Dk} {at_ : Int} {b : List Int} {M i : Nat} (h : (layAt J D at_ b M i).1 ≠ 0 ∨ i = M + 1) : layAt J D at_ b M i = J.writes D (layPlan at_ b M) := by
  unfold layAt at h ⊢
  rcases h with h | h
  · have := Jk.writes_stop h ((layPlan at_ b M).drop (i + 1))
    rw [List.take_append_drop] at this
    exact this.symm
  · rw [List.take_of_length_le (by rw [layPlan_len]; omega)]
theorem layAt_written (J : Jk) (D : Dk) (at_ : Int) (b : List Int) (M i : Nat) : D.written ≤ (layAt J D at_ b M i).2.2.written ∧ (layAt J D at_ b M i).2.2.written ≤ D.written + (M + 2) := by
  unfold layAt
  obtain ⟨_, h1, h2, _⟩ := Jk.writes_same ((layPlan at_ b M).take (i + 1)) J D
  refine ⟨h1, ?_⟩
  rw [List.length_take, layPlan_len] at h2
  omega
set_option maxHeartbeats 8000000 in
theorem jLay_at {w : World} {base j d m : Nat} {J : Jk} {D : Dk} (h : JAt w base j d m J D) (at_ : Int) (ha : 0 ≤ at_ ∧ at_ ≤ 1099511627776) {x : Value} {b : List Int} {M : Nat} (hx : RowAt enc8 w x b) (hM : 1 ≤ M ∧ M ≤ 16777216) (hb : b.length = M * 64)
    (hxo : ∀ bb o n c, x = .slice (some ⟨bb, o, none⟩) n c → bb ≠ j ∧ bb ≠ d ∧ bb ≠ m) (hw : 0 ≤ D.written ∧ D.written ≤ 2305843009213693952) :
    Calls Try.prog 36 #[.pointer (some ⟨j, 0, none⟩), .int .i64 at_, x] w fun e w' => e = .returned (.int .i64 (J.writes D (layPlan at_ b M)).1) ∧ JAt w' base j d m (J.writes D (layPlan at_ b M)).2.1 (J.writes D (layPlan at_ b M)).2.2 ∧ Mod [j, d, m] w w' := by
  obtain ⟨hM1, hM2⟩ := hM
  obtain ⟨xb, xo, xc, rfl, hcap⟩ : ∃ xb xo xc, x = .slice (some ⟨xb, xo, none⟩) (M * 64) xc ∧ M * 64 ≤ xc := by
    obtain ⟨xa, xc, rfl⟩ := hx.form
    obtain ⟨xb, xo, heq, hc, _⟩ := RowAt.get enc8_len hx (i := 0) (by omega)
    cases heq
    rw [hb] at hc ⊢
    exact ⟨xb, xo, xc, rfl, hc⟩
  obtain ⟨ha0, ha1⟩ := ha
  have HJ := Lib.hid h
  have HX := Lib.hid hx
  have HXO := Lib.hid hxo
  have HW := Lib.hid hw
  have HB := Lib.hid hb
  have CN := Lib.hid (jNoughts_at w)
  have hz : zeros64.length = 64 := rfl
  clear hx hxo hw h hb
  go_enter Try.func36, Try.ntmps36
  go_wp2_with fail
  refine CN.out.mono ?_
  rintro e w1 ⟨g, rfl, hg, m1⟩
  have hj1 := HJ.out.kept0 m1
  have hgn : ∀ bb o n c, (Value.slice (some ⟨g, 0, none⟩) 64 64) = .slice (some ⟨bb, o, none⟩) n c → w.heap.size ≤ bb := fun bb o n c e => by
    cases e; exact (World.ownsRow.lt hg g rfl).1
  have hlt : j < w.heap.size ∧ d < w.heap.size ∧ m < w.heap.size := by
    obtain ⟨⟨v, hs, e1, _⟩, hd, _⟩ := HJ.out
    exact ⟨lt_of_heap e1, lt_of_heap hd.blk, hd.map.lt⟩
  have HLT := Lib.hid hlt
  have C1 := Lib.hid (jWrite_at hj1 at_ (x := .slice (some ⟨g, 0, none⟩) 64 64) (l := zeros64) hg.row (fun bb o n c e => by have := hgn bb o n c e; omega) (by rw [hz]; omega) (by have := HW.out; omega))
  have HM1 := Lib.hid m1
  clear CN hg m1 hj1 hgn hlt
  have hz2 : (layPlan at_ b M).take 2 = [(at_, zeros64), (at_ + M, zeros64)] := rfl
  by_cases he : (J.write D at_ zeros64).1 = 0
  case' pos =>
    have HT := Lib.hid (show layAt J D at_ b M 1 = (J.write D at_ zeros64).2.1.write (J.write D at_ zeros64).2.2 (at_ + M) zeros64 from by
      unfold layAt
      rw [hz2]
      simp only [Jk.writes, if_pos he]
      split
      · rename_i h
        exact (Prod.ext h.symm rfl)
      · rfl)
    clear hz2
    go_wp2_with fail
    refine C1.out.mono ?_
    rintro e w2 ⟨rfl, hj2, m2⟩
    have HM2 := Lib.hid ((HM1.out.nil (l := [j, d, m])).trans m2)
    have hs1 := J.write_same D at_ zeros64
    have HJ2 := Lib.hid hj2
    have CN := Lib.hid (jNoughts_at w2)
    have HS := Lib.hid (show 0 ≤ (J.write D at_ zeros64).2.2.written ∧ (J.write D at_ zeros64).2.2.written ≤ 2305843009213693953 from by have := HW.out; omega)
    generalize J.write D at_ zeros64 = r at he HJ2 HT HS
    obtain ⟨r1, J1, D1⟩ := r
    dsimp only at he HJ2 HT HS
    subst he
    clear hj2 m2 C1 hs1
    go_wp2_with fail
    refine CN.out.mono ?_
    rintro e w3 ⟨g2, rfl, hg2, m3⟩
    have hj3 := HJ2.out.kept0 m3
    have hgn : ∀ bb o n c, (Value.slice (some ⟨g2, 0, none⟩) 64 64) = .slice (some ⟨bb, o, none⟩) n c → w2.heap.size ≤ bb := fun bb o n c e => by
      cases e; exact (World.ownsRow.lt hg2 g2 rfl).1
    have hws := HM2.out.size
    have C2 := Lib.hid (jWrite_at hj3 (at_ + M) (x := .slice (some ⟨g2, 0, none⟩) 64 64) (l := zeros64) hg2.row (fun bb o n c e => by have := hgn bb o n c e; have := HLT.out; omega) (by rw [hz]; omega) (by have := HS.out; omega))
    have HM3 := Lib.hid (HM2.out.trans (m3.nil (l := [j, d, m])))
    rw [← HT.out] at C2
    clear CN hg2 m3 hj3 hgn
    go_wp2_with fail
    refine C2.out.mono ?_
    rintro e wX ⟨rfl, hj4, m4⟩
    have HST := Lib.hid (⟨hj4, HM3.out.trans m4⟩ : _ ∧ _)
    clear hj4 m4 C2
    go_wp2_with fail
  case' neg =>
    have HT := Lib.hid (show layAt J D at_ b M 1 = J.write D at_ zeros64 from by
      unfold layAt
      rw [hz2]
      simp only [Jk.writes, if_neg he])
    have hne : ((layAt J D at_ b M 1).1 == 0) = false := by rw [HT.out]; simpa using he
    have hne2 : decide ((layAt J D at_ b M 1).1 = 0) = false := by rw [HT.out]; simpa using he
    rw [← HT.out] at C1
    clear hz2 he
    go_wp2_with fail
    refine C1.out.mono ?_
    rintro e wX ⟨rfl, hj4, m4⟩
    have HST := Lib.hid (⟨hj4, (HM1.out.nil (l := [j, d, m])).trans m4⟩ : _ ∧ _)
    clear hj4 m4 C1
    go_wp2_with fail
  all_goals
    go_loopw [8, 9, 10] (fun s8 s9 s10 W => ∃ i : Nat, 1 ≤ i ∧ i ≤ M + 1 ∧ s9 = .int .i64 i ∧ s8 = .int .i64 (layAt J D at_ b M i).1 ∧ Hid (JAt W base j d m (layAt J D at_ b M i).2.1 (layAt J D at_ b M i).2.2 ∧ Mod [j, d, m] w W)) (fun _ s9 _ _ => M + 1 - (intOf s9).toNat)
    case atStart => exact ⟨1, by omega, by omega, rfl, rfl, HST⟩
    case round =>
      clear HST
      obtain ⟨i, hi1, hi2, rfl, rfl, hS⟩ := hrel
      have HND := Lib.hid (fun h => layAt_end (J := J) (D := D) (at_ := at_) (b := b) (M := M) (i := i) h)
      have HSC := Lib.hid (fun a b' => layAt_succ (J := J) (D := D) (at_ := at_) (b := b) (M := M) (i := i) hi1 a b')
      have hwr := layAt_written J D at_ b M i
      have HWR := Lib.hid hwr
      clear hwr
      generalize layAt J D at_ b M i = st at hS HND HSC HWR
      obtain ⟨x, J2, D2⟩ := st
      dsimp only at hS HND HSC HWR
      by_cases hx0 : x = 0
      · subst hx0
        by_cases hiM : i ≤ M
        · obtain ⟨k, hk⟩ : ∃ k, i % M = k := ⟨_, rfl⟩
          have hkM : k < M := by rw [← hk]; exact Nat.mod_lt _ (by omega)
          have hk2 : (i : Int) % (M : Int) = (k : Int) := by rw [← hk]; simp
          have hc1 : decide ((i : Int) ≤ (M : Int)) = true := decide_eq_true (by omega)
          rw [hk] at HSC
          have hk3 : 0 ≤ ((k : Int) + 1) * 64 ∧ ((k : Int) + 1) * 64 ≤ (xc : Int) := by omega
          have hk4 : 0 ≤ (k : Int) * 64 ∧ (k : Int) * 64 ≤ ((k : Int) + 1) * 64 := by omega
          obtain ⟨hJ2, hm2⟩ := hS.out
          have hrow : RowAt enc8 wr (.slice (some ⟨xb, xo + k * 64, none⟩) ((k + 1) * 64 - k * 64) (xc - k * 64)) ((b.drop (k * 64)).take 64) := by
            have hbl := HB.out
            have h1 : RowAt enc8 wr (.slice (some ⟨xb, xo, none⟩) b.length xc) b := by
              rw [hbl]
              exact HX.out.kept_at hm2 (fun bb o n c e hk => by
                obtain ⟨n1, n2, n3⟩ := HXO.out bb o n c e
                simp at hk
                omega)
            have h2 := RowAt.drop enc8_len h1 (k * 64) (by omega)
            rw [Nat.mul_one, ← List.length_drop] at h2
            have h3 := RowAt.take enc8_len h2 64 (by rw [List.length_drop]; omega)
            rw [show (k + 1) * 64 - k * 64 = 64 from by omega]
            exact h3
          have hl64 : ((b.drop (k * 64)).take 64).length ≤ 1073741824 := by simp; omega
          have CW := Lib.hid (jWrite_at hJ2 (at_ + k) hrow (fun bb o n c e => by
            cases e
            exact (HXO.out xb xo _ _ rfl).2.1) hl64 (by have := HWR.out; have := HW.out; omega))
          have HM2 := Lib.hid hm2
          have HSE := Lib.hid (HSC.out hiM rfl)
          rw [← HSE.out] at CW
          clear hJ2 hm2 hrow hl64 hS HSC HND
          go_wp2_with fail
          refine CW.out.mono ?_
          rintro e wY ⟨rfl, hj5, m5⟩
          have HN := Lib.hid (⟨hj5, HM2.out.trans m5⟩ : _ ∧ _)
          clear hj5 m5 CW
          go_wp2_with fail
          go_roundw
          case rel => exact ⟨i + 1, by omega, by omega, by go_num, rfl, HN⟩
          case measure => simp [intOf]; omega
        · have hc1 : decide ((i : Int) ≤ (M : Int)) = false := decide_eq_false (by omega)
          have HE := Lib.hid (HND.out (.inr (by omega)))
          have HF := Lib.hid (show JAt wr base j d m (J.writes D (layPlan at_ b M)).2.1 (J.writes D (layPlan at_ b M)).2.2 ∧ Mod [j, d, m] w wr from by rw [← HE.out]; exact hS.out)
          have HG := Lib.hid (show (J.writes D (layPlan at_ b M)).1 = 0 from by rw [← HE.out])
          clear hS HND HSC
          go_wp2_with fail
          go_ret
          exact ⟨by rw [HG.out]; rfl, HF.out⟩
      · have hxf : (x == 0) = false := by simpa using hx0
        have hxf2 : decide (x = 0) = false := decide_eq_false hx0
        have HE := Lib.hid (HND.out (.inl hx0))
        have HF := Lib.hid (show JAt wr base j d m (J.writes D (layPlan at_ b M)).2.1 (J.writes D (layPlan at_ b M)).2.2 ∧ Mod [j, d, m] w wr from by rw [← HE.out]; exact hS.out)
        have HG := Lib.hid (show (J.writes D (layPlan at_ b M)).1 = x from by rw [← HE.out])
        clear hS HND HSC
        by_cases hiM : i ≤ M
        · have hc1 : decide ((i : Int) ≤ (M : Int)) = true := decide_eq_true (by omega)
          go_wp2_with fail
          go_ret
          exact ⟨by rw [HG.out]; rfl, HF.out⟩
        · have hc1 : decide ((i : Int) ≤ (M : Int)) = false := decide_eq_false (by omega)
          go_wp2_with fail
          go_ret
          exact ⟨by rw [HG.out]; rfl, HF.out⟩
end Go.Proofs.Ytnjfgbbdfdoccaa
