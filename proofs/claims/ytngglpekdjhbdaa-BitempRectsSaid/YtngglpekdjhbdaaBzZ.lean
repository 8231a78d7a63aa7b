/- Layer 13: the example that the laws end with. -/
import Derived.Test.YtngglpekdjhbdaaBzW
import Derived.Test.YtngglpekdjhbdaaBzY
namespace Go.Proofs.Ytngglpekdjhbdaa
open Go.RowKit Go.ChangeMaps Go.Deep Tr
set_option linter.unusedSimpArgs false
set_option linter.unusedVariables false
set_option maxRecDepth 20000

set_option maxHeartbeats 4000000 in
theorem biSegs_at {w : World} {s : Nat} {BB : List Nat} {n : Nat} {last last0 : Int} {S : Bs} (h : BiAt w s BB n last S) (hS : S.Ok last0) (hl : S.rs.length ≤ 30000) (t : Int) {a b : Int} (hm : mayS a b) :
    Calls Try.prog 45 #[.pointer (some ⟨s, 0, none⟩), .int .i64 t, .agg #[.int .i64 a, .int .i64 b]] w fun e w' => ∃ v R L, e = .returned v ∧ RectsMem S R ∧ SegsTo (gfold (min (max t 0) last) R) a b L ∧ OwnR encSg 3 80 w' w.heap.size v L ∧ Mod [] w w' := by
  obtain ⟨A1, hA1, n1, s1, m1⟩ := alloc_named2 w (.cells #[.int .i64 a, .int .i64 b] 24)
  have mD := m1.trans ((Mod.refl [] A1).drew)
  have CL := Lib.hid (line13_at (h.kept0 mD) hS hl t)
  have HN1 := Lib.hid n1
  have HMD := Lib.hid mD
  have y0 := cell_blk n1 0
  have y1 := cell_blk n1 1
  simp only [List.getElem?_toArray, List.getElem?_cons_succ, List.getElem?_cons_zero] at y0 y1
  obtain ⟨t', ht'⟩ : ∃ t', min (max t 0) last = t' := ⟨_, rfl⟩
  rw [ht'] at CL ⊢
  clear h hS n1 s1 m1 mD ht'
  go_enter Try.func45, Try.ntmps45
  go_wp2_with fail
  refine wp_plan [([0, 1, 3], 2, [3]), ([], 4, [])] [5] (by kernel_rfl) (by kernel_rfl) ?_
  simp only [wpSegs, opsOf, List.map_cons, List.map_nil, opN, List.getD_cons_zero, List.getD_cons_succ]
  go_wp2_with fail
  refine ⟨by first | trivial | rfl, ?_⟩
  go_wp2_with fail
  refine CL.out.mono ?_
  rintro e w2 ⟨g, B, R, rfl, hR, hLn, m2⟩
  have hb2 := m2.heap (((Mod.refl [] A1).drew).heap HN1.out (by simp)) (by simp)
  have z0 := cell_blk hb2 0
  have z1 := cell_blk hb2 1
  simp only [List.getElem?_toArray, List.getElem?_cons_succ, List.getElem?_cons_zero] at z0 z1
  have CS := Lib.hid (segs_line hLn (by omega) hm)
  have HR := Lib.hid hR
  have HM2 := Lib.hid (HMD.out.trans m2)
  clear hR hLn m2 hb2 CL
  go_wp2_with fail
  refine ⟨?ag1, ?_⟩
  case ag1 =>
    intro i hi hw
    simp only [List.mem_cons, List.not_mem_nil, or_false] at hi
    subst hi
    all_goals (simp only [opN, List.getD_cons_zero, List.getD_cons_succ, slotOf]; go_simp)
  go_wp2_with fail
  refine ⟨by first | trivial | rfl, ?_⟩
  go_wp2_with fail
  refine CS.out.mono ?_
  rintro e w3 ⟨v, L, rfl, oL, hSg, _, m3⟩
  have HE := Lib.hid (show RectsMem _ R ∧ SegsTo (gfold t' R) a b L ∧ OwnR encSg 3 80 w3 w.heap.size v L ∧ Mod [] w w3 from ⟨HR.out, hSg, oL.mono HM2.out.size, HM2.out.trans m3⟩)
  clear oL hSg m3 CS
  go_wp2_with fail
  refine ⟨again_nil, ?_⟩
  go_wp2_with fail
  refine ⟨by first | trivial | rfl, ?_⟩
  go_wp2_with fail
  go_ret
  exact ⟨v, R, L, rfl, HE.out⟩
/-- the example's rectangles -/
def exR (i : Nat) : Rc := if i = 0 then ⟨1, 10, 1, 0, 5⟩ else if i = 1 then ⟨1, 4, 1, 0, 5⟩ else if i = 2 then ⟨6, 10, 1, 0, 5⟩ else if i = 3 then ⟨4, 6, 1, 3, 5⟩ else ⟨4, 6, 3, 0, 7⟩
def exS1 : Bs := emptyB.step 1 5 1 10 0
def exS2 : Bs := exS1.step 3 7 4 6 1
theorem exS1_rs : exS1.rs = [⟨1, 10, 1, 0, 5⟩] := by rfl
theorem exS2_rs : exS2.rs = [⟨1, 10, 1, 0, 5⟩, ⟨1, 4, 1, 0, 5⟩, ⟨6, 10, 1, 0, 5⟩, ⟨4, 6, 1, 3, 5⟩, ⟨4, 6, 3, 0, 7⟩] := by rfl
theorem exS2_lv (i : Nat) : exS2.lv i ↔ i = 1 ∨ i = 2 ∨ i = 3 ∨ i = 4 := by
  have h : exS2.lv i ↔ (((((False ∨ i = 0) ∧ i ≠ 0) ∨ i = 1) ∨ i = 2) ∨ i = 3) ∨ i = 4 := Iff.rfl
  rw [h]
  constructor
  · rintro ((((⟨h1 | h1, h2⟩ | h1) | h1) | h1) | h1)
    · exact h1.elim
    · exact absurd h1 h2
    all_goals simp [h1]
  · rintro (h1 | h1 | h1 | h1)
    · exact .inl (.inl (.inl (.inr h1)))
    · exact .inl (.inl (.inr h1))
    · exact .inl (.inr h1)
    · exact .inr h1
theorem exS1_g (d : Int) : exS1.g d = if 1 ≤ d ∧ d < 10 then 1 else 0 := by
  have h : exS1.g d = if (0 : Int) = 0 ∧ 1 ≤ d ∧ d < 10 then ((0 : Nat) : Int) + 1 else 0 := rfl
  rw [h]
  simp
theorem segs_one {g : Int → Int} {a b v : Int} {L : List Sg} (hab : a < b) (hg : ∀ d, a ≤ d → d < b → g d = v) (h : SegsTo g a b L) : L = [⟨a, b, v⟩] := by
  have h2 : SegsTo g a b [⟨a, b, v⟩] := SegsTo.snoc (L := []) ⟨a, b, v⟩ SegsTo.nil rfl hab hg (fun r hr => by simp at hr)
  exact SegsTo.unique L.length (Nat.le_refl _) h h2
theorem ex_segs1 {L : List Sg} (h : SegsTo emptyB.g 1 10 L) : emptyB.run 1 5 L = exS1 := by
  rw [segs_one (v := 0) (by omega) (fun d _ _ => rfl) h]
  rfl
theorem ex_segs2 {L : List Sg} (h : SegsTo exS1.g 4 6 L) : exS1.run 3 7 L = exS2 := by
  rw [segs_one (v := 1) (by omega) (fun d h1 h2 => by rw [exS1_g, if_pos (by omega)]) h]
  rfl
theorem ex_mem (r : Rc) : (∃ i, exS2.lv i ∧ exS2.rs[i]? = some r) ↔ r = ⟨1, 4, 1, 0, 5⟩ ∨ r = ⟨6, 10, 1, 0, 5⟩ ∨ r = ⟨4, 6, 1, 3, 5⟩ ∨ r = ⟨4, 6, 3, 0, 7⟩ := by
  rw [exS2_rs]
  constructor
  · rintro ⟨i, h1, h2⟩
    rcases (exS2_lv i).1 h1 with rfl | rfl | rfl | rfl
    · left; simpa using h2.symm
    · right; left; simpa using h2.symm
    · right; right; left; simpa using h2.symm
    · right; right; right; simpa using h2.symm
  · rintro (rfl | rfl | rfl | rfl)
    · exact ⟨1, (exS2_lv 1).2 (by omega), rfl⟩
    · exact ⟨2, (exS2_lv 2).2 (by omega), rfl⟩
    · exact ⟨3, (exS2_lv 3).2 (by omega), rfl⟩
    · exact ⟨4, (exS2_lv 4).2 (by omega), rfl⟩
theorem ex_over {R : List Rc} (h : OverDay exS2 4 R) : ∀ r, r ∈ R ↔ r = ⟨4, 6, 1, 3, 5⟩ ∨ r = ⟨4, 6, 3, 0, 7⟩ := by
  intro r
  rw [h]
  constructor
  · rintro ⟨i, h1, h2, h3, h4⟩
    rcases (ex_mem r).1 ⟨i, h1, h2⟩ with rfl | rfl | rfl | rfl
    · simp at h4
    · simp at h3
    · exact .inl rfl
    · exact .inr rfl
  · rintro (rfl | rfl)
    · obtain ⟨i, h1, h2⟩ := (ex_mem ⟨4, 6, 1, 3, 5⟩).2 (by simp)
      exact ⟨i, h1, h2, by simp, by simp⟩
    · obtain ⟨i, h1, h2⟩ := (ex_mem ⟨4, 6, 3, 0, 7⟩).2 (by simp)
      exact ⟨i, h1, h2, by simp, by simp⟩
theorem ex_at2 {R : List Rc} (h : OverDay exS2 4 R) : ((R.find? (hasB 2)).map Rc.v).getD 0 = 5 := by
  have hm := ex_over h
  refine find_one (fun r hr hp => ?_) ⟨⟨4, 6, 1, 3, 5⟩, (hm _).2 (.inl rfl), by rfl⟩
  rcases (hm r).1 hr with rfl | rfl
  · rfl
  · exact absurd hp (by decide)
theorem ex_at3 {R : List Rc} (h : OverDay exS2 4 R) : ((R.find? (hasB 3)).map Rc.v).getD 0 = 7 := by
  have hm := ex_over h
  refine find_one (fun r hr hp => ?_) ⟨⟨4, 6, 3, 0, 7⟩, (hm _).2 (.inr rfl), by rfl⟩
  rcases (hm r).1 hr with rfl | rfl
  · exact absurd hp (by decide)
  · rfl
theorem ex_at0 {R : List Rc} (h : OverDay exS2 4 R) : ((R.find? (hasB 0)).map Rc.v).getD 0 = 0 := by
  have hm := ex_over h
  have hn : R.find? (hasB 0) = none := List.find?_eq_none.mpr fun r hr hp => by
    rcases (hm r).1 hr with rfl | rfl
    · exact absurd hp (by decide)
    · exact absurd hp (by decide)
  rw [hn]
  rfl
theorem ex_want {R : List Rc} (h : RectsMem exS2 R) (d : Int) : (1 ≤ d → d < 4 → wantF 3 d R = 5) ∧ (4 ≤ d → d < 6 → wantF 3 d R = 7) ∧ (6 ≤ d → d < 10 → wantF 3 d R = 5) := by
  have hm : ∀ r, r ∈ R ↔ r = ⟨1, 4, 1, 0, 5⟩ ∨ r = ⟨6, 10, 1, 0, 5⟩ ∨ r = ⟨4, 6, 1, 3, 5⟩ ∨ r = ⟨4, 6, 3, 0, 7⟩ := fun r => by rw [h r, ex_mem]
  have hone : ∀ (v : Int), (∀ r, r ∈ R → pB 3 d r = true → r.v = v) → (∃ r, r ∈ R ∧ pB 3 d r = true) → wantF 3 d R = v := fun v h1 h2 => fold_one 0 h1 h2
  refine ⟨fun h1 h2 => hone 5 (fun r hr hp => ?_) ⟨⟨1, 4, 1, 0, 5⟩, (hm _).2 (by simp), ?_⟩, fun h1 h2 => hone 7 (fun r hr hp => ?_) ⟨⟨4, 6, 3, 0, 7⟩, (hm _).2 (by simp), ?_⟩, fun h1 h2 => hone 5 (fun r hr hp => ?_) ⟨⟨6, 10, 1, 0, 5⟩, (hm _).2 (by simp), ?_⟩⟩
  · rw [pB_iff] at hp
    obtain ⟨p1, p2, p3, p4⟩ := hp
    rcases (hm r).1 hr with rfl | rfl | rfl | rfl <;> dsimp only at * <;> omega
  · rw [pB_iff]
    exact ⟨h1, h2, by decide, .inl rfl⟩
  · rw [pB_iff] at hp
    obtain ⟨p1, p2, p3, p4⟩ := hp
    rcases (hm r).1 hr with rfl | rfl | rfl | rfl <;> dsimp only at * <;> omega
  · rw [pB_iff]
    exact ⟨h1, h2, by decide, .inl rfl⟩
  · rw [pB_iff] at hp
    obtain ⟨p1, p2, p3, p4⟩ := hp
    rcases (hm r).1 hr with rfl | rfl | rfl | rfl <;> dsimp only at * <;> omega
  · rw [pB_iff]
    exact ⟨h1, h2, by decide, .inl rfl⟩
theorem ex_segs3 {R : List Rc} {L : List Sg} (h : RectsMem exS2 R) (hL : SegsTo (gfold 3 R) 1 10 L) : L.length = 3 := by
  have hg := ex_want h
  have h2 : SegsTo (gfold 3 R) 1 10 [⟨1, 4, 5⟩, ⟨4, 6, 7⟩, ⟨6, 10, 5⟩] :=
    SegsTo.snoc (L := [⟨1, 4, 5⟩, ⟨4, 6, 7⟩]) ⟨6, 10, 5⟩ (SegsTo.snoc (L := [⟨1, 4, 5⟩]) ⟨4, 6, 7⟩ (SegsTo.snoc (L := []) ⟨1, 4, 5⟩ SegsTo.nil rfl (by simp) (fun d h1 h2 => by rw [gfold_at]; exact (hg d).1 h1 h2) (fun r hr => by simp at hr)) rfl (by simp) (fun d h1 h2 => by rw [gfold_at]; exact (hg d).2.1 h1 h2) (fun r hr => by simp at hr; subst hr; simp)) rfl (by simp) (fun d h1 h2 => by rw [gfold_at]; exact (hg d).2.2 h1 h2) (fun r hr => by simp at hr; subst hr; simp)
  rw [SegsTo.unique L.length (Nat.le_refl _) hL h2]
  rfl
def exR0 : List Rc := [⟨4, 6, 1, 3, 5⟩, ⟨4, 6, 3, 0, 7⟩]
theorem ex_day {R : List Rc} (h : DayRects exS2 4 R) (hu : UpS R) : R = exR0 := by
  obtain ⟨I, h1, h2, h3⟩ := h
  have hI : I.Perm [3, 4] := by
    refine perm_nodup h1 (by simp) fun i => ?_
    rw [h2, exS2_lv, exS2_rs]
    constructor
    · rintro ⟨rfl | rfl | rfl | rfl, r, k1, k2, k3⟩
      · simp at k1; subst k1; simp at k3
      · simp at k1; subst k1; simp at k2
      · simp
      · simp
    · intro hi
      simp only [List.mem_cons, List.not_mem_nil, or_false] at hi
      rcases hi with rfl | rfl
      · exact ⟨by omega, ⟨4, 6, 1, 3, 5⟩, rfl, by simp, by simp⟩
      · exact ⟨by omega, ⟨4, 6, 3, 0, 7⟩, rfl, by simp, by simp⟩
  have hp : exR0.Perm R := by
    have := (hI.map (fun i => (exS2.rs[i]?).getD ⟨0, 0, 0, 0, 0⟩)).symm.trans h3
    exact this
  have hl := hp.length_eq
  match R, hl with
  | [x, y], _ =>
    have hx := hp.symm.mem_iff (a := x)
    have hx1 : x = ⟨4, 6, 1, 3, 5⟩ ∨ x = ⟨4, 6, 3, 0, 7⟩ := by simpa [exR0] using hx.1 (by simp)
    rcases hx1 with rfl | rfl
    · have := hp.cons_inv
      have e : y = ⟨4, 6, 3, 0, 7⟩ := by simpa using this.symm
      rw [e]
      rfl
    · have h4 : ([⟨4, 6, 3, 0, 7⟩, ⟨4, 6, 1, 3, 5⟩] : List Rc).Perm [⟨4, 6, 3, 0, 7⟩, y] := (List.Perm.swap _ _ _).trans hp
      have e : y = ⟨4, 6, 1, 3, 5⟩ := by simpa using h4.cons_inv.symm
      subst e
      have := (List.pairwise_cons.1 hu).1 _ (List.mem_singleton.2 rfl)
      simp at this
theorem ex_noeq : NoEq (exR0.foldl addR []) := by
  have e : exR0.foldl addR [] = [⟨1, 5⟩, ⟨3, 7⟩] := by rfl
  rw [e]
  intro i x y hx hy
  match i with
  | 0 =>
    simp at hx hy
    subst hx hy
    simp
  | i + 1 => simp at hy
end Go.Proofs.Ytngglpekdjhbdaa
namespace Go.Proofs.Ytngglpekdjhbdaa
open Go.RowKit Go.ChangeMaps Go.Deep Tr
set_option linter.unusedSimpArgs false
set_option linter.unusedVariables false
set_option maxRecDepth 20000

theorem vr_load {w : World} {base q cap : Nat} {l : List Vr} (h : OwnR encVr 2 97 w base (.slice (some ⟨q, 0, none⟩) l.length cap) l) {i : Nat} {z : Vr} (hz : l[i]? = some z) : (Instr.loadAt 97 (.pointer (some ⟨q, i * 2, none⟩))).run Try.prog w = .ok (.agg #[.int .i64 z.t, .int .i64 z.v]) w := by
  obtain ⟨hlt, e⟩ := List.getElem?_eq_some_iff.1 hz
  have hrow : w.rangeAt q (i * 2) [.int .i64 z.t, .int .i64 z.v] := fun jj u hu => (h.cell encVr_len hlt (j := jj) (by have := (List.getElem?_eq_some_iff.1 hu).1; simpa using this) (u := u) (by rw [e]; exact hu)).1
  exact run_loadAt_mid (P := Try.prog) _ q (i * 2) 97 _ _ hrow Try.underlying97 rfl (by kernel_rfl)
set_option maxHeartbeats 16000000 in
theorem known13_at (w : World) : Calls Try.prog 21 #[] w fun e w' => e = .returned (.bool true) ∧ Mod [] w w' := by
  have CN := Lib.hid (btNew_at w)
  go_enter Try.func21, Try.ntmps21
  go_wp2_with fail
  refine CN.out.mono ?_
  rintro e w1 ⟨s, BB, rfl, hB, m1, hBB⟩
  have C2 := Lib.hid (put_ok_at (K := 9) (v := 5) (a := 1) (b := 10) (t := 1) (last0 := 0) hB empty_ok (by omega) (by omega) ⟨by omega, by omega, by omega⟩ (fun L hL => by have := segsTo_len hL; omega) (by omega) (by simp [emptyB]))
  have HM1 := Lib.hid m1
  have HBB := Lib.hid hBB
  clear hB m1 hBB CN
  go_wp2_with fail
  refine C2.out.mono ?_
  rintro e w2 ⟨rfl, L, hL, hP⟩
  have hok1 := (bput_segs (v := 5) (t := 1) (S := emptyB) empty_ok (by omega) (by omega) (by omega) (by omega) hL).2
  rw [ex_segs1 hL] at hP hok1
  obtain ⟨B2, h2, m2, f2⟩ := hP
  have hK2 : ∀ L, SegsTo exS1.g 4 6 L → L.length ≤ 2 := fun L hL => by have := segsTo_len hL; omega
  have C3 := Lib.hid (put_ok_at (K := 2) (v := 7) (a := 4) (b := 6) (t := 3) (last0 := 1) h2 hok1 (by omega) (by omega) ⟨by omega, by omega, by omega⟩ hK2 (by omega) (by rw [exS1_rs]; simp))
  have HOK1 := Lib.hid hok1
  have HM2 : Hid (Mod [] w w2) := Lib.hid (Mod.into' HM1.out m2 (fun k hk => .inl (HBB.out k hk)))
  have HB2 : Hid (∀ k ∈ B2, w.heap.size ≤ k) := Lib.hid (fun k hk => by
    rcases f2 k hk with h | h
    · exact HBB.out k h
    · exact Nat.le_trans HM1.out.size h)
  clear hL hok1 h2 m2 f2 hK2 C2
  go_wp2_with fail
  refine C3.out.mono ?_
  rintro e w3 ⟨rfl, L3, hL3, hP⟩
  have hok2 := (bput_segs (v := 7) (t := 3) HOK1.out (by omega) (by omega) (by omega) (by omega) hL3).2
  rw [ex_segs2 hL3] at hP hok2
  obtain ⟨B3, h3, m3, f3⟩ := hP
  have HM3 : Hid (Mod [] w w3) := Lib.hid (Mod.into' HM2.out m3 (fun k hk => .inl (HB2.out k hk)))
  have HOK := Lib.hid hok2
  have H3 := Lib.hid h3
  have C4 := Lib.hid (put_arg (a := 4) (b := 6) (t := 2) (v := 7) h3 (.inr (by omega)))
  clear hL3 hok2 h3 m3 f3 C3
  go_wp2_with fail
  refine C4.out.mono ?_
  rintro e w4 ⟨rfl, m4⟩
  have H4 := Lib.hid (H3.out.kept0 m4)
  have hrl : exS2.rs.length = 5 := by rw [exS2_rs]; rfl
  have HRL := Lib.hid hrl
  have C5 := Lib.hid (history_at (day := 4) (R0 := exR0) H4.out (by omega) (by omega) (fun R h hu => ex_day h hu) ex_noeq)
  have HM4 := Lib.hid (HM3.out.trans m4)
  clear m4 C4 hrl
  go_wp2_with fail
  refine C5.out.mono ?_
  rintro e w5 ⟨v, rfl, oV, m5⟩
  have e5 : exR0.foldl addR [] = [⟨1, 5⟩, ⟨3, 7⟩] := by rfl
  rw [e5] at oV
  obtain ⟨q, cap, rfl, hq, hcap⟩ := oV.at_ (show ([⟨1, 5⟩, ⟨3, 7⟩] : List Vr)[0]? = some ⟨1, 5⟩ from rfl)
  have HO := Lib.hid oV
  have H5 := Lib.hid (H4.out.kept0 m5)
  have HM5 := Lib.hid (HM4.out.trans m5)
  have CL := Lib.hid (biLast_at H5.out)
  have CA := Lib.hid (fun t W (m : Mod [] w5 W) => biAt_at (H5.out.kept0 m) HOK.out (by have := HRL.out; omega) t (day := 4) (by omega))
  have CA2 := Lib.hid (CA.out 2 w5 (Mod.refl _ _))
  clear e5 oV hq hcap m5 C5
  simp only [List.length_cons, List.length_nil] at HO ⊢
  go_wp2_with fail
  refine CL.out.mono ?_
  rintro e w5 ⟨rfl, rfl⟩
  go_wp2_with fail
  refine CA2.out.mono ?_
  rintro e w6 ⟨R, hR, he, m6⟩
  rw [show min (max (2 : Int) 0) 3 = 2 from by decide, ex_at2 hR] at he
  subst he
  have CA3 := Lib.hid (CA.out 3 w6 m6)
  have HM6 := Lib.hid m6
  clear hR m6 CA2
  go_wp2_with fail
  refine CA3.out.mono ?_
  rintro e w7 ⟨R, hR, he, m7⟩
  rw [show min (max (3 : Int) 0) 3 = 3 from by decide, ex_at3 hR] at he
  subst he
  have CA0 := Lib.hid (CA.out 0 w7 (HM6.out.trans m7))
  have HM7 := Lib.hid (HM6.out.trans m7)
  clear hR m7 CA3
  go_wp2_with fail
  refine CA0.out.mono ?_
  rintro e w8 ⟨R, hR, he, m8⟩
  rw [show min (max (0 : Int) 0) 3 = 0 from by decide, ex_at0 hR] at he
  subst he
  have hM8 := HM7.out.trans m8
  have L0 := Lib.hid (vr_load (HO.out.kept0 hM8) (i := 0) (z := ⟨1, 5⟩) rfl)
  have L1 := Lib.hid (vr_load (HO.out.kept0 hM8) (i := 1) (z := ⟨3, 7⟩) rfl)
  have CS := Lib.hid (biSegs_at (H5.out.kept0 hM8) HOK.out (by have := HRL.out; omega) 3 (a := 1) (b := 10) ⟨by omega, by omega, by omega⟩)
  rw [show min (max (3 : Int) 0) 3 = 3 from by decide] at CS
  have HM8 := Lib.hid (HM5.out.trans hM8)
  clear hR m8 hM8 CA0
  go_wp2_with (first | ((with_reducible refine xLoadAt rfl L0.out ?_ ?_ ?_); exact rfl; exact rfl) | ((with_reducible refine xLoadAt rfl L1.out ?_ ?_ ?_); exact rfl; exact rfl))
  refine CS.out.mono ?_
  rintro e w9 ⟨v, R, L, rfl, hR, hSg, oL, m9⟩
  obtain ⟨la, lc, rfl⟩ := oL.lens
  have HE := Lib.hid (HM8.out.trans m9)
  rw [ex_segs3 hR hSg]
  clear hR hSg oL m9 CS
  go_wp2_with fail
  go_ret
  exact ⟨rfl, HE.out⟩
end Go.Proofs.Ytngglpekdjhbdaa
