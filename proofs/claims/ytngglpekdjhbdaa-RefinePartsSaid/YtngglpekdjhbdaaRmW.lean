/- Layer 12: RefineCovers, walked. -/
import Derived.Test.YtngglpekdjhbdaaRmR
namespace Go.Proofs.Ytngglpekdjhbdaa
open Go.RowKit Go.ChangeMaps Go.Deep Tr
set_option linter.unusedSimpArgs false
set_option linter.unusedVariables false

theorem endsL_snoc {L : List Sg} (s : Sg) (h : L ≠ []) : endsL (L ++ [s]) = endsL L ++ [s.f] := by
  unfold endsL
  cases L with
  | nil => exact absurd rfl h
  | cons x L => simp
/-- a day's step over which no segment begins -/
theorem SegsTo.still {f : Int → Int} {a z : Int} {L : List Sg} (h : SegsTo f a z L) : ∀ d, a < d → d < z → d ∉ endsL L → f (d - 1) = f d := by
  induction h with
  | nil => intro d h1 h2; omega
  | snoc s h hf hlt hval hne ih =>
    rename_i z' L'
    intro d h1 h2 h3
    by_cases hL : L' = []
    · subst hL
      rcases h.cases' with ⟨_, e⟩ | ⟨L'', s', e, _⟩
      · subst e
        rw [hval (d - 1) (by omega) (by omega), hval d (by omega) h2]
      · simp at e
    · rw [endsL_snoc s hL, List.mem_append, not_or] at h3
      have h4 : d ≠ s.f := by simpa using h3.2
      by_cases hd : d < z'
      · exact ih d h1 hd h3.1
      · rw [hval (d - 1) (by omega) (by omega), hval d (by omega) h2]
theorem SegsTo.const {f : Int → Int} {a z : Int} {L : List Sg} (h : SegsTo f a z L) {x : Int} (hx : a ≤ x) : ∀ (n : Nat), x + n < z → (∀ d, x < d → d ≤ x + n → d ∉ endsL L) → f (x + n) = f x := by
  intro n
  induction n with
  | zero => intro _ _; simp
  | succ n ih =>
    intro h1 h2
    have h3 := ih (by omega) (fun d h4 h5 => h2 d h4 (by omega))
    have h4 := h.still (x + (n + 1 : Nat)) (by omega) (by omega) (h2 _ (by omega) (by omega))
    rw [← h4, ← h3]
    congr 1
    omega
theorem SegsTo.turns {f : Int → Int} {a z : Int} {L : List Sg} (h : SegsTo f a z L) : ∀ d ∈ endsL L, a < d ∧ d < z ∧ f (d - 1) ≠ f d := by
  induction h with
  | nil => intro d hd; simp [endsL] at hd
  | snoc s h hf hlt hval hne ih =>
    rename_i z' L'
    intro d hd
    by_cases hL : L' = []
    · subst hL
      simp [endsL] at hd
    · rw [endsL_snoc s hL, List.mem_append] at hd
      rcases hd with hd | hd
      · obtain ⟨h1, h2, h3⟩ := ih d hd
        exact ⟨h1, by omega, h3⟩
      · have e : d = s.f := by simpa using hd
        have h1 : a < z' := by
          have := h.le
          rcases h.cases' with ⟨e, _⟩ | ⟨L'', s', e, e2, h3, h4, _⟩
          · exact absurd e hL
          · have := h3.le.1; omega
        have hv : f s.f = s.v := hval _ (by omega) (by omega)
        rw [e]
        rcases SegsTo.pre (s := s) (by rw [hf]; exact h) hne with h0 | ⟨_, h0⟩
        · omega
        · exact ⟨by omega, by omega, by rw [hv]; exact h0⟩
/-- parts cut at all the ends of several timelines: each stands still within a part -/
theorem CutTo.inner {P : Int → Prop} {a z : Int} {L : List Cs} (h : CutTo P a z L) : ∀ c ∈ L, a ≤ c.1 ∧ c.1 < c.2 ∧ c.2 ≤ z ∧ (∀ d, c.1 < d → d < c.2 → ¬ P d) ∧ (c.1 = a ∨ P c.1) := by
  induction h with
  | nil => intro c hc; simp at hc
  | snoc t h hlt hno hp ih =>
    rename_i z' L'
    intro c hc
    rw [List.mem_append] at hc
    rcases hc with hc | hc
    · obtain ⟨h1, h2, h3, h4⟩ := ih c hc
      exact ⟨h1, h2, by omega, h4⟩
    · have e : c = (z', t) := by simpa using hc
      subst e
      exact ⟨h.le, hlt, Int.le_refl _, hno, hp⟩
theorem CutTo.next {P : Int → Prop} {a z : Int} {L : List Cs} (h : CutTo P a z L) : ∀ (i : Nat) (c : Cs), L[i]? = some c → (i = 0 → c.1 = a) ∧ (∀ j b, i = j + 1 → L[j]? = some b → b.2 = c.1) ∧ (i + 1 = L.length → c.2 = z) := by
  induction h with
  | nil => intro i c hc; simp at hc
  | snoc t h hlt hno hp ih =>
    rename_i z' L'
    intro i c hc
    by_cases hi : i < L'.length
    · rw [List.getElem?_append_left hi] at hc
      obtain ⟨h1, h2, h3⟩ := ih i c hc
      refine ⟨h1, fun j b hj hb => h2 j b hj (by rw [List.getElem?_append_left (by omega)] at hb; exact hb), fun hl => ?_⟩
      simp at hl
      omega
    · rw [List.getElem?_append_right (by omega)] at hc
      have hz : i - L'.length = 0 := by
        have := (List.getElem?_eq_some_iff.1 hc).1
        simp at this
        omega
      rw [hz] at hc
      have e : c = (z', t) := by simpa using hc.symm
      subst e
      refine ⟨fun h0 => ?_, fun j b hj hb => ?_, fun _ => rfl⟩
      · have hl : L' = [] := List.eq_nil_of_length_eq_zero (by omega)
        subst hl
        rcases h.cases' with ⟨_, e⟩ | ⟨L'', f', e, _⟩
        · exact e
        · simp at e
      · rw [List.getElem?_append_left (by omega)] at hb
        obtain ⟨_, _, h3⟩ := ih j b hb
        exact h3 (by omega)
end Go.Proofs.Ytngglpekdjhbdaa
namespace Go.Proofs.Ytngglpekdjhbdaa
open Go.RowKit Go.ChangeMaps Go.Deep Tr
set_option linter.unusedSimpArgs false
set_option linter.unusedVariables false
set_option maxRecDepth 20000

theorem elemPl : ElemOk Try.prog 28 31 1 8 := .mk' Try.underlying28 (by omega) (by kernel_rfl)
theorem encP_one (x : Ln1) : ∀ v ∈ encP x, v.oneCell' = true := by intro v hv; simp [encP] at hv; subst hv; rfl
/-- lists of puts as they lie -/
structure PutsAt (w : World) (v : Value) (hs : List SlH) (os : List (List Sg)) : Prop where
  row : RowAt encH w v hs
  len : hs.length = os.length
  rel : ∀ (i : Nat) (h : SlH) (o : List Sg), hs[i]? = some h → os[i]? = some o → RowAt encSg w h.val o ∧ h.n = o.length
theorem PutsAt.kept0 {w w' : World} {v : Value} {hs : List SlH} {os : List (List Sg)} (h : PutsAt w v hs os) (m : Mod [] w w') : PutsAt w' v hs os :=
  ⟨h.row.kept0 m, h.len, fun i x o h1 h2 => ⟨(h.rel i x o h1 h2).1.kept0 m, (h.rel i x o h1 h2).2⟩⟩
/-- the timelines of the first lists -/
structure CovSt (w : World) (os : List (List Sg)) (i : Nat) (v : Value) (ts : List Ln1) (W : World) : Prop where
  len : ts.length = i
  tie : ∀ (k : Nat) (t : Ln1) (o : List Sg), ts[k]? = some t → os[k]? = some o → t.f = madeF o
  few : ∀ t ∈ ts, t.n ≤ 30
  lie : LinesAt W ts
  own : OwnR encP 1 31 W w.heap.size v ts
  mod : Mod [] w W
theorem CovSt.kept0 {w W W' : World} {os : List (List Sg)} {i : Nat} {v : Value} {ts : List Ln1} (h : CovSt w os i v ts W) (m : Mod [] W W') : CovSt w os i v ts W' :=
  ⟨h.len, h.tie, h.few, h.lie.kept0 m, h.own.kept0 m, h.mod.trans m⟩
theorem CovSt.push {w W W' : World} {os : List (List Sg)} {i : Nat} {v v' : Value} {ts : List Ln1} {t : Ln1} {o : List Sg} (h : CovSt w os i v ts W) (ho : os[i]? = some o) (hl : LineAt W t.g t.B t.n t.f) (hf : t.f = madeF o) (hn : t.n ≤ 30)
    (hown : OwnR encP 1 31 W' w.heap.size v' (ts ++ [t])) (gr : Grew W v W' v') : CovSt w os (i + 1) v' (ts ++ [t]) W' := by
  have hk : ∀ (x : Ln1), LineAt W x.g x.B x.n x.f → LineAt W' x.g x.B x.n x.f := fun x hx => hx.kept gr.mod (fun k hk hm => by
    obtain ⟨c, E, h1, h2⟩ := hx.types k hk
    rw [mem_blk] at hm
    exact own_ne h.own h1 (by rintro rfl; revert h2; unfold lineE; decide) k hm rfl)
  refine ⟨by rw [List.length_append, h.len]; rfl, ?_, ?_, ?_, hown, Mod.into' h.mod gr.mod (fun k hk => .inl (by rw [mem_blk] at hk; exact (World.ownsRow.lt h.own k hk).1))⟩
  · intro k x p h1 h2
    by_cases hki : k < ts.length
    · rw [List.getElem?_append_left hki] at h1
      exact h.tie k x p h1 h2
    · have hke : k = i := by
        have := (List.getElem?_eq_some_iff.1 h1).1
        rw [List.length_append, h.len] at this
        rw [h.len] at hki
        simp at this
        omega
      subst hke
      rw [List.getElem?_append_right (by rw [h.len]; omega), h.len] at h1
      simp at h1
      subst h1
      rw [ho] at h2
      cases h2
      exact hf
  · intro x hx
    rw [List.mem_append] at hx
    rcases hx with hx | hx
    · exact h.few x hx
    · have e : x = t := by simpa using hx
      subst e; exact hn
  · intro x hx
    rw [List.mem_append] at hx
    rcases hx with hx | hx
    · exact ⟨hk x (h.lie x hx).1, (h.lie x hx).2⟩
    · have e : x = t := by simpa using hx
      subst e; exact ⟨hk x hl, by omega⟩
/-- what Parts says of timelines -/
structure CovCut (ts : List Ln1) (Ls : List (List Sg)) (a b : Int) (CL : List Cs) : Prop where
  len : Ls.length = ts.length
  segs : ∀ (k : Nat) (t : Ln1) (L : List Sg), ts[k]? = some t → Ls[k]? = some L → SegsTo t.f a b L
  cut : CutTo (· ∈ Ls.flatMap endsL) a b CL
theorem CovCut.const {ts : List Ln1} {Ls : List (List Sg)} {a b : Int} {CL : List Cs} (h : CovCut ts Ls a b CL) {j : Nat} {c : Cs} (hc : CL[j]? = some c) {k : Nat} {t : Ln1} (ht : ts[k]? = some t) {d : Int} (h1 : c.1 ≤ d) (h2 : d < c.2) : t.f d = t.f c.1 := by
  have hk : k < Ls.length := by rw [h.len]; exact (List.getElem?_eq_some_iff.1 ht).1
  have hs := h.segs k t Ls[k] ht (List.getElem?_eq_getElem hk)
  obtain ⟨q1, q2, q3, q4, q5⟩ := h.cut.inner c (List.mem_of_getElem? hc)
  obtain ⟨n, rfl⟩ : ∃ n : Nat, d = c.1 + n := ⟨(d - c.1).toNat, by omega⟩
  exact hs.const q1 n (by omega) (fun e h3 h4 h5 => q4 e h3 (by omega) (List.mem_flatMap.2 ⟨Ls[k], List.getElem_mem hk, h5⟩))
theorem CovCut.turn {ts : List Ln1} {Ls : List (List Sg)} {a b : Int} {CL : List Cs} (h : CovCut ts Ls a b CL) {j : Nat} {c p : Cs} (hc : CL[j + 1]? = some c) (hp : CL[j]? = some p) : ∃ (k : Nat) (t : Ln1), ts[k]? = some t ∧ t.f p.1 ≠ t.f c.1 := by
  have hpc : p.2 = c.1 := (h.cut.next (j + 1) c hc).2.1 j p rfl hp
  obtain ⟨q1, q2, q3, q4, q5⟩ := h.cut.inner c (List.mem_of_getElem? hc)
  obtain ⟨r1, r2, r3, r4, r5⟩ := h.cut.inner p (List.mem_of_getElem? hp)
  rcases q5 with q5 | q5
  · omega
  · obtain ⟨L, hL, hd⟩ := List.mem_flatMap.1 q5
    obtain ⟨k, hk, rfl⟩ := List.getElem_of_mem hL
    have hkt : k < ts.length := by rw [← h.len]; exact hk
    have hs := h.segs k ts[k] Ls[k] (List.getElem?_eq_getElem hkt) (List.getElem?_eq_getElem hk)
    refine ⟨k, ts[k], List.getElem?_eq_getElem hkt, ?_⟩
    rw [← h.const hp (List.getElem?_eq_getElem hkt) (d := c.1 - 1) (by omega) (by omega)]
    exact (hs.turns _ hd).2.2
theorem CovCut.first {ts : List Ln1} {Ls : List (List Sg)} {a b : Int} {CL : List Cs} (h : CovCut ts Ls a b CL) {j : Nat} {c : Cs} (hc : CL[j]? = some c) : (j = 0 → c.1 = a) ∧ (∀ p, 0 < j → CL[j - 1]? = some p → c.1 = p.2) ∧ c.1 < c.2 ∧ a ≤ c.1 ∧ c.2 ≤ b ∧ (j + 1 = CL.length → c.2 = b) := by
  obtain ⟨h1, h2, h3⟩ := h.cut.next j c hc
  obtain ⟨q1, q2, q3, _⟩ := h.cut.inner c (List.mem_of_getElem? hc)
  exact ⟨h1, fun p hj hp => (h2 (j - 1) p (by omega) hp).symm, q2, q1, q3, h3⟩
end Go.Proofs.Ytngglpekdjhbdaa
namespace Go.Proofs.Ytngglpekdjhbdaa
open Go.RowKit Go.ChangeMaps Go.Deep Tr
set_option linter.unusedSimpArgs false
set_option linter.unusedVariables false
set_option maxRecDepth 20000

set_option maxHeartbeats 4000000 in
theorem covers_at {w : World} {v : Value} {hs : List SlH} {os : List (List Sg)} (hv : PutsAt w v hs os) (hl : hs.length ≤ 140737488355328) (hll : ∀ h ∈ hs, h.n ≤ 140737488355328) (a b : Int) :
    Calls Try.prog 4 #[v, .agg #[.int .i64 a, .int .i64 b]] w fun e w' => e = .returned (.bool true) ∧ Mod [] w w' := by
  obtain ⟨va, vc, rfl⟩ := hv.row.form
  have mA := (Mod.refl [] w).alloc (.cells #[.int .i64 a, .int .i64 b] 24)
  have hA := heap_alloc_new w (.cells #[.int .i64 a, .int .i64 b] 24)
  have s0 := cell_blk hA 0
  have s1 := cell_blk hA 1
  simp only [List.getElem?_toArray, List.getElem?_cons_succ, List.getElem?_cons_zero] at s0 s1
  have HV := Lib.hid (hv.kept0 mA)
  have C0 := Lib.hid (great12_at (HV.out.row) hl hll)
  have HA := Lib.hid mA
  have HC := Lib.hid (⟨s0, s1⟩ : _ ∧ _)
  clear hv mA hA s0 s1
  go_enter Try.func4, Try.ntmps4
  go_wp2_with fail
  refine C0.out.mono ?_
  rintro e w1 ⟨⟨g, rfl, hb⟩, rfl⟩
  have HS := Lib.hid hb
  generalize w.alloc (.cells #[.int .i64 a, .int .i64 b] 24) = w1 at HV HA HC
  clear hb C0
  by_cases h1 : g = true
  · subst h1
    have CK := Lib.hid (known_at w1)
    go_wp2_with fail
    refine CK.out.mono ?_
    rintro e w2 ⟨rfl, m2⟩
    have HE := Lib.hid (HA.out.trans m2)
    clear m2 CK
    go_wp2_with fail
    go_ret
    exact ⟨rfl, HE.out⟩
  have h1' : g = false := by simpa using h1
  subst h1'
  clear h1
  obtain ⟨hs5, hs30⟩ := HS.out rfl
  have H30 := Lib.hid hs30
  clear HS hs30 hll hl
  go_wp2_with fail
  go_loopw [5, 21] (fun s5 s21 W => ∃ (i : Nat) (ts : List Ln1), i ≤ hs.length ∧ s21 = .int .i64 i ∧ Hid (CovSt w1 os i s5 ts W)) (fun _ s21 _ => hs.length - (intOf s21).toNat)
  case atStart => exact ⟨0, [], by omega, rfl, Lib.hid ⟨rfl, fun k t o h => by simp at h, fun t h => by simp at h, fun t h => by simp at h, OwnR.nil_ _ _, Mod.refl _ _⟩⟩
  case round =>
    obtain ⟨i, ts, hi, rfl, hS⟩ := hrel
    by_cases hlt : i < hs.length
    · obtain ⟨x, hx⟩ : ∃ x, hs[i]? = some x := ⟨hs[i], List.getElem?_eq_getElem hlt⟩
      obtain ⟨o, ho⟩ : ∃ o, os[i]? = some o := ⟨os[i]'(by rw [← HV.out.len]; exact hlt), List.getElem?_eq_getElem _⟩
      obtain ⟨hro, hxn⟩ := HV.out.rel i x o hx ho
      have hx30 := H30.out x (List.mem_of_getElem? hx)
      have hm := hS.out.mod
      obtain ⟨q, r, rfl, hc, hg⟩ := RowAt.get encH_len (HV.out.row.kept0 hm) hlt
      have g0 := hg 0 x.val (by omega) (by rw [List.getElem?_eq_getElem hlt] at hx; cases hx; rfl)
      simp only [Nat.mul_one, Nat.add_zero] at g0
      have C1 := Lib.hid (made_at (hro.kept0 hm) (by omega))
      obtain ⟨xa, xn, xc⟩ := x
      simp only [SlH.val] at g0 C1 hxn hx30
      subst hxn
      have hj0 : decide ((i : Int) < 0) = false := decide_eq_false (by omega)
      have hj1 : decide ((hs.length : Int) ≤ (i : Int)) = false := decide_eq_false (by omega)
      have hj2 : decide ((i : Int) < (hs.length : Int)) = true := decide_eq_true (by omega)
      obtain ⟨ta, tc, rfl⟩ := hS.out.own.lens
      clear hg hm hro
      go_wp2_with fail
      refine C1.out.mono ?_
      rintro e w2 ⟨g, r1, rfl, ⟨B, hL, m2, hB⟩, _⟩
      have hS2 := hS.out.kept0 m2
      obtain ⟨v', w', ra, ho', gr⟩ := own_append1 (P := Try.prog) (ty := 28) elemPl encP_len encP_one hS2.own hS2.mod.size (⟨g, B, o.length, madeF o⟩ : Ln1) (by rw [hS2.len]; omega) (by omega)
      dsimp only [encP] at ra
      obtain ⟨a', n', c', rfl⟩ : ∃ a n c, v' = .slice a n c := by obtain ⟨a, c, e⟩ := ho'.lens; exact ⟨a, _, c, e⟩
      have HN := Lib.hid (hS2.push ho hL rfl hx30 ho' gr)
      have RA := Lib.hid ra
      clear hS2 ra ho' gr hL m2 hB C1
      go_wp2_with ((with_reducible refine xAppendAt RA.out rfl rfl ?_ ?_ ?_ ?_); exact rfl; exact rfl; exact rfl)
      go_roundw
      case rel => exact ⟨i + 1, _, by omega, by go_num, HN⟩
      case measure => simp [intOf]; omega
    · have hie : i = hs.length := by omega
      subst hie
      have hj2 : decide ((hs.length : Int) < (hs.length : Int)) = false := decide_eq_false (by omega)
      have HTS := Lib.hid hS.out.len
      obtain ⟨ta, tc, rfl⟩ := hS.out.own.lens
      have hc0 := hS.out.mod.cellD HC.out.1
      have hc1 := hS.out.mod.cellD HC.out.2
      have HCC := Lib.hid (⟨hc0, hc1⟩ : _ ∧ _)
      by_cases hab : mayS a b
      · have C2 := Lib.hid (parts_may hS.out.own.row hS.out.lie (by rw [HTS.out]; omega) hab)
        have p1 : decide (a < 1) = false := decide_eq_false (by have := hab; unfold mayS at this; omega)
        have p2 : decide (b ≤ a) = false := decide_eq_false (by have := hab; unfold mayS at this; omega)
        have p3 : decide (3652060 < b) = false := decide_eq_false (by have := hab; unfold mayS at this; omega)
        go_wp2_with fail
        refine C2.out.mono ?_
        rintro e w3 ⟨u, us, CL, Ls, rfl, hLl, hSg, hCT, hPt, m3⟩
        obtain ⟨ua, uc, rfl⟩ := hPt.own.lens
        have hc0' := m3.cellD hc0
        have hc1' := m3.cellD hc1
        clear hc0 hc1
        have hul : us.length = CL.length := by rw [hPt.len, List.length_map]
        have hcl := hCT.len
        have hcl2 : CL.length ≤ 4000000 := by have := hab; unfold mayS at this; omega
        have HPT := Lib.hid hPt
        have HCV := Lib.hid (⟨hLl, hSg, hCT⟩ : CovCut ts Ls a b CL)
        have HS3 := Lib.hid (hS.out.kept0 m3)
        have HM3 := Lib.hid (HA.out.trans HS3.out.mod)
        have HCC3 := Lib.hid (⟨hc0', hc1'⟩ : _ ∧ _)
        clear hPt hCT hSg hLl m3 C2 HCC
        have HTL := Lib.hid (show ts.length ≤ 5 from by rw [HTS.out]; exact hs5)
        go_wp2_with fail
        clear HTS p1 p2 p3
        go_loopw [11, 63] (fun s11 s63 W => ∃ (j : Nat) (z : Int), j ≤ CL.length ∧ s63 = .int .i64 j ∧ s11 = .int .i64 z ∧ Hid ((∀ c, CL[j]? = some c → c.1 = z) ∧ (j = CL.length → z = b)) ∧ Hid (Mod [] w3 W)) (fun _ s63 _ => CL.length - (intOf s63).toNat)
        case atStart =>
          refine ⟨0, a, by omega, rfl, rfl, Lib.hid ⟨fun c hc => (HCV.out.first hc).1 rfl, fun h => ?_⟩, Lib.hid (Mod.refl [] _)⟩
          have := hab
          unfold mayS at this
          rcases HCV.out.cut.cases' with ⟨_, e⟩ | ⟨L', f', e, _⟩
          · omega
          · rw [e] at h; simp at h
        case round =>
          obtain ⟨j, z, hj, rfl, rfl, HTO, hM⟩ := hrel
          by_cases hlt : j < CL.length
          · obtain ⟨u, hu⟩ : ∃ u, us[j]? = some u := ⟨us[j]'(by omega), List.getElem?_eq_getElem (by omega)⟩
            obtain ⟨c, hc⟩ : ∃ c, CL[j]? = some c := ⟨CL[j], List.getElem?_eq_getElem hlt⟩
            have hps : (CL.map fun c => (c.1, c.2, ts.map fun t => t.f c.1))[j]? = some (c.1, c.2, ts.map fun t => t.f c.1) := by rw [List.getElem?_map, hc]; rfl
            obtain ⟨i1, i2, i3⟩ := HPT.out.rel j u _ hu hps
            have hto := HTO.out.1 c hc
            obtain ⟨_, _, hct, _, hcb, hce⟩ := HCV.out.first hc
            have hug : us[j]'(by omega) = u := by rw [List.getElem?_eq_getElem (by omega)] at hu; simpa using hu
            have q2 := hM.out
            obtain ⟨f, t, x⟩ := u
            obtain ⟨cf, ct⟩ := c
            dsimp only at i1 i2 i3 hto hct hcb hce
            subst i1 i2 hto
            obtain ⟨xa, xn, xc⟩ := x
            obtain ⟨ya, yc, hy⟩ := i3.row.form
            simp only [SlH.val, Value.slice.injEq, List.length_map] at hy
            obtain ⟨rfl, rfl, rfl⟩ := hy
            obtain ⟨qb, cap, heq, hq, hcap⟩ := (HPT.out.own.kept0 q2).at_ hu
            simp only [Value.slice.injEq] at heq
            obtain ⟨rfl, _, rfl⟩ := heq
            have hrow : wr.rangeAt qb (j * 3) [.int .i64 f, .int .i64 t, .slice xa ts.length xc] := fun jj u hu => ((HPT.out.own.kept0 q2).cell encU_len (i := j) (by omega) (j := jj) (by have := (List.getElem?_eq_some_iff.1 hu).1; simpa using this) (u := u) (by rw [hug]; exact hu)).1
            have HLI := Lib.hid (run_loadAt_mid (P := Try.prog) _ qb (j * 3) 45 _ _ hrow Try.underlying45 rfl (by kernel_rfl))
            have mI := (Mod.refl [] wr).alloc (.cells #[.int .i64 f, .int .i64 t, .slice xa ts.length xc] 45)
            have bI := heap_alloc_new wr (.cells #[.int .i64 f, .int .i64 t, .slice xa ts.length xc] 45)
            have k0 := cell_blk bI 0
            have k1 := cell_blk bI 1
            have k2 := cell_blk bI 2
            simp only [List.getElem?_toArray, List.getElem?_cons_succ, List.getElem?_cons_zero] at k0 k1 k2
            have HK := Lib.hid (⟨k0, k1, k2⟩ : _ ∧ _ ∧ _)
            have HMI := Lib.hid (q2.trans mI)
            have HI3 := Lib.hid i3
            have hj0 : decide ((j : Int) < 0) = false := decide_eq_false (by omega)
            have hj1 : decide ((us.length : Int) ≤ (j : Int)) = false := decide_eq_false (by omega)
            have hj2 : decide ((j : Int) < (us.length : Int)) = true := decide_eq_true (by omega)
            have hne0 : (f != f) = false := by simp
            have hne1 : decide (t ≤ f) = false := decide_eq_false (by omega)
            have hne2 : ((ts.length : Int) != (ts.length : Int)) = false := by simp
            clear hrow mI bI q2 i3 hug
            go_wp2_with ((with_reducible refine xLoadAt rfl HLI.out ?_ ?_ ?_); exact rfl; exact rfl)
            generalize wr.alloc (.cells #[.int .i64 f, .int .i64 t, .slice xa ts.length xc] 45) = wI at HK HMI
            clear HLI
            have hjj := hj2
            clear hj0 hj1 hj2 hne0 hne1 hne2
            have hqb : Hid (RowAt encU w3 (.slice (some ⟨qb, 0, none⟩) us.length uc) us) := Lib.hid HPT.out.own.row
            go_loopw [14, 91] (fun s14 s91 W => ∃ (k : Nat) (sb : Bool), k ≤ ts.length ∧ s91 = .int .i64 k ∧ s14 = .bool sb ∧ Hid ((j = 0 → sb = true) ∧ (∀ k' y p, k' < k → ts[k']? = some y → CL[j - 1]? = some p → y.f p.1 ≠ y.f f → sb = true)) ∧ Hid (Mod [] wI W)) (fun _ s91 _ => ts.length - (intOf s91).toNat)
            case atStart => exact ⟨0, _, by omega, rfl, rfl, Lib.hid ⟨fun h => by simp [h], fun k' y p hk' => absurd hk' (by omega)⟩, Lib.hid (Mod.refl _ _)⟩
            case round =>
              obtain ⟨k, sb, hk, rfl, rfl, HSB, hMk⟩ := hrel
              have hts5 := HTL.out
              by_cases hlk : k < ts.length
              · obtain ⟨y, hy⟩ : ∃ y, ts[k]? = some y := ⟨ts[k], List.getElem?_eq_getElem hlk⟩
                have hyg : ts[k] = y := by rw [List.getElem?_eq_getElem hlk] at hy; simpa using hy
                have mW := HMI.out.trans hMk.out
                obtain ⟨lb, lo, rfl, hlc, hlg⟩ := RowAt.get encP_len (HS3.out.own.row.kept0 mW) hlk
                have g0 := hlg 0 (.pointer (some ⟨y.g, 0, none⟩)) (by omega) (by rw [hyg]; rfl)
                obtain ⟨xb, xo, rfl, hxc, hxg⟩ := RowAt.get encI_len (i := k) (show RowAt encI wr (.slice xa (ts.map fun t => t.f f).length xc) (ts.map fun t => t.f f) from by rw [List.length_map]; exact HI3.out.row.kept0 mW) (by rw [List.length_map]; exact hlk)
                have v0 := hxg 0 (.int .i64 (y.f f)) (by omega) (by rw [List.getElem_map, hyg]; rfl)
                simp only [Nat.mul_one, Nat.add_zero] at g0 v0
                obtain ⟨k0, k1, k2⟩ := HK.out
                have k0 := hMk.out.cellD k0
                have k1 := hMk.out.cellD k1
                have k2 := hMk.out.cellD k2
                have hln := (HS3.out.lie.kept0 mW) y (List.mem_of_getElem? hy)
                have HLN := Lib.hid hln
                obtain ⟨_, _, _, hfa, hfb, _⟩ := HCV.out.first hc
                dsimp only at hfa hfb
                have hmay := hab
                unfold mayS at hmay
                have CA := Lib.hid (at_line (hln.1.kept0 (Mod.refl [] wr).drew) hln.2 (day := f) (by omega))
                have HW := Lib.hid (show wrap64 (t - 1) = t - 1 from by unfold wrap64; omega)
                have HT1 := Lib.hid (show -9223372036854775808 ≤ t - 1 ∧ t - 1 ≤ 9223372036854775807 from by omega)
                have hcst : y.f (t - 1) = y.f f := HCV.out.const hc hy (d := t - 1) (by dsimp only; omega) (by dsimp only; omega)
                have hkd0 : decide ((k : Int) < 0) = false := decide_eq_false (by omega)
                have hkd1 : decide ((ts.length : Int) ≤ (k : Int)) = false := decide_eq_false (by omega)
                have hkd2 : decide ((k : Int) < (ts.length : Int)) = true := decide_eq_true (by omega)
                have hnn : (y.f f != y.f f) = false := by simp
                have HG := Lib.hid (⟨g0, v0, k0, k1, k2⟩ : _ ∧ _ ∧ _ ∧ _ ∧ _)
                clear hlg hxg mW hln hmay
                go_wp2_with fail
                refine wp_plan [([0, 1, 4, 7, 9, 5, 8, 2, 3, 10, 11], 6, [7, 8, 10, 11]), ([12, 13, 14, 15, 18, 22, 24, 19, 23, 16, 20, 17, 25, 26], 21, [22, 23, 25, 26])] [27, 28] (by kernel_rfl) (by kernel_rfl) ?_
                simp only [wpSegs, opsOf, List.map_cons, List.map_nil, opN, List.getD_cons_zero, List.getD_cons_succ]
                go_wp2_with fail
                refine ⟨by first | trivial | rfl, ?_⟩
                go_wp2_with fail
                refine CA.out.mono ?_
                rintro e1 w1 ⟨rfl, m1⟩
                have m1' := (Mod.refl [] wr).drew.trans m1
                have g0 := m1'.cellD HG.out.1
                have v0 := m1'.cellD HG.out.2.1
                have k0 := m1'.cellD HG.out.2.2.1
                have k1 := m1'.cellD HG.out.2.2.2.1
                have k2 := m1'.cellD HG.out.2.2.2.2
                go_wp2_with fail
                refine ⟨?agA, ?_⟩
                case agA =>
                  intro i hi hw
                  simp only [List.mem_cons, List.not_mem_nil, or_false] at hi
                  rcases hi with rfl | rfl | rfl | rfl
                  all_goals (simp only [opN, List.getD_cons_zero, List.getD_cons_succ, slotOf]; go_simp)
                go_wp2_with fail
                refine ⟨by first | trivial | rfl, ?_⟩
                go_wp2_with fail
                have CBe := at_line (HLN.out.1.kept0 m1') HLN.out.2 (day := wrap64 (t - 1)) (by rw [HW.out]; exact HT1.out)
                rw [show y.f (wrap64 (t - 1)) = y.f f from by rw [HW.out]; exact hcst] at CBe
                refine CBe.mono ?_
                clear CBe
                rintro e2 w2 ⟨rfl, m2⟩
                have m2' := m1'.trans m2
                have g0 := m2'.cellD HG.out.1
                have v0 := m2'.cellD HG.out.2.1
                have k0 := m2'.cellD HG.out.2.2.1
                have k1 := m2'.cellD HG.out.2.2.2.1
                have k2 := m2'.cellD HG.out.2.2.2.2
                go_wp2_with fail
                refine ⟨?agB, ?_⟩
                case agB =>
                  intro i hi hw
                  simp only [List.mem_cons, List.not_mem_nil, or_false] at hi
                  rcases hi with rfl | rfl | rfl | rfl
                  all_goals (simp only [opN, List.getD_cons_zero, List.getD_cons_succ, slotOf]; go_simp)
                go_wp2_with fail
                refine ⟨by first | trivial | rfl, ?_⟩
                go_wp2_with fail
                have MW2 := Lib.hid (hMk.out.trans m2'.drew)
                have MV2 := Lib.hid ((HMI.out.trans hMk.out).trans m2')
                have HG2 := Lib.hid (⟨v0, k2⟩ : _ ∧ _)
                clear g0 v0 k0 k1 k2 m2 m2' m1 m1' hcst hnn
                by_cases hsb : sb = true
                · subst hsb
                  refine wp_plan [([0, 1, 2, 3, 8, 11, 13, 4, 12, 5, 14, 6, 15, 7, 9, 10, 16, 17], 18, [])] [] (by kernel_rfl) (by kernel_rfl) ?_
                  simp only [wpSegs, opsOf, List.map_cons, List.map_nil, opN, List.getD_cons_zero, List.getD_cons_succ]
                  go_wp2_with fail
                  refine ⟨again_nil, ?_⟩
                  go_wp2_with fail
                  refine ⟨by first | trivial | rfl, ?_⟩
                  go_wp2_with fail
                  go_roundw
                  case rel => exact ⟨k + 1, _, by omega, by go_num, rfl, Lib.hid ⟨fun _ => rfl, fun _ _ _ _ _ _ _ => rfl⟩, MW2⟩
                  case measure => simp [intOf]; omega
                · have hsb' : sb = false := by simpa using hsb
                  subst hsb'
                  have hj1 : 0 < j := by
                    rcases Nat.eq_zero_or_pos j with h | h
                    · exact absurd (HSB.out.1 h) (by decide)
                    · exact h
                  obtain ⟨i, hji⟩ : ∃ i, j = i + 1 := ⟨j - 1, by omega⟩
                  obtain ⟨p, hp⟩ : ∃ p, CL[i]? = some p := ⟨CL[i]'(by omega), List.getElem?_eq_getElem _⟩
                  obtain ⟨u, hu⟩ : ∃ u, us[i]? = some u := ⟨us[i]'(by omega), List.getElem?_eq_getElem _⟩
                  have hps' : (CL.map fun c => (c.1, c.2, ts.map fun t => t.f c.1))[i]? = some (p.1, p.2, ts.map fun t => t.f p.1) := by rw [List.getElem?_map, hp]; rfl
                  obtain ⟨_, _, i3⟩ := HPT.out.rel i u _ hu hps'
                  have hug : us[i]'(by omega) = u := by rw [List.getElem?_eq_getElem (by omega)] at hu; simpa using hu
                  obtain ⟨f', t', x'⟩ := u
                  obtain ⟨pa, pn, pc⟩ := x'
                  obtain ⟨ya', yc', hy'⟩ := i3.row.form
                  simp only [SlH.val, Value.slice.injEq, List.length_map] at hy'
                  obtain ⟨rfl, rfl, rfl⟩ := hy'
                  obtain ⟨pb, po, rfl, hpc, hpg⟩ := RowAt.get encI_len (i := k) (show RowAt encI w2 (.slice pa (ts.map fun t => t.f p.1).length pc) (ts.map fun t => t.f p.1) from by rw [List.length_map]; exact i3.row.kept0 MV2.out) (by rw [List.length_map]; exact hlk)
                  have z0 := hpg 0 (.int .i64 (y.f p.1)) (by omega) (by rw [List.getElem_map, hyg]; rfl)
                  simp only [Nat.mul_one, Nat.add_zero] at z0
                  have z1 := ((HPT.out.own.kept0 MV2.out).cell encU_len (i := i) (by omega) (j := 2) (by omega) (u := .slice (some ⟨pb, po, none⟩) ts.length pc) (by rw [hug]; rfl)).1
                  obtain ⟨v0, k2⟩ := HG2.out
                  have HNS := Lib.hid (show ((j = 0 → (y.f p.1 != y.f f) = true) ∧ (∀ k' y' p', k' < k + 1 → ts[k']? = some y' → CL[j - 1]? = some p' → y'.f p'.1 ≠ y'.f f → (y.f p.1 != y.f f) = true)) from ⟨fun h => by omega, fun k' y' p' h1 h2 h3 h4 => by
                    by_cases h5 : k' < k
                    · exact absurd (HSB.out.2 k' y' p' h5 h2 h3 h4) (by decide)
                    · have h6 : k' = k := by omega
                      subst h6
                      rw [hy] at h2
                      cases h2
                      rw [show j - 1 = i from by omega, hp] at h3
                      cases h3
                      simpa using h4⟩)
                  have h01 : decide ((i : Int) < 0) = false := decide_eq_false (by omega)
                  have h02 : decide ((us.length : Int) ≤ (i : Int)) = false := decide_eq_false (by omega)
                  have h06 : 0 ≤ (i : Int) ∧ (i : Int) < us.length := by omega
                  have H04 := Lib.hid (show wrap64 ((j : Int) - 1) = i from by unfold wrap64; omega)
                  have h05 : ((i : Int)).toNat = i := Int.toNat_natCast i
                  have h07 : 1 ≤ (j : Int) ∧ (j : Int) - 1 < (CL.length : Int) := by omega
                  have z2 : w2.cell? ⟨qb, (j - 1) * 3 + 2, none⟩ = some (.slice (some ⟨pb, po, none⟩) ts.length pc) := by rw [show j - 1 = i from by omega]; exact z1
                  have HJ := Lib.hid (⟨hji, hj1⟩ : _ ∧ _)
                  clear z1
                  clear hps' i3 hug hpg hji hj1
                  refine wp_plan [([0, 1, 2, 3, 8, 11, 13, 4, 12, 5, 14, 6, 15, 7, 9, 10, 16, 17], 18, [])] [] (by kernel_rfl) (by kernel_rfl) ?_
                  simp only [wpSegs, opsOf, List.map_cons, List.map_nil, opN, List.getD_cons_zero, List.getD_cons_succ]
                  go_wp2_with fail
                  refine ⟨again_nil, ?_⟩
                  go_wp2_with fail
                  refine ⟨by first | trivial | rfl, ?_⟩
                  go_wp2_with fail
                  go_roundw
                  case rel => exact ⟨k + 1, _, by omega, by go_num, rfl, HNS, MW2⟩
                  case measure => simp [intOf]; omega
              · have hke : k = ts.length := by omega
                subst hke
                have hsb : sb = true := by
                  by_cases h0 : j = 0
                  · exact HSB.out.1 h0
                  · obtain ⟨p, hp⟩ : ∃ p, CL[j - 1]? = some p := ⟨CL[j - 1]'(by omega), List.getElem?_eq_getElem _⟩
                    obtain ⟨k', y, h1, h2⟩ := HCV.out.turn (j := j - 1) (c := (f, t)) (by rw [Nat.sub_add_cancel (by omega)]; exact hc) hp
                    exact HSB.out.2 k' y p (List.getElem?_eq_some_iff.1 h1).1 h1 hp h2
                subst hsb
                have hk2 : decide ((ts.length : Int) < (ts.length : Int)) = false := decide_eq_false (by omega)
                have k1 := hMk.out.cellD HK.out.2.1
                have HNX := Lib.hid (show (∀ c, CL[j + 1]? = some c → c.1 = t) ∧ (j + 1 = CL.length → t = b) from ⟨fun c h => (HCV.out.first h).2.1 (f, t) (by omega) (by rw [Nat.add_sub_cancel]; exact hc), hce⟩)
                have HNM := Lib.hid (HMI.out.trans hMk.out)
                go_wp2_with fail
                go_roundw
                case rel => exact ⟨j + 1, t, by omega, by go_num, rfl, HNX, HNM⟩
                case measure => simp [intOf]; omega
          · have hje : j = CL.length := by omega
            subst hje
            have hz := HTO.out.2 rfl
            subst hz
            have hj2 : decide ((us.length : Int) < (us.length : Int)) = false := decide_eq_false (by omega)
            have hj3 : decide ((CL.length : Int) < (us.length : Int)) = false := decide_eq_false (by omega)
            have hj4 : decide ((CL.length : Int) < (CL.length : Int)) = false := decide_eq_false (by omega)
            have hc1 := hM.out.cellD HCC3.out.2
            have HM4 := Lib.hid (HM3.out.trans hM.out)
            have CK := Lib.hid (known_at wr)
            have hzz : (z == z) = true := by simp
            go_wp2_with fail
            refine CK.out.mono ?_
            rintro e wk ⟨rfl, mk⟩
            have HE := Lib.hid (HM4.out.trans mk)
            clear mk CK
            go_wp2_with fail
            go_ret
            exact ⟨rfl, HE.out⟩
      · have C2 := Lib.hid (parts_not hS.out.own.row hS.out.lie (by rw [HTS.out]; omega) hab)
        go_wp2_with fail
        refine C2.out.mono ?_
        rintro e w3 ⟨rfl, m3⟩
        have hc0' := m3.cellD hc0
        have hc1' := m3.cellD hc1
        have HM3 := Lib.hid ((HA.out.trans hS.out.mod).trans m3)
        clear hc0 hc1 m3 C2 HCC
        have hd : decide (a < 1) = true ∨ decide (a < 1) = false ∧ decide (b ≤ a) = true ∨ decide (a < 1) = false ∧ decide (b ≤ a) = false ∧ decide (3652060 < b) = true := by
          have := hab
          unfold mayS at this
          simp only [decide_eq_true_eq, decide_eq_false_iff_not]
          omega
        rcases hd with p1 | ⟨p1, p2⟩ | ⟨p1, p2, p3⟩
        all_goals
          have CK := Lib.hid (known_at w3)
          go_wp2_with fail
          refine CK.out.mono ?_
          rintro e wk ⟨rfl, mk⟩
          have HE := Lib.hid (HM3.out.trans mk)
          clear mk CK
          go_wp2_with fail
          go_ret
          exact ⟨rfl, HE.out⟩
end Go.Proofs.Ytngglpekdjhbdaa
