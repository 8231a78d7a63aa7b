/- Windows: Ends: the closure that adds a day. -/
import Derived.Test.YtngglpekdjhbdaaGreatWzAd
import Derived.Test.YtngglpekdjhbdaaGreatWzAb
import Derived.Test.YtngglpekdjhbdaaGreatWzAa
namespace Go.Proofs.YtngglpekdjhbdaaGreat
open Go.RowKit Go.ChangeMaps Go.Deep Tr
set_option linter.unusedSimpArgs false
set_option linter.unusedVariables false
set_option maxRecDepth 20000

theorem cut_not {w : World} {v : Value} {a b : Int} (hab : ¬ mayS a b) : Calls Tryz.prog 17 #[.agg #[.int .i64 a, .int .i64 b], v] w fun e w' => e = .returned (.slice none 0 0) ∧ Mod [] w w' := by
  have mA := (Mod.refl [] w).alloc (.cells #[.int .i64 a, .int .i64 b] 39)
  have bA := heap_alloc_new w (.cells #[.int .i64 a, .int .i64 b] 39)
  have CM := Lib.hid (rfMay_at (w.alloc (.cells #[.int .i64 a, .int .i64 b] 39)) a b)
  rw [decide_eq_false hab] at CM
  have s0 := cell_blk bA 0
  have s1 := cell_blk bA 1
  simp only [List.getElem?_toArray, List.getElem?_cons_succ, List.getElem?_cons_zero] at s0 s1
  have HMA := Lib.hid mA
  clear mA bA
  go_enter Tryz.func17, Tryz.ntmps17
  go_wp2_with fail
  refine CM.out.mono ?_
  rintro e w2 ⟨rfl, m2⟩
  have HM2 := Lib.hid (HMA.out.trans m2)
  go_wp2_with fail
  go_ret
  exact ⟨rfl, HM2.out⟩
set_option maxHeartbeats 4000000 in
theorem cut_any {w : World} {v : Value} {ends : List Int} (h : RowAt encI w v ends) (hl : ends.length ≤ 10000000) {a b : Int} (hab : mayS a b) :
    Calls Tryz.prog 17 #[.agg #[.int .i64 a, .int .i64 b], v] w fun e w' => ∃ u L, e = .returned u ∧ OwnR encC 2 39 w' w.heap.size u L ∧ CutTo (· ∈ ends) a b L ∧ L.length ≤ ends.length + 1 ∧ Mod [] w w' := by
  have mA := (Mod.refl [] w).alloc (.cells #[.int .i64 a, .int .i64 b] 39)
  have bA := heap_alloc_new w (.cells #[.int .i64 a, .int .i64 b] 39)
  have CM := Lib.hid (rfMay_at (w.alloc (.cells #[.int .i64 a, .int .i64 b] 39)) a b)
  rw [decide_eq_true hab] at CM
  have s0 := cell_blk bA 0
  have s1 := cell_blk bA 1
  simp only [List.getElem?_toArray, List.getElem?_cons_succ, List.getElem?_cons_zero] at s0 s1
  have H := Lib.hid h
  have HMA := Lib.hid mA
  have HBA := Lib.hid bA
  clear mA bA h
  go_enter Tryz.func17, Tryz.ntmps17
  go_wp2_with fail
  refine CM.out.mono ?_
  rintro e w2 ⟨rfl, m2⟩
  have HB2 := Lib.hid (m2.heap HBA.out (by simp))
  have HM2 := Lib.hid (HMA.out.trans m2)
  have CC := Lib.hid (cloneInt_any v ends w2 (H.out.kept0 HM2.out) hl)
  clear CM m2 s0 s1
  go_wp2_with fail
  refine CC.out.mono ?_
  rintro e w3 ⟨v3, rfl, o3, m3⟩
  have HB3 := Lib.hid (m3.heap HB2.out (by simp))
  have HM3 := Lib.hid (HM2.out.trans m3)
  have CS := Lib.hid (sortInt_any v3 ends w3 w2.heap.size o3 hl)
  have hob : ∀ k, v3.ownBlock = some k → w2.heap.size ≤ k := fun k hk => (World.ownsRow.lt o3 k hk).1
  clear CC m3 o3
  go_wp2_with fail
  refine CS.out.mono ?_
  rintro e w4 ⟨rfl, o4, m4⟩
  have hw2 : w.heap.size < w2.heap.size := lt_of_heap HB2.out
  have hb4 := m4.heap HB3.out (by rw [mem_blk]; intro h; have := hob _ h; omega)
  have HM4 := Lib.hid (Mod.into' HM3.out m4 (fun k hk => .inl (by rw [mem_blk] at hk; have := hob k hk; omega)))
  have CP := Lib.hid (compactInt_any v3 _ w4 w2.heap.size o4 (by rw [List.length_mergeSort]; exact hl))
  rw [onceS_eq] at CP
  have t0 := cell_blk hb4 0
  simp only [List.getElem?_toArray, List.getElem?_cons_zero] at t0
  have HB4 := Lib.hid hb4
  clear CS o4 m4 hb4
  go_wp2_with fail
  refine CP.out.mono ?_
  rintro e w5 ⟨v5, rfl, o5, m5, hv5⟩
  have hb5 := m5.heap HB4.out (by rw [mem_blk]; intro h; have := hob _ h; omega)
  have HM5 := Lib.hid (Mod.into' HM4.out m5 (fun k hk => .inl (by rw [mem_blk] at hk; have := hob k hk; omega)))
  have hol := onceS_len ends
  have HAS := Lib.hid (asc_onceS ends)
  have HME := Lib.hid (fun d => (mem_onceS (l := ends) (v := d)))
  generalize onceS ends = l at o5 hol HAS HME
  obtain ⟨la, lc, rfl⟩ := o5.lens
  have HO5 := Lib.hid o5
  have HB5 := Lib.hid hb5
  have hlb : ∀ k, (Value.slice la l.length lc).ownBlock = some k → w2.heap.size ≤ k ∧ k < w5.heap.size := fun k hk => World.ownsRow.lt o5 k hk
  clear CP t0 o5 m5 hb5
  go_wp2_with fail
  go_loopw [4, 6, 21] (fun s4 s6 s21 W => ∃ j : Nat, j ≤ l.length ∧ s21 = .int .i64 j ∧ s6 = .int .i64 ((l.take j).foldl (cutS b) ([], a)).2 ∧ Hid (OwnR encC 2 39 W w5.heap.size s4 ((l.take j).foldl (cutS b) ([], a)).1 ∧ Mod [] w5 W)) (fun _ _ s21 _ => l.length - (intOf s21).toNat)
  case atStart => exact ⟨0, by omega, rfl, rfl, Lib.hid ⟨OwnR.nil_ _ _, Mod.refl _ _⟩⟩
  case round =>
    obtain ⟨j, hj, rfl, rfl, hS⟩ := hrel
    obtain ⟨h1, h2⟩ := hS.out
    have hbW := h2.heap HB5.out (by simp)
    have t1 := cell_blk hbW 1
    simp only [List.getElem?_toArray, List.getElem?_cons_succ, List.getElem?_cons_zero] at t1
    by_cases hlt : j < l.length
    · obtain ⟨_, _, _, _, hlen⟩ := cut_inv hab.2.1 HAS.out j (by omega)
      have htk : (l.take (j + 1)).foldl (cutS b) ([], a) = cutS b ((l.take j).foldl (cutS b) ([], a)) l[j] := by
        rw [List.take_succ_eq_append_getElem hlt, List.foldl_append]
        rfl
      obtain ⟨q, cap, heq, hq, hcap⟩ := (HO5.out.kept0 h2).at_ (show l[j]? = some l[j] from List.getElem?_eq_getElem hlt)
      simp only [Value.slice.injEq] at heq
      obtain ⟨rfl, _, rfl⟩ := heq
      have vk := ((HO5.out.kept0 h2).cell encI_len hlt (j := 0) (by omega) (u := .int .i64 l[j]) rfl).1
      simp only [Nat.mul_one, Nat.add_zero] at vk
      generalize l[j] = d at vk htk
      generalize (l.take j).foldl (cutS b) ([], a) = o at h1 htk hlen
      have hj0 : decide ((j : Int) < 0) = false := decide_eq_false (by omega)
      have hj1 : decide ((l.length : Int) ≤ (j : Int)) = false := decide_eq_false (by omega)
      have hj2 : decide ((j : Int) < (l.length : Int)) = true := decide_eq_true (by omega)
      by_cases hc1 : o.2 < d
      · have hd1 : decide (o.2 < d) = true := decide_eq_true hc1
        by_cases hc2 : d < b
        · have hd2 : decide (d < b) = true := decide_eq_true hc2
          rw [show cutS b o d = (o.1 ++ [(o.2, d)], d) from if_pos ⟨hc1, hc2⟩] at htk
          obtain ⟨v', w', ra, ho', gr⟩ := own_append1 (P := Tryz.prog) (ty := 53) elemCs encC_len encC_one h1 h2.size (o.2, d) (by omega) (by omega)
          dsimp only [encC] at ra
          obtain ⟨a', n', c', rfl⟩ : ∃ a n c, v' = .slice a n c := by obtain ⟨a, c, e⟩ := ho'.lens; exact ⟨a, _, c, e⟩
          have HF := Lib.hid (show ((l.take (j + 1)).foldl (cutS b) ([], a)).2 = d by rw [htk])
          have HN := Lib.hid (show OwnR encC 2 39 w' w5.heap.size (.slice a' n' c') ((l.take (j + 1)).foldl (cutS b) ([], a)).1 ∧ Mod [] w5 w' from ⟨by rw [htk]; exact ho', Mod.into' h2 gr.mod (fun k hk => .inl (by rw [mem_blk] at hk; exact (World.ownsRow.lt h1 k hk).1))⟩)
          have RA := Lib.hid ra
          clear h1 h2 hbW ra ho' gr htk hlen
          go_wp2_with ((with_reducible refine xAppendAt RA.out rfl rfl ?_ ?_ ?_ ?_); exact rfl; exact rfl; exact rfl)
          go_roundw
          case rel => exact ⟨j + 1, by omega, by go_num, by rw [HF.out], HN⟩
          case measure => simp [intOf]; omega
        · have hd2 : decide (d < b) = false := decide_eq_false hc2
          rw [show cutS b o d = o from if_neg (fun h => hc2 h.2)] at htk
          have HF := Lib.hid (show ((l.take (j + 1)).foldl (cutS b) ([], a)).2 = o.2 by rw [htk])
          have HN := Lib.hid (show OwnR encC 2 39 wr w5.heap.size u4 ((l.take (j + 1)).foldl (cutS b) ([], a)).1 ∧ Mod [] w5 wr from ⟨by rw [htk]; exact h1, h2⟩)
          clear h1 h2 hbW htk hlen
          go_wp2_with fail
          go_roundw
          case rel => exact ⟨j + 1, by omega, by go_num, by rw [HF.out], HN⟩
          case measure => simp [intOf]; omega
      · have hd1 : decide (o.2 < d) = false := decide_eq_false hc1
        rw [show cutS b o d = o from if_neg (fun h => hc1 h.1)] at htk
        have HF := Lib.hid (show ((l.take (j + 1)).foldl (cutS b) ([], a)).2 = o.2 by rw [htk])
        have HN := Lib.hid (show OwnR encC 2 39 wr w5.heap.size u4 ((l.take (j + 1)).foldl (cutS b) ([], a)).1 ∧ Mod [] w5 wr from ⟨by rw [htk]; exact h1, h2⟩)
        clear h1 h2 hbW htk hlen
        go_wp2_with fail
        go_roundw
        case rel => exact ⟨j + 1, by omega, by go_num, by rw [HF.out], HN⟩
        case measure => simp [intOf]; omega
    · have hje : j = l.length := by omega
      have hj2 : decide ((j : Int) < (l.length : Int)) = false := decide_eq_false (by omega)
      have hca := cut_all hab.2.1 HAS.out
      rw [List.take_of_length_le (by omega)] at h1 ⊢
      generalize l.foldl (cutS b) ([], a) = o at h1 hca
      obtain ⟨v', w', ra, ho', gr⟩ := own_append1 (P := Tryz.prog) (ty := 53) elemCs encC_len encC_one h1 h2.size (o.2, b) (by have := hca.2; omega) (by omega)
      dsimp only [encC] at ra
      have hw5 := HM5.out.size
      have HE := Lib.hid (show OwnR encC 2 39 w' w.heap.size v' (o.1 ++ [(o.2, b)]) ∧ CutTo (· ∈ ends) a b (o.1 ++ [(o.2, b)]) ∧ (o.1 ++ [(o.2, b)]).length ≤ ends.length + 1 ∧ Mod [] w w' from ⟨ho'.mono hw5, hca.1.congr (fun d => HME.out d), by have := hca.2; simp; omega, Mod.into' (HM5.out.trans h2) gr.mod (fun k hk => .inl (by rw [mem_blk] at hk; have := (World.ownsRow.lt h1 k hk).1; omega))⟩)
      have RA := Lib.hid ra
      clear h1 h2 hbW ra ho' gr hca
      subst hje
      go_wp2_with ((with_reducible refine xAppendAt RA.out rfl rfl ?_ ?_ ?_ ?_); exact rfl; exact rfl; exact rfl)
      go_ret
      exact ⟨_, _, rfl, HE.out⟩
end Go.Proofs.YtngglpekdjhbdaaGreat
namespace Go.Proofs.YtngglpekdjhbdaaGreat
set_option linter.unusedVariables false

/-- the values of the runs of g on the n days from a on -/
def runsV (g : Int → Int) (a : Int) : Nat → List Int
  | 0 => []
  | n + 1 => if (runsV g a n).getLast? = some (g (a + n)) then runsV g a n else runsV g a n ++ [g (a + n)]
theorem runsV_last (g : Int → Int) (a : Int) (n : Nat) : (runsV g a (n + 1)).getLast? = some (g (a + n)) := by
  unfold runsV
  split
  · assumption
  · simp
theorem runsV_same {g : Int → Int} {a : Int} {n : Nat} (h : g (a + n) = g (a + (n + 1 : Nat))) : runsV g a (n + 2) = runsV g a (n + 1) := by
  show (if (runsV g a (n + 1)).getLast? = some (g (a + (n + 1 : Nat))) then _ else _) = _
  rw [if_pos (by rw [runsV_last, h])]
theorem runsV_grow {g : Int → Int} {a v : Int} {n : Nat} (m : Nat) (h : ∀ d, a + n ≤ d → d < a + n + m + 1 → g d = v) (hl : ∀ u, (runsV g a n).getLast? = some u → u ≠ v) : runsV g a (n + m + 1) = runsV g a n ++ [v] := by
  induction m with
  | zero =>
    show (if (runsV g a n).getLast? = some (g (a + n)) then _ else _) = _
    rw [h (a + n) (by omega) (by omega), if_neg (fun e => hl _ e rfl)]
  | succ m ih =>
    have h1 := ih (fun d h1 h2 => h d h1 (by push_cast; omega))
    rw [show n + (m + 1) + 1 = (n + m) + 2 by omega, runsV_same, ← h1]
    rw [h _ (by push_cast; omega) (by push_cast; omega), h _ (by push_cast; omega) (by push_cast; omega)]
theorem segs_runs {g : Int → Int} {a z : Int} {L : List Sg} (h : SegsTo g a z L) : L.map (·.v) = runsV g a (z - a).toNat := by
  induction h with
  | nil => simp [runsV]
  | @snoc z L s h h1 h2 h3 h4 ih =>
    have hle := h.le.1
    have e : (s.t - a).toNat = (z - a).toNat + (s.t - z - 1).toNat + 1 := by omega
    rw [List.map_append, e, runsV_grow (v := s.v) _ (fun d k1 k2 => h3 d (by omega) (by omega)) (fun u hu => ?_), ih]
    · rfl
    · rw [← ih, List.getLast?_map] at hu
      cases hr : L.getLast? with
      | none => rw [hr] at hu; simp at hu
      | some r =>
        rw [hr] at hu
        simp at hu
        rw [← hu]
        exact h4 r hr
theorem runsV_drop {g : Int → Int} {a : Int} (h : g a = g (a + 1)) : ∀ n : Nat, runsV g a (n + 2) = runsV g (a + 1) (n + 1)
  | 0 => by
    simp [runsV, h]
  | n + 1 => by
    have ih := runsV_drop h n
    show (if (runsV g a (n + 2)).getLast? = some (g (a + (n + 2 : Nat))) then _ else _) = (if (runsV g (a + 1) (n + 1)).getLast? = some (g (a + 1 + (n + 1 : Nat))) then _ else _)
    rw [ih, show a + ((n + 2 : Nat) : Int) = a + 1 + ((n + 1 : Nat) : Int) by push_cast; omega]
/-- the days on which g turns -/
theorem ends_iff {g : Int → Int} {a z : Int} {L : List Sg} (h : SegsTo g a z L) : ∀ d, d ∈ endsL L ↔ a < d ∧ d < z ∧ g (d - 1) ≠ g d := by
  induction h with
  | nil => intro d; simp [endsL]; omega
  | @snoc z L s h h1 h2 h3 h4 ih =>
    intro d
    have hle := h.le
    by_cases hL : L = []
    · subst hL
      have hz : z = a := by
        rcases h.cases' with ⟨_, e⟩ | ⟨L', r, e, _⟩
        · exact e
        · simp at e
      simp only [endsL, List.nil_append, List.tail_cons, List.map_nil, List.not_mem_nil, false_iff]
      rintro ⟨k1, k2, k3⟩
      exact k3 (by rw [h3 (d - 1) (by omega) (by omega), h3 d (by omega) (by omega)])
    · have e : endsL (L ++ [s]) = endsL L ++ [s.f] := by
        unfold endsL
        rw [List.tail_append_of_ne_nil hL]
        simp
      have hp := (SegsTo.pre (s := s) (by rw [h1]; exact h) h4)
      have hza : a < z := by
        rcases h.cases' with ⟨e, _⟩ | ⟨L', r, _, k1, k2, k3, _⟩
        · exact absurd e hL
        · have := k2.le.1; omega
      rw [e, List.mem_append, ih, List.mem_singleton]
      constructor
      · rintro (⟨k1, k2, k3⟩ | rfl)
        · exact ⟨k1, by omega, k3⟩
        · rcases hp with k | ⟨k, k'⟩
          · omega
          · exact ⟨k, by omega, by rw [h3 s.f (by omega) (by omega)]; exact k'⟩
      · rintro ⟨k1, k2, k3⟩
        by_cases hd : d < z
        · exact .inl ⟨k1, hd, k3⟩
        · by_cases hd2 : d = z
          · exact .inr (by omega)
          · exact absurd (by rw [h3 (d - 1) (by omega) (by omega), h3 d (by omega) (by omega)]) k3
end Go.Proofs.YtngglpekdjhbdaaGreat
namespace Go.Proofs.YtngglpekdjhbdaaGreat
set_option linter.unusedVariables false

/-- the answer on a day: of a lag; of the runs' values -/
def dayH (lag : Bool) (back : Int) (ov : List Int → Int) (g : Int → Int) (d : Int) : Int :=
  if lag then g (d - back) else ov (runsV g (max (d - back) 1) (d + 1 - max (d - back) 1).toNat)
/-- the days on which it may turn -/
def winMay (lag : Bool) (back : Int) (E : List Int) (d : Int) : Prop :=
  (1 < d ∧ d ≤ 3652059) ∧ ((lag = true ∧ d = 1 + back) ∨ ∃ e ∈ E, (lag = false ∧ d = e) ∨ d = min e 3652060 + back)
theorem day_const {lag : Bool} {back : Int} {ov : List Int → Int} {g : Int → Int} {E : List Int} (hb : 0 ≤ back) (hE : ∀ d, d ∈ E ↔ 1 < d ∧ d < 3652060 ∧ g (d - 1) ≠ g d) (hg : ∀ d, d < 1 → g d = 0) {d : Int} (h1 : 1 ≤ d) (h2 : d + 1 ≤ 3652059) (hn : ¬ winMay lag back E (d + 1)) : dayH lag back ov g d = dayH lag back ov g (d + 1) := by
  have hne : ∀ e, e ∈ E → d + 1 ≠ e + back := fun e he k => hn ⟨by omega, .inr ⟨e, he, .inr (by have := (hE e).1 he; omega)⟩⟩
  have hlow : 1 < d + 1 - back → g (d - back) = g (d + 1 - back) := fun k => by
    by_cases c : g (d + 1 - back - 1) = g (d + 1 - back)
    · rw [← c]
      congr 1
      omega
    · exact absurd (by omega) (hne _ ((hE (d + 1 - back)).2 ⟨k, by omega, c⟩))
  unfold dayH
  cases lag with
  | true =>
    simp only [if_true]
    by_cases k : 1 < d + 1 - back
    · exact hlow k
    · by_cases k2 : d + 1 - back = 1
      · exact absurd ⟨by omega, .inl ⟨rfl, by omega⟩⟩ hn
      · rw [hg _ (by omega), hg _ (by omega)]
  | false =>
    simp only [Bool.false_eq_true, if_false]
    have htop : g d = g (d + 1) := by
      by_cases c : g (d + 1 - 1) = g (d + 1)
      · rw [← c]
        congr 1
        omega
      · exact absurd ⟨by omega, .inr ⟨d + 1, (hE (d + 1)).2 ⟨by omega, by omega, c⟩, .inl ⟨rfl, rfl⟩⟩⟩ hn
    congr 1
    by_cases k : 1 < d + 1 - back
    · obtain ⟨a, ha⟩ : ∃ a, a = d - back := ⟨_, rfl⟩
      obtain ⟨n, hn⟩ : ∃ n : Nat, (n : Int) = back := ⟨back.toNat, by omega⟩
      have e1 : max (d - back) 1 = a := by omega
      have e2 : max (d + 1 - back) 1 = a + 1 := by omega
      have e3 : (d + 1 - a).toNat = n + 1 := by omega
      have e4 : (d + 1 + 1 - (a + 1)).toNat = n + 1 := by omega
      rw [e1, e2, e3, e4]
      have hd := hlow k
      rw [← ha, show d + 1 - back = a + 1 by omega] at hd
      rw [← runsV_drop hd n, runsV_same]
      rw [show a + (n : Int) = d by omega, show a + ((n + 1 : Nat) : Int) = d + 1 by push_cast; omega]
      exact htop
    · obtain ⟨n, hn⟩ : ∃ n : Nat, (n : Int) + 1 = d := ⟨(d - 1).toNat, by omega⟩
      have e1 : max (d - back) 1 = 1 := by omega
      have e2 : max (d + 1 - back) 1 = 1 := by omega
      have e3 : (d + 1 - 1).toNat = n + 1 := by omega
      have e4 : (d + 1 + 1 - 1).toNat = n + 2 := by omega
      rw [e1, e2, e3, e4, runsV_same]
      rw [show 1 + (n : Int) = d by omega, show 1 + ((n + 1 : Nat) : Int) = d + 1 by push_cast; omega]
      exact htop
/-- the line, by its puts -/
def lineG (H : Int → Int) (C : List (Int × Int)) (g0 : Int → Int) : Int → Int := C.foldl (fun gx c => upd gx c.1 c.2 (H c.1)) g0
theorem lineG_snoc (H : Int → Int) (C : List (Int × Int)) (c : Int × Int) (g0 : Int → Int) : lineG H (C ++ [c]) g0 = upd (lineG H C g0) c.1 c.2 (H c.1) := by simp [lineG]
theorem const_from {H : Int → Int} {P : Int → Prop} {z t : Int} (hc : ∀ d, z ≤ d → d + 1 < t → ¬ P (d + 1) → H d = H (d + 1)) (hp : ∀ d, z < d → d < t → ¬ P d) : ∀ n : Nat, z + n < t → H (z + n) = H z
  | 0, _ => by simp
  | n + 1, h => by
    rw [← const_from hc hp n (by push_cast at h; omega)]
    have := hc (z + n) (by omega) (by push_cast at h; omega) (hp _ (by omega) (by push_cast at h; omega))
    rw [this]
    congr 1
    push_cast
    omega
end Go.Proofs.YtngglpekdjhbdaaGreat
namespace Go.Proofs.YtngglpekdjhbdaaGreat
set_option linter.unusedVariables false

theorem line_cut {H : Int → Int} {P : Int → Prop} {a z Z : Int} {C : List Cs} {g0 : Int → Int} (hc : ∀ d, a ≤ d → d + 1 < Z → ¬ P (d + 1) → H d = H (d + 1)) (h : CutTo P a z C) (hz : z ≤ Z) : ∀ d, lineG H C g0 d = if a ≤ d ∧ d < z then H d else g0 d := by
  induction h with
  | nil => intro d; rw [if_neg (by omega)]; rfl
  | @snoc z L t h h1 h2 h3 ih =>
    intro d
    have hle := h.le
    rw [lineG_snoc]
    unfold upd
    dsimp only
    by_cases k : z ≤ d ∧ d < t
    · rw [if_pos k, if_pos (by omega)]
      obtain ⟨n, hn⟩ : ∃ n : Nat, z + (n : Int) = d := ⟨(d - z).toNat, by omega⟩
      have := const_from (H := H) (P := P) (z := z) (t := t) (fun d k1 k2 k3 => hc d (by omega) (by omega) k3) h2 n (by omega)
      rw [← hn, this]
    · rw [if_neg k, ih (by omega) d]
      by_cases k2 : a ≤ d ∧ d < z
      · rw [if_pos k2, if_pos (by omega)]
      · rw [if_neg k2, if_neg (by omega)]
/-- Line's function -/
def lineH (H : Int → Int) (d : Int) : Int := if 1 ≤ d ∧ d < 3652060 then H d else 0
section
variable {lag : Bool} {back : Int} {ov : List Int → Int} {g : Int → Int} {E : List Int} (hb : 0 ≤ back) (hE : ∀ d, d ∈ E ↔ 1 < d ∧ d < 3652060 ∧ g (d - 1) ≠ g d) (hg : ∀ d, d < 1 → g d = 0)
include hb hE hg
theorem line_is {P : Int → Prop} (hP : ∀ d, P d ↔ winMay lag back E d) {C : List Cs} (h : CutTo P 1 3652060 C) : lineG (dayH lag back ov g) C (fun _ => 0) = lineH (dayH lag back ov g) := by
  funext d
  exact line_cut (Z := 3652060) (fun d k1 k2 k3 => day_const hb hE hg k1 (by omega) (fun k => k3 ((hP _).2 k))) h (Int.le_refl _) d
theorem line_ends {L : List Sg} (h : SegsTo (lineH (dayH lag back ov g)) 1 3652060 L) : ∀ d ∈ endsL L, winMay lag back E d := fun d hd => by
  obtain ⟨k1, k2, k3⟩ := (ends_iff h d).1 hd
  by_cases c : winMay lag back E d
  · exact c
  · have := day_const (ov := ov) hb hE hg (d := d - 1) (by omega) (by omega) (by rw [show d - 1 + 1 = d by omega]; exact c)
    unfold lineH at k3
    rw [if_pos (by omega), if_pos (by omega)] at k3
    rw [show d - 1 + 1 = d by omega] at this
    exact absurd this k3
end
end Go.Proofs.YtngglpekdjhbdaaGreat
namespace Go.Proofs.YtngglpekdjhbdaaGreat
open Go.RowKit Go.ChangeMaps Go.Deep
set_option linter.unusedSimpArgs false
set_option linter.unusedVariables false
set_option maxRecDepth 20000

/-- a day more, if it may be an end -/
def addE (l : List Int) (d : Int) : List Int := if 1 < d ∧ d ≤ 3652059 then l ++ [d] else l
theorem mem_addE {l : List Int} {d x : Int} : x ∈ addE l d ↔ x ∈ l ∨ (x = d ∧ 1 < x ∧ x ≤ 3652059) := by
  unfold addE
  split
  · rename_i h
    simp only [List.mem_append, List.mem_singleton]
    constructor
    · rintro (h1 | rfl)
      · exact .inl h1
      · exact .inr ⟨rfl, h⟩
    · rintro (h1 | ⟨rfl, _⟩)
      · exact .inl h1
      · exact .inr rfl
  · rename_i h
    constructor
    · exact .inl
    · rintro (h1 | ⟨rfl, h2⟩)
      · exact h1
      · exact absurd h2 h
theorem addE_len (l : List Int) (d : Int) : (addE l d).length ≤ l.length + 1 := by unfold addE; split <;> simp
/-- what a day of the ends adds -/
def stepE (lag : Bool) (b : Int) (l : List Int) (d : Int) : List Int := addE (if lag then l else addE l d) (min d 3652060 + b)
theorem stepE_len (lag : Bool) (b : Int) (l : List Int) (d : Int) : (stepE lag b l d).length ≤ l.length + 2 := by
  unfold stepE
  have h1 := addE_len (if lag then l else addE l d) (min d 3652060 + b)
  have h2 := addE_len l d
  cases lag
  · simp only [Bool.false_eq_true, if_false] at h1 ⊢
    omega
  · simp only [if_true] at h1 ⊢
    omega
def endsS (lag : Bool) (b : Int) (E : List Int) : List Int := E.foldl (stepE lag b) (if lag then addE [] (1 + b) else [])
theorem endsS_snoc (lag : Bool) (b : Int) (E : List Int) (d : Int) : endsS lag b (E ++ [d]) = stepE lag b (endsS lag b E) d := by simp [endsS]
theorem endsS_len (lag : Bool) (b : Int) : ∀ (n : Nat) (E : List Int), E.length = n → (endsS lag b E).length ≤ 2 * n + 1
  | 0, E, h => by
    obtain rfl := List.eq_nil_of_length_eq_zero h
    have := addE_len [] (1 + b)
    unfold endsS
    cases lag
    · simp
    · simpa using this
  | n + 1, E, h => by
    rcases List.eq_nil_or_concat E with rfl | ⟨E', d, rfl⟩
    · simp at h
    · rw [List.concat_eq_append] at h ⊢
      rw [endsS_snoc]
      have h1 := endsS_len lag b n E' (by simp at h; omega)
      have h2 := stepE_len lag b (endsS lag b E') d
      omega
theorem mem_endsS {lag : Bool} {b x : Int} : ∀ (n : Nat) (E : List Int), E.length = n → (x ∈ endsS lag b E ↔ winMay lag b E x)
  | 0, E, h => by
    obtain rfl := List.eq_nil_of_length_eq_zero h
    unfold endsS winMay
    cases lag
    · simp
    · simp only [List.foldl_nil, if_true, mem_addE, List.not_mem_nil, false_or, true_and, false_and, exists_false, or_false]
      constructor
      · rintro ⟨h1, h2⟩
        exact ⟨h2, h1⟩
      · rintro ⟨h1, h2⟩
        exact ⟨h2, h1⟩
  | n + 1, E, h => by
    rcases List.eq_nil_or_concat E with rfl | ⟨E', d, rfl⟩
    · simp at h
    · rw [List.concat_eq_append] at h ⊢
      rw [endsS_snoc]
      have h1 := mem_endsS (lag := lag) (b := b) (x := x) n E' (by simp at h; omega)
      unfold stepE winMay at *
      rw [mem_addE]
      cases lag
      · simp only [Bool.false_eq_true, if_false, mem_addE, h1, false_and, false_or, true_and, List.mem_append, List.mem_singleton]
        constructor
        · rintro ((⟨q, e, he, q2⟩ | ⟨q1, q2⟩) | ⟨q1, q2⟩)
          · exact ⟨q, e, .inl he, q2⟩
          · exact ⟨q2, d, .inr rfl, .inl q1⟩
          · exact ⟨q2, d, .inr rfl, .inr q1⟩
        · rintro ⟨q, e, he | rfl, q2⟩
          · exact .inl (.inl ⟨q, e, he, q2⟩)
          · rcases q2 with q2 | q2
            · exact .inl (.inr ⟨q2, q⟩)
            · exact .inr ⟨q2, q⟩
      · simp only [if_true, h1, true_and, List.mem_append, List.mem_singleton, Bool.true_eq_false, false_and, false_or]
        constructor
        · rintro (⟨q, q3 | ⟨e, he, q2⟩⟩ | ⟨q1, q2⟩)
          · exact ⟨q, .inl q3⟩
          · exact ⟨q, .inr ⟨e, .inl he, q2⟩⟩
          · exact ⟨q2, .inr ⟨d, .inr rfl, q1⟩⟩
        · rintro ⟨q, q3 | ⟨e, he | rfl, q2⟩⟩
          · exact .inl ⟨q, .inl q3⟩
          · exact .inl ⟨q, .inr ⟨e, he, q2⟩⟩
          · exact .inr ⟨q2, q⟩
/-- the window's cell at p, the row's variable behind it -/
structure EndSt (w : World) (W : World) (p : Nat) (k b : Int) (l : List Int) : Prop where
  win : W.heap[p]? = some (.cells #[.int .u8 k, .int .i64 b] 24 (0, 0))
  ex : ∃ v, W.heap[p + 1]? = some (.cells #[v] 41 (0, 0)) ∧ OwnR encI 1 3 W (p + 1 + 1) v l
  mod : Mod [] w W
  ge : w.heap.size ≤ p
theorem EndSt.lt {w W : World} {p : Nat} {k b : Int} {l : List Int} (h : EndSt w W p k b l) : p + 1 < W.heap.size := by
  obtain ⟨v, h1, _⟩ := h.ex
  exact lt_of_heap h1
theorem EndSt.kept0 {w W W' : World} {p : Nat} {k b : Int} {l : List Int} (h : EndSt w W p k b l) (m : Mod [] W W') : EndSt w W' p k b l := by
  obtain ⟨v, h1, h2⟩ := h.ex
  exact ⟨m.heap h.win (by simp), ⟨v, m.heap h1 (by simp), h2.kept0 m⟩, h.mod.trans m, h.ge⟩
set_option maxHeartbeats 4000000 in
theorem ends1_at {w W : World} {p : Nat} {k b : Int} {l : List Int} (h : EndSt w W p k b l) (hl : l.length < 1073741824) (d : Int) :
    Calls Tryz.prog 19 #[.int .i64 d, .pointer (some ⟨p + 1, 0, none⟩)] W fun e W' => e = .returned (.tuple #[]) ∧ EndSt w W' p k b (addE l d) := by
  have hlt := h.lt
  obtain ⟨h1, ⟨v, h2, h3⟩, h4, h5⟩ := h
  have c0 := cell_blk h2 0
  simp only [List.getElem?_toArray, List.getElem?_cons_zero] at c0
  by_cases hd : 1 < d
  · have e1 : decide (1 < d) = true := decide_eq_true hd
    by_cases hd2 : d ≤ 3652059
    · have e2 : decide (d ≤ 3652059) = true := decide_eq_true hd2
      have HA := Lib.hid (show addE l d = l ++ [d] from if_pos ⟨hd, hd2⟩)
      have hob : ∀ q, v.ownBlock = some q → p + 1 + 1 ≤ q := fun q hq => (World.ownsRow.lt h3 q hq).1
      obtain ⟨v', w', ra, ho', gr⟩ := own_append1 (P := Tryz.prog) (ty := 41) elemInt encI_len encI_one h3 (by omega) d hl (by omega)
      dsimp only [encI] at ra
      obtain ⟨a', n', c', rfl⟩ : ∃ a n c, v' = .slice a n c := by obtain ⟨a, c, e⟩ := ho'.lens; exact ⟨a, _, c, e⟩
      obtain ⟨a, n, c, rfl⟩ : ∃ a n c, v = .slice a n c := by obtain ⟨a, c, e⟩ := h3.lens; exact ⟨a, _, c, e⟩
      have q1 := gr.mod.heap h1 (by rw [mem_blk]; intro hm; have := hob _ hm; omega)
      have q2 := gr.mod.heap h2 (by rw [mem_blk]; intro hm; have := hob _ hm; omega)
      have g0 := cell_blk q2 0
      have g1 := frozen_blk q2 0
      simp only [List.getElem?_toArray, List.getElem?_cons_zero] at g0
      have hob' : ∀ q, (Value.slice a' n' c').ownBlock = some q → p + 1 + 1 ≤ q := fun q hq => (World.ownsRow.lt ho' q hq).1
      have hm1 : Mod [p + 1] w' (w'.setCell ⟨p + 1, 0, none⟩ (.slice a' n' c')) := (Mod.refl _ _).setCell (by simp) _
      have q3 := heap_setCell_blk q2 0 (.slice a' n' c')
      have HE := Lib.hid (show EndSt w (w'.setCell ⟨p + 1, 0, none⟩ (.slice a' n' c')) p k b (addE l d) from by
        rw [HA.out]
        exact ⟨hm1.heap q1 (by simp), ⟨_, by simpa using q3, ho'.kept hm1 (fun q hq hm => by simp at hm; have := hob' q hq; omega)⟩, mod_over (mod_over h4 gr.mod (fun q hq => by rw [mem_blk] at hq; have := hob q hq; omega)) hm1 (by simp; omega), h5⟩)
      have RA := Lib.hid ra
      clear h1 h2 h3 h4 h5 ho' gr ra q1 q2 q3 hm1 hob hob' hd hd2
      go_enter Tryz.func19, Tryz.ntmps19
      go_wp2_with ((with_reducible refine xAppendAt RA.out rfl rfl ?_ ?_ ?_ ?_); exact rfl; exact rfl; exact rfl)
      go_end0
      exact ⟨rfl, HE.out⟩
    · have e2 : decide (d ≤ 3652059) = false := decide_eq_false hd2
      have HE := Lib.hid (show EndSt w W p k b (addE l d) from by
        rw [show addE l d = l from if_neg (fun h => hd2 h.2)]
        exact ⟨h1, ⟨v, h2, h3⟩, h4, h5⟩)
      clear h1 h2 h3 h4 h5 hd hd2
      go_enter Tryz.func19, Tryz.ntmps19
      go_wp2_with fail
      go_end0
      exact ⟨rfl, HE.out⟩
  · have e1 : decide (1 < d) = false := decide_eq_false hd
    have HE := Lib.hid (show EndSt w W p k b (addE l d) from by
      rw [show addE l d = l from if_neg (fun h => hd h.1)]
      exact ⟨h1, ⟨v, h2, h3⟩, h4, h5⟩)
    clear h1 h2 h3 h4 h5 hd
    go_enter Tryz.func19, Tryz.ntmps19
    go_wp2_with fail
    go_end0
    exact ⟨rfl, HE.out⟩
end Go.Proofs.YtngglpekdjhbdaaGreat
