/- The journal is read: a copy's records. -/
import Derived.Test.YtnjfgbbdfdoccaaJnO
namespace Go.Proofs.Ytnjfgbbdfdoccaa
open Go.RowKit Go.ChangeMaps
set_option linter.unusedSimpArgs false
set_option linter.unusedVariables false
set_option maxRecDepth 20000

def partsF : Nat → List Int → Option (List (List Int) × Bool)
  | 0, b => some ([], decide (b.length = 0))
  | f + 1, b =>
    if 4 ≤ b.length then
      if numP b < 1 ∨ 65536 < numP b ∨ (b.length : Int) - 4 < numP b then none
      else (partsF f ((b.drop 4).drop (numP b).toNat)).map fun r => ((b.drop 4).take (numP b).toNat :: r.1, r.2)
    else some ([], decide (b.length = 0))
def partsP (b : List Int) (n : Int) : Option (List (List Int)) :=
  match partsF b.length b with
  | some r => if r.2 = true ∧ (r.1.length : Int) = n ∧ 0 < n then some r.1 else none
  | none => none
/-- rows of records, as they lie -/
structure RecsAt (w : World) (base nb : Nat) (v : Value) (hs : List SlH) (ls : List (List Int)) : Prop where
  own : OwnR encH 1 33 w nb v hs
  len : hs.length = ls.length
  rel : ∀ (i : Nat) (h : SlH) (l : List Int), hs[i]? = some h → ls[i]? = some l → Rec8 w base h l
theorem RecsAt.push {w w' : World} {base nb : Nat} {v v' : Value} {hs : List SlH} {ls : List (List Int)} {x : SlH} {l : List Int} (h : RecsAt w base nb v hs ls) (hx : Rec8 w base x l) (ho : OwnR encH 1 33 w' nb v' (hs ++ [x])) (gr : Grew w v w' v') : RecsAt w' base nb v' (hs ++ [x]) (ls ++ [l]) := by
  have hk : ∀ {y : SlH} {k : List Int}, Rec8 w base y k → Rec8 w' base y k := fun r => r.kept gr.mod (fun k hk cs f hc => by
    rw [mem_blk] at hk
    obtain ⟨c, h1⟩ := ownsRow_cells h.own hk
    rw [h1] at hc; cases hc)
  refine ⟨ho, by simp [h.len], fun i y k h1 h2 => ?_⟩
  by_cases hi : i < hs.length
  · rw [List.getElem?_append_left hi] at h1
    rw [List.getElem?_append_left (by rw [← h.len]; exact hi)] at h2
    exact hk (h.rel i y k h1 h2)
  · have hi2 : i = hs.length := by
      have := (List.getElem?_eq_some_iff.1 h1).1
      simp at this; omega
    subst hi2
    rw [List.getElem?_append_right (Nat.le_refl _)] at h1
    rw [h.len, List.getElem?_append_right (Nat.le_refl _)] at h2
    simp at h1 h2
    subst h1 h2
    exact hk hx
theorem RecsAt.kept0 {w w' : World} {base nb : Nat} {v : Value} {hs : List SlH} {ls : List (List Int)} (h : RecsAt w base nb v hs ls) (m : Mod [] w w') : RecsAt w' base nb v hs ls :=
  ⟨h.own.kept0 m, h.len, fun i x l h1 h2 => (h.rel i x l h1 h2).kept0 m⟩
def PartsPost (w : World) (base : Nat) (b : List Int) (n : Int) (lv : Value) (ok : Bool) (w' : World) : Prop :=
  Mod [] w w' ∧ ((∃ l hs, partsP b n = some l ∧ ok = true ∧ RecsAt w' base w.heap.size lv hs l) ∨ (partsP b n = none ∧ ok = false))
def PartsRet (w : World) (base : Nat) (b : List Int) (n : Int) (e : Ending) (w' : World) : Prop := ∃ lv ok, e = .returned (.tuple #[lv, .bool ok]) ∧ PartsPost w base b n lv ok w'
theorem PartsPost.no {w : World} {base : Nat} {b : List Int} {n : Int} {lv : Value} {w' : World} (hm : Mod [] w w') (hn : partsP b n = none) : PartsPost w base b n lv false w' := ⟨hm, .inr ⟨hn, rfl⟩⟩
theorem PartsPost.yes {w : World} {base : Nat} {b : List Int} {n : Int} {lv : Value} {w' : World} {l : List (List Int)} {hs : List SlH} (hm : Mod [] w w') (hn : partsP b n = some l) (h : RecsAt w' base w.heap.size lv hs l) : PartsPost w base b n lv true w' := ⟨hm, .inl ⟨l, hs, hn, rfl, h⟩⟩
theorem RowAt.rest {w : World} {b o c : Nat} {l : List Int} (h : RowAt enc8 w (.slice (some ⟨b, o, none⟩) l.length c) l) (k : Nat) (hk : k ≤ l.length) : RowAt enc8 w (.slice (some ⟨b, o + k, none⟩) (l.length - k) (c - k)) (l.drop k) := by
  by_cases he : k = l.length
  · subst he
    rw [Nat.sub_self, List.drop_length]
    exact .nil _ _
  · have := RowAt.drop enc8_len h k (by omega)
    rwa [Nat.mul_one] at this
/-- a part of a record -/
theorem Rec8.part {w : World} {base b o n c : Nat} {l : List Int} (r : Rec8 w base ⟨some ⟨b, o, none⟩, n, c⟩ l) {o' n' c' : Nat} {l' : List Int} (hr : RowAt enc8 w (.slice (some ⟨b, o', none⟩) n' c') l') (hn : n' = l'.length) (hb : IsB l') : Rec8 w base ⟨some ⟨b, o', none⟩, n', c'⟩ l' :=
  ⟨hr, hn, hb, fun bb oo nn cc e => by
    have e' : b = bb := by
      simp only [SlH.val, Value.slice.injEq, Option.some.injEq, Addr.mk.injEq] at e
      exact e.1.1
    subst e'
    exact r.typ b o n c rfl⟩
set_option maxHeartbeats 4000000 in
theorem jParts_at {w : World} {base : Nat} {x : SlH} {b : List Int} (h : Rec8 w base x b) (hl : b.length ≤ 134217728) (n : Int) :
    Calls Try.prog 70 #[x.val, .int .i64 n] w fun e w' => PartsRet w base b n e w' := by
  have hP := Lib.hid (show partsP b n = _ from rfl)
  have H := Lib.hid h
  obtain ⟨xa, xn, xc⟩ := x
  have hxn := h.len
  dsimp only at hxn
  subst hxn
  simp only [SlH.val]
  clear h
  go_enter Try.func70, Try.ntmps70
  go_wp2_with fail
  go_loopw [0, 4, 6] (fun s0 s4 s6 W => ∃ (ra : Option Addr) (rn rc : Nat) (la : Option Addr) (ln lc : Nat) (r : List Int) (acc : List (List Int)) (hs : List SlH), s0 = .slice ra rn rc ∧ s4 = .slice la ln lc ∧ rn = r.length ∧ Hid (ln = acc.length) ∧ rn + ln ≤ b.length ∧ Hid (Rec8 W base ⟨ra, rn, rc⟩ r ∧ RecsAt W base w.heap.size (.slice la ln lc) hs acc ∧ Mod [] w W ∧ ∃ f, r.length ≤ f ∧ partsF b.length b = (partsF f r).map fun q => (acc ++ q.1, q.2))) (fun s0 _ _ _ => match s0 with | .slice _ k _ => k | _ => 0)
  case atStart => exact ⟨xa, b.length, xc, none, 0, 0, b, [], [], rfl, rfl, rfl, Lib.hid rfl, by omega, Lib.hid ⟨H.out, ⟨OwnR.nil_ _ _, rfl, by simp⟩, Mod.refl _ _, b.length, Nat.le_refl _, by cases partsF b.length b <;> simp⟩⟩
  case round =>
    obtain ⟨ra, rn, rc, la, ln, lc, r, acc, hs, rfl, rfl, rfl, HLN, hbl, hS⟩ := hrel
    by_cases h4 : 4 ≤ r.length
    · obtain ⟨hR, hA, hM, f, hf, hF⟩ := hS.out
      obtain ⟨bb, o, heq, hcap, _⟩ := RowAt.get enc8_len hR.row (i := 0) (by omega)
      simp only [SlH.val, Value.slice.injEq] at heq
      obtain ⟨rfl, _, _⟩ := heq
      have hcap2 : r.length ≤ rc := by
        obtain ⟨_, _, heq, hc, _⟩ := RowAt.get enc8_len hR.row (i := 0) (by omega)
        simp only [SlH.val, Value.slice.injEq] at heq
        omega
      have CN := Lib.hid (jNumber_at hR.row (by omega) hR.isb)
      obtain ⟨k0, k1⟩ := numP_range hR.isb
      have HF := Lib.hid hF
      have hf1 : ∃ g, f = g + 1 := ⟨f - 1, by omega⟩
      obtain ⟨g, rfl⟩ := hf1
      have d4 : decide (4 ≤ (r.length : Int)) = true := decide_eq_true (by omega)
      by_cases hbad : numP r < 1 ∨ 65536 < numP r ∨ (r.length : Int) - 4 < numP r
      · have HN := Lib.hid (show partsP b n = none from by
          have e : partsF b.length b = none := by rw [hF]; unfold partsF; rw [if_pos h4, if_pos hbad]; rfl
          unfold partsP
          rw [e])
        have HM := Lib.hid hM
        generalize numP r = k at CN hbad k0 k1
        have hkk : (k < 1) ∨ (¬ k < 1 ∧ 65536 < k) ∨ (¬ k < 1 ∧ ¬ 65536 < k ∧ (r.length : Int) - 4 < k) := by omega
        have CN2 := CN
        simp only [SlH.val] at CN2
        clear hbad hF hR hA hM hS CN
        have HPN := Lib.hid (fun (W' : World) (m' : Mod [] wr W') => PartsPost.no (base := base) (lv := .slice none 0 0) (HM.out.trans m') HN.out)
        rcases hkk with hk1 | ⟨hk1, hk2⟩ | ⟨hk1, hk2, hk3⟩
        · have dk1 : decide (k < 1) = true := decide_eq_true hk1
          rcases Decidable.em (rc = 4) with rfl | hc4
          all_goals
            go_wp2_with fail
            refine CN2.out.mono ?_
            rintro e w1 ⟨rfl, m1⟩
            have HE := Lib.hid (HPN.out w1 m1)
            clear m1
            go_wp2_with fail
            go_ret2
            exact ⟨_, _, rfl, HE.out⟩
        · have dk1 : decide (k < 1) = false := decide_eq_false hk1
          have dk2 : decide (65536 < k) = true := decide_eq_true hk2
          rcases Decidable.em (rc = 4) with rfl | hc4
          all_goals
            go_wp2_with fail
            refine CN2.out.mono ?_
            rintro e w1 ⟨rfl, m1⟩
            have HE := Lib.hid (HPN.out w1 m1)
            clear m1
            go_wp2_with fail
            go_ret2
            exact ⟨_, _, rfl, HE.out⟩
        · have dk1 : decide (k < 1) = false := decide_eq_false hk1
          have dk2 : decide (65536 < k) = false := decide_eq_false hk2
          have dk3 : decide ((r.length : Int) - 4 < k) = true := decide_eq_true hk3
          have dk4 : decide (((r.length - 4 : Nat) : Int) < k) = true := decide_eq_true (by omega)
          rcases Decidable.em (rc = 4) with rfl | hc4
          all_goals
            go_wp2_with fail
            refine CN2.out.mono ?_
            rintro e w1 ⟨rfl, m1⟩
            have HE := Lib.hid (HPN.out w1 m1)
            clear m1
            go_wp2_with fail
            go_ret2
            exact ⟨_, _, rfl, HE.out⟩
      · obtain ⟨kk, hkk⟩ := Int.eq_ofNat_of_zero_le k0
        have hk1 : 1 ≤ kk ∧ kk ≤ 65536 ∧ kk + 4 ≤ r.length := by omega
        have HST := Lib.hid (show partsF (g + 1) r = (partsF g ((r.drop 4).drop kk)).map fun q => ((r.drop 4).take kk :: q.1, q.2) from by
          conv => lhs; unfold partsF
          rw [if_pos h4, if_neg hbad, hkk]
          rfl)
        rw [hkk] at CN
        simp only [SlH.val] at CN
        have dk1 : decide ((kk : Int) < 1) = false := decide_eq_false (by omega)
        have dk2 : decide (65536 < (kk : Int)) = false := decide_eq_false (by omega)
        have dk3 : decide ((r.length : Int) - 4 < kk) = false := decide_eq_false (by omega)
        have dk4 : decide (((r.length - 4 : Nat) : Int) < kk) = false := decide_eq_false (by omega)
        have hc4 : ¬ rc = 4 := by omega
        have hrow4 := RowAt.rest hR.row 4 h4
        have HR := Lib.hid hR
        have HA := Lib.hid hA
        have HM := Lib.hid hM
        clear hF hR hA hM hS hbad hkk
        rcases Decidable.em (rc - 4 = kk) with he | he
        · obtain rfl : rc = kk + 4 := by omega
          have HRL := Lib.hid (show r.length = kk + 4 by omega)
          go_wp2_with fail
          refine CN.out.mono ?_
          rintro e w1 ⟨rfl, m1⟩
          have HM1 := Lib.hid m1
          clear CN m1
          go_wp2_with fail
          refine wp_plan [([0, 1, 2, 6, 7, 3, 8], 4, [8]), ([], 5, [8]), ([], 9, [8]), ([], 10, [])] [] (by kernel_rfl) (by kernel_rfl) ?_
          simp only [wpSegs, opsOf, List.map_cons, List.map_nil, opN, List.getD_cons_zero, List.getD_cons_succ]
          obtain ⟨D0, hD0, mD0⟩ : ∃ D, w1.drew = D ∧ Mod [] w1 D := ⟨_, rfl, (Mod.refl [] w1).drew⟩
          rw [hD0]
          clear hD0
          have hMD := HM1.out.trans mD0
          have hA1 := HA.out.kept0 hMD
          have hrt := RowAt.take enc8_len (l := r.drop 4) (by rw [List.length_drop]; exact hrow4.kept0 hMD) kk (by rw [List.length_drop]; omega)
          have hrr := RowAt.rest (l := r.drop 4) (by rw [List.length_drop]; exact hrow4.kept0 hMD) kk (by rw [List.length_drop]; omega)
          rw [List.length_drop] at hrr
          have hXR : Rec8 D0 base ⟨some ⟨bb, o + 4, none⟩, kk, kk⟩ ((r.drop 4).take kk) := (HR.out.kept0 hMD).part hrt (by simp; omega) ((HR.out.isb.drop 4).take kk)
          have hRR : Rec8 D0 base ⟨some ⟨bb, o + 4, none⟩, 0, 0⟩ ((r.drop 4).drop kk) := (HR.out.kept0 hMD).part (by rw [show (r.drop 4).drop kk = [] from by rw [List.drop_drop, List.drop_eq_nil_iff]; have := HRL.out; omega]; exact .nil _ _) (by rw [List.length_drop, List.length_drop]; have := HRL.out; omega) ((HR.out.isb.drop 4).drop kk)
          obtain ⟨v', w', ra, ho', gr⟩ := own_append1 (P := Try.prog) (ty := 41) elemBs encH_len encH_one hA1.own ((HM.out.trans hMD).size) (⟨some ⟨bb, o + 4, none⟩, kk, kk⟩ : SlH) (by rw [hA1.len, ← HLN.out]; omega) (by omega)
          dsimp only [encH] at ra
          have hA2 := hA1.push hXR ho' gr
          have hRR2 : Rec8 w' base ⟨some ⟨bb, o + 4, none⟩, 0, 0⟩ ((r.drop 4).drop kk) := hRR.kept gr.mod (fun k hk cs f hc => by
            rw [mem_blk] at hk
            obtain ⟨c, h1⟩ := ownsRow_cells hA1.own hk
            rw [h1] at hc; cases hc)
          have hM2 : Mod [] w w' := Mod.into' (HM.out.trans hMD) gr.mod (fun k hk => .inl (by rw [mem_blk] at hk; exact (World.ownsRow.lt hA1.own k hk).1))
          obtain ⟨a', c', rfl⟩ : ∃ a c, v' = .slice a (ln + 1) c := by
            obtain ⟨a, c, e⟩ := ho'.lens
            refine ⟨a, c, ?_⟩
            rw [e]
            simp [hA1.len, ← HLN.out]
          have HN := Lib.hid (⟨hRR2, hA2, hM2, g, by simp; omega, by
            rw [HF.out, HST.out]
            cases partsF g ((r.drop 4).drop kk) <;> simp⟩ : Rec8 w' base ⟨some ⟨bb, o + 4, none⟩, 0, 0⟩ ((r.drop 4).drop kk) ∧ RecsAt w' base w.heap.size (.slice a' (ln + 1) c') (hs ++ [⟨some ⟨bb, o + 4, none⟩, kk, kk⟩]) (acc ++ [(r.drop 4).take kk]) ∧ Mod [] w w' ∧ ∃ f, ((r.drop 4).drop kk).length ≤ f ∧ partsF b.length b = (partsF f ((r.drop 4).drop kk)).map fun q => ((acc ++ [(r.drop 4).take kk]) ++ q.1, q.2))
          have RA := Lib.hid ra
          have HL2 := Lib.hid (show ln + 1 = (acc ++ [(r.drop 4).take kk]).length from by rw [HLN.out]; simp)
          have HRN := Lib.hid (show 0 = ((r.drop 4).drop kk).length from by rw [List.length_drop, List.length_drop]; have := HRL.out; omega)
          clear hA1 hrt hrr hXR hRR ra ho' gr hA2 hRR2 hM2 hMD mD0 hrow4
          go_wp2_with fail
          refine ⟨by first | trivial | rfl, ?_⟩
          go_wp2_with fail
          refine ⟨?ag1, ?_⟩
          case ag1 =>
            intro i hi hw
            simp only [List.mem_cons, List.not_mem_nil, or_false] at hi
            subst hi
            all_goals (simp only [opN, List.getD_cons_zero, List.getD_cons_succ, slotOf]; go_simp)
          go_wp2_with fail
          refine ⟨by first | trivial | rfl, ?_⟩
          go_wp2_with ((with_reducible refine xAppendAt RA.out rfl rfl ?_ ?_ ?_ ?_); exact rfl; exact rfl; exact rfl)
          refine ⟨?ag2, ?_⟩
          case ag2 =>
            intro i hi hw
            simp only [List.mem_cons, List.not_mem_nil, or_false] at hi
            subst hi
            all_goals (simp only [opN, List.getD_cons_zero, List.getD_cons_succ, slotOf]; go_simp)
          go_wp2_with fail
          refine ⟨by first | trivial | rfl, ?_⟩
          go_wp2_with fail
          refine ⟨?ag3, ?_⟩
          case ag3 =>
            intro i hi hw
            simp only [List.mem_cons, List.not_mem_nil, or_false] at hi
            subst hi
            all_goals (simp only [opN, List.getD_cons_zero, List.getD_cons_succ, slotOf]; go_simp)
          go_wp2_with fail
          refine ⟨by first | trivial | rfl, ?_⟩
          go_wp2_with fail
          refine ⟨again_nil, ?_⟩
          go_wp2_with fail
          refine ⟨by first | trivial | rfl, ?_⟩
          go_wp2_with fail
          go_roundw
          case rel => exact ⟨_, _, _, a', ln + 1, c', (r.drop 4).drop kk, acc ++ [(r.drop 4).take kk], _, rfl, rfl, HRN.out, HL2, by omega, HN⟩
          case measure => simp; omega
        · have hck : ¬ rc - 4 = kk := he
          go_wp2_with fail
          refine CN.out.mono ?_
          rintro e w1 ⟨rfl, m1⟩
          have HM1 := Lib.hid m1
          clear CN m1
          go_wp2_with fail
          refine wp_plan [([0, 1, 2, 6, 7, 3, 8], 4, [8]), ([], 5, [8]), ([], 9, [8]), ([], 10, [])] [] (by kernel_rfl) (by kernel_rfl) ?_
          simp only [wpSegs, opsOf, List.map_cons, List.map_nil, opN, List.getD_cons_zero, List.getD_cons_succ]
          obtain ⟨D0, hD0, mD0⟩ : ∃ D, w1.drew = D ∧ Mod [] w1 D := ⟨_, rfl, (Mod.refl [] w1).drew⟩
          rw [hD0]
          clear hD0
          have hMD := HM1.out.trans mD0
          have hA1 := HA.out.kept0 hMD
          have hrt := RowAt.take enc8_len (l := r.drop 4) (by rw [List.length_drop]; exact hrow4.kept0 hMD) kk (by rw [List.length_drop]; omega)
          have hrr := RowAt.rest (l := r.drop 4) (by rw [List.length_drop]; exact hrow4.kept0 hMD) kk (by rw [List.length_drop]; omega)
          rw [List.length_drop] at hrr
          have hXR : Rec8 D0 base ⟨some ⟨bb, o + 4, none⟩, kk, (rc - 4)⟩ ((r.drop 4).take kk) := (HR.out.kept0 hMD).part hrt (by simp; omega) ((HR.out.isb.drop 4).take kk)
          have hRR : Rec8 D0 base ⟨some ⟨bb, o + 4 + kk, none⟩, r.length - 4 - kk, (rc - 4) - kk⟩ ((r.drop 4).drop kk) := (HR.out.kept0 hMD).part (by exact hrr) (by rw [List.length_drop, List.length_drop]) ((HR.out.isb.drop 4).drop kk)
          obtain ⟨v', w', ra, ho', gr⟩ := own_append1 (P := Try.prog) (ty := 41) elemBs encH_len encH_one hA1.own ((HM.out.trans hMD).size) (⟨some ⟨bb, o + 4, none⟩, kk, (rc - 4)⟩ : SlH) (by rw [hA1.len, ← HLN.out]; omega) (by omega)
          dsimp only [encH] at ra
          have hA2 := hA1.push hXR ho' gr
          have hRR2 : Rec8 w' base ⟨some ⟨bb, o + 4 + kk, none⟩, r.length - 4 - kk, (rc - 4) - kk⟩ ((r.drop 4).drop kk) := hRR.kept gr.mod (fun k hk cs f hc => by
            rw [mem_blk] at hk
            obtain ⟨c, h1⟩ := ownsRow_cells hA1.own hk
            rw [h1] at hc; cases hc)
          have hM2 : Mod [] w w' := Mod.into' (HM.out.trans hMD) gr.mod (fun k hk => .inl (by rw [mem_blk] at hk; exact (World.ownsRow.lt hA1.own k hk).1))
          obtain ⟨a', c', rfl⟩ : ∃ a c, v' = .slice a (ln + 1) c := by
            obtain ⟨a, c, e⟩ := ho'.lens
            refine ⟨a, c, ?_⟩
            rw [e]
            simp [hA1.len, ← HLN.out]
          have HN := Lib.hid (⟨hRR2, hA2, hM2, g, by simp; omega, by
            rw [HF.out, HST.out]
            cases partsF g ((r.drop 4).drop kk) <;> simp⟩ : Rec8 w' base ⟨some ⟨bb, o + 4 + kk, none⟩, r.length - 4 - kk, (rc - 4) - kk⟩ ((r.drop 4).drop kk) ∧ RecsAt w' base w.heap.size (.slice a' (ln + 1) c') (hs ++ [⟨some ⟨bb, o + 4, none⟩, kk, (rc - 4)⟩]) (acc ++ [(r.drop 4).take kk]) ∧ Mod [] w w' ∧ ∃ f, ((r.drop 4).drop kk).length ≤ f ∧ partsF b.length b = (partsF f ((r.drop 4).drop kk)).map fun q => ((acc ++ [(r.drop 4).take kk]) ++ q.1, q.2))
          have RA := Lib.hid ra
          have HL2 := Lib.hid (show ln + 1 = (acc ++ [(r.drop 4).take kk]).length from by rw [HLN.out]; simp)
          have HRN := Lib.hid (show r.length - 4 - kk = ((r.drop 4).drop kk).length from by rw [List.length_drop, List.length_drop])
          clear hA1 hrt hrr hXR hRR ra ho' gr hA2 hRR2 hM2 hMD mD0 hrow4
          go_wp2_with fail
          refine ⟨by first | trivial | rfl, ?_⟩
          go_wp2_with fail
          refine ⟨?ag1, ?_⟩
          case ag1 =>
            intro i hi hw
            simp only [List.mem_cons, List.not_mem_nil, or_false] at hi
            subst hi
            all_goals (simp only [opN, List.getD_cons_zero, List.getD_cons_succ, slotOf]; go_simp)
          go_wp2_with fail
          refine ⟨by first | trivial | rfl, ?_⟩
          go_wp2_with ((with_reducible refine xAppendAt RA.out rfl rfl ?_ ?_ ?_ ?_); exact rfl; exact rfl; exact rfl)
          refine ⟨?ag2, ?_⟩
          case ag2 =>
            intro i hi hw
            simp only [List.mem_cons, List.not_mem_nil, or_false] at hi
            subst hi
            all_goals (simp only [opN, List.getD_cons_zero, List.getD_cons_succ, slotOf]; go_simp)
          go_wp2_with fail
          refine ⟨by first | trivial | rfl, ?_⟩
          go_wp2_with fail
          refine ⟨?ag3, ?_⟩
          case ag3 =>
            intro i hi hw
            simp only [List.mem_cons, List.not_mem_nil, or_false] at hi
            subst hi
            all_goals (simp only [opN, List.getD_cons_zero, List.getD_cons_succ, slotOf]; go_simp)
          go_wp2_with fail
          refine ⟨by first | trivial | rfl, ?_⟩
          go_wp2_with fail
          refine ⟨again_nil, ?_⟩
          go_wp2_with fail
          refine ⟨by first | trivial | rfl, ?_⟩
          go_wp2_with fail
          go_roundw
          case rel => exact ⟨_, _, _, a', ln + 1, c', (r.drop 4).drop kk, acc ++ [(r.drop 4).take kk], _, rfl, rfl, HRN.out, HL2, by omega, HN⟩
          case measure => simp; omega
    · obtain ⟨hR, hA, hM, f, hf, hF⟩ := hS.out
      have d4 : decide (4 ≤ (r.length : Int)) = false := decide_eq_false (by omega)
      have hFB : partsF b.length b = some (acc, decide (r.length = 0)) := by
        rw [hF]
        cases f with
        | zero => simp [partsF]
        | succ f => unfold partsF; rw [if_neg h4]; simp
      have HA := Lib.hid hA
      have HM := Lib.hid hM
      have HFB := Lib.hid hFB
      have HYES := Lib.hid (fun (h0 : r.length = 0) (h1 : (ln : Int) = n) (h2 : 0 < n) => PartsPost.yes (base := base) (n := n) hM (show partsP b n = some acc from by unfold partsP; rw [hFB]; dsimp only; rw [if_pos ⟨decide_eq_true h0, by have := HLN.out; omega, h2⟩]) hA)
      have HNO := Lib.hid (fun (h : ¬ (r.length = 0 ∧ (ln : Int) = n ∧ 0 < n)) => PartsPost.no (base := base) (lv := .slice la ln lc) (n := n) hM (show partsP b n = none from by unfold partsP; rw [hFB]; dsimp only; rw [if_neg (fun hh => h ⟨of_decide_eq_true hh.1, by have := HLN.out; omega, hh.2.2⟩)]))
      clear hS hR hF hA hM hFB
      by_cases z0 : r.length = 0
      · have dz : ((r.length : Int) == 0) = true := by simpa using z0
        have dz' : decide ((r.length : Int) = 0) = true := decide_eq_true (by omega)
        by_cases z1 : (ln : Int) = n
        · have dy : ((ln : Int) == n) = true := by simpa using z1
          have dy' : decide ((ln : Int) = n) = true := decide_eq_true z1
          by_cases z2 : 0 < n
          · have dx : decide (0 < n) = true := decide_eq_true z2
            have HE := Lib.hid (HYES.out z0 z1 z2)
            clear HYES HNO z0 z1
            go_wp2_with fail
            go_ret2
            exact ⟨_, _, rfl, HE.out⟩
          · have dx : decide (0 < n) = false := decide_eq_false z2
            have HE := Lib.hid (HNO.out (fun h => z2 h.2.2))
            clear HYES HNO z0 z1
            go_wp2_with fail
            go_ret2
            exact ⟨_, _, rfl, HE.out⟩
        · have dy : ((ln : Int) == n) = false := by simpa using z1
          have dy' : decide ((ln : Int) = n) = false := decide_eq_false z1
          have HE := Lib.hid (HNO.out (fun h => z1 h.2.1))
          clear HYES HNO z0 z1
          go_wp2_with fail
          go_ret2
          exact ⟨_, _, rfl, HE.out⟩
      · have dz : ((r.length : Int) == 0) = false := by simpa using z0
        have dz' : decide ((r.length : Int) = 0) = false := decide_eq_false (by omega)
        have HE := Lib.hid (HNO.out (fun h => z0 h.1))
        clear HYES HNO
        go_wp2_with fail
        go_ret2
        exact ⟨_, _, rfl, HE.out⟩
end Go.Proofs.Ytnjfgbbdfdoccaa
