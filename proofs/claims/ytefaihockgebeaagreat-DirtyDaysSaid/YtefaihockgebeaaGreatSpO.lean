/- Spans: both. -/
import Derived.Test.YtefaihockgebeaaGreatSpN
namespace Go.Proofs.YtefaihockgebeaaGreat
open Go.RowKit Go.ChangeMaps Go.Deep
set_option linter.unusedSimpArgs false
set_option linter.unusedVariables false
set_option maxRecDepth 20000

theorem Mod.newer {w a b : World} {ks : List Nat} (h : Mod [] w a) (k : Mod ks a b) (hk : ∀ x ∈ ks, w.heap.size ≤ x) : Mod [] w b :=
  ⟨k.os.trans h.os, k.tape.trans h.tape, k.output.trans h.output, Nat.le_trans h.size k.size, fun i hi hn =>
    (k.block i (Nat.lt_of_lt_of_le hi h.size) (fun hm => by have := hk i hm; omega)).trans (h.block i hi hn)⟩
theorem Mod.one {w w' : World} {b : Nat} {ks : List Nat} (h : Mod [b] w w') (hb : b ∈ ks) : Mod ks w w' := h.mono (by simpa using hb)
theorem Mod.newerK {w a b : World} {ks js : List Nat} (h : Mod ks w a) (k : Mod js a b) (hk : ∀ x ∈ js, w.heap.size ≤ x) : Mod ks w b :=
  ⟨k.os.trans h.os, k.tape.trans h.tape, k.output.trans h.output, Nat.le_trans h.size k.size, fun i hi hn =>
    (k.block i (Nat.lt_of_lt_of_le hi h.size) (fun hm => by have := hk i hm; omega)).trans (h.block i hi hn)⟩
def Away (B S b : Nat) : Prop := b = B ∨ b = B + 1 ∨ S ≤ b
/-- what is looked at at each pair -/
def pick2 (op : Bool → Bool → Bool) (A B : List Sp) (x : Sp) : Bool := op (inB A x.1) (inB B x.1)
/-- what is left of a row answers for all days from here on -/
def Rest (E : List Int) (n : Nat) (A A' : List Sp) : Prop := Right 0 A' ∧ A'.length ≤ A.length ∧ ∀ d, (∀ k (h : k < E.length), k < n → E[k] ≤ d) → inB A' d = inB A d
theorem dropTo_len (l : List Sp) (d : Int) : (dropTo l d).length ≤ l.length := by
  induction l with
  | nil => exact Nat.le_refl _
  | cons x l ih =>
    rw [dropTo_cons]
    split
    · simp only [List.length_cons]; omega
    · exact Nat.le_refl _
theorem Rest.step {E : List Int} (hE : Asc E) {n : Nat} (hn : n < E.length) {A A' : List Sp} (h : Rest E n A A') : headIn (dropTo A' E[n]) E[n] = inB A E[n] ∧ Rest E (n + 1) A (dropTo A' E[n]) := by
  have hlow : ∀ k (h : k < E.length), k < n → E[k] ≤ E[n] := fun k hk hkn => by
    have := List.pairwise_iff_getElem.1 hE k n hk hn hkn
    omega
  refine ⟨by rw [headIn_eq h.1, h.2.2 _ hlow], dropTo_right h.1 _, Nat.le_trans (dropTo_len _ _) h.2.1, fun d hd => ?_⟩
  have h1 := hd n hn (by omega)
  rw [dropTo_in _ h1]
  exact h.2.2 d fun k hk hkn => hd k hk (by omega)
set_option maxHeartbeats 8000000 in
theorem spBoth_any (g : Nat) (op : Bool → Bool → Bool) (hop : op false false = false) (eg : ∀ args w, (callFunc g args).run Tryz.prog w = .ok (.enter g args) w)
    (hg : ∀ x y W, Calls Tryz.prog g #[.bool x, .bool y] W fun e w' => e = .returned (.bool (op x y)) ∧ w' = W) (va vb : Value) (a b : List Sp) (w : World) (ha : SpansAt w va a) (hb : SpansAt w vb b) (hla : a.length ≤ 100000) (hlb : b.length ≤ 100000) :
    Calls Tryz.prog 44 #[va, vb, .func (.func g) #[] #[]] w fun e w' => ∃ v' out, e = .returned v' ∧ OwnS w' w.heap.size v' out ∧ Mod [] w w' ∧ IsBoth op a b out ∧ out.length ≤ 2 * (a.length + b.length) := by
  obtain ⟨aa, ca, rfl⟩ := ha.form
  obtain ⟨ab, cb, rfl⟩ := hb.form
  have hmA := ((((Mod.refl [] w).alloc (.cells #[(Value.slice aa a.length ca)] 30)).alloc (.cells #[(Value.slice ab b.length cb)] 30)).drew)
  have HA0 := Lib.hid ((ha.kept0 hmA))
  have HB0 := Lib.hid ((hb.kept0 hmA))
  have HMA := Lib.hid hmA
  have HOP := Lib.hid hop
  have HG := Lib.hid hg
  have HX1 := Lib.hid (show (((w.alloc (.cells #[(Value.slice aa a.length ca)] 30)).alloc (.cells #[(Value.slice ab b.length cb)] 30)).drew).heap[w.heap.size]? = some (.cells #[(Value.slice aa a.length ca)] 30 (0, 0)) by
    show ((w.alloc (.cells #[(Value.slice aa a.length ca)] 30)).alloc (.cells #[(Value.slice ab b.length cb)] 30)).heap[w.heap.size]? = _
    rw [heap_alloc_ne _ _ (by simp), heap_alloc_new w _])
  have HX2 := Lib.hid (show (((w.alloc (.cells #[(Value.slice aa a.length ca)] 30)).alloc (.cells #[(Value.slice ab b.length cb)] 30)).drew).heap[w.heap.size + 1]? = some (.cells #[(Value.slice ab b.length cb)] 30 (0, 0)) by
    have := heap_alloc_new (w.alloc (.cells #[(Value.slice aa a.length ca)] 30)) (.cells #[(Value.slice ab b.length cb)] 30)
    rw [show (w.alloc (.cells #[(Value.slice aa a.length ca)] 30)).heap.size = w.heap.size + 1 by simp] at this
    exact this)
  have HSZ := Lib.hid (show (((w.alloc (.cells #[(Value.slice aa a.length ca)] 30)).alloc (.cells #[(Value.slice ab b.length cb)] 30)).drew).heap.size = w.heap.size + 2 by simp)
  have HO1 := Lib.hid (spOf_any (Value.slice aa a.length ca) a _ HA0.out (by omega))
  clear ha hb hop hg hmA
  go_enter Tryz.func44, Tryz.ntmps44
  go_wp2_with fail
  refine wp_plan [([0, 2], 1, [2]), ([], 3, []), ([], 4, []), ([], 5, [])] [] (by kernel_rfl) (by kernel_rfl) ?_
  simp only [wpSegs, opsOf, List.map_cons, List.map_nil, opN, List.getD_cons_zero, List.getD_cons_succ]
  go_wp2_with fail
  refine ⟨by first | trivial | rfl, ?_⟩
  go_wp2_with fail
  refine HO1.out.mono ?_
  rintro e w1 ⟨v1, A, rfl, o1, m1, f1, l1⟩
  obtain ⟨a1, c1, rfl⟩ := o1.row.form
  have HO2 := Lib.hid (spOf_any (Value.slice ab b.length cb) b w1 (HB0.out.kept0 m1) (by omega))
  have hy2 := m1.heap HX2.out (by simp)
  have qb := cell_blk hy2 0
  simp at qb
  have HOO := Lib.hid o1
  have HM1 := Lib.hid m1
  have HF1 := Lib.hid f1
  have HL1 := Lib.hid l1
  clear o1 m1 f1 l1 hy2
  go_wp2_with fail
  refine ⟨?ag1, ?_⟩
  case ag1 =>
    intro i hi hw
    simp only [List.mem_cons, List.not_mem_nil, or_false] at hi
    subst hi
    all_goals (simp only [opN, List.getD_cons_zero, List.getD_cons_succ, slotOf]; go_simp)
  go_wp2_with fail
  refine ⟨by first | trivial | rfl, ?_⟩
  go_wp2_with fail
  refine HO2.out.mono ?_
  rintro e w2 ⟨v2, B, rfl, o2, m2, f2, l2⟩
  obtain ⟨a2, c2, rfl⟩ := o2.row.form
  have HM12 := Lib.hid (HM1.out.trans m2)
  have hx1 := HM12.out.heap HX1.out (by simp)
  have hx2 := HM12.out.heap HX2.out (by simp)
  have hb1 : ∀ q, (Value.slice a1 A.length c1).ownBlock = some q → w.heap.size + 2 ≤ q := fun q hq => by have := (World.ownsRow.lt HOO.out q hq).1; rw [HSZ.out] at this; exact this
  have hb2 : ∀ q, (Value.slice a2 B.length c2).ownBlock = some q → w.heap.size + 2 ≤ q := fun q hq => by
    have h1 := (World.ownsRow.lt o2 q hq).1
    have h2 := HM1.out.size
    rw [HSZ.out] at h2
    omega
  have hlt2 : w.heap.size + 2 ≤ w2.heap.size := by have h2 := HM12.out.size; rw [HSZ.out] at h2; exact h2
  have hnK : ∀ v : Value, (∀ q, v.ownBlock = some q → w.heap.size + 2 ≤ q) → ∀ b ∈ [w.heap.size, w.heap.size + 1], v.ownBlock ≠ some b := fun v hv b hb e => by
    have := hv b e
    simp at hb
    omega
  have hms : Mod [w.heap.size, w.heap.size + 1] w2 ((w2.setCell ⟨w.heap.size, 0, none⟩ (Value.slice a1 A.length c1)).setCell ⟨w.heap.size + 1, 0, none⟩ (Value.slice a2 B.length c2)) := (((Mod.refl _ w2).setCell (by simp) (Value.slice a1 A.length c1)).setCell (by simp) (Value.slice a2 B.length c2))
  have hy1 := heap_setCell_blk hx1 0 (Value.slice a1 A.length c1)
  have hy1' : ((w2.setCell ⟨w.heap.size, 0, none⟩ (Value.slice a1 A.length c1)).setCell ⟨w.heap.size + 1, 0, none⟩ (Value.slice a2 B.length c2)).heap[w.heap.size]? = some (.cells #[(Value.slice a1 A.length c1)] 30 (0, 0)) := by
    rw [heap_setCell_ne _ _ _ (by show w.heap.size ≠ w.heap.size + 1; omega)]
    simpa using hy1
  have hy2' : ((w2.setCell ⟨w.heap.size, 0, none⟩ (Value.slice a1 A.length c1)).setCell ⟨w.heap.size + 1, 0, none⟩ (Value.slice a2 B.length c2)).heap[w.heap.size + 1]? = some (.cells #[(Value.slice a2 B.length c2)] 30 (0, 0)) := by
    have h0 : (w2.setCell ⟨w.heap.size, 0, none⟩ (Value.slice a1 A.length c1)).heap[w.heap.size + 1]? = some (.cells #[(Value.slice ab b.length cb)] 30 (0, 0)) := by
      rw [heap_setCell_ne _ _ _ (by show w.heap.size + 1 ≠ w.heap.size; omega)]; exact hx2
    have := heap_setCell_blk h0 0 (Value.slice a2 B.length c2)
    simpa using this
  have hr1 : SpansAt ((w2.setCell ⟨w.heap.size, 0, none⟩ (Value.slice a1 A.length c1)).setCell ⟨w.heap.size + 1, 0, none⟩ (Value.slice a2 B.length c2)) (Value.slice a1 A.length c1) A := (HOO.out.row.kept0 m2).kept hms (hnK (Value.slice a1 A.length c1) hb1)
  have hr2 : SpansAt ((w2.setCell ⟨w.heap.size, 0, none⟩ (Value.slice a1 A.length c1)).setCell ⟨w.heap.size + 1, 0, none⟩ (Value.slice a2 B.length c2)) (Value.slice a2 B.length c2) B := o2.row.kept hms (hnK (Value.slice a2 B.length c2) hb2)
  have HBX1 : Hid (BoxAt ((w2.setCell ⟨w.heap.size, 0, none⟩ (Value.slice a1 A.length c1)).setCell ⟨w.heap.size + 1, 0, none⟩ (Value.slice a2 B.length c2)) w.heap.size A (Away w.heap.size w2.heap.size)) := Lib.hid ⟨(Value.slice a1 A.length c1), hy1', hr1, fun b hb e => by rcases hb with hb | hb | hb <;> (have h1 := hb1 b e; have h2 := (World.ownsRow.lt HOO.out b e).2; have h3 := m2.size; omega)⟩
  have HBX2 : Hid (BoxAt ((w2.setCell ⟨w.heap.size, 0, none⟩ (Value.slice a1 A.length c1)).setCell ⟨w.heap.size + 1, 0, none⟩ (Value.slice a2 B.length c2)) (w.heap.size + 1) B (Away w.heap.size w2.heap.size)) := Lib.hid ⟨(Value.slice a2 B.length c2), hy2', hr2, fun b hb e => by rcases hb with hb | hb | hb <;> (have h1 := hb2 b e; have h2 := (World.ownsRow.lt o2 b e).2; omega)⟩
  have HM3 := Lib.hid ((HMA.out.trans HM12.out).newer hms (by simp))
  have HSZ3 := Lib.hid (show ((w2.setCell ⟨w.heap.size, 0, none⟩ (Value.slice a1 A.length c1)).setCell ⟨w.heap.size + 1, 0, none⟩ (Value.slice a2 B.length c2)).heap.size = w2.heap.size by simp)
  have hm4 := (Mod.refl [] ((w2.setCell ⟨w.heap.size, 0, none⟩ (Value.slice a1 A.length c1)).setCell ⟨w.heap.size + 1, 0, none⟩ (Value.slice a2 B.length c2))).alloc (.cells #[(Value.slice a1 A.length c1), (Value.slice a2 B.length c2)] 30)
  have HPA : Hid (PartsAt (((w2.setCell ⟨w.heap.size, 0, none⟩ (Value.slice a1 A.length c1)).setCell ⟨w.heap.size + 1, 0, none⟩ (Value.slice a2 B.length c2)).alloc (.cells #[(Value.slice a1 A.length c1), (Value.slice a2 B.length c2)] 30)) (Value.slice (some ⟨w2.heap.size, 0, none⟩) 2 2) [(Value.slice a1 A.length c1), (Value.slice a2 B.length c2)] [A, B]) := Lib.hid ⟨.at_ _ 0 2 [(Value.slice a1 A.length c1), (Value.slice a2 B.length c2)] (by simp) (fun j u hu => by
    have hh := heap_alloc_new ((w2.setCell ⟨w.heap.size, 0, none⟩ (Value.slice a1 A.length c1)).setCell ⟨w.heap.size + 1, 0, none⟩ (Value.slice a2 B.length c2)) (.cells #[(Value.slice a1 A.length c1), (Value.slice a2 B.length c2)] 30)
    rw [HSZ3.out] at hh
    rw [Nat.zero_add, cell_blk hh]
    simpa [flat, encV] using hu), rfl, fun j h1 h2 => by
      match j, h1, h2 with
      | 0, _, _ => exact hr1.kept0 hm4
      | 1, _, _ => exact hr2.kept0 hm4⟩
  have HEN := Lib.hid (spEnds_any _ _ _ _ HPA.out (by have := HL1.out; simp [sumLen]; omega) (by simp))
  have HM4 := Lib.hid (HM3.out.trans hm4)
  have HBY1 := Lib.hid (HBX1.out.kept0 hm4)
  have HBY2 := Lib.hid (HBX2.out.kept0 hm4)
  have HSZ4 := Lib.hid (show w.heap.size + 2 ≤ (((w2.setCell ⟨w.heap.size, 0, none⟩ (Value.slice a1 A.length c1)).setCell ⟨w.heap.size + 1, 0, none⟩ (Value.slice a2 B.length c2)).alloc (.cells #[(Value.slice a1 A.length c1), (Value.slice a2 B.length c2)] 30)).heap.size by have := hm4.size; rw [HSZ3.out] at this; omega)
  have HSZ24 := Lib.hid (show w2.heap.size ≤ (((w2.setCell ⟨w.heap.size, 0, none⟩ (Value.slice a1 A.length c1)).setCell ⟨w.heap.size + 1, 0, none⟩ (Value.slice a2 B.length c2)).alloc (.cells #[(Value.slice a1 A.length c1), (Value.slice a2 B.length c2)] 30)).heap.size by have := hm4.size; rw [HSZ3.out] at this; omega)
  have HF2 := Lib.hid f2
  have HL2 := Lib.hid l2
  have p1 := cell_blk hx1 0
  have p2 := cell_blk hx2 0
  have p3 := frozen_blk hx1 0
  have p4 := frozen_blk hx2 0
  have p5 := cell_blk hy1' 0
  have p6 := cell_blk hy2' 0
  simp at p1 p2
  simp only [List.getElem?_toArray, List.getElem?_cons_zero] at p5 p6
  clear o2 m2 f2 l2 hx1 hx2 hb1 hb2 hnK hms hy1 hy1' hy2' hr1 hr2 hm4 HX1 HX2 HBX1 HBX2 HPA
  go_wp2_with fail
  refine ⟨again_nil, ?_⟩
  go_wp2_with fail
  refine ⟨by first | trivial | rfl, ?_⟩
  go_wp2_with fail
  refine ⟨again_nil, ?_⟩
  go_wp2_with fail
  refine ⟨by first | trivial | rfl, ?_⟩
  go_wp2_with fail
  refine ⟨again_nil, ?_⟩
  go_wp2_with fail
  refine ⟨by first | trivial | rfl, ?_⟩
  go_wp2_with fail
  refine HEN.out.mono ?_
  rintro e w4 ⟨v7, rfl, o7, m7⟩
  have hb7 : ∀ q, v7.ownBlock = some q → w.heap.size + 2 ≤ q := fun q hq => Nat.le_trans HSZ4.out (World.ownsRow.lt o7 q hq).1
  have hn7 : ∀ b ∈ [w.heap.size, w.heap.size + 1], v7.ownBlock ≠ some b := fun b hb e => by
    have := hb7 b e
    simp at hb
    omega
  have HN7 := Lib.hid hn7
  have HE7 := Lib.hid o7.row
  have HM5 := Lib.hid (HM4.out.trans m7)
  have HC1 := Lib.hid (HBY1.out.kept0 m7)
  have HC2 := Lib.hid (HBY2.out.kept0 m7)
  have HS7 := Lib.hid (show w.heap.size + 2 ≤ w4.heap.size from Nat.le_trans HSZ4.out m7.size)
  have HS27 := Lib.hid (show w2.heap.size ≤ w4.heap.size from Nat.le_trans HSZ24.out m7.size)
  have HASC := Lib.hid (asc_onceS (endsLL [A, B]))
  have HMA' := Lib.hid (show ∀ z ∈ endsL A, z ∈ onceS (endsLL [A, B]) from fun z hz => mem_onceS.2 (by simp [endsLL, hz]))
  have HMB' := Lib.hid (show ∀ z ∈ endsL B, z ∈ onceS (endsLL [A, B]) from fun z hz => mem_onceS.2 (by simp [endsLL, hz]))
  have hEL := onceS_len (endsLL [A, B])
  have hEL2 := endsLL_len [A, B]
  have hA1 := HL1.out
  have hB1 := HL2.out
  have hEl : (onceS (endsLL [A, B])).length ≤ 1000000 ∧ (onceS (endsLL [A, B])).length ≤ 2 * (a.length + b.length) := by
    simp only [sumLen, List.map_cons, List.map_nil, List.foldr_cons, List.foldr_nil] at hEL2
    omega
  have HELn := Lib.hid hEl.2
  have hEl1 := hEl.1
  clear hEl hEL hEL2 hA1 hB1 hb7 hn7 o7 m7 HEN p1 p2 p3 p4 p5 p6 HBY1 HBY2
  generalize onceS (endsLL [A, B]) = E at HE7 HASC HMA' HMB' HELn hEl1
  obtain ⟨a7, c7, rfl⟩ := HE7.out.form
  go_wp2_with fail
  go_loopw [8, 9] (fun s8 s9 wr => ∃ n : Nat, (n + 1 ≤ E.length ∨ n = 0) ∧ s9 = .int .i64 ((n : Int) + 1) ∧ Hid (OwnS wr w4.heap.size s8 (((pairs E).take n).filter (pick2 op A B))) ∧ Hid (Mod [w.heap.size, w.heap.size + 1] w4 wr) ∧ Hid (∃ A', BoxAt wr w.heap.size A' (Away w.heap.size w2.heap.size) ∧ Rest E n A A') ∧ Hid (∃ B', BoxAt wr (w.heap.size + 1) B' (Away w.heap.size w2.heap.size) ∧ Rest E n B B')) (fun _ s9 _ => E.length - (intOf s9).toNat)
  case atStart =>
    exact ⟨0, .inr rfl, rfl, Lib.hid (OwnR.nil_ _ _), Lib.hid (Mod.refl _ _), Lib.hid ⟨A, HC1.out, HF1.out.1, Nat.le_refl _, fun _ _ => rfl⟩, Lib.hid ⟨B, HC2.out, HF2.out.1, Nat.le_refl _, fun _ _ => rfl⟩⟩
  case round =>
    obtain ⟨n, hn, rfl, hown, hM, hXA, hXB⟩ := hrel
    by_cases hlt : n + 1 < E.length
    · obtain ⟨b0, o0, rfl, hc0, q0⟩ := (HE7.out.kept hM.out HN7.out).get1 (show n < E.length by omega)
      obtain ⟨b0', o0', e0, _, q1⟩ := (HE7.out.kept hM.out HN7.out).get1 hlt
      simp only [Option.some.injEq, Addr.mk.injEq, and_true] at e0
      obtain ⟨rfl, rfl⟩ := e0
      obtain ⟨A', hba, hra⟩ := hXA.out
      obtain ⟨B', hbb, hrb⟩ := hXB.out
      have hsa := hra.step HASC.out (show n < E.length by omega)
      have hsb := hrb.step HASC.out (show n < E.length by omega)
      have hp : (pairs E)[n]? = some (E[n], E[n + 1]) := pairs_get E n hlt
      have hpl : n < (pairs E).length := by rw [pairs_length]; omega
      have hpe : (pairs E)[n] = (E[n], E[n + 1]) := by
        rw [List.getElem?_eq_getElem hpl] at hp
        exact Option.some.inj hp
      have hT : (pairs E).take (n + 1) = (pairs E).take n ++ [(E[n], E[n + 1])] := by rw [List.take_succ_eq_append_getElem hpl, hpe]
      have HFT := Lib.hid (show ∀ z, op (inB A E[n]) (inB B E[n]) = z → ((pairs E).take (n + 1)).filter (pick2 op A B) = ((pairs E).take n).filter (pick2 op A B) ++ (if z then [(E[n], E[n + 1])] else []) from fun z hz => by
        rw [hT, List.filter_append]
        have : pick2 op A B (E[n], E[n + 1]) = z := hz
        cases z with
        | false => simp [this]
        | true => simp [this])
      have HLN := Lib.hid (show (((pairs E).take n).filter (pick2 op A B)).length < 1073741824 by
        have h2 := List.length_filter_le (pick2 op A B) ((pairs E).take n)
        have h3 := List.length_take_le n (pairs E)
        omega)
      have hal : A'.length ≤ 1000000 := by have := hra.2.1; have := HL1.out; omega
      have hbl : B'.length ≤ 1000000 := by have := hrb.2.1; have := HL2.out; omega
      have HI1 := Lib.hid (spInside_any w.heap.size A' E[n] wr.drew (Away w.heap.size w2.heap.size) (.inl rfl) (hba.kept0 ((Mod.refl [] wr).drew)) hal)
      have HI2 := Lib.hid (fun W (m : Mod [w.heap.size] wr.drew W) => spInside_any (w.heap.size + 1) B' E[n] W (Away w.heap.size w2.heap.size) (.inr (.inl rfl)) ((hbb.kept0 ((Mod.refl [] wr).drew)).kept m (by simp) (by intro b hb; rw [List.mem_singleton] at hb; exact .inl hb)) hbl)
      rw [hsa.1] at HI1
      rw [hsb.1] at HI2
      have HRA := Lib.hid hsa.2
      have HRB := Lib.hid hsb.2
      have HN8 := Lib.hid (show ∀ b ∈ [w.heap.size, w.heap.size + 1], (Value.slice (some ⟨b0, o0, none⟩) E.length c7).ownBlock ≠ some b from HN7.out)
      have hb0 : b0 ≠ w.heap.size ∧ b0 ≠ w.heap.size + 1 := ⟨fun e => HN8.out w.heap.size (by simp) (by rw [e]; rfl), fun e => HN8.out (w.heap.size + 1) (by simp) (by rw [e]; rfl)⟩
      have HQ := Lib.hid (op (inB A E[n]) (inB B E[n])).eq_false_or_eq_true
      have HCK := Lib.hid (fun W (m : Mod [w.heap.size, w.heap.size + 1] wr W) (k : Nat) (u : Value) (h : wr.cell? ⟨b0, k, none⟩ = some u) => show W.cell? ⟨b0, k, none⟩ = some u from by
        have hlt : b0 < wr.heap.size := by
          apply Classical.byContradiction
          intro hge
          simp only [World.cell?] at h
          rw [Array.getElem?_eq_none (by omega)] at h
          cases h
        rw [← h]
        exact World.cell?_of_block (m.block _ hlt (by simp; exact hb0)))
      have HNE := Lib.hid hb0
      generalize E[n] = p at q0 HFT HI1 HI2 HRA HRB HQ
      generalize E[n + 1] = q at q1 HFT
      clear hba hra hbb hrb hsa hsb hp hpl hpe hT hb0 hn
      go_wp2_with fail
      refine wp_plan [([0, 1, 2, 7, 8, 3, 9, 4, 10, 5, 11], 6, [9, 10, 11]), ([], 12, []), ([], 13, [])] [] (by kernel_rfl) (by kernel_rfl) ?_
      simp only [wpSegs, opsOf, List.map_cons, List.map_nil, opN, List.getD_cons_zero, List.getD_cons_succ]
      go_wp2_with fail
      refine ⟨by first | trivial | rfl, ?_⟩
      go_wp2_with fail
      refine HI1.out.mono ?_
      rintro e w5 ⟨rfl, x5, m5⟩
      have hm5 : Mod [w.heap.size, w.heap.size + 1] wr w5 := ((Mod.refl _ wr).drew).trans (m5.mono (by simp))
      have q5 := HCK.out w5 hm5 _ _ q0
      have HI3 := Lib.hid (HI2.out w5 m5)
      have HX5 := Lib.hid x5
      have HM6 := Lib.hid hm5
      clear x5 m5 hm5 HI2 HI1
      go_wp2_with fail
      refine ⟨?ag2, ?_⟩
      case ag2 =>
        intro i hi hw
        simp only [List.mem_cons, List.not_mem_nil, or_false] at hi
        rcases hi with rfl | rfl | rfl
        all_goals (simp only [opN, List.getD_cons_zero, List.getD_cons_succ, slotOf]; go_simp; try first | (intro hh; exfalso; omega) | (simp [IntKind.wrap, IntKind.bits, IntKind.signed]; omega))
      go_wp2_with fail
      refine ⟨by first | trivial | rfl, ?_⟩
      go_wp2_with fail
      refine HI3.out.mono ?_
      rintro e w6 ⟨rfl, x6, m6⟩
      have hm6 : Mod [w.heap.size, w.heap.size + 1] wr w6 := HM6.out.trans (m6.mono (by simp))
      have q6 := HCK.out w6 hm6 _ _ q0
      have q7 := HCK.out w6 hm6 _ _ q1
      have HX6 := Lib.hid (HX5.out.kept m6 (by simp) (by intro b hb; rw [List.mem_singleton] at hb; exact .inr (.inl hb)))
      have HY6 := Lib.hid x6
      have HM7 := Lib.hid hm6
      have hok : OwnS w6 w4.heap.size u8 (((pairs E).take n).filter (pick2 op A B)) := hown.out.kept hm6 (fun b hb => by
        have h1 := (World.ownsRow.lt hown.out b hb).1
        have h2 := HS7.out
        simp
        omega)
      have HOK := Lib.hid hok
      clear x6 m6 hm6 hok HI3 HX5 HM6
      rcases HQ.out with hq | hq
      · have HG2 := Lib.hid (fun W => by have := HG.out (inB A p) (inB B p) W; rw [hq] at this; exact this)
        have HFR := Lib.hid (HFT.out true hq)
        obtain ⟨v8, w8, g1, g2, g3⟩ := own_append1 elemSpan encS_len encS_one (HOK.out.kept0 ((Mod.refl [] w6).drew)) (Nat.le_trans hM.out.size (Nat.le_trans HM7.out.size ((Mod.refl [] w6).drew).size)) (ty := 30) (p, q) HLN.out (by omega)
        have G1 := Lib.hid g1
        have G2 := Lib.hid (show OwnS w8 w4.heap.size v8 (((pairs E).take (n + 1)).filter (pick2 op A B)) by rw [HFR.out]; exact g2)
        have hgw : ∀ x ∈ blk u8, w4.heap.size ≤ x := fun x hx => (World.ownsRow.lt hown.out x (mem_blk.1 hx)).1
        have hg68 : Mod (blk u8) w6 w8 := ((Mod.refl _ w6).drew).trans g3.mod
        have G3 := Lib.hid (show Mod [w.heap.size, w.heap.size + 1] w4 w8 from (hM.out.trans HM7.out).newerK hg68 hgw)
        have haw : ∀ x ∈ blk u8, Away w.heap.size w2.heap.size x := fun x hx => .inr (.inr (Nat.le_trans HS27.out (hgw x hx)))
        have HX8 := Lib.hid (show BoxAt w8 w.heap.size (dropTo A' p) (Away w.heap.size w2.heap.size) from HX6.out.kept hg68 (fun hx => by have := hgw _ hx; have := HS7.out; omega) haw)
        have HY8 := Lib.hid (show BoxAt w8 (w.heap.size + 1) (dropTo B' p) (Away w.heap.size w2.heap.size) from HY6.out.kept hg68 (fun hx => by have := hgw _ hx; have := HS7.out; omega) haw)
        clear g1 g2 g3 hq HQ HFT hgw hg68 haw
        go_wp2_with fail
        refine ⟨again_nil, ?_⟩
        go_wp2_with fail
        refine ⟨by first | trivial | rfl, ?_⟩
        go_wp2_with fail
        refine (HG2.out _).mono ?_
        rintro e w7 ⟨rfl, rfl⟩
        go_wp2_with fail
        refine ⟨again_nil, ?_⟩
        go_wp2_with fail
        refine ⟨by first | trivial | rfl, ?_⟩
        go_wp2_with fail
        refine wp_plan [([0, 1, 2, 6, 7, 3, 8, 4, 9, 5], 10, []), ([], 11, []), ([], 12, []), ([], 13, [])] [] (by kernel_rfl) (by kernel_rfl) ?_
        simp only [wpSegs, opsOf, List.map_cons, List.map_nil, opN, List.getD_cons_zero, List.getD_cons_succ]
        go_wp2_with fail
        refine ⟨by first | trivial | rfl, ?_⟩
        go_wp2_with fail
        refine ⟨again_nil, ?_⟩
        go_wp2_with fail
        refine ⟨by first | trivial | rfl, ?_⟩
        go_wp2_with fail
        refine ⟨again_nil, ?_⟩
        go_wp2_with fail
        refine ⟨by first | trivial | rfl, ?_⟩
        go_wp2_with ((with_reducible refine xAppendAt G1.out rfl rfl ?_ ?_ ?_ ?_); exact rfl; exact rfl; exact rfl)
        refine ⟨again_nil, ?_⟩
        go_wp2_with fail
        refine ⟨by first | trivial | rfl, ?_⟩
        go_wp2_with fail
        refine ⟨again_nil, ?_⟩
        go_wp2_with fail
        refine ⟨by first | trivial | rfl, ?_⟩
        go_wp2_with fail
        go_roundw
        case rel => exact ⟨n + 1, .inl (by omega), by go_num, G2, G3, Lib.hid ⟨_, HX8.out, HRA.out⟩, Lib.hid ⟨_, HY8.out, HRB.out⟩⟩
        case measure => simp [intOf]; omega
      · have HG2 := Lib.hid (fun W => by have := HG.out (inB A p) (inB B p) W; rw [hq] at this; exact this)
        have HFR := Lib.hid (HFT.out false hq)
        have G2 := Lib.hid (show OwnS w6 w4.heap.size u8 (((pairs E).take (n + 1)).filter (pick2 op A B)) by rw [HFR.out]; simpa using HOK.out)
        clear hq HQ HFT
        go_wp2_with fail
        refine ⟨again_nil, ?_⟩
        go_wp2_with fail
        refine ⟨by first | trivial | rfl, ?_⟩
        go_wp2_with fail
        refine (HG2.out _).mono ?_
        rintro e w7 ⟨rfl, rfl⟩
        go_wp2_with fail
        refine ⟨again_nil, ?_⟩
        go_wp2_with fail
        refine ⟨by first | trivial | rfl, ?_⟩
        go_wp2_with fail
        go_roundw
        case rel => exact ⟨n + 1, .inl (by omega), by go_num, G2, Lib.hid (hM.out.trans HM7.out), Lib.hid ⟨_, HX6.out, HRA.out⟩, Lib.hid ⟨_, HY6.out, HRB.out⟩⟩
        case measure => simp [intOf]; omega
    · have HTK := Lib.hid (show (pairs E).take n = pairs E from List.take_of_length_le (by rw [pairs_length]; omega))
      have ho := hown.out
      rw [HTK.out] at ho
      have hlen : ((pairs E).filter (pick2 op A B)).length ≤ E.length := by
        have h2 := List.length_filter_le (pick2 op A B) (pairs E)
        rw [pairs_length] at h2
        omega
      have HO9 := Lib.hid (spOf_any u8 _ wr ho.row (by omega))
      have HLE := Lib.hid hlen
      have HMr := Lib.hid (HM5.out.newer hM.out (by simp))
      clear ho hlen
      go_wp2_with fail
      refine HO9.out.mono ?_
      rintro e w9 ⟨v9, out, rfl, o9, m9, f9, l9⟩
      have HO := Lib.hid (o9.mono (HMr.out.size))
      have HM9 := Lib.hid (HMr.out.trans m9)
      have HF9 := Lib.hid f9
      have HL9 := Lib.hid l9
      clear o9 m9 f9 l9
      go_wp2_with fail
      go_ret
      exact ⟨_, out, rfl, HO.out, HM9.out, isBoth_of HOP.out HF1.out HF2.out HASC.out HMA'.out HMB'.out HF9.out, by have := HL9.out; have := HLE.out; have := HELn.out; omega⟩
end Go.Proofs.YtefaihockgebeaaGreat
