/- Spans: ends. -/
import Derived.Test.YtefaihockgebeaaGreatRow3
namespace Go.Proofs.YtefaihockgebeaaGreat
open Go.RowKit Go.ChangeMaps Go.Deep
set_option linter.unusedSimpArgs false
set_option linter.unusedVariables false
set_option maxRecDepth 20000

def encV (v : Value) : List Value := [v]
theorem encV_len (v : Value) : (encV v).length = 1 := rfl
/-- A slice of slices of spans. -/
structure PartsAt (w : World) (v : Value) (vs : List Value) (ls : List (List Sp)) : Prop where
  row : RowAt encV w v vs
  len : vs.length = ls.length
  part : ∀ j (h : j < vs.length) (h' : j < ls.length), SpansAt w vs[j] ls[j]
theorem PartsAt.kept0 {w w' : World} {v : Value} {vs : List Value} {ls : List (List Sp)} (h : PartsAt w v vs ls) (hm : Mod [] w w') : PartsAt w' v vs ls :=
  ⟨h.row.kept0 hm, h.len, fun j a b => (h.part j a b).kept0 hm⟩
def sumLen (ls : List (List Sp)) : Nat := (ls.map List.length).foldr (· + ·) 0
theorem sumLen_cons (l : List Sp) (ls : List (List Sp)) : sumLen (l :: ls) = l.length + sumLen ls := rfl
theorem sumLen_append (a b : List (List Sp)) : sumLen (a ++ b) = sumLen a + sumLen b := by
  induction a with
  | nil => simp [sumLen]
  | cons x a ih => rw [List.cons_append, sumLen_cons, sumLen_cons, ih]; omega
def endsLL (ls : List (List Sp)) : List Int := ls.flatMap endsL
theorem endsL_len (l : List Sp) : (endsL l).length = 2 * l.length := by
  induction l with
  | nil => rfl
  | cons x l ih =>
    have : endsL (x :: l) = [x.1, x.2] ++ endsL l := rfl
    rw [this, List.length_append, ih, List.length_cons]
    simp; omega
theorem endsLL_len (ls : List (List Sp)) : (endsLL ls).length = 2 * sumLen ls := by
  induction ls with
  | nil => rfl
  | cons x l ih =>
    have : endsLL (x :: l) = endsL x ++ endsLL l := rfl
    rw [this, List.length_append, ih, endsL_len, sumLen_cons]; omega
theorem sumLen_take_le (ls : List (List Sp)) (j : Nat) : sumLen (ls.take j) ≤ sumLen ls := by
  have h := sumLen_append (ls.take j) (ls.drop j)
  rw [List.take_append_drop] at h
  omega
theorem sumLen_get (ls : List (List Sp)) (j : Nat) (h : j < ls.length) : sumLen (ls.take j) + ls[j].length ≤ sumLen ls := by
  have h1 := sumLen_take_le ls (j + 1)
  rw [List.take_succ_eq_append_getElem h, sumLen_append] at h1
  have : sumLen [ls[j]] = ls[j].length := by simp [sumLen]
  omega
/-- append(v, x, y, ..): what is appended lies in a block of its own first. -/
theorem own_appendL {α : Type} {enc : α → List Value} {k : Nat} {w : World} {v : Value} {l : List α} {E : TypeId} {base : Nat} {P : Program} {t bytes : Nat} (hE : ElemOk P t E k bytes) (hk : ∀ x, (enc x).length = k) (h1c : ∀ x, ∀ v ∈ enc x, v.oneCell' = true) (h : OwnR enc k E w base v l) (hb : base ≤ w.heap.size) {ty : TypeId} (xs : List α) (hlen : l.length + xs.length ≤ 1073741824) (hby : bytes ≤ 65536) :
    ∃ v' w', (Builtin.append_ #[t, t] ty #[v, .slice (some ⟨w.heap.size, 0, none⟩) xs.length xs.length]).run P (w.alloc (.cells (flat enc xs).toArray E)) = .ok v' w' ∧ OwnR enc k E w' base v' (l ++ xs) ∧ Grew w v w' v' := by
  have hm := (Mod.refl [] w).alloc (.cells (flat enc xs).toArray E)
  obtain ⟨v', w', h1, h2, h3⟩ := own_append hE hk (h.kept0 hm) (Nat.le_trans hb hm.size) (ty := ty) (l2 := xs) (Src.ofSlice (P := P) (w.alloc (.cells (flat enc xs).toArray E)) hE.und ⟨w.heap.size, 0, none⟩ xs.length xs.length (flat enc xs) (by rw [flat_length hk]) (fun j u hu => by
    rw [Addr.add_mid, Nat.zero_add, cell_blk (heap_alloc_new w _), ← hu]
    simp) (by
      intro u hu
      obtain ⟨x, _, hx⟩ := List.mem_flatMap.1 hu
      exact h1c x u hx)) hlen hby
  exact ⟨v', w', h1, h2, (Grew.of v hm).trans h3⟩
set_option maxHeartbeats 4000000 in
theorem spEnds_any (v : Value) (vs : List Value) (ls : List (List Sp)) (w : World) (h : PartsAt w v vs ls) (hl : sumLen ls ≤ 1000000) (hn : vs.length ≤ 1000000) :
    Calls Tryz.prog 54 #[v] w fun e w' => ∃ v', e = .returned v' ∧ OwnN w' w.heap.size v' (onceS (endsLL ls)) ∧ Mod [] w w' := by
  have H := Lib.hid h
  have HL := Lib.hid h.len
  obtain ⟨a, c, rfl⟩ := h.row.form
  clear h
  go_enter Tryz.func54, Tryz.ntmps54
  go_wp2_with fail
  go_loopw [2, 9] (fun s2 s9 wr => ∃ j : Nat, j ≤ vs.length ∧ s9 = .int .i64 j ∧ Hid (OwnN wr w.heap.size s2 (endsLL (ls.take j))) ∧ Hid (Mod [] w wr)) (fun _ s9 _ => vs.length - (intOf s9).toNat)
  case atStart => exact ⟨0, by omega, rfl, Lib.hid (OwnR.nil_ _ _), Lib.hid (Mod.refl _ _)⟩
  case round =>
    obtain ⟨j, hj, rfl, hown, hM⟩ := hrel
    obtain ⟨wo, rfl⟩ : ∃ wo : World, wo = wr := ⟨_, rfl⟩
    by_cases hlt : j < vs.length
    · have hlt' : j < ls.length := by rw [← HL.out]; exact hlt
      obtain ⟨b, o, rfl, hc, hq⟩ := (H.out.kept0 hM.out).row.get encV_len hlt
      have q0 := hq 0 vs[j] (by omega) rfl
      rw [Nat.mul_one, Nat.add_zero] at q0
      have HP := Lib.hid (H.out.part j hlt hlt')
      have HT := Lib.hid (show endsLL (ls.take (j + 1)) = endsLL (ls.take j) ++ endsL ls[j] by rw [List.take_succ_eq_append_getElem hlt', endsLL, List.flatMap_append]; simp [endsLL])
      have HSL := Lib.hid (show 2 * sumLen (ls.take j) + 2 * ls[j].length ≤ 2000000 by have := sumLen_get ls j hlt'; omega)
      have HEL := Lib.hid (endsLL_len (ls.take j))
      have hjl : ls[j].length ≤ 1000000 := by have := HSL.out; omega
      generalize vs[j] = p at q0 HP
      generalize ls[j] = l at HP HT HSL hjl
      obtain ⟨pa, pc, rfl⟩ := HP.out.form
      clear hq hlt'
      go_wp2_with fail
      go_loopw [2, 15] (fun s2 s15 wr => ∃ i : Nat, i ≤ l.length ∧ s15 = .int .i64 i ∧ Hid (OwnN wr w.heap.size s2 (endsLL (ls.take j) ++ endsL (l.take i))) ∧ Hid (Mod [] w wr)) (fun _ s15 _ => l.length - (intOf s15).toNat)
      case atStart => exact ⟨0, by omega, rfl, Lib.hid (by simpa [endsL] using hown.out), hM⟩
      case round =>
        obtain ⟨i, hi, rfl, hown2, hM2⟩ := hrel
        by_cases hlt2 : i < l.length
        · obtain ⟨b2, o2, rfl, hc2, c0, c1⟩ := (HP.out.kept0 hM2.out).get2 hlt2
          have HT2 := Lib.hid (show endsL (l.take (i + 1)) = endsL (l.take i) ++ [l[i].1, l[i].2] by rw [List.take_succ_eq_append_getElem hlt2, endsL, List.flatMap_append]; simp [endsL])
          have HL2 := Lib.hid (show (endsLL (ls.take j) ++ endsL (l.take i)).length + 2 ≤ 1073741824 by
            have h1 := HSL.out
            have h2 := endsL_len (l.take i)
            rw [List.length_take] at h2
            rw [List.length_append, HEL.out, h2]
            omega)
          generalize l[i] = x at c0 c1 HT2
          obtain ⟨x1, x2⟩ := x
          dsimp only at c0 c1 HT2
          have hm0 := (Mod.refl [] wr).alloc (.cells #[.int .i64 x1, .int .i64 x2] 45)
          obtain ⟨v', w', g1, g2, g3⟩ := own_appendL elemInt encI_len encI_one (hown2.out.kept0 hm0) (Nat.le_trans hM2.out.size hm0.size) (ty := 46) [x1, x2] (by have := HL2.out; simpa using this) (by omega)
          rw [show (wr.alloc (.cells #[.int .i64 x1, .int .i64 x2] 45)).heap.size = wr.heap.size + 1 by simp] at g1
          have G1 := Lib.hid g1
          have G2 := Lib.hid (show OwnN w' w.heap.size v' (endsLL (ls.take j) ++ endsL (l.take (i + 1))) by rw [HT2.out, ← List.append_assoc]; exact g2)
          have G3 := Lib.hid (g3.intoNil (hown2.out.kept0 hm0) (Nat.le_refl _) (hM2.out.trans hm0))
          clear g1 g2 g3 hm0
          go_wp2_with ((with_reducible refine xAppendAt G1.out rfl rfl ?_ ?_ ?_ ?_); exact rfl; exact rfl; exact rfl)
          go_roundw
          case rel => exact ⟨i + 1, by omega, by go_num, G2, G3⟩
          case measure => simp [intOf]; omega
        · have HR := Lib.hid (show endsLL (ls.take j) ++ endsL (l.take i) = endsLL (ls.take (j + 1)) by rw [HT.out, show l.take i = l from List.take_of_length_le (by omega)])
          have G2 := Lib.hid (show OwnN wr w.heap.size u2 (endsLL (ls.take (j + 1))) by rw [← HR.out]; exact hown2.out)
          go_wp2_with fail
          go_roundw
          case rel => exact ⟨j + 1, by omega, by go_num, G2, hM2⟩
          case measure => simp [intOf]; omega
    · have HE := Lib.hid (show ls.take j = ls from List.take_of_length_le (by rw [← HL.out]; omega))
      have ho := hown.out
      rw [HE.out] at ho
      have hle : (endsLL ls).length ≤ 10000000 := by rw [endsLL_len]; omega
      have HS := Lib.hid (sortInt_any _ _ _ w.heap.size ho hle)
      have HO := Lib.hid ho
      have HLE := Lib.hid hle
      clear ho hle
      go_wp2_with fail
      refine HS.out.mono ?_
      rintro e w1 ⟨rfl, o1, m1⟩
      have HC := Lib.hid (compactInt_any _ _ w1 w.heap.size o1 (by rw [List.length_mergeSort]; exact HLE.out))
      have HM1 := Lib.hid ((show Grew wo u2 w1 u2 from ⟨m1, .inl rfl⟩).intoNil HO.out (Nat.le_refl _) hM.out)
      have HO1 := Lib.hid o1
      clear o1 m1
      go_wp2_with fail
      refine HC.out.mono ?_
      rintro e w2 ⟨v2, rfl, o2, m2, e2⟩
      have HO2 := Lib.hid o2
      have HM2 := Lib.hid ((show Grew w1 u2 w2 u2 from ⟨m2, .inl rfl⟩).intoNil HO1.out (Nat.le_refl _) HM1.out)
      clear o2 m2 e2
      go_wp2_with fail
      go_ret
      exact ⟨_, rfl, HO2.out, HM2.out⟩
end Go.Proofs.YtefaihockgebeaaGreat
