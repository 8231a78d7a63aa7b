/- Rows of thousands: Down. -/
import Derived.Test.YtnoookcfacmdkaaRowI
namespace Go.Proofs.Ytnoookcfacmdkaa
open Go.RowKit
set_option linter.unusedSimpArgs false
set_option linter.unusedVariables false

/-- the value of a row of thousands, the lowest one first -/
def rv : List Int → Int
  | [] => 0
  | d :: l => d + 1000 * rv l
def Dg (l : List Int) : Prop := ∀ d ∈ l, 0 ≤ d ∧ d < 1000
/-- no nought at the end -/
def Cn (l : List Int) : Prop := l.getLast? ≠ some 0
theorem Dg.nil : Dg [] := by intro d h; cases h
theorem Cn.nil : Cn [] := by simp [Cn]
theorem Dg.cons {d : Int} {l : List Int} (h0 : 0 ≤ d) (h1 : d < 1000) (h : Dg l) : Dg (d :: l) := by
  intro x hx
  rcases List.mem_cons.1 hx with rfl | hx
  · exact ⟨h0, h1⟩
  · exact h x hx
theorem Dg.append {a b : List Int} (ha : Dg a) (hb : Dg b) : Dg (a ++ b) := by
  intro x hx
  rcases List.mem_append.1 hx with hx | hx
  · exact ha x hx
  · exact hb x hx
theorem Dg.take {l : List Int} (h : Dg l) (n : Nat) : Dg (l.take n) := fun x hx => h x (List.mem_of_mem_take hx)
theorem Dg.drop {l : List Int} (h : Dg l) (n : Nat) : Dg (l.drop n) := fun x hx => h x (List.mem_of_mem_drop hx)
theorem Dg.get {l : List Int} (h : Dg l) {i : Nat} (hi : i < l.length) : 0 ≤ l[i] ∧ l[i] < 1000 := h _ (List.getElem_mem hi)
theorem rv_append (a b : List Int) : rv (a ++ b) = rv a + 1000 ^ a.length * rv b := by
  induction a with
  | nil => simp [rv]
  | cons d a ih =>
    simp only [List.cons_append, rv, ih, List.length_cons, Int.pow_succ]
    rw [Int.mul_add, ← Int.mul_assoc, Int.mul_comm 1000 (1000 ^ a.length)]
    omega
theorem rv_nonneg {l : List Int} (h : Dg l) : 0 ≤ rv l := by
  induction l with
  | nil => simp [rv]
  | cons d l ih =>
    have h1 := h d (by simp)
    have h2 := ih (fun x hx => h x (by simp [hx]))
    simp only [rv]
    omega
theorem pow_pos1000 (n : Nat) : (0 : Int) < 1000 ^ n := Int.pow_pos (by decide)
theorem rv_lt {l : List Int} (h : Dg l) : rv l < 1000 ^ l.length := by
  induction l with
  | nil => simp [rv]
  | cons d l ih =>
    have h1 := h d (by simp)
    have h2 := ih (fun x hx => h x (by simp [hx]))
    simp only [rv, List.length_cons, Int.pow_succ]
    omega
theorem Cn.snoc {l : List Int} {d : Int} (h : Cn (l ++ [d])) : d ≠ 0 := by
  intro e
  subst e
  exact h (by simp)
theorem rv_ge {l : List Int} (h : Dg l) (hc : Cn l) (hne : l ≠ []) : 1000 ^ (l.length - 1) ≤ rv l := by
  obtain ⟨a, d, rfl⟩ : ∃ a d, l = a ++ [d] := ⟨l.dropLast, l.getLast hne, (List.dropLast_concat_getLast hne).symm⟩
  have hd := h d (by simp)
  have hd0 := hc.snoc
  have ha := rv_nonneg (show Dg a from fun x hx => h x (by simp [hx]))
  rw [rv_append]
  simp only [rv, List.length_append, List.length_cons, List.length_nil, Nat.zero_add, Nat.add_sub_cancel]
  have hp := pow_pos1000 a.length
  have : (1000 : Int) ^ a.length * 1 ≤ 1000 ^ a.length * (d + 1000 * 0) := Int.mul_le_mul_of_nonneg_left (by omega) (Int.le_of_lt hp)
  omega
theorem rv_zero {l : List Int} (h : Dg l) (hc : Cn l) : rv l = 0 ↔ l = [] := by
  constructor
  · intro e
    apply Classical.byContradiction
    intro hne
    have h1 := rv_ge h hc hne
    have h2 := pow_pos1000 (l.length - 1)
    omega
  · rintro rfl; rfl
theorem pow_le1000 {n m : Nat} (h : n ≤ m) : (1000 : Int) ^ n ≤ 1000 ^ m := by
  obtain ⟨k, rfl⟩ := Nat.exists_eq_add_of_le h
  rw [Int.pow_add]
  have h1 := pow_pos1000 n
  have h2 := pow_pos1000 k
  have : (1000 : Int) ^ n * 1 ≤ 1000 ^ n * 1000 ^ k := Int.mul_le_mul_of_nonneg_left (by omega) (Int.le_of_lt h1)
  omega
theorem len_le {l : List Int} (h : Dg l) (hc : Cn l) {k : Nat} (hk : rv l < 1000 ^ k) : l.length ≤ k := by
  apply Classical.byContradiction
  intro hn
  have hne : l ≠ [] := by intro e; subst e; simp at hn
  have h1 := rv_ge h hc hne
  have h2 : (1000 : Int) ^ k ≤ 1000 ^ (l.length - 1) := pow_le1000 (by omega)
  omega
theorem rv_lt_len {a b : List Int} (ha : Dg a) (hb : Dg b) (hcb : Cn b) (h : a.length < b.length) : rv a < rv b := by
  have hne : b ≠ [] := by intro e; subst e; simp at h
  have h1 := rv_lt ha
  have h2 := rv_ge hb hcb hne
  have h3 : (1000 : Int) ^ a.length ≤ 1000 ^ (b.length - 1) := pow_le1000 (by omega)
  omega
theorem split3 {l : List Int} {i : Nat} (hi : i < l.length) : l = l.take i ++ (l[i] :: l.drop (i + 1)) := by
  rw [List.getElem_cons_drop]
  exact (List.take_append_drop i l).symm
theorem rv_split {l : List Int} {i : Nat} (hi : i < l.length) : rv l = rv (l.take i) + 1000 ^ i * (l[i] + 1000 * rv (l.drop (i + 1))) := by
  conv => lhs; rw [split3 hi]
  rw [rv_append]
  simp only [rv, List.length_take]
  rw [Nat.min_eq_left (by omega)]
theorem rv_lt_at {a b : List Int} (ha : Dg a) (hb : Dg b) {i : Nat} (h1 : i < a.length) (h2 : i < b.length) (hd : a.drop (i + 1) = b.drop (i + 1)) (hlt : a[i] < b[i]) : rv a < rv b := by
  rw [rv_split h1, rv_split h2, hd]
  have e1 := rv_lt (ha.take i)
  rw [List.length_take, Nat.min_eq_left (by omega)] at e1
  have e2 := rv_nonneg (hb.take i)
  have hp := pow_pos1000 i
  generalize rv (b.drop (i + 1)) = t
  have : (1000 : Int) ^ i * (a[i] + 1000 * t + 1) ≤ 1000 ^ i * (b[i] + 1000 * t) := Int.mul_le_mul_of_nonneg_left (by omega) (Int.le_of_lt hp)
  rw [Int.mul_add _ _ 1] at this
  omega
/-- all but the noughts at the end -/
theorem rv_snoc0 (l : List Int) : rv (l ++ [0]) = rv l := by rw [rv_append]; simp [rv]
theorem rv_snoc (l : List Int) (d : Int) : rv (l ++ [d]) = rv l + 1000 ^ l.length * d := by rw [rv_append]; simp [rv]
theorem dg_bound {l : List Int} (h : Dg l) {i : Nat} (hi : i < l.length) : 0 ≤ l[i] ∧ l[i] < 1000 := h.get hi
/-- what a row is -/
def zOf (neg : Bool) (l : List Int) : Int := if neg then - rv l else rv l
end Go.Proofs.Ytnoookcfacmdkaa
namespace Go.Proofs.Ytnoookcfacmdkaa
open Go.RowKit Go.ChangeMaps
set_option linter.unusedSimpArgs false
set_option linter.unusedVariables false
set_option maxRecDepth 20000

/-- A whole number of the document's. -/
structure NumAt (w : World) (neg : Bool) (s : Value) (l : List Int) (z : Int) : Prop where
  ints : IntsIn w s l
  dg : Dg l
  cn : Cn l
  z : z = zOf neg l
  neg : neg = true → l ≠ []
def NAt (w : World) (v : Value) (z : Int) : Prop := ∃ neg s l, v = .agg #[.bool neg, s] ∧ NumAt w neg s l z
theorem NumAt.kept0 {w w' : World} {neg : Bool} {s : Value} {l : List Int} {z : Int} (h : NumAt w neg s l z) (hm : Mod [] w w') : NumAt w' neg s l z := ⟨h.ints.kept0 hm, h.dg, h.cn, h.z, h.neg⟩
theorem NAt.kept0 {w w' : World} {v : Value} {z : Int} (h : NAt w v z) (hm : Mod [] w w') : NAt w' v z := by
  obtain ⟨neg, s, l, rfl, h⟩ := h
  exact ⟨neg, s, l, rfl, h.kept0 hm⟩
theorem Mod.res2 {w wr : World} (h : Mod [] w wr) {b : Nat} (hb : w.heap.size ≤ b) (x y : Value) : Mod [] w ((wr.setCell ⟨b, 0, none⟩ x).setCell ⟨b, 1, none⟩ y) := (h.setCellNew hb x).setCellNew hb y
def lenOf : Value → Nat
  | .slice _ n _ => n
  | _ => 0
set_option maxHeartbeats 1000000 in
/-- A row of the same value, without noughts at its end, that lies where the row lay. -/
theorem nshort_at (neg : Bool) (a : Option Addr) (c : Nat) (l : List Int) (w : World) (h : IntsIn w (.slice a l.length c) l) (hd : Dg l) (hl : l.length ≤ 9223372036854775807) :
    Calls Try.prog 83 #[.bool neg, .slice a l.length c] w fun e w' => ∃ (neg' : Bool) (l' : List Int), e = .returned (.agg #[.bool neg', .slice a l'.length c]) ∧ NumAt w' neg' (.slice a l'.length c) l' (zOf neg l) ∧ Mod [] w w' := by
  have H := Lib.hid h
  have HD := Lib.hid hd
  clear h hd
  have HC0 := Lib.hid (heap_alloc_new w (.cells #[.bool false, .slice none 0 0] 120))
  have HM0 := Lib.hid ((Mod.refl [] w).alloc (.cells #[.bool false, .slice none 0 0] 120))
  go_enter Try.func83, Try.ntmps83
  go_wp2_with fail
  go_loopw [1] (fun s1 wr => ∃ n : Nat, n ≤ l.length ∧ s1 = .slice a n c ∧ Hid (Mod [] (w.alloc (.cells #[.bool false, .slice none 0 0] 120)) wr) ∧ Hid (rv (l.take n) = rv l)) (fun s1 _ => lenOf s1)
  case atStart => exact ⟨l.length, by omega, rfl, Lib.hid (Mod.refl _ _), Lib.hid (by simp)⟩
  case round =>
    obtain ⟨n, hn, rfl, hm, hv⟩ := hrel
    have hcr := hm.out.heap HC0.out (by simp)
    have q0 := cell_blk hcr 0
    have q1 := cell_blk hcr 1
    have f0 := frozen_blk hcr 0
    have f1 := frozen_blk hcr 1
    simp at q0 q1
    clear hcr
    by_cases h0 : n = 0
    · subst h0
      have HN : Hid (NumAt w false (.slice a 0 c) [] (zOf neg l)) := Lib.hid ⟨.nil a c, .nil, .nil, by
        have := hv.out
        simp [rv] at this
        simp [zOf, rv, ← this], by simp⟩
      have HMr := HM0.out.trans hm.out
      go_wp2_with fail
      all_goals
        refine bodyPost_ret (v := .agg #[.bool false, .slice a 0 c]) (by simp [results, Try.results83, go_sem, q0, q1]) rfl ⟨false, [], rfl, HN.out.kept0 (HMr.res2 (Nat.le_refl _) _ _), HMr.res2 (Nat.le_refl _) _ _⟩
    · obtain ⟨m, rfl⟩ := Nat.exists_eq_succ_of_ne_zero h0
      obtain ⟨b, o, rfl, hc, hq⟩ := (H.out.kept0 (HM0.out.trans hm.out)).get1 (show m < l.length by omega)
      have HT := Lib.hid (show l.take (m + 1) = l.take m ++ [l[m]] from List.take_succ_eq_append_getElem (by omega))
      by_cases hz : l[m] = 0
      · rw [hz] at hq HT
        have HV := Lib.hid (show rv (l.take m) = rv l by
          have h1 := hv.out
          rw [show m.succ = m + 1 from rfl, HT.out, rv_snoc0] at h1
          exact h1)
        clear hz
        go_wp2_with fail
        go_roundw
        case rel => exact ⟨m, by omega, by go_num, hm, HV⟩
        case measure => simp [lenOf]
      · have HI := Lib.hid (H.out.take encI_len (m + 1) (by omega))
        have HN : Hid (NumAt w neg (.slice (some ⟨b, o, none⟩) (m + 1) c) (l.take (m + 1)) (zOf neg l)) := Lib.hid ⟨HI.out, HD.out.take _, by
          rw [HT.out, Cn, List.getLast?_concat]
          intro e
          exact hz (Option.some.inj e), by
          have h1 := hv.out
          unfold zOf
          rw [← h1], by
          intro _ e
          have h2 : (l.take (m + 1)).length = m + 1 := by rw [List.length_take]; omega
          rw [e] at h2
          simp at h2⟩
        have HMr := HM0.out.trans hm.out
        have htl : (l.take (m + 1)).length = m + 1 := by rw [List.length_take]; omega
        have HTL := Lib.hid htl
        clear htl
        go_wp2_with fail
        · have hng : neg = true := by assumption
          subst hng
          refine bodyPost_ret (v := .agg #[.bool true, .slice (some ⟨b, o, none⟩) (m + 1) c]) (by simp [results, Try.results83, go_sem, q0, q1]) rfl ⟨true, l.take (m + 1), by rw [HTL.out], by rw [HTL.out]; exact HN.out.kept0 (HMr.res2 (Nat.le_refl _) _ _), HMr.res2 (Nat.le_refl _) _ _⟩
        · have hng : neg = false := by revert HN; cases neg <;> simp_all
          subst hng
          refine bodyPost_ret (v := .agg #[.bool false, .slice (some ⟨b, o, none⟩) (m + 1) c]) (by simp [results, Try.results83, go_sem, q0, q1]) rfl ⟨false, l.take (m + 1), by rw [HTL.out], by rw [HTL.out]; exact HN.out.kept0 (HMr.res2 (Nat.le_refl _) _ _), HMr.res2 (Nat.le_refl _) _ _⟩
theorem nshort_any (neg : Bool) (s : Value) (l : List Int) (w : World) (h : IntsIn w s l) (hd : Dg l) (hl : l.length ≤ 9223372036854775807) :
    Calls Try.prog 83 #[.bool neg, s] w fun e w' => ∃ v, e = .returned v ∧ NAt w' v (zOf neg l) ∧ Mod [] w w' := by
  obtain ⟨a, c, rfl⟩ := h.form
  refine (nshort_at neg a c l w h hd hl).mono ?_
  rintro e w' ⟨neg', l', rfl, hn, hm⟩
  exact ⟨_, rfl, ⟨_, _, _, rfl, hn⟩, hm⟩
end Go.Proofs.Ytnoookcfacmdkaa
namespace Go.Proofs.Ytnoookcfacmdkaa
open Go.RowKit Go.ChangeMaps Go.Deep
set_option linter.unusedSimpArgs false
set_option linter.unusedVariables false
set_option maxRecDepth 20000

theorem OwnN.res2 {w : World} {base : Nat} {v : Value} {l : List Int} (h : OwnN w base v l) {b : Nat} (hb : b < base) (x y : Value) : OwnN ((w.setCell ⟨b, 0, none⟩ x).setCell ⟨b, 1, none⟩ y) base v l := by
  refine ownsRow_kept h (((Mod.refl [b] w).setCell (by simp) x).setCell (by simp) y) fun k hk hm => ?_
  have := (h.lt k hk).1
  simp at hm
  omega
set_option maxHeartbeats 1000000 in
theorem nword_any (n : Nat) (hn : n < 18446744073709551616) (w : World) :
    Calls Try.prog 77 #[.int .u64 n] w fun e w' => ∃ v, e = .returned v ∧ NAt w' v n ∧ Mod [] w w' := by
  have HC0 := Lib.hid (heap_alloc_new w (.cells #[.bool false, .slice none 0 0] 120))
  have HM0 := Lib.hid ((Mod.refl [] w).alloc (.cells #[.bool false, .slice none 0 0] 120))
  go_enter Try.func77, Try.ntmps77
  go_wp2_with fail
  go_loopw [3, 0] (fun s3 s0 wr => ∃ (m : Nat) (l : List Int), m ≤ n ∧ s0 = .int .u64 m ∧ Hid (OwnN wr (w.heap.size + 1) s3 l) ∧ Hid (Mod [] (w.alloc (.cells #[.bool false, .slice none 0 0] 120)) wr) ∧ Hid (rv l + 1000 ^ l.length * m = n) ∧ Hid (Dg l) ∧ Hid (m = 0 → Cn l)) (fun _ s0 _ => (intOf s0).toNat)
  case atStart => exact ⟨n, [], by omega, rfl, Lib.hid (World.ownsRow_nil _ _ _ _), Lib.hid (Mod.refl _ _), Lib.hid (by simp [rv]), Lib.hid .nil, Lib.hid fun _ => .nil⟩
  case round =>
    obtain ⟨m, l, hm, rfl, hown, hM, hv, hd, hc⟩ := hrel
    have HM1 := Lib.hid (HM0.out.trans hM.out)
    by_cases h0 : m = 0
    · subst h0
      have hcr := hM.out.heap HC0.out (by simp)
      have q0 := cell_blk hcr 0
      have q1 := cell_blk hcr 1
      have f0 := frozen_blk hcr 0
      have f1 := frozen_blk hcr 1
      simp at q0 q1
      clear hcr
      have HN : Hid (∀ x y, NumAt ((wr.setCell ⟨w.heap.size, 0, none⟩ x).setCell ⟨w.heap.size, 1, none⟩ y) false u3 l n) := Lib.hid fun x y => ⟨(hown.out.res2 (Nat.lt_succ_self _) x y).row, hd.out, hc.out rfl, by
        have := hv.out
        simp at this
        simp [zOf, this], by simp⟩
      obtain ⟨a, c, rfl⟩ := hown.out.row.form
      go_wp2_with fail
      refine bodyPost_ret (v := .agg #[.bool false, .slice a l.length c]) (by simp [results, Try.results77, go_sem, q0, q1]) rfl ⟨_, rfl, ⟨_, _, _, rfl, HN.out _ _⟩, HM1.out.res2 (Nat.le_refl _) _ _⟩
    · have hpos : 0 < m := by omega
      have HL := Lib.hid (show l.length < 1073741824 by
        apply Classical.byContradiction
        intro hge
        have h1 := hv.out
        have h2 := rv_nonneg hd.out
        have h3 : (1000 : Int) ^ 7 ≤ 1000 ^ l.length := pow_le1000 (by omega)
        have h4 : (1000 : Int) ^ l.length * 1 ≤ 1000 ^ l.length * m := Int.mul_le_mul_of_nonneg_left (by omega) (Int.le_of_lt (pow_pos1000 _))
        omega)
      have HB := Lib.hid (show w.heap.size + 1 ≤ wr.heap.size by have := hM.out.size; simpa using this)
      obtain ⟨v', w', h1, h2, h3⟩ := own_append1 elemInt encI_len encI_one hown.out HB.out (ty := 22) ((m : Int) % 1000) HL.out (by omega)
      have H1 := Lib.hid h1
      have H2 := Lib.hid h2
      have H3 := Lib.hid h3
      clear h1 h2 h3 h0
      have HMN := Lib.hid (H3.out.intoNil hown.out (by simp) hM.out)
      have HV := Lib.hid (show rv (l ++ [(m : Int) % 1000]) + 1000 ^ (l ++ [(m : Int) % 1000]).length * ((m / 1000 : Nat) : Int) = n by
        have h1 := hv.out
        rw [rv_snoc, List.length_append, List.length_singleton, Int.pow_succ, Int.add_assoc, Int.mul_assoc, ← Int.mul_add, ← h1]
        congr 2
        omega)
      have HD := Lib.hid (show Dg (l ++ [(m : Int) % 1000]) from hd.out.append (Dg.cons (by omega) (by omega) .nil))
      have HCN := Lib.hid (show m / 1000 = 0 → Cn (l ++ [(m : Int) % 1000]) by
        intro e h
        rw [List.getLast?_concat] at h
        have := Option.some.inj h
        omega)
      go_wp2_with (((with_reducible refine xAppendAt H1.out rfl rfl ?_ ?_ ?_ ?_); exact rfl; exact rfl; exact rfl))
      refine ⟨⟨m / 1000, _, by omega, by go_num, H2, HMN, HV, HD, HCN⟩, ?_⟩
      simp [intOf]
      omega
end Go.Proofs.Ytnoookcfacmdkaa
namespace Go.Proofs.Ytnoookcfacmdkaa
open Go.RowKit Go.ChangeMaps Go.Deep
set_option linter.unusedSimpArgs false
set_option linter.unusedVariables false
set_option maxRecDepth 20000

theorem rv_take_succ (l : List Int) (i : Nat) : rv (l.take (i + 1)) = rv (l.take i) + 1000 ^ i * l.getD i 0 := by
  by_cases h : i < l.length
  · rw [List.take_succ_eq_append_getElem h, rv_snoc, List.length_take, Nat.min_eq_left (by omega)]
    simp [List.getD, h]
  · rw [List.take_of_length_le (by omega), List.take_of_length_le (by omega)]
    simp [List.getD, h]
theorem getD_dg {l : List Int} (h : Dg l) (i : Nat) : 0 ≤ l.getD i 0 ∧ l.getD i 0 < 1000 := by
  by_cases hi : i < l.length
  · simp [List.getD, hi]
    exact h.get hi
  · simp [List.getD, hi]
theorem cn_top {l : List Int} (h : Cn l) {i : Nat} (hi : i + 1 = l.length) : l.getD i 0 ≠ 0 := by
  intro e
  refine h ?_
  rw [List.getLast?_eq_getElem?, ← hi, Nat.add_sub_cancel]
  simp [List.getD] at e
  simp [show i < l.length by omega] at e ⊢
  exact e
/-- What plus has made of the lowest i places. -/
structure PlusInv (a b out : List Int) (i : Nat) (c : Int) : Prop where
  len : out.length = i
  dg : Dg out
  c0 : 0 ≤ c
  c1 : c ≤ 1
  v : rv out + 1000 ^ i * c = rv (a.take i) + rv (b.take i)
  cn : c = 0 → a.length ≤ i → b.length ≤ i → Cn a → Cn b → Cn out
theorem PlusInv.start (a b : List Int) : PlusInv a b [] 0 0 := ⟨rfl, .nil, by omega, by omega, by simp [rv], fun _ _ _ _ _ => .nil⟩
theorem PlusInv.step {a b out : List Int} {i : Nat} {c s : Int} (h : PlusInv a b out i c) (ha : Dg a) (hb : Dg b) (hs : s = c + a.getD i 0 + b.getD i 0) (hgo : i < a.length ∨ i < b.length ∨ 0 < c) :
    PlusInv a b (out ++ [s % 1000]) (i + 1) (s / 1000) := by
  have h0 := h.c0
  have h1 := h.c1
  have ga := getD_dg ha i
  have gb := getD_dg hb i
  have hv := h.v
  refine ⟨by simp [h.len], h.dg.append (Dg.cons (by omega) (by omega) .nil), by omega, by omega, ?_, ?_⟩
  · rw [rv_snoc, h.len, rv_take_succ, rv_take_succ, Int.pow_succ, Int.add_assoc, Int.mul_assoc, ← Int.mul_add, show s % 1000 + 1000 * (s / 1000) = s by omega, hs, Int.mul_add, Int.mul_add]
    omega
  · intro e la lb ca cb hl
    rw [List.getLast?_concat] at hl
    have hz := Option.some.inj hl
    rcases hgo with hg | hg | hg
    · have := cn_top ca (show i + 1 = a.length by omega)
      omega
    · have := cn_top cb (show i + 1 = b.length by omega)
      omega
    · omega
theorem PlusInv.fin {a b out : List Int} {i : Nat} (h : PlusInv a b out i 0) (la : a.length ≤ i) (lb : b.length ≤ i) : rv out = rv a + rv b := by
  have := h.v
  rw [List.take_of_length_le la, List.take_of_length_le lb] at this
  simpa using this
set_option maxHeartbeats 2000000 in
theorem nplus_any (x y : Value) (a b : List Int) (w : World) (hx : IntsIn w x a) (hy : IntsIn w y b) (ha : Dg a) (hb : Dg b) (la : a.length ≤ 1000000) (lb : b.length ≤ 1000000) :
    Calls Try.prog 87 #[x, y] w fun e w' => ∃ v l, e = .returned v ∧ OwnN w' w.heap.size v l ∧ Mod [] w w' ∧ Dg l ∧ rv l = rv a + rv b ∧ (Cn a → Cn b → Cn l) ∧ l.length ≤ a.length + b.length + 1 := by
  have HX := Lib.hid hx
  have HY := Lib.hid hy
  have HA := Lib.hid ha
  have HB := Lib.hid hb
  obtain ⟨xa, xc, rfl⟩ := hx.form
  obtain ⟨ya, yc, rfl⟩ := hy.form
  clear hx hy ha hb
  go_enter Try.func87, Try.ntmps87
  go_wp2_with fail
  go_loopw [5, 6, 7] (fun s5 s6 s7 wr => ∃ (i : Nat) (c : Int) (out : List Int), s7 = .int .i64 i ∧ s6 = .int .i64 c ∧ ((i : Int) + c ≤ a.length + 1 ∨ (i : Int) + c ≤ b.length + 1) ∧ Hid (OwnN wr w.heap.size s5 out) ∧ Hid (Mod [] w wr) ∧ Hid (PlusInv a b out i c)) (fun _ s6 s7 _ => a.length + b.length + 2 - (intOf s7).toNat)
  case atStart => exact ⟨0, 0, [], rfl, rfl, by omega, Lib.hid (World.ownsRow_nil _ _ _ _), Lib.hid (Mod.refl _ _), Lib.hid (.start a b)⟩
  case round =>
    obtain ⟨i, c, out, rfl, rfl, hi, hown, hM, hP⟩ := hrel
    have hc0 := hP.out.c0
    have hc1 := hP.out.c1
    by_cases hgo : i < a.length ∨ i < b.length ∨ 0 < c
    · have HQ := Lib.hid (fun s hs => hP.out.step (s := s) HA.out HB.out hs hgo)
      have HLN := Lib.hid (show out.length < 1073741824 by rw [hP.out.len]; omega)
      have HW := hM.out.size
      have ga := getD_dg HA.out i
      have gb := getD_dg HB.out i
      have HAP := Lib.hid (fun t => own_append1 elemInt encI_len encI_one hown.out HW (ty := 22) t HLN.out (by omega))
      have HST := Lib.hid (fun w' v' (h : Grew wr _ w' v') => h.intoNil hown.out (Nat.le_refl _) hM.out)
      by_cases h1 : i < a.length
      · by_cases h2 : i < b.length
        · obtain ⟨b1, o1, rfl, _, r1⟩ := (HX.out.kept0 hM.out).get1 h1
          have e1 : a.getD i 0 = a[i] := by simp [List.getD, h1]
          rw [e1] at HQ ga
          generalize a[i] = p at HQ ga r1
          obtain ⟨b2, o2, rfl, _, r2⟩ := (HY.out.kept0 hM.out).get1 h2
          have e2 : b.getD i 0 = b[i] := by simp [List.getD, h2]
          rw [e2] at HQ gb
          generalize b[i] = q at HQ gb r2
          obtain ⟨v', w', g1, g2, g3⟩ := HAP.out ((c + p + q) % 1000)
          have G1 := Lib.hid g1
          have G2 := Lib.hid g2
          have G3 := Lib.hid (HST.out _ _ g3)
          have G4 := Lib.hid (HQ.out (c + p + q) (by omega))
          clear g1 g2 g3 HAP HST HQ HLN e1 e2
          go_wp2_with (((with_reducible refine xAppendAt G1.out rfl rfl ?_ ?_ ?_ ?_); exact rfl; exact rfl; exact rfl))
          refine ⟨⟨i + 1, _, _, by go_num, rfl, by omega, G2, G3, G4⟩, ?_⟩
          simp [intOf]
          omega
        · obtain ⟨b1, o1, rfl, _, r1⟩ := (HX.out.kept0 hM.out).get1 h1
          have e1 : a.getD i 0 = a[i] := by simp [List.getD, h1]
          rw [e1] at HQ ga
          generalize a[i] = p at HQ ga r1
          have e2 : b.getD i 0 = 0 := by simp [List.getD, h2]
          rw [e2] at HQ gb
          obtain ⟨v', w', g1, g2, g3⟩ := HAP.out ((c + p) % 1000)
          have G1 := Lib.hid g1
          have G2 := Lib.hid g2
          have G3 := Lib.hid (HST.out _ _ g3)
          have G4 := Lib.hid (HQ.out (c + p) (by omega))
          clear g1 g2 g3 HAP HST HQ HLN e1 e2
          go_wp2_with (((with_reducible refine xAppendAt G1.out rfl rfl ?_ ?_ ?_ ?_); exact rfl; exact rfl; exact rfl))
          refine ⟨⟨i + 1, _, _, by go_num, rfl, by omega, G2, G3, G4⟩, ?_⟩
          simp [intOf]
          omega
      · by_cases h2 : i < b.length
        · have e1 : a.getD i 0 = 0 := by simp [List.getD, h1]
          rw [e1] at HQ ga
          obtain ⟨b2, o2, rfl, _, r2⟩ := (HY.out.kept0 hM.out).get1 h2
          have e2 : b.getD i 0 = b[i] := by simp [List.getD, h2]
          rw [e2] at HQ gb
          generalize b[i] = q at HQ gb r2
          obtain ⟨v', w', g1, g2, g3⟩ := HAP.out ((c + q) % 1000)
          have G1 := Lib.hid g1
          have G2 := Lib.hid g2
          have G3 := Lib.hid (HST.out _ _ g3)
          have G4 := Lib.hid (HQ.out (c + q) (by omega))
          clear g1 g2 g3 HAP HST HQ HLN e1 e2
          go_wp2_with (((with_reducible refine xAppendAt G1.out rfl rfl ?_ ?_ ?_ ?_); exact rfl; exact rfl; exact rfl))
          refine ⟨⟨i + 1, _, _, by go_num, rfl, by omega, G2, G3, G4⟩, ?_⟩
          simp [intOf]
          omega
        · have e1 : a.getD i 0 = 0 := by simp [List.getD, h1]
          rw [e1] at HQ ga
          have e2 : b.getD i 0 = 0 := by simp [List.getD, h2]
          rw [e2] at HQ gb
          obtain ⟨v', w', g1, g2, g3⟩ := HAP.out (c % 1000)
          have G1 := Lib.hid g1
          have G2 := Lib.hid g2
          have G3 := Lib.hid (HST.out _ _ g3)
          have G4 := Lib.hid (HQ.out (c) (by omega))
          have hcp : 0 < c := by omega
          clear g1 g2 g3 HAP HST HQ HLN e1 e2
          go_wp2_with (((with_reducible refine xAppendAt G1.out rfl rfl ?_ ?_ ?_ ?_); exact rfl; exact rfl; exact rfl))
          refine ⟨⟨i + 1, _, _, by go_num, rfl, by omega, G2, G3, G4⟩, ?_⟩
          simp [intOf]
          omega
    · have hn1 : ¬ i < a.length := by omega
      have hn2 : ¬ i < b.length := by omega
      obtain rfl : c = 0 := by omega
      obtain ⟨va, vc, e⟩ := hown.out.row.form
      subst e
      have HV := Lib.hid (hP.out.fin (by omega) (by omega))
      have HC := Lib.hid (hP.out.cn rfl (by omega) (by omega))
      have HLE := hP.out.len
      have HD := Lib.hid hP.out.dg
      have hlo : out.length ≤ a.length + b.length + 1 := by omega
      clear hgo HLE
      go_wp2_with fail
      go_ret
      exact ⟨_, out, rfl, hown.out, hM.out, HD.out, HV.out, HC.out, hlo⟩
end Go.Proofs.Ytnoookcfacmdkaa
namespace Go.Proofs.Ytnoookcfacmdkaa
open Go.RowKit Go.ChangeMaps Go.Deep
set_option linter.unusedSimpArgs false
set_option linter.unusedVariables false
set_option maxRecDepth 20000

/-- What minus has made of the lowest i places. -/
structure MinusInv (a b out : List Int) (i : Nat) (c : Int) : Prop where
  len : out.length = i
  dg : Dg out
  c0 : 0 ≤ c
  c1 : c ≤ 1
  v : rv out = rv (a.take i) - rv (b.take i) + 1000 ^ i * c
theorem MinusInv.start (a b : List Int) : MinusInv a b [] 0 0 := ⟨rfl, .nil, by omega, by omega, by simp [rv]⟩
theorem MinusInv.step {a b out : List Int} {i : Nat} {c x d c' : Int} (h : MinusInv a b out i c) (ha : Dg a) (hb : Dg b) (hx : x = a.getD i 0 - c - b.getD i 0) (hd : x < 0 ∧ d = x + 1000 ∧ c' = 1 ∨ 0 ≤ x ∧ d = x ∧ c' = 0) : MinusInv a b (out ++ [d]) (i + 1) c' := by
  have h0 := h.c0
  have h1 := h.c1
  have ga := getD_dg ha i
  have gb := getD_dg hb i
  have hv := h.v
  refine ⟨by simp [h.len], h.dg.append (Dg.cons (by omega) (by omega) .nil), by omega, by omega, ?_⟩
  rw [rv_snoc, h.len, rv_take_succ, rv_take_succ, Int.pow_succ, hv]
  have e : d = a.getD i 0 - c - b.getD i 0 + 1000 * c' := by omega
  rw [e, Int.mul_add, Int.mul_sub, Int.mul_sub, Int.mul_assoc]
  omega
theorem MinusInv.fin {a b out : List Int} {c : Int} (h : MinusInv a b out a.length c) (ha : Dg a) (hb : Dg b) (hcb : Cn b) (hle : rv b ≤ rv a) : rv out = rv a - rv b := by
  have hv := h.v
  have hl : b.length ≤ a.length := by
    apply Classical.byContradiction
    intro hn
    have := rv_lt_len ha hb hcb (by omega)
    omega
  rw [List.take_of_length_le (Nat.le_refl _), List.take_of_length_le hl] at hv
  have h1 := rv_lt h.dg
  rw [h.len] at h1
  have h0 := h.c0
  have h2 := h.c1
  rcases (show c = 0 ∨ c = 1 by omega) with rfl | rfl
  · simpa using hv
  · rw [Int.mul_one] at hv
    omega
set_option maxHeartbeats 2000000 in
theorem nminus_any (x y : Value) (a b : List Int) (w : World) (hx : IntsIn w x a) (hy : IntsIn w y b) (ha : Dg a) (hb : Dg b) (hcb : Cn b) (hle : rv b ≤ rv a) (la : a.length ≤ 1000000) (lb : b.length ≤ 1000000) :
    Calls Try.prog 90 #[x, y] w fun e w' => ∃ v l, e = .returned v ∧ OwnN w' w.heap.size v l ∧ Mod [] w w' ∧ Dg l ∧ rv l = rv a - rv b ∧ l.length ≤ a.length := by
  have HX := Lib.hid hx
  have HY := Lib.hid hy
  have HA := Lib.hid ha
  have HB := Lib.hid hb
  have HF := Lib.hid (fun (out : List Int) (c : Int) (h : MinusInv a b out a.length c) => h.fin ha hb hcb hle)
  obtain ⟨xa, xc, rfl⟩ := hx.form
  obtain ⟨ya, yc, rfl⟩ := hy.form
  clear hx hy ha hb hcb hle
  go_enter Try.func90, Try.ntmps90
  go_wp2_with fail
  go_loopw [5, 6, 7] (fun s5 s6 s7 wr => ∃ (i : Nat) (c : Int) (out : List Int), s7 = .int .i64 i ∧ s6 = .int .i64 c ∧ i ≤ a.length ∧ Hid (OwnN wr w.heap.size s5 out) ∧ Hid (Mod [] w wr) ∧ Hid (MinusInv a b out i c)) (fun _ s6 s7 _ => a.length - (intOf s7).toNat)
  case atStart => exact ⟨0, 0, [], rfl, rfl, by omega, Lib.hid (World.ownsRow_nil _ _ _ _), Lib.hid (Mod.refl _ _), Lib.hid (.start a b)⟩
  case round =>
    obtain ⟨i, c, out, rfl, rfl, hi, hown, hM, hP⟩ := hrel
    have hc0 := hP.out.c0
    have hc1 := hP.out.c1
    by_cases h1 : i < a.length
    · have HQ := Lib.hid (fun x d c' hx hd => hP.out.step (x := x) (d := d) (c' := c') HA.out HB.out hx hd)
      have HLN := Lib.hid (show out.length < 1073741824 by rw [hP.out.len]; omega)
      have HW := hM.out.size
      have ga := getD_dg HA.out i
      have gb := getD_dg HB.out i
      have HAP := Lib.hid (fun t => own_append1 elemInt encI_len encI_one hown.out HW (ty := 22) t HLN.out (by omega))
      have HST := Lib.hid (fun w' v' (h : Grew wr _ w' v') => h.intoNil hown.out (Nat.le_refl _) hM.out)
      obtain ⟨b1, o1, rfl, _, r1⟩ := (HX.out.kept0 hM.out).get1 h1
      have e1 : a.getD i 0 = a[i] := by simp [List.getD, h1]
      rw [e1] at HQ ga
      generalize a[i] = p at HQ ga r1
      by_cases h2 : i < b.length
      · obtain ⟨b2, o2, rfl, _, r2⟩ := (HY.out.kept0 hM.out).get1 h2
        have e2 : b.getD i 0 = b[i] := by simp [List.getD, h2]
        rw [e2] at HQ gb
        generalize b[i] = q at HQ gb r2
        by_cases hneg : p - c - q < 0
        · obtain ⟨v', w', g1, g2, g3⟩ := HAP.out (p - c - q + 1000)
          have G1 := Lib.hid g1
          have G2 := Lib.hid g2
          have G3 := Lib.hid (HST.out _ _ g3)
          have G4 := Lib.hid (HQ.out (p - c - q) (p - c - q + 1000) 1 rfl (by omega))
          clear g1 g2 g3 HAP HST HQ HLN e1 e2
          go_wp2_with (((with_reducible refine xAppendAt G1.out rfl rfl ?_ ?_ ?_ ?_); exact rfl; exact rfl; exact rfl))
          refine ⟨⟨i + 1, _, _, by go_num, rfl, by omega, G2, G3, G4⟩, ?_⟩
          simp [intOf]
          omega
        · obtain ⟨v', w', g1, g2, g3⟩ := HAP.out (p - c - q)
          have G1 := Lib.hid g1
          have G2 := Lib.hid g2
          have G3 := Lib.hid (HST.out _ _ g3)
          have G4 := Lib.hid (HQ.out (p - c - q) (p - c - q) 0 rfl (by omega))
          clear g1 g2 g3 HAP HST HQ HLN e1 e2
          go_wp2_with (((with_reducible refine xAppendAt G1.out rfl rfl ?_ ?_ ?_ ?_); exact rfl; exact rfl; exact rfl))
          refine ⟨⟨i + 1, _, _, by go_num, rfl, by omega, G2, G3, G4⟩, ?_⟩
          simp [intOf]
          omega
      · have e2 : b.getD i 0 = 0 := by simp [List.getD, h2]
        rw [e2] at HQ gb
        by_cases hneg : p - c < 0
        · obtain ⟨v', w', g1, g2, g3⟩ := HAP.out (p - c + 1000)
          have G1 := Lib.hid g1
          have G2 := Lib.hid g2
          have G3 := Lib.hid (HST.out _ _ g3)
          have G4 := Lib.hid (HQ.out (p - c) (p - c + 1000) 1 (by omega) (by omega))
          clear g1 g2 g3 HAP HST HQ HLN e1 e2
          go_wp2_with (((with_reducible refine xAppendAt G1.out rfl rfl ?_ ?_ ?_ ?_); exact rfl; exact rfl; exact rfl))
          refine ⟨⟨i + 1, _, _, by go_num, rfl, by omega, G2, G3, G4⟩, ?_⟩
          simp [intOf]
          omega
        · obtain ⟨v', w', g1, g2, g3⟩ := HAP.out (p - c)
          have G1 := Lib.hid g1
          have G2 := Lib.hid g2
          have G3 := Lib.hid (HST.out _ _ g3)
          have G4 := Lib.hid (HQ.out (p - c) (p - c) 0 (by omega) (by omega))
          clear g1 g2 g3 HAP HST HQ HLN e1 e2
          go_wp2_with (((with_reducible refine xAppendAt G1.out rfl rfl ?_ ?_ ?_ ?_); exact rfl; exact rfl; exact rfl))
          refine ⟨⟨i + 1, _, _, by go_num, rfl, by omega, G2, G3, G4⟩, ?_⟩
          simp [intOf]
          omega
    · obtain rfl : i = a.length := by omega
      obtain ⟨va, vc, e⟩ := hown.out.row.form
      subst e
      have HV := Lib.hid (HF.out _ _ hP.out)
      have HLE := hP.out.len
      have HD := Lib.hid hP.out.dg
      have hlo : out.length ≤ a.length := by omega
      clear HLE HF
      go_wp2_with fail
      go_ret
      exact ⟨_, out, rfl, hown.out, hM.out, HD.out, HV.out, hlo⟩
def sgnI (x y : Int) : Int := if x < y then -1 else if y < x then 1 else 0
set_option maxHeartbeats 2000000 in
theorem nagainst_any (x y : Value) (a b : List Int) (w : World) (hx : IntsIn w x a) (hy : IntsIn w y b) (ha : Dg a) (hb : Dg b) (hca : Cn a) (hcb : Cn b) (la : a.length ≤ 1000000) (lb : b.length ≤ 1000000) :
    Calls Try.prog 89 #[x, y] w fun e w' => e = .returned (.int .i64 (sgnI (rv a) (rv b))) ∧ Mod [] w w' := by
  have HX := Lib.hid hx
  have HY := Lib.hid hy
  obtain ⟨xa, xc, rfl⟩ := hx.form
  obtain ⟨ya, yc, rfl⟩ := hy.form
  by_cases hl : a.length = b.length
  · have HL := Lib.hid hl
    have HLT := Lib.hid (fun (i : Nat) (h1 : i < a.length) (h2 : i < b.length) (hd : a.drop (i + 1) = b.drop (i + 1)) (h : a[i] < b[i]) => rv_lt_at ha hb h1 h2 hd h)
    have HGT := Lib.hid (fun (i : Nat) (h1 : i < a.length) (h2 : i < b.length) (hd : a.drop (i + 1) = b.drop (i + 1)) (h : b[i] < a[i]) => rv_lt_at hb ha h2 h1 hd.symm h)
    have hne : ((a.length : Int) != (b.length : Int)) = false := by rw [hl]; simp
    clear hx hy ha hb hca hcb hl
    go_enter Try.func89, Try.ntmps89
    go_wp2_with fail
    go_loopw [5] (fun s5 wr => ∃ (k : Nat) (z : Int), s5 = .int .i64 z ∧ z = (k : Int) - 1 ∧ k ≤ a.length ∧ Hid (a.drop k = b.drop k) ∧ Hid (Mod [] w wr)) (fun s5 _ => (intOf s5 + 1).toNat)
    case atStart => exact ⟨a.length, _, rfl, rfl, by omega, Lib.hid (by rw [List.drop_of_length_le (Nat.le_refl _), List.drop_of_length_le (by rw [HL.out]; omega)]), Lib.hid (Mod.refl _ _)⟩
    case round =>
      obtain ⟨k, z, rfl, hz, hk, hD, hM⟩ := hrel
      cases k with
      | zero =>
        obtain rfl : z = -1 := by omega
        have HE := Lib.hid (show sgnI (rv a) (rv b) = 0 by
          have := hD.out
          simp at this
          rw [this]
          simp [sgnI])
        clear hz
        go_wp2_with fail
        go_ret
        exact ⟨by rw [HE.out]; rfl, hM.out⟩
      | succ m =>
        obtain rfl : z = (m : Int) := by omega
        have h1 : m < a.length := by omega
        have h2 : m < b.length := by rw [← HL.out]; omega
        obtain ⟨b1, o1, rfl, _, r1⟩ := (HX.out.kept0 hM.out).get1 h1
        obtain ⟨b2, o2, rfl, _, r2⟩ := (HY.out.kept0 hM.out).get1 h2
        have G1 := Lib.hid (HLT.out m h1 h2 hD.out)
        have G2 := Lib.hid (HGT.out m h1 h2 hD.out)
        have G3 := Lib.hid (show a[m] = b[m] → a.drop m = b.drop m from fun e => by
          rw [← List.getElem_cons_drop h1, ← List.getElem_cons_drop h2, e, hD.out])
        generalize a[m] = p at r1 G1 G2 G3
        generalize b[m] = q at r2 G1 G2 G3
        clear hz
        by_cases he : p = q
        · subst he
          have hb : (p != p) = false := by simp
          go_wp2_with fail
          refine wp_plan [] [0, 1, 2, 3, 4, 5, 6, 7, 8] (by kernel_rfl) (by kernel_rfl) ?_
          simp only [wpSegs, opsOf, List.map_cons, List.map_nil, opN, List.getD_cons_zero, List.getD_cons_succ]
          go_wp2_with fail
          refine ⟨by first | trivial | rfl, ?_⟩
          go_wp2_with fail
          go_roundw
          case rel => exact ⟨m, _, rfl, by omega, by omega, Lib.hid (G3.out (by trivial)), Lib.hid hM.out.drew⟩
          case measure => simp [intOf] <;> omega
        · have hb : (p != q) = true := by simpa using he
          by_cases hlt : p < q
          · have HE := Lib.hid (show sgnI (rv a) (rv b) = -1 by
              have := G1.out hlt
              simp [sgnI, this])
            clear he
            go_wp2_with fail
            refine wp_plan [] [0, 1, 2, 3, 4, 5, 6, 7, 8] (by kernel_rfl) (by kernel_rfl) ?_
            simp only [wpSegs, opsOf, List.map_cons, List.map_nil, opN, List.getD_cons_zero, List.getD_cons_succ]
            go_wp2_with fail
            refine ⟨by first | trivial | rfl, ?_⟩
            go_wp2_with fail
            refine wp_plan [] [0, 1, 2, 3, 4, 5, 6, 7, 8] (by kernel_rfl) (by kernel_rfl) ?_
            simp only [wpSegs, opsOf, List.map_cons, List.map_nil, opN, List.getD_cons_zero, List.getD_cons_succ]
            go_wp2_with fail
            refine ⟨by first | trivial | rfl, ?_⟩
            go_wp2_with fail
            go_ret
            exact ⟨by rw [HE.out]; rfl, hM.out.drew.drew⟩
          · have HE := Lib.hid (show sgnI (rv a) (rv b) = 1 by
              have := G2.out (by omega)
              simp [sgnI, this]
              omega)
            clear he
            go_wp2_with fail
            refine wp_plan [] [0, 1, 2, 3, 4, 5, 6, 7, 8] (by kernel_rfl) (by kernel_rfl) ?_
            simp only [wpSegs, opsOf, List.map_cons, List.map_nil, opN, List.getD_cons_zero, List.getD_cons_succ]
            go_wp2_with fail
            refine ⟨by first | trivial | rfl, ?_⟩
            go_wp2_with fail
            refine wp_plan [] [0, 1, 2, 3, 4, 5, 6, 7, 8] (by kernel_rfl) (by kernel_rfl) ?_
            simp only [wpSegs, opsOf, List.map_cons, List.map_nil, opN, List.getD_cons_zero, List.getD_cons_succ]
            go_wp2_with fail
            refine ⟨by first | trivial | rfl, ?_⟩
            go_wp2_with fail
            go_ret
            exact ⟨by rw [HE.out]; rfl, hM.out.drew.drew⟩
  · have hne : ((a.length : Int) != (b.length : Int)) = true := by simp; omega
    by_cases h1 : a.length < b.length
    · have HE := Lib.hid (show sgnI (rv a) (rv b) = -1 by
        have := rv_lt_len ha hb hcb h1
        simp [sgnI, this])
      clear hx hy ha hb hca hcb hl
      go_enter Try.func89, Try.ntmps89
      go_wp2_with fail
      go_ret
      exact ⟨by rw [HE.out]; rfl, Mod.refl _ _⟩
    · have HE := Lib.hid (show sgnI (rv a) (rv b) = 1 by
        have := rv_lt_len hb ha hca (by omega)
        simp [sgnI, this]
        omega)
      clear hx hy ha hb hca hcb hl
      go_enter Try.func89, Try.ntmps89
      go_wp2_with fail
      go_ret
      exact ⟨by rw [HE.out]; rfl, Mod.refl _ _⟩
end Go.Proofs.Ytnoookcfacmdkaa
namespace Go.Proofs.Ytnoookcfacmdkaa
open Go.RowKit Go.ChangeMaps Go.Deep
set_option linter.unusedSimpArgs false
set_option linter.unusedVariables false
set_option maxRecDepth 20000

/-- numbers that are looked at: of at most 80 places -/
def Big (z : Int) : Prop := (z.natAbs : Int) < 1000 ^ 80
theorem zOf_abs (neg : Bool) {l : List Int} (h : Dg l) : ((zOf neg l).natAbs : Int) = rv l := by
  have := rv_nonneg h
  unfold zOf
  split <;> omega
theorem NumAt.len {w : World} {neg : Bool} {s : Value} {l : List Int} {z : Int} (h : NumAt w neg s l z) (hz : Big z) : l.length ≤ 80 := by
  refine len_le h.dg h.cn ?_
  have h1 := zOf_abs neg h.dg
  rw [← h.z] at h1
  rw [← h1]
  exact hz
theorem Big.le {x y : Int} (h : Big y) (hx : x.natAbs ≤ y.natAbs) : Big x := by
  unfold Big at h ⊢
  generalize (1000 : Int) ^ 300 = K at h ⊢
  omega
theorem big_of {x : Int} (k : Nat) (hk : k ≤ 80) (h : (x.natAbs : Int) < 1000 ^ k) : Big x := by
  unfold Big
  have := pow_le1000 hk
  omega
theorem Big.neg {x : Int} (h : Big x) : Big (-x) := h.le (by omega)
theorem IntsIn.off {w w' : World} {v : Value} {l : List Int} {k : Nat} (h : IntsIn w v l) (hk : ∀ j u, w.cell? ⟨k, j, none⟩ = some u → ∀ z, u ≠ .int .i64 z) (hm : Mod [k] w w') : IntsIn w' v l := by
  cases h with
  | nil a cap => exact .nil a cap
  | at_ b o cap l hc h =>
    cases l with
    | nil => exact .at_ b o cap [] hc (fun j u hj => by simp [flat] at hj)
    | cons d l =>
      refine .at_ b o cap _ hc (rangeAt_kept h hm fun hb => ?_)
      simp at hb
      subst hb
      exact hk _ _ (h 0 (.int .i64 d) rfl) d rfl
/-- the box of a whole number -/
def BoxN (w : World) (k : Nat) : Prop := ∃ b a n c f, w.heap[k]? = some (.cells #[.bool b, .slice a n c] 120 f)
theorem BoxN.ints {w w' : World} {v : Value} {l : List Int} {k : Nat} (hk : BoxN w k) (h : IntsIn w v l) (hm : Mod [k] w w') : IntsIn w' v l := by
  obtain ⟨b, a, n, c, f, hb⟩ := hk
  refine h.off (fun j u hj z e => ?_) hm
  rw [cell_blk hb] at hj
  subst e
  match j with
  | 0 => simp at hj
  | 1 => simp at hj
  | j + 2 => simp at hj
theorem NumAt.box {w w' : World} {neg : Bool} {s : Value} {l : List Int} {z : Int} {k : Nat} (h : NumAt w neg s l z) (hk : BoxN w k) (hm : Mod [k] w w') : NumAt w' neg s l z := ⟨hk.ints h.ints hm, h.dg, h.cn, h.z, h.neg⟩
theorem NumAt.res2 {w : World} {neg : Bool} {s : Value} {l : List Int} {z : Int} {k : Nat} {f : Nat × Nat} (h : NumAt w neg s l z) (hk : w.heap[k]? = some (.cells #[.bool false, .slice none 0 0] 120 f)) (x y : Value) : NumAt ((w.setCell ⟨k, 0, none⟩ x).setCell ⟨k, 1, none⟩ y) neg s l z :=
  h.box ⟨_, _, _, _, _, hk⟩ (((Mod.refl [k] w).setCell (by simp) x).setCell (by simp) y)
set_option maxHeartbeats 1000000 in
theorem nneg_any (x : Value) (a : Int) (w : World) (hx : NAt w x a) (sa : Big a) :
    Calls Try.prog 88 #[x] w fun e w' => ∃ v, e = .returned v ∧ NAt w' v (-a) ∧ Mod [] w w' := by
  obtain ⟨n, s, l, rfl, h⟩ := hx
  have hl := h.len sa
  have HZ := Lib.hid (show zOf (!n) l = -a by rw [h.z]; cases n <;> simp [zOf])
  obtain ⟨A1, hA1, n1, s1, m1⟩ := alloc_named2 w (.cells #[.bool n, s] 120)
  obtain ⟨A2, hA2, n2, s2, m2⟩ := alloc_named2 A1 (.cells #[.bool false, .slice none 0 0] 120)
  have q0 := cell_blk (m2.heap n1 (by simp)) 0
  have q1 := cell_blk (m2.heap n1 (by simp)) 1
  simp only [List.getElem?_toArray, List.getElem?_cons_succ, List.getElem?_cons_zero] at q0 q1
  have HC := Lib.hid (nshort_any (!n) s l A2 (h.ints.kept0 (m1.trans m2)) h.dg (by omega))
  rw [HZ.out] at HC
  rw [s1] at n2
  have HN2 := Lib.hid n2
  have HM := Lib.hid (m1.trans m2)
  have HS := Lib.hid s1
  clear h n1 m1 n2 s2 m2 HZ sa hl HS
  go_enter Try.func88, Try.ntmps88
  go_wp2_with fail
  refine HC.out.mono ?_
  rintro e w1 ⟨v, rfl, hv, m3⟩
  obtain ⟨n', s', l', rfl, hv'⟩ := hv
  have hcr := m3.heap HN2.out (by simp)
  have p0 := cell_blk hcr 0
  have p1 := cell_blk hcr 1
  have f0 := frozen_blk hcr 0
  have f1 := frozen_blk hcr 1
  simp only [List.getElem?_toArray, List.getElem?_cons_succ, List.getElem?_cons_zero] at p0 p1
  obtain ⟨a', c', rfl⟩ := hv'.ints.form
  have HV := Lib.hid hv'
  have HM3 := Lib.hid (HM.out.trans m3)
  have HR := Lib.hid hcr
  clear hv' hcr m3 HC
  go_wp2_with fail
  refine bodyPost_ret (v := .agg #[.bool n', .slice a' l'.length c']) (by simp [results, Try.results88, go_sem, p0, p1]) rfl ⟨_, rfl, ⟨_, _, _, rfl, HV.out.res2 HR.out _ _⟩, HM3.out.res2 (by omega) _ _⟩
theorem box_set2 {w : World} {k : Nat} {x0 x1 : Value} {t : TypeId} {f : Nat × Nat} (h : w.heap[k]? = some (.cells #[x0, x1] t f)) (u0 u1 : Value) : ((w.setCell ⟨k, 0, none⟩ u0).setCell ⟨k, 1, none⟩ u1).heap[k]? = some (.cells #[u0, u1] t f) := by
  have h1 := heap_setCell_blk h 0 u0
  have h2 := heap_setCell_blk h1 1 u1
  simpa using h2
theorem box_swap {w : World} {i j : Nat} (hij : i ≠ j) {x0 x1 y0 y1 : Value} {t : TypeId} {f g : Nat × Nat} (h1 : w.heap[i]? = some (.cells #[x0, x1] t f)) (h2 : w.heap[j]? = some (.cells #[y0, y1] t g)) (u0 u1 v0 v1 : Value) :
    ∃ W, (((w.setCell ⟨i, 0, none⟩ u0).setCell ⟨i, 1, none⟩ u1).setCell ⟨j, 0, none⟩ v0).setCell ⟨j, 1, none⟩ v1 = W ∧ W.heap[i]? = some (.cells #[u0, u1] t f) ∧ W.heap[j]? = some (.cells #[v0, v1] t g) ∧ Mod [i, j] w W := by
  refine ⟨_, rfl, ?_, ?_, ?_⟩
  · have m : Mod [j] ((w.setCell ⟨i, 0, none⟩ u0).setCell ⟨i, 1, none⟩ u1) ((((w.setCell ⟨i, 0, none⟩ u0).setCell ⟨i, 1, none⟩ u1).setCell ⟨j, 0, none⟩ v0).setCell ⟨j, 1, none⟩ v1) := ((Mod.refl _ _).setCell (by simp) _).setCell (by simp) _
    exact m.heap (box_set2 h1 u0 u1) (by simpa using hij)
  · have m : Mod [i] w ((w.setCell ⟨i, 0, none⟩ u0).setCell ⟨i, 1, none⟩ u1) := ((Mod.refl _ _).setCell (by simp) _).setCell (by simp) _
    exact box_set2 (m.heap h2 (by simpa using hij.symm)) v0 v1
  · exact ((((Mod.refl _ _).setCell (by simp) _).setCell (by simp) _).setCell (by simp) _).setCell (by simp) _
set_option maxHeartbeats 4000000 in
theorem nadd_any (x y : Value) (a b : Int) (w : World) (hx : NAt w x a) (hy : NAt w y b) (sa : Big a) (sb : Big b) :
    Calls Try.prog 86 #[x, y] w fun e w' => ∃ v, e = .returned v ∧ NAt w' v (a + b) ∧ Mod [] w w' := by
  obtain ⟨n, s, l, rfl, h⟩ := hx
  obtain ⟨n2, s2, l2, rfl, h2⟩ := hy
  have hl := h.len sa
  have hl2 := h2.len sb
  obtain ⟨sa', sc, rfl⟩ := h.ints.form
  obtain ⟨sb', sd, rfl⟩ := h2.ints.form
  have HH := Lib.hid h
  have HH2 := Lib.hid h2
  obtain ⟨A1, hA1, n1, z1, m1⟩ := alloc_named2 w (.cells #[.bool n, .slice sa' l.length sc] 120)
  obtain ⟨A2, hA2, n3, z2, m2⟩ := alloc_named2 A1 (.cells #[.bool n2, .slice sb' l2.length sd] 120)
  obtain ⟨A3, hA3, n4, z3, m3⟩ := alloc_named2 A2 (.cells #[.bool false, .slice none 0 0] 120)
  rw [z1] at n3 z2
  rw [z2] at n4 z3
  have g1 := (m2.trans m3).heap n1 (by simp)
  have g2 := m3.heap n3 (by simp)
  have q0 := cell_blk g1 0
  have q1 := cell_blk g1 1
  have r0 := cell_blk g2 0
  have r1 := cell_blk g2 1
  simp only [List.getElem?_toArray, List.getElem?_cons_succ, List.getElem?_cons_zero] at q0 q1 r0 r1
  have HG1 := Lib.hid g1
  have HG2 := Lib.hid g2
  have HN4 := Lib.hid n4
  have HM := Lib.hid (m1.trans (m2.trans m3))
  clear n1 n3 n4 m1 m2 m3 g1 g2 z3
  by_cases hn : n = n2
  · subst hn
    have HC := Lib.hid (nplus_any _ _ l l2 A3.drew (HH.out.ints.kept0 HM.out.drew) (HH2.out.ints.kept0 HM.out.drew) h.dg h2.dg (by omega) (by omega))
    have HZ := Lib.hid (show ∀ t, rv t = rv l + rv l2 → zOf n t = a + b from fun t ht => by rw [h.z, h2.z]; cases n <;> simp [zOf, ht] <;> omega)
    have hb : (n == n) = true := by simp
    clear h h2 sa sb
    go_enter Try.func86, Try.ntmps86
    go_wp2_with fail
    refine wp_plan [([0, 2, 4, 1, 3, 5], 6, [0, 1]), ([], 7, []), ([], 8, [])] [] (by kernel_rfl) (by kernel_rfl) ?_
    simp only [wpSegs, opsOf, List.map_cons, List.map_nil, opN, List.getD_cons_zero, List.getD_cons_succ]
    go_wp2_with fail
    refine ⟨by first | trivial | rfl, ?_⟩
    go_wp2_with fail
    refine HC.out.mono ?_
    rintro e w1 ⟨v1, t, rfl, o1, m4, d1, e1, c1, len1⟩
    have hm4 := HM.out.drew.trans m4
    have HCS := Lib.hid (nshort_any n v1 t w1 o1.row d1 (by omega))
    rw [HZ.out t e1] at HCS
    obtain ⟨va, vc, rfl⟩ := o1.row.form
    have q0' := ((Mod.refl [] A3).drew.trans m4).cellD q0
    have q1' := ((Mod.refl [] A3).drew.trans m4).cellD q1
    have HM4 := Lib.hid hm4
    have HR4 := Lib.hid (((Mod.refl [] A3).drew.trans m4).heap HN4.out (by simp))
    clear o1 m4 d1 e1 c1 hm4 HC HZ
    go_wp2_with fail
    refine ⟨?ag1, ?_⟩
    case ag1 =>
      intro i hi hw
      simp only [List.mem_cons, List.not_mem_nil, or_false] at hi
      rcases hi with rfl | rfl
      all_goals (simp only [opN, List.getD_cons_zero, List.getD_cons_succ, slotOf]; go_simp)
    go_wp2_with fail
    refine ⟨by first | trivial | rfl, ?_⟩
    go_wp2_with fail
    refine HCS.out.mono ?_
    rintro e w2 ⟨v, rfl, hv, m5⟩
    obtain ⟨n', s', l', rfl, hv'⟩ := hv
    obtain ⟨a', c', rfl⟩ := hv'.ints.form
    have hcr := m5.heap HR4.out (by simp)
    have p0 := cell_blk hcr 0
    have p1 := cell_blk hcr 1
    have f0 := frozen_blk hcr 0
    have f1 := frozen_blk hcr 1
    simp only [List.getElem?_toArray, List.getElem?_cons_succ, List.getElem?_cons_zero] at p0 p1
    have HV := Lib.hid hv'
    have HM5 := Lib.hid (HM4.out.trans m5)
    have HR := Lib.hid hcr
    clear hv' hcr m5 HCS
    go_wp2_with fail
    refine ⟨again_nil, ?_⟩
    go_wp2_with fail
    refine ⟨by first | trivial | rfl, ?_⟩
    go_wp2_with fail
    refine ⟨again_nil, ?_⟩
    go_wp2_with fail
    refine ⟨by first | trivial | rfl, ?_⟩
    go_wp2_with fail
    refine bodyPost_ret (v := .agg #[.bool n', .slice a' l'.length c']) (by simp [results, Try.results86, go_sem, p0, p1]) rfl ⟨_, rfl, ⟨_, _, _, rfl, HV.out.res2 HR.out _ _⟩, HM5.out.res2 (by omega) _ _⟩
  · have hb : (n == n2) = false := by simpa using hn
    have HC := Lib.hid (nagainst_any _ _ l l2 A3 (HH.out.ints.kept0 HM.out) (HH2.out.ints.kept0 HM.out) h.dg h2.dg h.cn h2.cn (by omega) (by omega))
    by_cases hlt : rv l < rv l2
    · rw [show sgnI (rv l) (rv l2) = -1 by simp [sgnI, hlt]] at HC
      have HZ := Lib.hid (show ∀ t, rv t = rv l2 - rv l → zOf n2 t = a + b from fun t ht => by
        rw [h.z, h2.z]
        cases n <;> cases n2 <;> simp_all [zOf] <;> omega)
      clear h h2 sa sb
      go_enter Try.func86, Try.ntmps86
      go_wp2_with fail
      refine HC.out.mono ?_
      rintro e w1 ⟨rfl, m4⟩
      have k1 := m4.heap HG1.out (by simp)
      have k2 := m4.heap HG2.out (by simp)
      have q0' := m4.cellD q0
      have q1' := m4.cellD q1
      have r0' := m4.cellD r0
      have r1' := m4.cellD r1
      have f0 := frozen_blk k1 0
      have f1 := frozen_blk k1 1
      have f2 := frozen_blk k2 0
      have f3 := frozen_blk k2 1
      obtain ⟨W, hW, b1, b2, mW⟩ := box_swap (by omega : w.heap.size ≠ w.heap.size + 1) k1 k2 (.bool n2) (.slice sb' l2.length sd) (.bool n) (.slice sa' l.length sc)
      have t0 := cell_blk b1 0
      have t1 := cell_blk b1 1
      have t3 := cell_blk b2 1
      simp only [List.getElem?_toArray, List.getElem?_cons_succ, List.getElem?_cons_zero] at t0 t1 t3
      have HMW : Hid (Mod [] w W) := Lib.hid (by
        rw [← hW]
        exact ((((HM.out.trans m4).setCellNew (by exact Nat.le_refl _) _).setCellNew (by exact Nat.le_refl _) _).setCellNew (by exact Nat.le_succ _) _).setCellNew (by exact Nat.le_succ _) _)
      have HRW := Lib.hid (mW.heap (m4.heap HN4.out (by simp)) (by simp; omega))
      have HCM := Lib.hid (nminus_any _ _ l2 l W.drew (HH2.out.ints.kept0 HMW.out.drew) (HH.out.ints.kept0 HMW.out.drew) HH2.out.dg HH.out.dg HH.out.cn (by omega) (by omega) (by omega))
      have HDR := Lib.hid ((Mod.refl [] W).drew)
      clear k1 k2 m4 mW b1 b2 HC
      go_wp2_with fail
      refine wp_plan [([0, 2, 4, 1, 3, 5], 6, [0, 1]), ([], 7, []), ([], 8, [])] [] (by kernel_rfl) (by kernel_rfl) ?_
      simp only [wpSegs, opsOf, List.map_cons, List.map_nil, opN, List.getD_cons_zero, List.getD_cons_succ]
      go_wp2_with fail
      refine ⟨by first | trivial | rfl, ?_⟩
      go_wp2_with fail
      refine HCM.out.mono ?_
      rintro e w3 ⟨v3, t, rfl, o3, m6, d3, e3, len3⟩
      have HCS := Lib.hid (nshort_any n2 v3 t w3 o3.row d3 (by omega))
      rw [HZ.out t e3] at HCS
      obtain ⟨va, vc, rfl⟩ := o3.row.form
      have t0' := (HDR.out.trans m6).cellD t0
      have t1' := (HDR.out.trans m6).cellD t1
      have HM6 := Lib.hid (HMW.out.drew.trans m6)
      have HR6 := Lib.hid ((HDR.out.trans m6).heap HRW.out (by simp))
      clear o3 m6 d3 e3 HCM HZ
      go_wp2_with fail
      refine ⟨?ag1, ?_⟩
      case ag1 =>
        intro i hi hw
        simp only [List.mem_cons, List.not_mem_nil, or_false] at hi
        rcases hi with rfl | rfl
        all_goals (simp only [opN, List.getD_cons_zero, List.getD_cons_succ, slotOf]; go_simp)
      go_wp2_with fail
      refine ⟨by first | trivial | rfl, ?_⟩
      go_wp2_with fail
      refine HCS.out.mono ?_
      rintro e w2 ⟨v, rfl, hv, m5⟩
      obtain ⟨n', s', l', rfl, hv'⟩ := hv
      obtain ⟨a', c', rfl⟩ := hv'.ints.form
      have hcr := m5.heap HR6.out (by simp)
      have p0 := cell_blk hcr 0
      have p1 := cell_blk hcr 1
      have f0 := frozen_blk hcr 0
      have f1 := frozen_blk hcr 1
      simp only [List.getElem?_toArray, List.getElem?_cons_succ, List.getElem?_cons_zero] at p0 p1
      have HV := Lib.hid hv'
      have HM5 := Lib.hid (HM6.out.trans m5)
      have HR := Lib.hid hcr
      clear hv' hcr m5 HCS
      go_wp2_with fail
      refine ⟨again_nil, ?_⟩
      go_wp2_with fail
      refine ⟨by first | trivial | rfl, ?_⟩
      go_wp2_with fail
      refine ⟨again_nil, ?_⟩
      go_wp2_with fail
      refine ⟨by first | trivial | rfl, ?_⟩
      go_wp2_with fail
      refine bodyPost_ret (v := .agg #[.bool n', .slice a' l'.length c']) (by simp [results, Try.results86, go_sem, p0, p1]) rfl ⟨_, rfl, ⟨_, _, _, rfl, HV.out.res2 HR.out _ _⟩, HM5.out.res2 (by omega) _ _⟩
    · have hg : ∃ g : Int, sgnI (rv l) (rv l2) = g ∧ ¬ g < 0 := by
        refine ⟨_, rfl, ?_⟩
        simp only [sgnI]
        split
        · omega
        · split <;> omega
      obtain ⟨g, hg1, hg2⟩ := hg
      rw [hg1] at HC
      have HZ := Lib.hid (show ∀ t, rv t = rv l - rv l2 → zOf n t = a + b from fun t ht => by
        rw [h.z, h2.z]
        cases n <;> cases n2 <;> simp_all [zOf] <;> omega)
      clear h h2 sa sb hg1
      go_enter Try.func86, Try.ntmps86
      go_wp2_with fail
      refine HC.out.mono ?_
      rintro e W ⟨rfl, m4⟩
      have t0 := m4.cellD q0
      have t1 := m4.cellD q1
      have t3 := m4.cellD r1
      have HMW := Lib.hid (HM.out.trans m4)
      have HRW := Lib.hid (m4.heap HN4.out (by simp))
      have HCM := Lib.hid (nminus_any _ _ l l2 W.drew (HH.out.ints.kept0 HMW.out.drew) (HH2.out.ints.kept0 HMW.out.drew) HH.out.dg HH2.out.dg HH2.out.cn (by omega) (by omega) (by omega))
      have HDR := Lib.hid ((Mod.refl [] W).drew)
      clear m4 HC
      go_wp2_with fail
      refine wp_plan [([0, 2, 4, 1, 3, 5], 6, [0, 1]), ([], 7, []), ([], 8, [])] [] (by kernel_rfl) (by kernel_rfl) ?_
      simp only [wpSegs, opsOf, List.map_cons, List.map_nil, opN, List.getD_cons_zero, List.getD_cons_succ]
      go_wp2_with fail
      refine ⟨by first | trivial | rfl, ?_⟩
      go_wp2_with fail
      refine HCM.out.mono ?_
      rintro e w3 ⟨v3, t, rfl, o3, m6, d3, e3, len3⟩
      have HCS := Lib.hid (nshort_any n v3 t w3 o3.row d3 (by omega))
      rw [HZ.out t e3] at HCS
      obtain ⟨va, vc, rfl⟩ := o3.row.form
      have t0' := (HDR.out.trans m6).cellD t0
      have t1' := (HDR.out.trans m6).cellD t1
      have HM6 := Lib.hid (HMW.out.drew.trans m6)
      have HR6 := Lib.hid ((HDR.out.trans m6).heap HRW.out (by simp))
      clear o3 m6 d3 e3 HCM HZ
      go_wp2_with fail
      refine ⟨?ag1, ?_⟩
      case ag1 =>
        intro i hi hw
        simp only [List.mem_cons, List.not_mem_nil, or_false] at hi
        rcases hi with rfl | rfl
        all_goals (simp only [opN, List.getD_cons_zero, List.getD_cons_succ, slotOf]; go_simp)
      go_wp2_with fail
      refine ⟨by first | trivial | rfl, ?_⟩
      go_wp2_with fail
      refine HCS.out.mono ?_
      rintro e w2 ⟨v, rfl, hv, m5⟩
      obtain ⟨n', s', l', rfl, hv'⟩ := hv
      obtain ⟨a', c', rfl⟩ := hv'.ints.form
      have hcr := m5.heap HR6.out (by simp)
      have p0 := cell_blk hcr 0
      have p1 := cell_blk hcr 1
      have f0 := frozen_blk hcr 0
      have f1 := frozen_blk hcr 1
      simp only [List.getElem?_toArray, List.getElem?_cons_succ, List.getElem?_cons_zero] at p0 p1
      have HV := Lib.hid hv'
      have HM5 := Lib.hid (HM6.out.trans m5)
      have HR := Lib.hid hcr
      clear hv' hcr m5 HCS
      go_wp2_with fail
      refine ⟨again_nil, ?_⟩
      go_wp2_with fail
      refine ⟨by first | trivial | rfl, ?_⟩
      go_wp2_with fail
      refine ⟨again_nil, ?_⟩
      go_wp2_with fail
      refine ⟨by first | trivial | rfl, ?_⟩
      go_wp2_with fail
      refine bodyPost_ret (v := .agg #[.bool n', .slice a' l'.length c']) (by simp [results, Try.results86, go_sem, p0, p1]) rfl ⟨_, rfl, ⟨_, _, _, rfl, HV.out.res2 HR.out _ _⟩, HM5.out.res2 (by omega) _ _⟩
end Go.Proofs.Ytnoookcfacmdkaa
namespace Go.Proofs.Ytnoookcfacmdkaa
open Go.RowKit Go.ChangeMaps Go.Deep
set_option linter.unusedSimpArgs false
set_option linter.unusedVariables false
set_option maxRecDepth 20000

set_option maxHeartbeats 2000000 in
theorem nsub_any (x y : Value) (a b : Int) (w : World) (hx : NAt w x a) (hy : NAt w y b) (sa : Big a) (sb : Big b) :
    Calls Try.prog 85 #[x, y] w fun e w' => ∃ v, e = .returned v ∧ NAt w' v (a - b) ∧ Mod [] w w' := by
  have HX := Lib.hid hx
  have HY := Lib.hid hy
  have HSA := Lib.hid sa
  have HSB := Lib.hid sb
  obtain ⟨n, s, l, rfl, h⟩ := hx
  obtain ⟨n2, s2, l2, rfl, h2⟩ := hy
  obtain ⟨sa', sc, rfl⟩ := h.ints.form
  obtain ⟨sb', sd, rfl⟩ := h2.ints.form
  obtain ⟨A1, hA1, n1, z1, m1⟩ := alloc_named2 w (.cells #[.bool n, .slice sa' l.length sc] 120)
  obtain ⟨A2, hA2, n3, z2, m2⟩ := alloc_named2 A1 (.cells #[.bool n2, .slice sb' l2.length sd] 120)
  obtain ⟨A3, hA3, n4, z3, m3⟩ := alloc_named2 A2 (.cells #[.bool false, .slice none 0 0] 120)
  rw [z1] at n3 z2
  rw [z2] at n4 z3
  have g1 := (m2.trans m3).heap n1 (by simp)
  have g2 := m3.heap n3 (by simp)
  have q0 := cell_blk g1 0
  have q1 := cell_blk g1 1
  have r0 := cell_blk g2 0
  have r1 := cell_blk g2 1
  simp only [List.getElem?_toArray, List.getElem?_cons_succ, List.getElem?_cons_zero] at q0 q1 r0 r1
  have HN4 := Lib.hid n4
  have hm := m1.trans (m2.trans m3)
  have HM := Lib.hid hm.drew
  have HDR := Lib.hid (Mod.refl [] A3).drew
  have HC := Lib.hid (nneg_any _ b A3.drew (HY.out.kept0 HM.out) HSB.out)
  clear n1 n3 n4 m1 m2 m3 g1 g2 z3 hm h h2 sa sb
  go_enter Try.func85, Try.ntmps85
  go_wp2_with fail
  refine wp_plan [([0, 1], 2, [0]), ([], 3, []), ([], 4, [])] [] (by kernel_rfl) (by kernel_rfl) ?_
  simp only [wpSegs, opsOf, List.map_cons, List.map_nil, opN, List.getD_cons_zero, List.getD_cons_succ]
  go_wp2_with fail
  refine ⟨by first | trivial | rfl, ?_⟩
  go_wp2_with fail
  refine HC.out.mono ?_
  rintro e w1 ⟨v1, rfl, hv, m4⟩
  have HCA := Lib.hid (nadd_any _ v1 a (-b) w1 (HX.out.kept0 (HM.out.trans m4)) hv HSA.out HSB.out.neg)
  rw [← Int.sub_eq_add_neg] at HCA
  have q0' := (HDR.out.trans m4).cellD q0
  have q1' := (HDR.out.trans m4).cellD q1
  have HM4 := Lib.hid (HM.out.trans m4)
  have HR4 := Lib.hid ((HDR.out.trans m4).heap HN4.out (by simp))
  clear hv m4 HC
  go_wp2_with fail
  refine ⟨?ag1, ?_⟩
  case ag1 =>
    intro i hi hw
    simp only [List.mem_cons, List.not_mem_nil, or_false] at hi
    subst hi
    all_goals (simp only [opN, List.getD_cons_zero, List.getD_cons_succ, slotOf]; go_simp)
  go_wp2_with fail
  refine ⟨by first | trivial | rfl, ?_⟩
  go_wp2_with fail
  refine HCA.out.mono ?_
  rintro e w2 ⟨v, rfl, hv, m5⟩
  obtain ⟨n', s', l', rfl, hv'⟩ := hv
  obtain ⟨a', c', rfl⟩ := hv'.ints.form
  have hcr := m5.heap HR4.out (by simp)
  have p0 := cell_blk hcr 0
  have p1 := cell_blk hcr 1
  have f0 := frozen_blk hcr 0
  have f1 := frozen_blk hcr 1
  simp only [List.getElem?_toArray, List.getElem?_cons_succ, List.getElem?_cons_zero] at p0 p1
  have HV := Lib.hid hv'
  have HM5 := Lib.hid (HM4.out.trans m5)
  have HR := Lib.hid hcr
  clear hv' hcr m5 HCA
  go_wp2_with fail
  refine ⟨again_nil, ?_⟩
  go_wp2_with fail
  refine ⟨by first | trivial | rfl, ?_⟩
  go_wp2_with fail
  refine ⟨again_nil, ?_⟩
  go_wp2_with fail
  refine ⟨by first | trivial | rfl, ?_⟩
  go_wp2_with fail
  refine bodyPost_ret (v := .agg #[.bool n', .slice a' l'.length c']) (by simp [results, Try.results85, go_sem, p0, p1]) rfl ⟨_, rfl, ⟨_, _, _, rfl, HV.out.res2 HR.out _ _⟩, HM5.out.res2 (by omega) _ _⟩
set_option maxHeartbeats 2000000 in
theorem ncmp_any (x y : Value) (a b : Int) (w : World) (hx : NAt w x a) (hy : NAt w y b) (sa : Big a) (sb : Big b) :
    Calls Try.prog 84 #[x, y] w fun e w' => e = .returned (.int .i64 (sgnI a b)) ∧ Mod [] w w' := by
  have HX := Lib.hid hx
  have HY := Lib.hid hy
  have HSA := Lib.hid sa
  have HSB := Lib.hid sb
  obtain ⟨n, s, l, rfl, h⟩ := hx
  obtain ⟨n2, s2, l2, rfl, h2⟩ := hy
  obtain ⟨sa', sc, rfl⟩ := h.ints.form
  obtain ⟨sb', sd, rfl⟩ := h2.ints.form
  obtain ⟨A1, hA1, n1, z1, m1⟩ := alloc_named2 w (.cells #[.bool n, .slice sa' l.length sc] 120)
  obtain ⟨A2, hA2, n3, z2, m2⟩ := alloc_named2 A1 (.cells #[.bool n2, .slice sb' l2.length sd] 120)
  rw [z1] at n3 z2
  have g1 := m2.heap n1 (by simp)
  have q0 := cell_blk g1 0
  have q1 := cell_blk g1 1
  have r0 := cell_blk n3 0
  have r1 := cell_blk n3 1
  simp only [List.getElem?_toArray, List.getElem?_cons_succ, List.getElem?_cons_zero] at q0 q1 r0 r1
  have HM := Lib.hid (m1.trans m2)
  have HC := Lib.hid (nsub_any _ _ a b A2 (HX.out.kept0 HM.out) (HY.out.kept0 HM.out) HSA.out HSB.out)
  clear n1 n3 m1 m2 g1 h h2 sa sb
  go_enter Try.func84, Try.ntmps84
  go_wp2_with fail
  refine HC.out.mono ?_
  rintro e w1 ⟨v, rfl, hv, m4⟩
  obtain ⟨n', s', l', rfl, hv'⟩ := hv
  obtain ⟨a', c', rfl⟩ := hv'.ints.form
  obtain ⟨B1, hB1, k1, y1, j1⟩ := alloc_named2 w1 (.cells #[.bool n', .slice a' l'.length c'] 120)
  have p0 := cell_blk k1 0
  have p1 := cell_blk k1 1
  simp only [List.getElem?_toArray, List.getElem?_cons_succ, List.getElem?_cons_zero] at p0 p1
  have HM5 := Lib.hid (HM.out.trans (m4.trans j1))
  have hr := rv_nonneg hv'.dg
  have hz := hv'.z
  have hzero := rv_zero hv'.dg hv'.cn
  have hng := hv'.neg
  clear hv' m4 j1 k1 HC y1
  by_cases h0 : l' = []
  · have HE := Lib.hid (show sgnI a b = 0 by
      have h1 := hzero.2 h0
      unfold zOf at hz
      simp [h1] at hz
      unfold sgnI
      rw [if_neg (by omega), if_neg (by omega)])
    subst h0
    clear hz hzero hng hr
    simp only [List.length_nil] at p1 hB1
    go_wp2_with fail
    go_ret
    exact ⟨by rw [HE.out]; rfl, HM5.out⟩
  · have hl0 : 0 < l'.length := List.length_pos_iff.2 h0
    have hne : ((l'.length : Int) == 0) = false := by simp; exact h0
    have hrp : rv l' ≠ 0 := fun e => h0 (hzero.1 e)
    cases n' with
    | true =>
      have HE := Lib.hid (show sgnI a b = -1 by
        simp [zOf] at hz
        unfold sgnI
        rw [if_pos (by omega)])
      clear hz hzero hng hr hrp h0
      go_wp2_with fail
      go_ret
      exact ⟨by rw [HE.out]; rfl, HM5.out⟩
    | false =>
      have HE := Lib.hid (show sgnI a b = 1 by
        simp [zOf] at hz
        unfold sgnI
        rw [if_neg (by omega), if_pos (by omega)])
      clear hz hzero hng hr hrp h0
      go_wp2_with fail
      go_ret
      exact ⟨by rw [HE.out]; rfl, HM5.out⟩
theorem field_N (w : World) (b : Bool) (a : Option Addr) (n c : Nat) : (Instr.field 120 (.agg #[.bool b, .slice a n c]) 1).run Try.prog w = .ok (.slice a n c) w := by kernel_rfl
theorem NumAt.nonneg {w : World} {neg : Bool} {s : Value} {l : List Int} {z : Int} (h : NumAt w neg s l z) (hz : 0 ≤ z) : neg = false ∧ rv l = z := by
  have h1 := rv_nonneg h.dg
  have h2 := h.z
  have h3 := rv_zero h.dg h.cn
  cases neg with
  | false => exact ⟨rfl, by simp [zOf] at h2; omega⟩
  | true =>
    exfalso
    simp [zOf] at h2
    exact h.neg rfl (h3.1 (by omega))
set_option maxHeartbeats 2000000 in
theorem nof_any (n : Int) (hn : -9223372036854775808 ≤ n) (hn2 : n ≤ 9223372036854775807) (w : World) :
    Calls Try.prog 82 #[.int .i64 n] w fun e w' => ∃ v, e = .returned v ∧ NAt w' v n ∧ Mod [] w w' := by
  obtain ⟨A1, hA1, n1, z1, m1⟩ := alloc_named2 w (.cells #[.bool false, .slice none 0 0] 120)
  have HN1 := Lib.hid n1
  have HM := Lib.hid m1
  clear n1 m1
  by_cases h0 : 0 ≤ n
  · obtain ⟨k, rfl⟩ := Int.eq_ofNat_of_zero_le h0
    have HC := Lib.hid (nword_any k (by omega) A1)
    go_enter Try.func82, Try.ntmps82
    go_wp2_with fail
    refine HC.out.mono ?_
    rintro e w2 ⟨v, rfl, hv, m5⟩
    obtain ⟨n', s', l', rfl, hv'⟩ := hv
    obtain ⟨a', c', rfl⟩ := hv'.ints.form
    have hcr := m5.heap HN1.out (by simp)
    have p0 := cell_blk hcr 0
    have p1 := cell_blk hcr 1
    have f0 := frozen_blk hcr 0
    have f1 := frozen_blk hcr 1
    simp only [List.getElem?_toArray, List.getElem?_cons_succ, List.getElem?_cons_zero] at p0 p1
    have HV := Lib.hid hv'
    have HM5 := Lib.hid (HM.out.trans m5)
    have HR := Lib.hid hcr
    clear hv' hcr m5 HC
    go_wp2_with fail
    refine bodyPost_ret (v := .agg #[.bool n', .slice a' l'.length c']) (by simp [results, Try.results82, go_sem, p0, p1]) rfl ⟨_, rfl, ⟨_, _, _, rfl, HV.out.res2 HR.out _ _⟩, HM5.out.res2 (by omega) _ _⟩
  · obtain ⟨k, hk⟩ : ∃ k : Nat, Hid (n = -(k + 1 : Int)) := ⟨(-(n + 1)).toNat, Lib.hid (by omega)⟩
    have HC := Lib.hid (nword_any k (by have := hk.out; omega) A1)
    rw [show (k : Int) = -(n + 1) by have := hk.out; omega] at HC
    go_enter Try.func82, Try.ntmps82
    go_wp2_with fail
    refine HC.out.mono ?_
    rintro e w2 ⟨v, rfl, hv, m5⟩
    obtain ⟨n', s', l', rfl, hv'⟩ := hv
    obtain ⟨a', c', rfl⟩ := hv'.ints.form
    obtain ⟨rfl, hrv⟩ := hv'.nonneg (by omega)
    obtain ⟨B1, hB1, k1, y1, j1⟩ := alloc_named2 w2 (.cells #[.int .i64 1] 3)
    have hone : IntsIn B1 (.slice (some ⟨w2.heap.size, 0, none⟩) 1 1) [1] := by
      refine .at_ _ 0 1 [1] (by simp) fun j u hj => ?_
      rw [Nat.zero_add, cell_blk k1]
      simpa [flat, encI] using hj
    have hbig : Big (-(n + 1)) := big_of 10 (by omega) (by
      have : (-(n + 1)).natAbs = k := by have := hk.out; omega
      rw [this]
      have := hk.out
      omega)
    have hl := hv'.len hbig
    have HCP := Lib.hid (nplus_any _ _ l' [1] B1 (hv'.ints.kept0 j1) hone hv'.dg (Dg.cons (by omega) (by omega) .nil) (by omega) (by simp))
    have HCN := Lib.hid hv'.cn
    have HRV := Lib.hid hrv
    have HM5 := Lib.hid (HM.out.trans (m5.trans j1))
    have HR5 := Lib.hid ((m5.trans j1).heap HN1.out (by simp))
    have HNN := Lib.hid h0
    clear hv' hrv hone hbig j1 k1 y1 m5 HC hk
    have hfd := fun w => field_N w false a' l'.length c'
    go_wp2_with fail
    refine HCP.out.mono ?_
    rintro e w3 ⟨v3, t, rfl, o3, m6, d3, e3, c3, len3⟩
    have hcr := m6.heap HR5.out (by simp)
    have p0 := cell_blk hcr 0
    have p1 := cell_blk hcr 1
    have f0 := frozen_blk hcr 0
    have f1 := frozen_blk hcr 1
    simp only [List.getElem?_toArray, List.getElem?_cons_succ, List.getElem?_cons_zero] at p0 p1
    have hrt : rv t = -n := by rw [e3, HRV.out]; simp [rv]; omega
    obtain ⟨va, vc, rfl⟩ := o3.row.form
    have HV := Lib.hid (show NumAt w3 true (.slice va t.length vc) t n from ⟨o3.row, d3, c3 HCN.out (by simp [Cn]), by simp [zOf, hrt], fun _ e => by
      rw [e] at hrt
      have := HNN.out
      simp [rv] at hrt
      omega⟩)
    have HM6 := Lib.hid (HM5.out.trans m6)
    have HR := Lib.hid hcr
    clear o3 m6 d3 e3 c3 hcr hrt HCP
    go_wp2_with fail
    refine bodyPost_ret (v := .agg #[.bool true, .slice va t.length vc]) (by simp [results, Try.results82, go_sem, p0, p1]) rfl ⟨_, rfl, ⟨_, _, _, rfl, HV.out.res2 HR.out _ _⟩, HM6.out.res2 (by omega) _ _⟩
end Go.Proofs.Ytnoookcfacmdkaa
namespace Go.Proofs.Ytnoookcfacmdkaa
open Go.RowKit Go.ChangeMaps Go.Deep
set_option linter.unusedSimpArgs false
set_option linter.unusedVariables false
set_option maxRecDepth 20000

theorem rv_take_le {l : List Int} (h : Dg l) (n : Nat) : rv (l.take n) ≤ rv l := by
  conv => rhs; rw [← List.take_append_drop n l]
  rw [rv_append]
  have h1 := rv_nonneg (h.drop n)
  have h2 : 0 ≤ (1000 : Int) ^ (l.take n).length * rv (l.drop n) := Int.mul_nonneg (Int.le_of_lt (pow_pos1000 _)) h1
  omega
theorem rv_set : ∀ (l : List Int) (i : Nat) (y : Int) (hi : i < l.length), rv (l.set i y) = rv l + 1000 ^ i * (y - l[i])
  | d :: l, 0, y, _ => by simp [rv]; omega
  | d :: l, i + 1, y, hi => by
    have hi' : i < l.length := by simpa using hi
    rw [List.set_cons_succ]
    simp only [rv, List.getElem_cons_succ]
    rw [rv_set l i y hi', Int.pow_succ, Int.mul_add, Int.mul_comm ((1000 : Int) ^ i) 1000, Int.mul_assoc]
    omega
theorem Dg.set {l : List Int} (h : Dg l) {i : Nat} {y : Int} (h0 : 0 ≤ y) (h1 : y < 1000) : Dg (l.set i y) := by
  intro x hx
  rcases List.mem_or_eq_of_mem_set hx with hx | rfl
  · exact h x hx
  · exact ⟨h0, h1⟩
/-- what i rows and k places of the next one make -/
def part (a b : List Int) (i k : Nat) : Int := rv (a.take i) * rv b + 1000 ^ i * a.getD i 0 * rv (b.take k)
theorem part_zero (a b : List Int) (i : Nat) : part a b i 0 = rv (a.take i) * rv b := by simp [part, rv]
theorem part_end (a b : List Int) (i : Nat) : part a b i b.length = part a b (i + 1) 0 := by
  rw [part_zero, part, rv_take_succ, List.take_of_length_le (Nat.le_refl _), Int.add_mul]
theorem part_all (a b : List Int) : part a b a.length 0 = rv a * rv b := by
  rw [part_zero, List.take_of_length_le (Nat.le_refl _)]
theorem part_step (a b : List Int) (i k : Nat) : part a b i (k + 1) = part a b i k + 1000 ^ (i + k) * (a.getD i 0 * b.getD k 0) := by
  unfold part
  rw [rv_take_succ b k, Int.mul_add, Int.pow_add, Int.add_assoc]
  congr 2
  rw [Int.mul_assoc, Int.mul_assoc]
  congr 1
  rw [Int.mul_left_comm]
theorem part_lt {a b : List Int} (ha : Dg a) (hb : Dg b) (i k : Nat) : part a b i k < 1000 ^ (a.length + b.length) := by
  have h1 : part a b i k ≤ rv (a.take (i + 1)) * rv b := by
    unfold part
    rw [rv_take_succ, Int.add_mul]
    have h2 := rv_take_le hb k
    have h3 := getD_dg ha i
    have h4 : 0 ≤ (1000 : Int) ^ i * a.getD i 0 := Int.mul_nonneg (Int.le_of_lt (pow_pos1000 _)) h3.1
    have h5 := Int.mul_le_mul_of_nonneg_left h2 h4
    omega
  have h2 : rv (a.take (i + 1)) * rv b ≤ rv a * rv b := Int.mul_le_mul_of_nonneg_right (rv_take_le ha _) (rv_nonneg hb)
  have h3 : rv a * rv b < 1000 ^ a.length * 1000 ^ b.length := by
    have e1 := rv_lt ha
    have e2 := rv_lt hb
    have e3 := rv_nonneg hb
    have e4 : rv a * rv b ≤ 1000 ^ a.length * rv b := Int.mul_le_mul_of_nonneg_right (by omega) e3
    have e5 : (1000 : Int) ^ a.length * rv b < 1000 ^ a.length * 1000 ^ b.length := Int.mul_lt_mul_of_pos_left e2 (pow_pos1000 _)
    omega
  rw [Int.pow_add]
  omega
/-- a carry that is left stands within the row -/
theorem carry_at {a b out : List Int} (ha : Dg a) (hb : Dg b) (ho : Dg out) {i k t : Nat} {c : Int} (hc : 0 < c) (h : rv out + 1000 ^ t * c = part a b i k) : t < a.length + b.length := by
  apply Classical.byContradiction
  intro hn
  have h1 := rv_nonneg ho
  have h2 := part_lt ha hb i k
  have h3 : (1000 : Int) ^ (a.length + b.length) ≤ 1000 ^ t := pow_le1000 (by omega)
  have h4 : (1000 : Int) ^ t * 1 ≤ 1000 ^ t * c := Int.mul_le_mul_of_nonneg_left (by omega) (Int.le_of_lt (pow_pos1000 _))
  omega
theorem carry_step {out : List Int} {t : Nat} {c T s : Int} (h : rv out + 1000 ^ t * c = T) (ht : t < out.length) (hs : s = c + out[t]) : rv (out.set t (s % 1000)) + 1000 ^ (t + 1) * (s / 1000) = T := by
  rw [rv_set _ _ _ ht, Int.pow_succ, ← h, Int.mul_assoc, Int.add_assoc, ← Int.mul_add]
  congr 2
  omega
end Go.Proofs.Ytnoookcfacmdkaa
namespace Go.Proofs.Ytnoookcfacmdkaa
open Go.RowKit Go.ChangeMaps Go.Deep
set_option linter.unusedSimpArgs false
set_option linter.unusedVariables false
set_option maxRecDepth 20000

/-- while numbers are multiplied: the boxes, and the row that is written -/
structure MulAt (w wr : World) (n : Nat) (X Y : Array Value) (out : List Int) : Prop where
  mod : Mod [] w wr
  bx : wr.heap[w.heap.size]? = some (.cells X 120)
  bw : wr.heap[w.heap.size + 1]? = some (.cells Y 120)
  br : wr.heap[w.heap.size + 1 + 1]? = some (.cells #[.bool false, .slice none 0 0] 120)
  own : OwnN wr (w.heap.size + 1 + 1 + 1) (.slice (some ⟨w.heap.size + 1 + 1 + 1, 0, none⟩) out.length n) out
  len : out.length = n
  dg : Dg out
section
variable {w wr w2 : World} {n : Nat} {X Y : Array Value} {out : List Int}
theorem MulAt.kept0 (h : MulAt w wr n X Y out) (hm : Mod [] wr w2) : MulAt w w2 n X Y out :=
  ⟨h.mod.trans hm, hm.heap h.bx (by simp), hm.heap h.bw (by simp), hm.heap h.br (by simp), h.own.kept0 hm, h.len, h.dg⟩
theorem MulAt.get (h : MulAt w wr n X Y out) {i : Nat} (hi : i < out.length) : wr.cell? ⟨w.heap.size + 1 + 1 + 1, i, none⟩ = some (.int .i64 out[i]) ∧ wr.frozen? ⟨w.heap.size + 1 + 1 + 1, i, none⟩ = false := by
  have := h.own.cell encI_len (i := i) (j := 0) hi (by omega) (u := .int .i64 out[i]) rfl
  rwa [Nat.mul_one, Nat.add_zero] at this
theorem MulAt.set (h : MulAt w wr n X Y out) {i : Nat} (hi : i < n) {y : Int} (h0 : 0 ≤ y) (h1 : y < 1000) : MulAt w (wr.setCell ⟨w.heap.size + 1 + 1 + 1, i, none⟩ (.int .i64 y)) n X Y (out.set i y) := by
  have hm : Mod [w.heap.size + 1 + 1 + 1] wr (wr.setCell ⟨w.heap.size + 1 + 1 + 1, i, none⟩ (.int .i64 y)) := (Mod.refl _ _).setCell (by simp) _
  refine ⟨h.mod.setCellNew (by simp only; omega) _, hm.heap h.bx (by simp <;> omega), hm.heap h.bw (by simp <;> omega), hm.heap h.br (by simp), ?_, by rw [List.length_set]; exact h.len, h.dg.set h0 h1⟩
  have := h.own.set encI_len (i := i) (j := 0) (by rw [h.len]; exact hi) (by omega) (u := .int .i64 y) (y := y) rfl
  rw [Nat.mul_one, Nat.add_zero] at this
  rwa [List.length_set]
end
set_option maxHeartbeats 4000000 in
theorem nmul_any (x y : Value) (a b : Int) (w : World) (hx : NAt w x a) (hy : NAt w y b) (sa : Big a) (sb : Big b) :
    Calls Try.prog 81 #[x, y] w fun e w' => ∃ v, e = .returned v ∧ NAt w' v (a * b) ∧ Mod [] w w' := by
  obtain ⟨n1, s1, l1, rfl, h1⟩ := hx
  obtain ⟨n2, s2, l2, rfl, h2⟩ := hy
  have hl1 := h1.len sa
  have hl2 := h2.len sb
  obtain ⟨sa', sc, rfl⟩ := h1.ints.form
  obtain ⟨sb', sd, rfl⟩ := h2.ints.form
  obtain ⟨A1, hA1, k1, z1, m1⟩ := alloc_named2 w (.cells #[.bool n1, .slice sa' l1.length sc] 120)
  obtain ⟨A2, hA2, k2, z2, m2⟩ := alloc_named2 A1 (.cells #[.bool n2, .slice sb' l2.length sd] 120)
  obtain ⟨A3, hA3, k3, z3, m3⟩ := alloc_named2 A2 (.cells #[.bool false, .slice none 0 0] 120)
  rw [z1] at k2 z2
  rw [z2] at k3 z3
  have g1 := (m2.trans m3).heap k1 (by simp)
  have g2 := m3.heap k2 (by simp)
  have q0 := cell_blk g1 0
  have q1 := cell_blk g1 1
  have r0 := cell_blk g2 0
  have r1 := cell_blk g2 1
  simp only [List.getElem?_toArray, List.getElem?_cons_succ, List.getElem?_cons_zero] at q0 q1 r0 r1
  obtain ⟨n, hn⟩ : ∃ n, Hid (l1.length + l2.length + 1 = n) := ⟨_, Lib.hid rfl⟩
  have hmk : ∀ u : World, (Instr.makeSlice 22 (.int .i64 ((l1.length : Int) + (l2.length : Int) + 1)) (.int .i64 ((l1.length : Int) + (l2.length : Int) + 1))).run Try.prog u = .ok (.slice (some ⟨u.heap.size, 0, none⟩) n n) (u.alloc (.cells (Array.replicate n (.int .i64 0)) 3)) := fun u => by
    have := run_makeInts n (by have := hn.out; omega) u
    rwa [show (n : Int) = (l1.length : Int) + (l2.length : Int) + 1 by have := hn.out; omega] at this
  have HM3 := Lib.hid (m1.trans (m2.trans m3))
  have HS0 : Hid (MulAt w (A3.alloc (.cells (Array.replicate n (.int .i64 0)) 3)) n #[.bool n1, .slice sa' l1.length sc] #[.bool n2, .slice sb' l2.length sd] (List.replicate n 0)) := Lib.hid (by
    have hm := (Mod.refl [] A3).alloc (.cells (Array.replicate n (.int .i64 0)) 3)
    refine ⟨HM3.out.trans hm, hm.heap g1 (by simp), hm.heap g2 (by simp), hm.heap k3 (by simp), ?_, by simp, fun x hx => by rw [List.eq_of_mem_replicate hx]; omega⟩
    have := own_zeros A3 n (w.heap.size + 1 + 1 + 1) (by omega) (by have := hn.out; omega)
    rwa [z3] at this)
  have HH1 := Lib.hid h1
  have HH2 := Lib.hid h2
  have hnl : n ≤ 200 := by have := hn.out; omega
  have HZ := Lib.hid (show ∀ t, rv t = rv l1 * rv l2 → zOf (n1 != n2) t = a * b from fun t ht => by
    rw [h1.z, h2.z]
    cases n1 <;> cases n2 <;> simp [zOf, ht, Int.neg_mul, Int.mul_neg])
  clear h1 h2 sa sb k1 k2 k3 m1 m2 m3 g1 g2
  go_enter Try.func81, Try.ntmps81
  go_wp2_with fail
  go_loopw [6] (fun s6 wr => ∃ (i : Nat) (out : List Int), i ≤ l1.length ∧ s6 = .int .i64 i ∧ Hid (MulAt w wr n #[.bool n1, .slice sa' l1.length sc] #[.bool n2, .slice sb' l2.length sd] out) ∧ Hid (rv out = part l1 l2 i 0)) (fun s6 _ => l1.length - (intOf s6).toNat)
  case atStart => exact ⟨0, _, by omega, rfl, HS0, Lib.hid (by
    rw [part_zero]
    simp [rv]
    clear HS0 hmk hnl hn HZ
    induction n with
    | zero => rfl
    | succ n ih => rw [List.replicate_succ, rv, ih]; rfl)⟩
  case round =>
    clear HS0 q0 q1 r0 r1
    obtain ⟨i, out, hi, rfl, hS, hR⟩ := hrel
    have q0 := cell_blk hS.out.bx 0
    have q1 := cell_blk hS.out.bx 1
    have r0 := cell_blk hS.out.bw 0
    have r1 := cell_blk hS.out.bw 1
    simp only [List.getElem?_toArray, List.getElem?_cons_succ, List.getElem?_cons_zero] at q0 q1 r0 r1
    by_cases hlt : i < l1.length
    · go_wp2_with fail
      rename World => wo
      go_loopw [7] (fun s7 wr => ∃ (k : Nat) (out : List Int), k ≤ l2.length ∧ s7 = .int .i64 k ∧ Hid (MulAt w wr n #[.bool n1, .slice sa' l1.length sc] #[.bool n2, .slice sb' l2.length sd] out) ∧ Hid (rv out = part l1 l2 i k)) (fun s7 _ => l2.length - (intOf s7).toNat)
      case atStart => exact ⟨0, _, by omega, rfl, hS, hR⟩
      case round =>
        clear hS hR q0 q1 r0 r1
        obtain ⟨k, out, hk, rfl, hS, hR⟩ := hrel
        have q0 := cell_blk hS.out.bx 0
        have q1 := cell_blk hS.out.bx 1
        have r0 := cell_blk hS.out.bw 0
        have r1 := cell_blk hS.out.bw 1
        simp only [List.getElem?_toArray, List.getElem?_cons_succ, List.getElem?_cons_zero] at q0 q1 r0 r1
        by_cases hlt2 : k < l2.length
        · obtain ⟨b1, o1, rfl, _, c1⟩ := (HH1.out.ints.kept0 hS.out.mod).get1 hlt
          obtain ⟨b2, o2, rfl, _, c2⟩ := (HH2.out.ints.kept0 hS.out.mod).get1 hlt2
          have d1 := HH1.out.dg.get hlt
          have d2 := HH2.out.dg.get hlt2
          have HP := Lib.hid (part_step l1 l2 i k)
          rw [show l1.getD i 0 = l1[i] by simp [List.getD, hlt], show l2.getD k 0 = l2[k] by simp [List.getD, hlt2]] at HP
          generalize l1[i] = p at c1 d1 HP
          generalize l2[k] = q at c2 d2 HP
          have hpq0 : 0 ≤ p * q := Int.mul_nonneg d1.1 d2.1
          have hpq1 : p * q ≤ 998001 := by
            have e1 : p * q ≤ 999 * q := Int.mul_le_mul_of_nonneg_right (by omega) d2.1
            omega
          go_wp2_with fail
          refine wp_plan [] [0, 2, 5, 7, 1, 6, 3, 8, 4, 9, 10, 11] (by kernel_rfl) (by kernel_rfl) ?_
          simp only [wpSegs, opsOf, List.map_cons, List.map_nil, opN, List.getD_cons_zero, List.getD_cons_succ]
          go_wp2_with fail
          refine ⟨by first | trivial | rfl, ?_⟩
          go_wp2_with fail
          rename World => wk
          go_loopw [9, 8] (fun s9 s8 wr => ∃ (t : Nat) (c : Int) (out : List Int), 0 ≤ c ∧ c ≤ 998001 ∧ t ≤ n ∧ s8 = .int .i64 t ∧ s9 = .int .i64 c ∧ Hid (MulAt w wr n #[.bool n1, .slice (some ⟨b1, o1, none⟩) l1.length sc] #[.bool n2, .slice (some ⟨b2, o2, none⟩) l2.length sd] out) ∧ Hid (rv out + 1000 ^ t * c = part l1 l2 i (k + 1))) (fun _ s8 _ => n - (intOf s8).toNat)
          case atStart => exact ⟨i + k, p * q, out, hpq0, hpq1, by have := hn.out; omega, by go_num, rfl, Lib.hid (hS.out.kept0 (Mod.refl [] wk).drew), Lib.hid (by rw [HP.out, hR.out])⟩
          case round =>
            clear hS hR q0 q1 r0 r1
            obtain ⟨t, c, out, hc0, hc1, ht, rfl, rfl, hS, hR⟩ := hrel
            by_cases hc : 0 < c
            · have hta := carry_at HH1.out.dg HH2.out.dg hS.out.dg hc hR.out
              have htn : t < n := by have := hn.out; omega
              have hto : t < out.length := by rw [hS.out.len]; exact htn
              obtain ⟨y0, y1⟩ := hS.out.get hto
              have hd := hS.out.dg.get hto
              have HN := Lib.hid (fun s hs => carry_step (s := s) hR.out hto hs)
              have HST := Lib.hid (fun y h0 h1 => hS.out.set htn (y := y) h0 h1)
              generalize out[t] = z at y0 hd HN
              clear hta hS hR hto
              go_wp2_with fail
              go_roundw
              case rel => exact ⟨t + 1, (c + z) / 1000, _, by omega, by omega, by omega, by go_num, rfl, Lib.hid (HST.out _ (by omega) (by omega)), Lib.hid (HN.out _ rfl)⟩
              case measure => simp [intOf]; omega
            · obtain rfl : c = 0 := by omega
              have HR := Lib.hid (show rv out = part l1 l2 i (k + 1) by have := hR.out; simpa using this)
              clear hR
              go_wp2_with fail
              go_roundw
              case rel => exact ⟨k + 1, out, by omega, by go_num, hS, HR⟩
              case measure => simp [intOf]; omega
        · obtain rfl : k = l2.length := by omega
          have HR := Lib.hid (show rv out = part l1 l2 (i + 1) 0 by rw [← part_end]; exact hR.out)
          clear hR
          go_wp2_with fail
          go_roundw
          case rel => exact ⟨i + 1, out, by omega, by go_num, hS, HR⟩
          case measure => simp [intOf]; omega
    · obtain rfl : i = l1.length := by omega
      have hrv : rv out = rv l1 * rv l2 := by rw [hR.out, part_all]
      have hlo := hS.out.len
      have HCS := Lib.hid (nshort_any (n1 != n2) _ out wr hS.out.own.row hS.out.dg (by omega))
      rw [HZ.out _ hrv, hlo] at HCS
      have HR4 := Lib.hid hS.out.br
      have HM4 := Lib.hid hS.out.mod
      clear hR hS hrv hlo
      go_wp2_with fail
      refine HCS.out.mono ?_
      rintro e w2 ⟨v, rfl, hv, m5⟩
      obtain ⟨n', s', l', rfl, hv'⟩ := hv
      obtain ⟨a', c', rfl⟩ := hv'.ints.form
      have hcr := m5.heap HR4.out (by simp)
      have p0 := cell_blk hcr 0
      have p1 := cell_blk hcr 1
      have f0 := frozen_blk hcr 0
      have f1 := frozen_blk hcr 1
      simp only [List.getElem?_toArray, List.getElem?_cons_succ, List.getElem?_cons_zero] at p0 p1
      have HV := Lib.hid hv'
      have HM5 := Lib.hid (HM4.out.trans m5)
      have HR := Lib.hid hcr
      clear hv' hcr m5 HCS
      go_wp2_with fail
      refine bodyPost_ret (v := .agg #[.bool n', .slice a' l'.length c']) (by simp [results, Try.results81, go_sem, p0, p1]) rfl ⟨_, rfl, ⟨_, _, _, rfl, HV.out.res2 HR.out _ _⟩, HM5.out.res2 (by omega) _ _⟩
end Go.Proofs.Ytnoookcfacmdkaa
namespace Go.Proofs.Ytnoookcfacmdkaa
open Go.RowKit Go.ChangeMaps Go.Deep
set_option linter.unusedSimpArgs false
set_option linter.unusedVariables false
set_option maxRecDepth 20000

/-- a box that holds a whole number -/
structure BoxZ (w : World) (k : Nat) (neg : Bool) (a : Option Addr) (l : List Int) (c : Nat) (z : Int) : Prop where
  box : w.heap[k]? = some (.cells #[.bool neg, .slice a l.length c] 120)
  num : NumAt w neg (.slice a l.length c) l z
section
variable {w w2 : World} {k j : Nat} {neg neg' : Bool} {a a' : Option Addr} {l l' : List Int} {c c' : Nat} {z z' : Int} {x y : Value}
theorem BoxZ.kept0 (h : BoxZ w k neg a l c z) (hm : Mod [] w w2) : BoxZ w2 k neg a l c z := ⟨hm.heap h.box (by simp), h.num.kept0 hm⟩
theorem BoxZ.cells (h : BoxZ w k neg a l c z) : w.cell? ⟨k, 0, none⟩ = some (.bool neg) ∧ w.cell? ⟨k, 1, none⟩ = some (.slice a l.length c) ∧ w.frozen? ⟨k, 0, none⟩ = false ∧ w.frozen? ⟨k, 1, none⟩ = false := by
  have p0 := cell_blk h.box 0
  have p1 := cell_blk h.box 1
  simp only [List.getElem?_toArray, List.getElem?_cons_succ, List.getElem?_cons_zero] at p0 p1
  exact ⟨p0, p1, frozen_blk h.box 0, frozen_blk h.box 1⟩
theorem BoxZ.nat (h : BoxZ w k neg a l c z) : NAt w (.agg #[.bool neg, .slice a l.length c]) z := ⟨_, _, _, rfl, h.num⟩
theorem BoxZ.isBox (h : BoxZ w k neg a l c z) : BoxN w k := ⟨_, _, _, _, _, h.box⟩
/-- another number is laid into the box -/
theorem BoxZ.set (h : BoxZ w k neg a l c z) (hn : NumAt w neg' (.slice a' l'.length c') l' z') : BoxZ ((w.setCell ⟨k, 0, none⟩ (.bool neg')).setCell ⟨k, 1, none⟩ (.slice a' l'.length c')) k neg' a' l' c' z' :=
  ⟨box_set2 h.box _ _, hn.box h.isBox (((Mod.refl [k] w).setCell (by simp) _).setCell (by simp) _)⟩
/-- another box is written -/
theorem BoxZ.other (h : BoxZ w k neg a l c z) (hj : BoxN w j) (hne : k ≠ j) (x y : Value) : BoxZ ((w.setCell ⟨j, 0, none⟩ x).setCell ⟨j, 1, none⟩ y) k neg a l c z := by
  have hm : Mod [j] w ((w.setCell ⟨j, 0, none⟩ x).setCell ⟨j, 1, none⟩ y) := ((Mod.refl [j] w).setCell (by simp) _).setCell (by simp) _
  exact ⟨hm.heap h.box (by simpa using hne), h.num.box hj hm⟩
theorem NumAt.other (h : NumAt w neg x l z) (hj : BoxN w j) (u y : Value) : NumAt ((w.setCell ⟨j, 0, none⟩ u).setCell ⟨j, 1, none⟩ y) neg x l z :=
  h.box hj (((Mod.refl [j] w).setCell (by simp) _).setCell (by simp) _)
theorem BoxN.other (h : BoxN w k) (hne : k ≠ j) (x y : Value) : BoxN ((w.setCell ⟨j, 0, none⟩ x).setCell ⟨j, 1, none⟩ y) k := by
  have hm : Mod [j] w ((w.setCell ⟨j, 0, none⟩ x).setCell ⟨j, 1, none⟩ y) := ((Mod.refl [j] w).setCell (by simp) _).setCell (by simp) _
  obtain ⟨b, p, n, c, f, hb⟩ := h
  exact ⟨b, p, n, c, f, hm.heap hb (by simpa using hne)⟩
/-- a box is made for a number that is there -/
theorem BoxZ.made (hn : NumAt w neg (.slice a l.length c) l z) : ∃ A, w.alloc (.cells #[.bool neg, .slice a l.length c] 120) = A ∧ BoxZ A w.heap.size neg a l c z ∧ A.heap.size = w.heap.size + 1 ∧ Mod [] w A := by
  obtain ⟨A, hA, k, s, m⟩ := alloc_named2 w (.cells #[.bool neg, .slice a l.length c] 120)
  exact ⟨A, hA, ⟨k, hn.kept0 m⟩, s, m⟩
end
theorem big_ten {n : Nat} (hn : n ≤ 60) : Big ((10 : Int) ^ n) := by
  refine big_of (n + 1) (by omega) ?_
  have h0 : (0 : Int) < 10 ^ n := Int.pow_pos (by decide)
  have h1 : ∀ n : Nat, (10 : Int) ^ n ≤ 1000 ^ n := fun n => by
    induction n with
    | zero => simp
    | succ n ih =>
      have h0 : (0 : Int) < 10 ^ n := Int.pow_pos (by decide)
      rw [Int.pow_succ, Int.pow_succ]
      omega
  have h2 := h1 n
  have h3 : (1000 : Int) ^ (n + 1) = 1000 ^ n * 1000 := Int.pow_succ _ _
  omega
set_option maxHeartbeats 2000000 in
theorem nten_any (n : Nat) (hn : n ≤ 60) (w : World) :
    Calls Try.prog 80 #[.int .i64 n] w fun e w' => ∃ v, e = .returned v ∧ NAt w' v (10 ^ n) ∧ Mod [] w w' := by
  obtain ⟨A1, hA1, k1, z1, m1⟩ := alloc_named2 w (.cells #[.bool false, .slice none 0 0] 120)
  have HC := Lib.hid (nword_any 1 (by omega) A1)
  have HM1 := Lib.hid m1
  have HK1 := Lib.hid k1
  clear m1 k1
  go_enter Try.func80, Try.ntmps80
  go_wp2_with fail
  refine HC.out.mono ?_
  rintro e w1 ⟨v, rfl, hv, m2⟩
  obtain ⟨n', s', l', rfl, hv'⟩ := hv
  obtain ⟨a', c', rfl⟩ := hv'.ints.form
  obtain ⟨W, hW, hb, zW, mW⟩ := BoxZ.made hv'
  have HB := Lib.hid hb
  have HM2 := Lib.hid (HM1.out.trans (m2.trans mW))
  have HR2 := Lib.hid ((m2.trans mW).heap HK1.out (by simp))
  have HLE := Lib.hid (show w.heap.size < w1.heap.size by have := m2.size; omega)
  clear hv' m2 hb mW HC HK1 HM1
  go_wp2_with fail
  go_loopw [4] (fun s4 wr => ∃ (i : Nat), i ≤ n ∧ s4 = .int .i64 i ∧ Hid (∃ neg a l c, BoxZ wr w1.heap.size neg a l c (10 ^ i)) ∧ Hid (wr.heap[w.heap.size]? = some (.cells #[.bool false, .slice none 0 0] 120)) ∧ Hid (Mod [] w wr)) (fun s4 _ => n - (intOf s4).toNat)
  case atStart => exact ⟨0, by omega, rfl, Lib.hid ⟨_, _, _, _, HB.out⟩, HR2, HM2⟩
  case round =>
    clear HB HR2 HM2
    obtain ⟨i, hi, rfl, hB, hR, hM⟩ := hrel
    obtain ⟨neg, a, l, c, hb⟩ := hB.out
    obtain ⟨q0, q1, f0, f1⟩ := hb.cells
    by_cases hlt : i < n
    · have HCW := Lib.hid (nword_any 10 (by omega) wr.drew)
      have HB := Lib.hid (hb.kept0 (Mod.refl [] wr).drew)
      clear hb
      go_wp2_with fail
      refine wp_plan [([0], 1, [0]), ([], 2, []), ([], 3, [])] [] (by kernel_rfl) (by kernel_rfl) ?_
      simp only [wpSegs, opsOf, List.map_cons, List.map_nil, opN, List.getD_cons_zero, List.getD_cons_succ]
      go_wp2_with fail
      refine ⟨by first | trivial | rfl, ?_⟩
      go_wp2_with fail
      refine HCW.out.mono ?_
      rintro e w2 ⟨v, rfl, hv, m3⟩
      obtain ⟨n3, s3, l3, rfl, hv3⟩ := hv
      obtain ⟨a3, c3, rfl⟩ := hv3.ints.form
      have hb2 := HB.out.kept0 m3
      obtain ⟨q0', q1', _, _⟩ := hb2.cells
      have HCM := Lib.hid (nmul_any _ _ _ _ w2 hb2.nat ⟨_, _, _, rfl, hv3⟩ (big_ten (by omega)) (big_ten (n := 1) (by omega)))
      have HB2 := Lib.hid hb2
      have HM3 := Lib.hid (hM.out.drew.trans m3)
      have HR3 := Lib.hid (((Mod.refl [] wr).drew.trans m3).heap hR.out (by simp))
      clear hv3 hb2 m3 HCW
      go_wp2_with fail
      refine ⟨?ag1, ?_⟩
      case ag1 =>
        intro i hi hw
        simp only [List.mem_cons, List.not_mem_nil, or_false] at hi
        subst hi
        all_goals (simp only [opN, List.getD_cons_zero, List.getD_cons_succ, slotOf]; go_simp)
      go_wp2_with fail
      refine ⟨by first | trivial | rfl, ?_⟩
      go_wp2_with fail
      refine HCM.out.mono ?_
      rintro e w3 ⟨v, rfl, hv, m4⟩
      obtain ⟨n4, s4, l4, rfl, hv4⟩ := hv
      obtain ⟨a4, c4, rfl⟩ := hv4.ints.form
      have hb3 := HB2.out.kept0 m4
      obtain ⟨p0, p1, g0, g1⟩ := hb3.cells
      have HBN := Lib.hid (hb3.set hv4)
      have HMN := Lib.hid (((HM3.out.trans m4).setCellNew (p := ⟨w1.heap.size, 0, none⟩) (by have := HLE.out; simp only; omega) (.bool n4)).setCellNew (p := ⟨w1.heap.size, 1, none⟩) (by have := HLE.out; simp only; omega) (.slice a4 l4.length c4))
      have HRN := Lib.hid (show ((w3.setCell ⟨w1.heap.size, 0, none⟩ (.bool n4)).setCell ⟨w1.heap.size, 1, none⟩ (.slice a4 l4.length c4)).heap[w.heap.size]? = some (.cells #[.bool false, .slice none 0 0] 120) from by
        have hm : Mod [w1.heap.size] w3 ((w3.setCell ⟨w1.heap.size, 0, none⟩ (.bool n4)).setCell ⟨w1.heap.size, 1, none⟩ (.slice a4 l4.length c4)) := ((Mod.refl _ _).setCell (by simp) _).setCell (by simp) _
        exact hm.heap (m4.heap HR3.out (by simp)) (by have := HLE.out; simp; omega))
      clear hv4 hb3 m4 HCM
      go_wp2_with fail
      refine ⟨again_nil, ?_⟩
      go_wp2_with fail
      refine ⟨by first | trivial | rfl, ?_⟩
      go_wp2_with fail
      refine ⟨again_nil, ?_⟩
      go_wp2_with fail
      refine ⟨by first | trivial | rfl, ?_⟩
      go_wp2_with fail
      go_roundw
      case rel => exact ⟨i + 1, by omega, by go_num, Lib.hid ⟨_, _, _, _, by rw [Int.pow_succ]; exact HBN.out⟩, HRN, HMN⟩
      case measure => simp [intOf]; omega
    · obtain rfl : i = n := by omega
      have p0 := cell_blk hR.out 0
      have p1 := cell_blk hR.out 1
      have g0 := frozen_blk hR.out 0
      have g1 := frozen_blk hR.out 1
      simp only [List.getElem?_toArray, List.getElem?_cons_succ, List.getElem?_cons_zero] at p0 p1
      have HV := Lib.hid hb.num
      clear hb
      go_wp2_with fail
      refine bodyPost_ret (v := .agg #[.bool neg, .slice a l.length c]) (by simp [results, Try.results80, go_sem, p0, p1]) rfl ⟨_, rfl, ⟨_, _, _, rfl, HV.out.res2 hR.out _ _⟩, hM.out.res2 (by omega) _ _⟩
end Go.Proofs.Ytnoookcfacmdkaa
namespace Go.Proofs.Ytnoookcfacmdkaa
open Go.RowKit Go.ChangeMaps Go.Deep
set_option linter.unusedSimpArgs false
set_option linter.unusedVariables false
set_option maxRecDepth 20000

theorem rv_drop {l : List Int} {k : Nat} (hk : k < l.length) : rv (l.drop k) = l[k] + 1000 * rv (l.drop (k + 1)) := by
  rw [← List.getElem_cons_drop hk]; rfl
theorem drop_set_lt {l : List Int} {k : Nat} (x : Int) : (l.set k x).drop (k + 1) = l.drop (k + 1) := by
  rw [List.drop_set]; simp
theorem down_step {lx q : List Int} {k : Nat} {b r r' g : Int} (hk : k < lx.length) (hq : k < q.length) (h : rv (lx.drop (k + 1)) = rv (q.drop (k + 1)) * b + r) (hr : r' = lx[k] + 1000 * r) : rv (lx.drop k) = rv ((q.set k g).drop k) * b + (r' - g * b) := by
  have hq' : k < (q.set k g).length := by rw [List.length_set]; exact hq
  rw [rv_drop hk, h, rv_drop hq', drop_set_lt, hr, List.getElem_set_self, Int.add_mul, Int.mul_add, Int.mul_assoc]
  omega
theorem down_fin {a b Q r : Int} (hb : 0 < b) (h : a = Q * b + r) (h0 : 0 ≤ r) (h1 : r < b) : a / b = Q ∧ a % b = r :=
  (Int.ediv_emod_unique hb).2 ⟨by rw [h, Int.mul_comm]; omega, h0, h1⟩
theorem down_neg {a b Q r : Int} (hb : 0 < b) (h : a = -(Q * b + r)) (h0 : 0 < r) (h1 : r < b) : a / b = -Q - 1 ∧ a % b = b - r :=
  down_fin hb (by rw [h, Int.sub_mul, Int.neg_mul]; omega) (by omega) (by omega)
/-- while a number is divided -/
structure DownAt (w wr : World) (nx ny : Bool) (ax ay : Option Addr) (lx ly : List Int) (cx cy : Nat) (a b : Int) (q : List Int) : Prop where
  mod : Mod [] w wr
  bx : BoxZ wr w.heap.size nx ax lx cx a
  bw : BoxZ wr (w.heap.size + 1) ny ay ly cy b
  r1 : wr.heap[w.heap.size + 1 + 1]? = some (.cells #[.bool false, .slice none 0 0] 120)
  r2 : wr.heap[w.heap.size + 1 + 1 + 1]? = some (.cells #[.bool false, .slice none 0 0] 120)
  own : OwnN wr (w.heap.size + 1 + 1 + 1 + 1) (.slice (some ⟨w.heap.size + 1 + 1 + 1 + 1, 0, none⟩) q.length lx.length) q
  len : q.length = lx.length
  dg : Dg q
  at_ : w.heap.size + 1 + 1 + 1 + 1 + 1 < wr.heap.size
section
variable {w wr w2 : World} {nx ny : Bool} {ax ay : Option Addr} {lx ly : List Int} {cx cy : Nat} {a b : Int} {q : List Int}
theorem DownAt.kept0 (h : DownAt w wr nx ny ax ay lx ly cx cy a b q) (hm : Mod [] wr w2) : DownAt w w2 nx ny ax ay lx ly cx cy a b q :=
  ⟨h.mod.trans hm, h.bx.kept0 hm, h.bw.kept0 hm, hm.heap h.r1 (by simp), hm.heap h.r2 (by simp), h.own.kept0 hm, h.len, h.dg, Nat.lt_of_lt_of_le h.at_ hm.size⟩
/-- a box behind all these is written -/
theorem DownAt.box (h : DownAt w wr nx ny ax ay lx ly cx cy a b q) {j : Nat} (hj : BoxN wr j) (hlt : w.heap.size + 1 + 1 + 1 + 1 < j) (x y : Value) : DownAt w ((wr.setCell ⟨j, 0, none⟩ x).setCell ⟨j, 1, none⟩ y) nx ny ax ay lx ly cx cy a b q := by
  have hm : Mod [j] wr ((wr.setCell ⟨j, 0, none⟩ x).setCell ⟨j, 1, none⟩ y) := ((Mod.refl [j] wr).setCell (by simp) _).setCell (by simp) _
  refine ⟨(h.mod.setCellNew (by simp only; omega) _).setCellNew (by simp only; omega) _, h.bx.other hj (by omega) _ _, h.bw.other hj (by omega) _ _, hm.heap h.r1 (by simp; omega), hm.heap h.r2 (by simp; omega), h.own.kept hm (fun b hb => by simp [Value.ownBlock] at hb; simp; omega), h.len, h.dg, by simpa using h.at_⟩
/-- a place of the quotient is written -/
theorem DownAt.set (h : DownAt w wr nx ny ax ay lx ly cx cy a b q) (hX : NumAt w nx (.slice ax lx.length cx) lx a) (hY : NumAt w ny (.slice ay ly.length cy) ly b) {k : Nat} (hk : k < lx.length) {y : Int} (h0 : 0 ≤ y) (h1 : y < 1000) : DownAt w (wr.setCell ⟨w.heap.size + 1 + 1 + 1 + 1, k, none⟩ (.int .i64 y)) nx ny ax ay lx ly cx cy a b (q.set k y) := by
  have hm : Mod [w.heap.size + 1 + 1 + 1 + 1] wr (wr.setCell ⟨w.heap.size + 1 + 1 + 1 + 1, k, none⟩ (.int .i64 y)) := (Mod.refl _ _).setCell (by simp) _
  have hM : Mod [] w (wr.setCell ⟨w.heap.size + 1 + 1 + 1 + 1, k, none⟩ (.int .i64 y)) := h.mod.setCellNew (by simp only; omega) _
  refine ⟨hM, ⟨hm.heap h.bx.box (by simp <;> omega), hX.kept0 hM⟩, ⟨hm.heap h.bw.box (by simp <;> omega), hY.kept0 hM⟩, hm.heap h.r1 (by simp <;> omega), hm.heap h.r2 (by simp <;> omega), ?_, by rw [List.length_set]; exact h.len, h.dg.set h0 h1, by simpa using h.at_⟩
  have := h.own.set encI_len (i := k) (j := 0) (by rw [h.len]; exact hk) (by omega) (u := .int .i64 y) (y := y) rfl
  rw [Nat.mul_one, Nat.add_zero] at this
  rwa [List.length_set]
/-- so is a box whose row lies behind the quotient's -/
theorem BoxZ.row {w : World} {k j i : Nat} {neg : Bool} {b : Nat} {l : List Int} {c : Nat} {z : Int} {v : Value} (h : BoxZ w k neg (some ⟨b, 0, none⟩) l c z) (hkj : k ≠ j) (hb : b ≠ j) : BoxZ (w.setCell ⟨j, i, none⟩ v) k neg (some ⟨b, 0, none⟩) l c z := by
  have hm : Mod [j] w (w.setCell ⟨j, i, none⟩ v) := (Mod.refl _ _).setCell (by simp) _
  exact ⟨hm.heap h.box (by simpa using hkj), h.num.ints.kept hm (fun x hx => by simp at hx; subst hx; simp [Value.ownBlock]; exact hb), h.num.dg, h.num.cn, h.num.z, h.num.neg⟩
end
end Go.Proofs.Ytnoookcfacmdkaa
namespace Go.Proofs.Ytnoookcfacmdkaa
open Go.RowKit Go.ChangeMaps Go.Deep
set_option linter.unusedSimpArgs false
set_option linter.unusedVariables false
set_option maxRecDepth 20000

theorem OwnR.lit1 (w : World) (base : Nat) (d : Int) (hb : base ≤ w.heap.size) : OwnN (w.alloc (.cells #[.int .i64 d] 3)) base (.slice (some ⟨w.heap.size, 0, none⟩) ([d] : List Int).length 1) [d] :=
  ⟨by simp [flat, encI], .inr ⟨w.heap.size, 1, _, rfl, hb, heap_alloc_new w _, by simp, by unfold maxLen; omega, by simp, by simp [flat, encI]⟩⟩
theorem sgn_le {a b : Int} (h : a ≤ b) : ∃ g, sgnI a b = g ∧ g ≤ 0 := by
  refine ⟨_, rfl, ?_⟩
  unfold sgnI
  split
  · omega
  · rw [if_neg (by omega)]; omega
theorem sgn_gt {a b : Int} (h : b < a) : ∃ g, sgnI a b = g ∧ 0 < g := by
  refine ⟨_, rfl, ?_⟩
  unfold sgnI
  rw [if_neg (by omega), if_pos h]
  omega
theorem mul_bound {m b r : Int} (hb : 0 < b) (h0 : 0 ≤ m) (h1 : m ≤ 999) : 0 ≤ m * b ∧ m * b ≤ 999 * b := ⟨Int.mul_nonneg h0 (by omega), Int.mul_le_mul_of_nonneg_right h1 (by omega)⟩
set_option maxHeartbeats 16000000 in
theorem ndown_any (x y : Value) (a b : Int) (w : World) (hx : NAt w x a) (hy : NAt w y b) (hb : 0 < b) (sa : Big a) (sb : Big (1000 * b)) :
    Calls Try.prog 76 #[x, y] w fun e w' => ∃ v1 v2, e = .returned (.tuple #[v1, v2]) ∧ NAt w' v1 (a / b) ∧ NAt w' v2 (a % b) ∧ Mod [] w w' := by
  obtain ⟨nx, s1, lx, rfl, h1⟩ := hx
  obtain ⟨ny, s2, ly, rfl, h2⟩ := hy
  have hlx := h1.len sa
  obtain ⟨ax, cx, rfl⟩ := h1.ints.form
  obtain ⟨ay, cy, rfl⟩ := h2.ints.form
  have HX := Lib.hid h1
  have HY := Lib.hid h2
  have HSB := Lib.hid (fun (z : Int) (h : z.natAbs ≤ (1000 * b).natAbs) => sb.le h)
  obtain ⟨A1, hA1, k1, z1, m1⟩ := alloc_named2 w (.cells #[.bool nx, .slice ax lx.length cx] 120)
  obtain ⟨A2, hA2, k2, z2, m2⟩ := alloc_named2 A1 (.cells #[.bool ny, .slice ay ly.length cy] 120)
  obtain ⟨A3, hA3, k3, z3, m3⟩ := alloc_named2 A2 (.cells #[.bool false, .slice none 0 0] 120)
  obtain ⟨A4, hA4, k4, z4, m4⟩ := alloc_named2 A3 (.cells #[.bool false, .slice none 0 0] 120)
  obtain ⟨A5, hA5, k5, z5, m5⟩ := alloc_named2 A4 (.cells (Array.replicate lx.length (.int .i64 0)) 3)
  obtain ⟨A6, hA6, k6, z6, m6⟩ := alloc_named2 A5 (.cells #[.bool false, .slice none 0 0] 120)
  rw [z1] at k2 z2
  rw [z2] at k3 z3
  rw [z3] at k4 z4
  rw [z4] at k5 z5
  rw [z5] at k6 z6
  have q0 := cell_blk (m2.heap k1 (by simp)) 0
  have hmk : ∀ u : World, (Instr.makeSlice 22 (.int .i64 lx.length) (.int .i64 lx.length)).run Try.prog u = .ok (.slice (some ⟨u.heap.size, 0, none⟩) lx.length lx.length) (u.alloc (.cells (Array.replicate lx.length (.int .i64 0)) 3)) := fun u => run_makeInts lx.length (by omega) u
  have mW := m1.trans (m2.trans (m3.trans (m4.trans (m5.trans m6))))
  have g1 := (m2.trans (m3.trans m4)).heap k1 (by simp)
  have x1 := cell_blk g1 1
  simp only [List.getElem?_toArray, List.getElem?_cons_succ, List.getElem?_cons_zero] at x1
  have HS0 : Hid (DownAt w A6 nx ny ax ay lx ly cx cy a b (List.replicate lx.length 0)) := Lib.hid
    ⟨mW, ⟨(m5.trans m6).heap g1 (by simp), h1.kept0 mW⟩, ⟨(m3.trans (m4.trans (m5.trans m6))).heap k2 (by simp), h2.kept0 mW⟩, (m4.trans (m5.trans m6)).heap k3 (by simp), (m5.trans m6).heap k4 (by simp), by
      have := own_zeros A4 lx.length (w.heap.size + 1 + 1 + 1 + 1) (by omega) (by omega)
      rw [hA5, z4] at this
      exact this.kept0 m6, by simp, fun x hx => by rw [List.eq_of_mem_replicate hx]; omega, by omega⟩
  have hb6 : BoxZ A6 (w.heap.size + 1 + 1 + 1 + 1 + 1) false none [] 0 0 := ⟨k6, ⟨.nil none 0, .nil, .nil, by simp [zOf, rv], by simp⟩⟩
  obtain ⟨b60, b61, b62, b63⟩ := hb6.cells
  obtain ⟨W6, hW6⟩ : ∃ W6, (A6.setCell ⟨w.heap.size + 1 + 1 + 1 + 1 + 1, 0, none⟩ (.bool false)).setCell ⟨w.heap.size + 1 + 1 + 1 + 1 + 1, 1, none⟩ (.slice none ([] : List Int).length 0) = W6 := ⟨_, rfl⟩
  have hb7 := hb6.set (neg' := false) (a' := none) (l' := []) (c' := 0) (z' := 0) hb6.num
  have HS1 := Lib.hid (HS0.out.box hb6.isBox (by omega) (.bool false) (.slice none ([] : List Int).length 0))
  rw [hW6] at hb7 HS1
  simp only [List.length_nil] at hW6 b61
  obtain ⟨_, x6, _, _⟩ := HS1.out.bx.cells
  have HB0 : Hid (∃ neg p l c, BoxZ W6 (w.heap.size + 1 + 1 + 1 + 1 + 1) neg p l c 0) := Lib.hid ⟨_, _, _, _, hb7⟩
  have HBP := Lib.hid hb
  clear h1 h2 sa sb k1 k2 k3 k4 k5 k6 m1 m2 m3 m4 m5 m6 mW q0 g1 z6 hb6 hb7 HS0
  go_enter Try.func76, Try.ntmps76
  go_wp2_with fail
  go_loopw [8] (fun s8 wr => ∃ (k : Nat) (z : Int) (q : List Int) (r : Int), s8 = .int .i64 z ∧ z = (k : Int) - 1 ∧ k ≤ lx.length ∧ Hid (DownAt w wr nx ny ax ay lx ly cx cy a b q) ∧ Hid (∃ neg p l c, BoxZ wr (w.heap.size + 1 + 1 + 1 + 1 + 1) neg p l c r) ∧ Hid (rv (lx.drop k) = rv (q.drop k) * b + r) ∧ Hid (0 ≤ r ∧ r < b)) (fun s8 _ => (intOf s8 + 1).toNat)
  case atStart => exact ⟨lx.length, _, _, 0, rfl, rfl, by omega, HS1, HB0, Lib.hid (by rw [List.drop_of_length_le (Nat.le_refl _), List.drop_of_length_le (by simp)]; simp [rv]), Lib.hid ⟨by omega, HBP.out⟩⟩
  case round =>
    clear HS1 HB0 x1 x6
    obtain ⟨k, z, q, r, rfl, hz, hk, hS, hB, hI, hR⟩ := hrel
    obtain ⟨rn, ra, rl, rc, hrb⟩ := hB.out
    obtain ⟨rfl, hrv⟩ := hrb.num.nonneg hR.out.1
    obtain ⟨x0, x1, _, _⟩ := hS.out.bx.cells
    obtain ⟨y0, y1, _, _⟩ := hS.out.bw.cells
    obtain ⟨t0, t1, _, _⟩ := hrb.cells
    have hrl : rl.length ≤ 80 := hrb.num.len (HSB.out r (by have := hR.out; have := HBP.out; omega))
    have HRV := Lib.hid hrv
    have HRB := Lib.hid hrb
    cases k with
    | zero =>
      obtain rfl : z = -1 := by omega
      have hql := hS.out.len
      have HCS := Lib.hid (nshort_at nx (some ⟨w.heap.size + 1 + 1 + 1 + 1, 0, none⟩) lx.length q wr (by have := hS.out.own.row; exact this) hS.out.dg (by omega))
      rw [hql] at HCS
      have HTOT := Lib.hid (show rv lx = rv q * b + r by have := hI.out; simpa using this)
      clear hz hrb hrv hql hI
      go_wp2_with fail
      refine HCS.out.mono ?_
      rintro e w5 ⟨on, ol, rfl, hon, m5⟩
      obtain ⟨W5, hW5, hob, zW5, mW5⟩ := BoxZ.made hon
      have hS5 := hS.out.kept0 (m5.trans mW5)
      have hR5 := HRB.out.kept0 (m5.trans mW5)
      obtain ⟨x0', x1', _, _⟩ := hS5.bx.cells
      obtain ⟨y0', y1', y2', y3'⟩ := hS5.bw.cells
      obtain ⟨t0', t1', t2', t3'⟩ := hR5.cells
      obtain ⟨o0', o1', o2', o3'⟩ := hob.cells
      have HOB := Lib.hid hob
      have HS5 := Lib.hid hS5
      have HR5 := Lib.hid hR5
      have hlw : w.heap.size + 1 + 1 + 1 + 1 + 1 < w5.heap.size := Nat.lt_of_lt_of_le hS.out.at_ m5.size
      have HLW := Lib.hid hlw
      clear hon m5 mW5 hob hS5 hR5 HCS hlw
      cases nx with
      | false =>
        have HV := Lib.hid (show zOf false q = a / b ∧ r = a % b by
          obtain ⟨e1, e2⟩ := down_fin (a := a) (Q := rv q) (r := r) HBP.out (by rw [HX.out.z]; simpa [zOf] using HTOT.out) hR.out.1 hR.out.2
          exact ⟨by rw [e1]; rfl, e2.symm⟩)
        clear HTOT
        obtain ⟨f0, f1, f2, f3⟩ : _ ∧ _ ∧ _ ∧ _ := ⟨frozen_blk HS5.out.r1 0, frozen_blk HS5.out.r1 1, frozen_blk HS5.out.r2 0, frozen_blk HS5.out.r2 1⟩
        have p0 := cell_blk HS5.out.r1 0
        have p1 := cell_blk HS5.out.r1 1
        have p2 := cell_blk HS5.out.r2 0
        have p3 := cell_blk HS5.out.r2 1
        simp only [List.getElem?_toArray, List.getElem?_cons_succ, List.getElem?_cons_zero] at p0 p1 p2 p3
        go_wp2_with fail
        refine wp_plan [([0, 1], 2, [1]), ([], 3, [])] [] (by kernel_rfl) (by kernel_rfl) ?_
        simp only [wpSegs, opsOf, List.map_cons, List.map_nil, opN, List.getD_cons_zero, List.getD_cons_succ]
        go_wp2_with fail
        refine ⟨by first | trivial | rfl, ?_⟩
        go_wp2_with fail
        refine ⟨?agf, ?_⟩
        case agf =>
          intro i hi hw
          simp only [List.mem_cons, List.not_mem_nil, or_false] at hi
          subst hi
          all_goals (simp only [opN, List.getD_cons_zero, List.getD_cons_succ, slotOf]; go_simp)
        go_wp2_with fail
        refine ⟨by first | trivial | rfl, ?_⟩
        go_wp2_with fail
        refine ⟨again_nil, ?_⟩
        go_wp2_with fail
        refine ⟨by first | trivial | rfl, ?_⟩
        go_wp2_with fail
        have hbn2 : BoxN W5 (w.heap.size + 1 + 1) := ⟨_, _, _, _, _, HS5.out.r1⟩
        have hbn3 : BoxN W5 (w.heap.size + 1 + 1 + 1) := ⟨_, _, _, _, _, HS5.out.r2⟩
        refine bodyPost_ret (v := .tuple #[.agg #[.bool on, .slice (some ⟨w.heap.size + 1 + 1 + 1 + 1, 0, none⟩) ol.length lx.length], .agg #[.bool false, .slice ra rl.length rc]]) (by simp [results, Try.results76, go_sem, p0, p1, p2, p3]) rfl ⟨_, _, rfl, ⟨on, _, ol, rfl, ?_⟩, ⟨false, _, rl, rfl, ?_⟩, ?_⟩
        · rw [← HV.out.1]
          exact ((HOB.out.num.other hbn2 _ _).other (hbn3.other (by omega) _ _) _ _).kept0 (Mod.refl [] _).drew
        · rw [← HV.out.2]
          exact ((HR5.out.num.other hbn2 _ _).other (hbn3.other (by omega) _ _) _ _).kept0 (Mod.refl [] _).drew
        · exact ((((HS5.out.mod.setCellNew (p := ⟨w.heap.size + 1 + 1, 0, none⟩) (by simp only; omega) _).setCellNew (p := ⟨w.heap.size + 1 + 1, 1, none⟩) (by simp only; omega) _).setCellNew (p := ⟨w.heap.size + 1 + 1 + 1, 0, none⟩) (by simp only; omega) _).setCellNew (p := ⟨w.heap.size + 1 + 1 + 1, 1, none⟩) (by simp only; omega) _).drew
      | true =>
        by_cases hr0 : r = 0
        · have HV := Lib.hid (show zOf true q = a / b ∧ r = a % b by
            obtain ⟨e1, e2⟩ := down_fin (a := a) (Q := - rv q) (r := 0) HBP.out (by rw [HX.out.z]; simp only [zOf, if_true]; rw [HTOT.out, hr0, Int.neg_mul]; omega) (by omega) HBP.out
            exact ⟨by rw [e1]; rfl, by rw [e2]; exact hr0⟩)
          obtain rfl : rl = [] := (rv_zero HRB.out.num.dg HRB.out.num.cn).1 (by rw [HRV.out, hr0])
          simp only [List.length_nil] at t1' t1
          clear HTOT hr0
          obtain ⟨f0, f1, f2, f3⟩ : _ ∧ _ ∧ _ ∧ _ := ⟨frozen_blk HS5.out.r1 0, frozen_blk HS5.out.r1 1, frozen_blk HS5.out.r2 0, frozen_blk HS5.out.r2 1⟩
          have p0 := cell_blk HS5.out.r1 0
          have p1 := cell_blk HS5.out.r1 1
          have p2 := cell_blk HS5.out.r2 0
          have p3 := cell_blk HS5.out.r2 1
          simp only [List.getElem?_toArray, List.getElem?_cons_succ, List.getElem?_cons_zero] at p0 p1 p2 p3
          go_wp2_with fail
          refine wp_plan [([0, 1], 2, [1]), ([], 3, [])] [] (by kernel_rfl) (by kernel_rfl) ?_
          simp only [wpSegs, opsOf, List.map_cons, List.map_nil, opN, List.getD_cons_zero, List.getD_cons_succ]
          go_wp2_with fail
          refine ⟨by first | trivial | rfl, ?_⟩
          go_wp2_with fail
          refine ⟨?agf, ?_⟩
          case agf =>
            intro i hi hw
            simp only [List.mem_cons, List.not_mem_nil, or_false] at hi
            subst hi
            all_goals (simp only [opN, List.getD_cons_zero, List.getD_cons_succ, slotOf]; go_simp)
          go_wp2_with fail
          refine ⟨by first | trivial | rfl, ?_⟩
          go_wp2_with fail
          refine ⟨again_nil, ?_⟩
          go_wp2_with fail
          refine ⟨by first | trivial | rfl, ?_⟩
          go_wp2_with fail
          have hbn2 : BoxN W5 (w.heap.size + 1 + 1) := ⟨_, _, _, _, _, HS5.out.r1⟩
          have hbn3 : BoxN W5 (w.heap.size + 1 + 1 + 1) := ⟨_, _, _, _, _, HS5.out.r2⟩
          refine bodyPost_ret (v := .tuple #[.agg #[.bool on, .slice (some ⟨w.heap.size + 1 + 1 + 1 + 1, 0, none⟩) ol.length lx.length], .agg #[.bool false, .slice ra 0 rc]]) (by simp [results, Try.results76, go_sem, p0, p1, p2, p3]) rfl ⟨_, _, rfl, ⟨on, _, ol, rfl, ?_⟩, ⟨false, _, [], rfl, ?_⟩, ?_⟩
          · rw [← HV.out.1]
            exact ((HOB.out.num.other hbn2 _ _).other (hbn3.other (by omega) _ _) _ _).kept0 (Mod.refl [] _).drew
          · rw [← HV.out.2]
            exact ((HR5.out.num.other hbn2 _ _).other (hbn3.other (by omega) _ _) _ _).kept0 (Mod.refl [] _).drew
          · exact ((((HS5.out.mod.setCellNew (p := ⟨w.heap.size + 1 + 1, 0, none⟩) (by simp only; omega) _).setCellNew (p := ⟨w.heap.size + 1 + 1, 1, none⟩) (by simp only; omega) _).setCellNew (p := ⟨w.heap.size + 1 + 1 + 1, 0, none⟩) (by simp only; omega) _).setCellNew (p := ⟨w.heap.size + 1 + 1 + 1, 1, none⟩) (by simp only; omega) _).drew
        · have hrp : 0 < rl.length := List.length_pos_iff.2 fun e => hr0 (by have := HRV.out; rw [e] at this; simpa [rv] using this.symm)
          have HV := Lib.hid (show zOf true q - 1 = a / b ∧ b - r = a % b by
            obtain ⟨e1, e2⟩ := down_neg (a := a) (Q := rv q) (r := r) HBP.out (by rw [HX.out.z]; simp only [zOf, if_true]; rw [HTOT.out]) (by have := hR.out; omega) hR.out.2
            exact ⟨by rw [e1]; rfl, e2.symm⟩)
          have HZQ := Lib.hid (show Big (zOf true q) from by
            refine big_of (q.length) (by rw [hS.out.len]; exact hlx) ?_
            rw [zOf_abs _ hS.out.dg]
            exact rv_lt hS.out.dg)
          clear HTOT hr0
          have HC1 := Lib.hid (nword_any 1 (by omega) W5.drew)
          go_wp2_with fail
          refine wp_plan [([0], 1, [0]), ([], 2, []), ([], 3, [])] [] (by kernel_rfl) (by kernel_rfl) ?_
          simp only [wpSegs, opsOf, List.map_cons, List.map_nil, opN, List.getD_cons_zero, List.getD_cons_succ]
          go_wp2_with fail
          refine ⟨by first | trivial | rfl, ?_⟩
          go_wp2_with fail
          refine HC1.out.mono ?_
          rintro e w6 ⟨v6, rfl, hv6, m6⟩
          have m6' := (Mod.refl [] W5).drew.trans m6
          have hob6 := HOB.out.kept0 m6'
          obtain ⟨p0, p1, _, _⟩ := hob6.cells
          have HCS := Lib.hid (nsub_any _ v6 _ _ w6 hob6.nat hv6 HZQ.out (big_of 1 (by omega) (by decide)))
          have HS6 := Lib.hid (HS5.out.kept0 m6')
          have HR6 := Lib.hid (HR5.out.kept0 m6')
          have HOB6 := Lib.hid hob6
          clear hv6 hob6 m6 m6' HC1
          go_wp2_with fail
          refine ⟨?ag1, ?_⟩
          case ag1 =>
            intro i hi hw
            simp only [List.mem_cons, List.not_mem_nil, or_false] at hi
            subst hi
            all_goals (simp only [opN, List.getD_cons_zero, List.getD_cons_succ, slotOf]; go_simp)
          go_wp2_with fail
          refine ⟨by first | trivial | rfl, ?_⟩
          go_wp2_with fail
          refine HCS.out.mono ?_
          rintro e w7 ⟨v7, rfl, hv7, m7⟩
          obtain ⟨on7, os7, ol7, rfl, hn7⟩ := hv7
          obtain ⟨oa7, oc7, rfl⟩ := hn7.ints.form
          have hob7 := HOB6.out.kept0 m7
          obtain ⟨_, _, f0, f1⟩ := hob7.cells
          obtain ⟨c0, c1, _, _⟩ := hob7.cells
          obtain ⟨W7, hW7⟩ : ∃ W7, (w7.setCell ⟨w5.heap.size, 0, none⟩ (.bool on7)).setCell ⟨w5.heap.size, 1, none⟩ (.slice oa7 ol7.length oc7) = W7 := ⟨_, rfl⟩
          have hobN := hob7.set hn7
          have hS7 := (HS6.out.kept0 m7).box hob7.isBox (by have := HLW.out; omega) (.bool on7) (.slice oa7 ol7.length oc7)
          have hR7 := (HR6.out.kept0 m7).other hob7.isBox (by have := HLW.out; omega) (.bool on7) (.slice oa7 ol7.length oc7)
          rw [hW7] at hobN hS7 hR7
          obtain ⟨u0, u1, _, _⟩ := hR7.cells
          obtain ⟨d0, d1, _, _⟩ := hS7.bw.cells
          have HCR := Lib.hid (nsub_any _ _ _ _ W7 hS7.bw.nat hR7.nat (HSB.out b (by have := HBP.out; omega)) (HSB.out r (by have := hR.out; have := HBP.out; omega)))
          have HOBN := Lib.hid hobN
          have HS7 := Lib.hid hS7
          have HR7 := Lib.hid hR7
          clear hn7 hob7 hobN hS7 hR7 m7 HCS
          go_wp2_with fail
          refine ⟨again_nil, ?_⟩
          go_wp2_with fail
          refine ⟨by first | trivial | rfl, ?_⟩
          go_wp2_with fail
          refine ⟨again_nil, ?_⟩
          go_wp2_with fail
          refine ⟨by first | trivial | rfl, ?_⟩
          go_wp2_with fail
          refine HCR.out.mono ?_
          rintro e w8 ⟨v8, rfl, hv8, m8⟩
          obtain ⟨rn8, rs8, rl8, rfl, hn8⟩ := hv8
          obtain ⟨ra8, rc8, rfl⟩ := hn8.ints.form
          have hrb8 := HR7.out.kept0 m8
          obtain ⟨e0, e1, e2, e3⟩ := hrb8.cells
          obtain ⟨W8, hW8⟩ : ∃ W8, (w8.setCell ⟨w.heap.size + 1 + 1 + 1 + 1 + 1, 0, none⟩ (.bool rn8)).setCell ⟨w.heap.size + 1 + 1 + 1 + 1 + 1, 1, none⟩ (.slice ra8 rl8.length rc8) = W8 := ⟨_, rfl⟩
          have hrbN := hrb8.set hn8
          have hS8 := (HS7.out.kept0 m8).box hrb8.isBox (by omega) (.bool rn8) (.slice ra8 rl8.length rc8)
          have hO8 := (HOBN.out.kept0 m8).other hrb8.isBox (by have := HLW.out; omega) (.bool rn8) (.slice ra8 rl8.length rc8)
          rw [hW8] at hrbN hS8 hO8
          obtain ⟨o0', o1', o2', o3'⟩ := hO8.cells
          obtain ⟨t0', t1', t2', t3'⟩ := hrbN.cells
          have HOB8 := Lib.hid hO8
          have HR8 := Lib.hid hrbN
          have HS8 := Lib.hid hS8
          clear hn8 hrb8 hrbN hS8 hO8 m8 HCR
          obtain ⟨f0, f1, f2, f3⟩ : _ ∧ _ ∧ _ ∧ _ := ⟨frozen_blk HS8.out.r1 0, frozen_blk HS8.out.r1 1, frozen_blk HS8.out.r2 0, frozen_blk HS8.out.r2 1⟩
          have p0 := cell_blk HS8.out.r1 0
          have p1 := cell_blk HS8.out.r1 1
          have p2 := cell_blk HS8.out.r2 0
          have p3 := cell_blk HS8.out.r2 1
          simp only [List.getElem?_toArray, List.getElem?_cons_succ, List.getElem?_cons_zero] at p0 p1 p2 p3
          go_wp2_with fail
          refine wp_plan [([0, 1], 2, [1]), ([], 3, [])] [] (by kernel_rfl) (by kernel_rfl) ?_
          simp only [wpSegs, opsOf, List.map_cons, List.map_nil, opN, List.getD_cons_zero, List.getD_cons_succ]
          go_wp2_with fail
          refine ⟨by first | trivial | rfl, ?_⟩
          go_wp2_with fail
          refine ⟨?agf, ?_⟩
          case agf =>
            intro i hi hw
            simp only [List.mem_cons, List.not_mem_nil, or_false] at hi
            subst hi
            all_goals (simp only [opN, List.getD_cons_zero, List.getD_cons_succ, slotOf]; go_simp)
          go_wp2_with fail
          refine ⟨by first | trivial | rfl, ?_⟩
          go_wp2_with fail
          refine ⟨again_nil, ?_⟩
          go_wp2_with fail
          refine ⟨by first | trivial | rfl, ?_⟩
          go_wp2_with fail
          have hbn2 : BoxN W8 (w.heap.size + 1 + 1) := ⟨_, _, _, _, _, HS8.out.r1⟩
          have hbn3 : BoxN W8 (w.heap.size + 1 + 1 + 1) := ⟨_, _, _, _, _, HS8.out.r2⟩
          refine bodyPost_ret (v := .tuple #[.agg #[.bool on7, .slice oa7 ol7.length oc7], .agg #[.bool rn8, .slice ra8 rl8.length rc8]]) (by simp [results, Try.results76, go_sem, p0, p1, p2, p3]) rfl ⟨_, _, rfl, ⟨on7, _, ol7, rfl, ?_⟩, ⟨rn8, _, rl8, rfl, ?_⟩, ?_⟩
          · rw [← HV.out.1]
            exact ((HOB8.out.num.other hbn2 _ _).other (hbn3.other (by omega) _ _) _ _).kept0 (Mod.refl [] _).drew
          · rw [← HV.out.2]
            exact ((HR8.out.num.other hbn2 _ _).other (hbn3.other (by omega) _ _) _ _).kept0 (Mod.refl [] _).drew
          · exact ((((HS8.out.mod.setCellNew (p := ⟨w.heap.size + 1 + 1, 0, none⟩) (by simp only; omega) _).setCellNew (p := ⟨w.heap.size + 1 + 1, 1, none⟩) (by simp only; omega) _).setCellNew (p := ⟨w.heap.size + 1 + 1 + 1, 0, none⟩) (by simp only; omega) _).setCellNew (p := ⟨w.heap.size + 1 + 1 + 1, 1, none⟩) (by simp only; omega) _).drew
    | succ m =>
      obtain rfl : z = (m : Int) := by omega
      have hml : m < lx.length := by omega
      obtain ⟨bX, oX, rfl, _, c1⟩ := (HX.out.ints.kept0 hS.out.mod).get1 hml
      have hd := HX.out.dg.get hml
      have hmq : m < q.length := by rw [hS.out.len]; exact hml
      have HSTEP := Lib.hid (fun g r' hr => down_step (b := b) (r := r) (r' := r') (g := g) hml hmq hI.out hr)
      generalize lx[m] = d at c1 hd HSTEP
      have hA := (Mod.refl [] wr).drew
      have hS7 := hA.alloc (.cells #[.int .i64 d] 3)
      obtain ⟨A7, hA7⟩ : ∃ A7, wr.drew.alloc (.cells #[.int .i64 d] 3) = A7 := ⟨_, rfl⟩
      have hown := OwnR.lit1 wr.drew wr.heap.size d (by simp)
      rw [hA7] at hown hS7
      obtain ⟨v8, w8, j1, j2, j3⟩ := own_append elemInt encI_len hown hS7.size (ty := 22) ((hrb.num.ints.kept0 hS7).src encI_len encI_one Try.underlying22) (by simp; omega) (by omega)
      have hM8 := j3.intoNil hown (Nat.le_refl _) hS7
      rcases j2.form with ⟨_, e8⟩ | ⟨g8, c8, rfl, hg81, hg82, _⟩
      · simp at e8
      have hdg : Dg ([d] ++ rl) := Dg.cons hd.1 hd.2 hrb.num.dg
      have hrv8 : zOf false ([d] ++ rl) = d + 1000 * r := by
        have h1 := HRV.out
        simp [zOf, rv, h1]
      have HCS := Lib.hid (nshort_at false (some ⟨g8, 0, none⟩) c8 ([d] ++ rl) w8 j2.row hdg (by simp; omega))
      rw [hrv8, show ([d] ++ rl).length = rl.length + 1 by simp] at HCS
      have J1 := Lib.hid (show (Builtin.append_ #[22, 22] 22 #[.slice (some ⟨wr.heap.size, 0, none⟩) 1 1, .slice ra rl.length rc]).run Try.prog A7 = .ok (.slice (some ⟨g8, 0, none⟩) (rl.length + 1) c8) w8 from by
        rw [show rl.length + 1 = ([d] ++ rl).length by simp]
        exact j1)
      have HM8 := Lib.hid hM8
      have t1a := hS7.cellD t1
      have HG8 := Lib.hid (show w.heap.size + 1 + 1 + 1 + 1 < g8 by have := hS.out.at_; omega)
      clear hrb hrv hA hS7 hown j1 j2 j3 hM8 hdg hrv8 hg81 hg82 hz hI
      go_wp2_with fail
      refine wp_plan [([0, 2, 6, 1, 7, 3, 4], 5, [6, 7]), ([], 8, []), ([], 9, []), ([], 10, [])] [] (by kernel_rfl) (by kernel_rfl) ?_
      simp only [wpSegs, opsOf, List.map_cons, List.map_nil, opN, List.getD_cons_zero, List.getD_cons_succ]
      go_wp2_with fail
      refine ⟨by first | trivial | rfl, ?_⟩
      go_wp2_with fail
      refine ⟨?ag1, ?_⟩
      case ag1 =>
        intro i hi hw
        simp only [List.mem_cons, List.not_mem_nil, or_false] at hi
        rcases hi with rfl | rfl
        all_goals (simp only [opN, List.getD_cons_zero, List.getD_cons_succ, slotOf]; go_simp)
      go_wp2_with fail
      refine ⟨by first | trivial | rfl, ?_⟩
      go_wp2_with (((with_reducible refine xAppendAt J1.out rfl rfl ?_ ?_ ?_ ?_); exact rfl; exact rfl; exact rfl))
      refine ⟨again_nil, ?_⟩
      go_wp2_with fail
      refine ⟨by first | trivial | rfl, ?_⟩
      go_wp2_with fail
      refine HCS.out.mono ?_
      rintro e w9 ⟨n9, l9, rfl, hn9, m9⟩
      have m9' := HM8.out.trans m9
      have hrb9 := HRB.out.kept0 m9'
      obtain ⟨_, _, f2, f3⟩ := hrb9.cells
      obtain ⟨e0, e1, _, _⟩ := hrb9.cells
      obtain ⟨W9, hW9⟩ : ∃ W9, (w9.setCell ⟨w.heap.size + 1 + 1 + 1 + 1 + 1, 0, none⟩ (.bool n9)).setCell ⟨w.heap.size + 1 + 1 + 1 + 1 + 1, 1, none⟩ (.slice (some ⟨g8, 0, none⟩) l9.length c8) = W9 := ⟨_, rfl⟩
      have hrbN := hrb9.set hn9
      have hS9 := (hS.out.kept0 m9').box hrb9.isBox (by omega) (.bool n9) (.slice (some ⟨g8, 0, none⟩) l9.length c8)
      rw [hW9] at hrbN hS9
      obtain ⟨r', hr'⟩ : ∃ r', Hid (d + 1000 * r = r') := ⟨_, Lib.hid rfl⟩
      rw [hr'.out] at hrbN
      have hR9 := Lib.hid (show 0 ≤ r' ∧ r' < 1000 * b by have h1 := hr'.out; have h2 := hR.out; omega)
      have HRB9 := Lib.hid hrbN
      have HS9 := Lib.hid hS9
      clear hn9 hrb9 hrbN hS9 m9 m9' HCS x0 x1 y0 y1 t0 t1 t1a HRB
      go_wp2_with fail
      refine ⟨again_nil, ?_⟩
      go_wp2_with fail
      refine ⟨by first | trivial | rfl, ?_⟩
      go_wp2_with fail
      refine ⟨again_nil, ?_⟩
      go_wp2_with fail
      refine ⟨by first | trivial | rfl, ?_⟩
      go_wp2_with fail
      go_loopw [9, 10] (fun s9 s10 wr => ∃ (lo hi : Int), s9 = .int .i64 lo ∧ s10 = .int .i64 hi ∧ 0 ≤ lo ∧ lo ≤ hi ∧ hi ≤ 999 ∧ Hid (lo * b ≤ r') ∧ Hid (r' < (hi + 1) * b) ∧ Hid (Mod [] W9 wr)) (fun s9 s10 _ => (intOf s10 - intOf s9).toNat)
      case atStart => exact ⟨0, 999, rfl, rfl, by omega, by omega, by omega, Lib.hid (by have := hR9.out; omega), Lib.hid (by have := hR9.out; omega), Lib.hid (Mod.refl _ _)⟩
      case round =>
        obtain ⟨lo, hi, rfl, rfl, h0, h01, h9, hL, hH, hM⟩ := hrel
        have hSr := HS9.out.kept0 hM.out
        have hRr := HRB9.out.kept0 hM.out
        by_cases hlt : lo < hi
        · obtain ⟨t, ht⟩ : ∃ t : Nat, Hid ((t : Int) = (lo + hi + 1) / 2) := ⟨((lo + hi + 1) / 2).toNat, Lib.hid (by omega)⟩
          obtain ⟨y0, y1, _, _⟩ := hSr.bw.cells
          obtain ⟨t0, t1, _, _⟩ := hRr.cells
          have HC1 := Lib.hid (nword_any t (by have := ht.out; omega) wr.drew)
          rw [ht.out] at HC1
          have HSR := Lib.hid (hSr.kept0 (Mod.refl [] wr).drew)
          have HRR := Lib.hid (hRr.kept0 (Mod.refl [] wr).drew)
          clear hSr hRr
          go_wp2_with fail
          refine wp_plan [([0, 3, 5, 1], 2, [3, 5]), ([], 4, [5]), ([], 6, [])] [7] (by kernel_rfl) (by kernel_rfl) ?_
          simp only [wpSegs, opsOf, List.map_cons, List.map_nil, opN, List.getD_cons_zero, List.getD_cons_succ]
          go_wp2_with fail
          refine ⟨by first | trivial | rfl, ?_⟩
          go_wp2_with fail
          refine HC1.out.mono ?_
          rintro e w10 ⟨v10, rfl, hv10, m10⟩
          have hS10 := HSR.out.kept0 m10
          have hR10 := HRR.out.kept0 m10
          obtain ⟨y0', y1', _, _⟩ := hS10.bw.cells
          obtain ⟨t0', t1', _, _⟩ := hR10.cells
          obtain ⟨md, hmd⟩ : ∃ md : Int, (lo + hi + 1) / 2 = md := ⟨_, rfl⟩
          rw [hmd] at hv10
          have hmd0 : 0 ≤ md ∧ md ≤ 999 := by omega
          obtain ⟨hmb0, hmb1⟩ := mul_bound (r := 0) HBP.out hmd0.1 hmd0.2
          have HCM := Lib.hid (nmul_any v10 _ md b w10 hv10 hS10.bw.nat (big_of 2 (by omega) (by omega)) (HSB.out b (by have := HBP.out; omega)))
          have HMB := Lib.hid (HSB.out (md * b) (by have := HBP.out; omega))
          have HM10 := Lib.hid ((hM.out.drew).trans m10)
          have HS10 := Lib.hid hS10
          have HR10 := Lib.hid hR10
          obtain ⟨v10n, v10s, v10l, rfl, hv10'⟩ := hv10
          obtain ⟨v10a, v10c, rfl⟩ := hv10'.ints.form
          clear hv10' hS10 hR10 m10 HC1 hmb0 hmb1 HSR HRR
          go_wp2_with fail
          refine ⟨?ag2, ?_⟩
          case ag2 =>
            intro i hi hw
            simp only [List.mem_cons, List.not_mem_nil, or_false] at hi
            rcases hi with rfl | rfl
            all_goals (simp only [opN, List.getD_cons_zero, List.getD_cons_succ, slotOf]; go_simp)
          go_wp2_with fail
          refine ⟨by first | trivial | rfl, ?_⟩
          go_wp2_with fail
          refine HCM.out.mono ?_
          rintro e w11 ⟨v11, rfl, hv11, m11⟩
          have hR11 := HR10.out.kept0 m11
          obtain ⟨t0'', t1'', _, _⟩ := hR11.cells
          have HCC := Lib.hid (ncmp_any v11 _ (md * b) r' w11 hv11 hR11.nat HMB.out (HSB.out r' (by have := hR9.out; have := HBP.out; omega)))
          have HM11 := Lib.hid (HM10.out.trans m11)
          obtain ⟨v11n, v11s, v11l, rfl, hv11'⟩ := hv11
          obtain ⟨v11a, v11c, rfl⟩ := hv11'.ints.form
          clear hv11' hR11 m11 HCM
          by_cases hle : md * b ≤ r'
          · obtain ⟨g, hg1, hg2⟩ := sgn_le hle
            rw [hg1] at HCC
            have HLE := Lib.hid hle
            have HMD := Lib.hid hmd
            clear hg1 hle hmd
            go_wp2_with fail
            refine ⟨?ag3, ?_⟩
            case ag3 =>
              intro i hi hw
              simp only [List.mem_cons, List.not_mem_nil, or_false] at hi
              subst hi
              all_goals (simp only [opN, List.getD_cons_zero, List.getD_cons_succ, slotOf]; go_simp)
            go_wp2_with fail
            refine ⟨by first | trivial | rfl, ?_⟩
            go_wp2_with fail
            refine HCC.out.mono ?_
            rintro e w12 ⟨rfl, m12⟩
            have HM12 := Lib.hid (HM11.out.trans m12)
            clear m12 HCC
            go_wp2_with fail
            refine ⟨again_nil, ?_⟩
            go_wp2_with fail
            refine ⟨by first | trivial | rfl, ?_⟩
            go_wp2_with fail
            go_roundw
            case rel => exact ⟨md, hi, rfl, rfl, by omega, by have := HMD.out; omega, by omega, HLE, hH, HM12⟩
            case measure => have := HMD.out; simp [intOf]; omega
          · obtain ⟨g, hg1, hg2⟩ := sgn_gt (show r' < md * b by omega)
            rw [hg1] at HCC
            have HLE := Lib.hid hle
            have HMD := Lib.hid hmd
            have hmd1 : 1 ≤ md := by omega
            have hgf : decide (g ≤ 0) = false := by simpa using hg2
            clear hg1 hle hmd
            go_wp2_with fail
            refine ⟨?ag4, ?_⟩
            case ag4 =>
              intro i hi hw
              simp only [List.mem_cons, List.not_mem_nil, or_false] at hi
              subst hi
              all_goals (simp only [opN, List.getD_cons_zero, List.getD_cons_succ, slotOf]; go_simp)
            go_wp2_with fail
            refine ⟨by first | trivial | rfl, ?_⟩
            go_wp2_with fail
            refine HCC.out.mono ?_
            rintro e w12 ⟨rfl, m12⟩
            have HM12 := Lib.hid (HM11.out.trans m12)
            clear m12 HCC
            go_wp2_with fail
            refine ⟨again_nil, ?_⟩
            go_wp2_with fail
            refine ⟨by first | trivial | rfl, ?_⟩
            go_wp2_with fail
            go_roundw
            case rel => exact ⟨lo, md - 1, rfl, rfl, by omega, by have := HMD.out; omega, by omega, hL, Lib.hid (by rw [Int.sub_add_cancel]; have := HLE.out; omega), HM12⟩
            case measure => have := HMD.out; simp [intOf]; omega
        · obtain rfl : lo = hi := by omega
          have hSq := hSr.set HX.out HY.out hml (y := lo) h0 (by omega)
          obtain ⟨qc0, qc1⟩ : ∃ u, wr.cell? ⟨w.heap.size + 1 + 1 + 1 + 1, m, none⟩ = some u ∧ wr.frozen? ⟨w.heap.size + 1 + 1 + 1 + 1, m, none⟩ = false := by
            have hmq' : m < q.length := by rw [hSr.len]; exact hml
            have := hSr.own.cell encI_len (i := m) (j := 0) hmq' (by omega) (u := .int .i64 q[m]) rfl
            rw [Nat.mul_one, Nat.add_zero] at this
            exact ⟨_, this⟩
          obtain ⟨qc1, qc2⟩ := qc1
          have hRq := hRr.row (i := m) (v := .int .i64 lo) (j := w.heap.size + 1 + 1 + 1 + 1) (by omega) (by have := HG8.out; omega)
          obtain ⟨Wq, hWq⟩ : ∃ Wq, wr.setCell ⟨w.heap.size + 1 + 1 + 1 + 1, m, none⟩ (.int .i64 lo) = Wq := ⟨_, rfl⟩
          rw [hWq] at hSq hRq
          obtain ⟨t, ht⟩ : ∃ t : Nat, Hid ((t : Int) = lo) := ⟨lo.toNat, Lib.hid (by omega)⟩
          have HC1 := Lib.hid (nword_any t (by have := ht.out; omega) Wq.drew)
          rw [ht.out] at HC1
          obtain ⟨y0, y1, _, _⟩ := hSq.bw.cells
          obtain ⟨t0, t1, _, _⟩ := hRq.cells
          have HSQ := Lib.hid (hSq.kept0 (Mod.refl [] Wq).drew)
          have HRQ := Lib.hid (hRq.kept0 (Mod.refl [] Wq).drew)
          have HST := Lib.hid (HSTEP.out lo r' hr'.out.symm)
          clear hSr hRr hSq hRq HSTEP
          go_wp2_with fail
          refine wp_plan [([0, 1, 4, 2], 3, [0, 4]), ([], 5, [0]), ([], 6, []), ([], 7, [])] [] (by kernel_rfl) (by kernel_rfl) ?_
          simp only [wpSegs, opsOf, List.map_cons, List.map_nil, opN, List.getD_cons_zero, List.getD_cons_succ]
          go_wp2_with fail
          refine ⟨by first | trivial | rfl, ?_⟩
          go_wp2_with fail
          refine HC1.out.mono ?_
          rintro e w10 ⟨v10, rfl, hv10, m10⟩
          have hS10 := HSQ.out.kept0 m10
          have hR10 := HRQ.out.kept0 m10
          obtain ⟨y0', y1', _, _⟩ := hS10.bw.cells
          obtain ⟨t0', t1', _, _⟩ := hR10.cells
          obtain ⟨hmb0, hmb1⟩ := mul_bound (r := 0) HBP.out h0 h9
          have HCM := Lib.hid (nmul_any v10 _ lo b w10 hv10 hS10.bw.nat (big_of 2 (by omega) (by omega)) (HSB.out b (by have := HBP.out; omega)))
          have HMB := Lib.hid (HSB.out (lo * b) (by have := HBP.out; omega))
          have HS10 := Lib.hid hS10
          have HR10 := Lib.hid hR10
          obtain ⟨v10n, v10s, v10l, rfl, hv10'⟩ := hv10
          obtain ⟨v10a, v10c, rfl⟩ := hv10'.ints.form
          clear hv10' hS10 hR10 m10 HC1 hmb0 hmb1 HSQ HRQ
          go_wp2_with fail
          refine ⟨?ag5, ?_⟩
          case ag5 =>
            intro i hi hw
            simp only [List.mem_cons, List.not_mem_nil, or_false] at hi
            rcases hi with rfl | rfl
            all_goals (simp only [opN, List.getD_cons_zero, List.getD_cons_succ, slotOf]; go_simp)
          go_wp2_with fail
          refine ⟨by first | trivial | rfl, ?_⟩
          go_wp2_with fail
          refine HCM.out.mono ?_
          rintro e w11 ⟨v11, rfl, hv11, m11⟩
          have hR11 := HR10.out.kept0 m11
          obtain ⟨t0'', t1'', _, _⟩ := hR11.cells
          have HCD := Lib.hid (nsub_any _ v11 r' (lo * b) w11 hR11.nat hv11 (HSB.out r' (by have := hR9.out; have := HBP.out; omega)) HMB.out)
          have HS11 := Lib.hid (HS10.out.kept0 m11)
          have HR11 := Lib.hid hR11
          obtain ⟨v11n, v11s, v11l, rfl, hv11'⟩ := hv11
          obtain ⟨v11a, v11c, rfl⟩ := hv11'.ints.form
          clear hv11' hR11 m11 HCM
          go_wp2_with fail
          refine ⟨?ag6, ?_⟩
          case ag6 =>
            intro i hi hw
            simp only [List.mem_cons, List.not_mem_nil, or_false] at hi
            subst hi
            all_goals (simp only [opN, List.getD_cons_zero, List.getD_cons_succ, slotOf]; go_simp)
          go_wp2_with fail
          refine ⟨by first | trivial | rfl, ?_⟩
          go_wp2_with fail
          refine HCD.out.mono ?_
          rintro e w12 ⟨v12, rfl, hv12, m12⟩
          obtain ⟨n12, s12, l12, rfl, hn12⟩ := hv12
          obtain ⟨a12, c12, rfl⟩ := hn12.ints.form
          have hrb12 := HR11.out.kept0 m12
          obtain ⟨e0, e1, f2, f3⟩ := hrb12.cells
          have HSN := Lib.hid ((HS11.out.kept0 m12).box hrb12.isBox (by omega) (.bool n12) (.slice a12 l12.length c12))
          have HRN := Lib.hid (hrb12.set hn12)
          clear hn12 hrb12 m12 HCD
          go_wp2_with fail
          refine ⟨again_nil, ?_⟩
          go_wp2_with fail
          refine ⟨by first | trivial | rfl, ?_⟩
          go_wp2_with fail
          refine ⟨again_nil, ?_⟩
          go_wp2_with fail
          refine ⟨by first | trivial | rfl, ?_⟩
          go_wp2_with fail
          go_roundw
          case rel => exact ⟨m, _, _, r' - lo * b, rfl, rfl, by omega, HSN, Lib.hid ⟨_, _, _, _, HRN.out⟩, HST, Lib.hid (by have h1 := hL.out; have h2 := hH.out; rw [Int.add_mul] at h2; omega)⟩
          case measure => simp [intOf] <;> omega
end Go.Proofs.Ytnoookcfacmdkaa
