/- Graph, plain: links, each field once; the fields that wait while the order is laid. No program is named here. -/
import Derived.Test.YtefaihockgebeaaGreatGrC
namespace Go.Proofs.YtefaihockgebeaaGreat
set_option linter.unusedSimpArgs false
set_option linter.unusedVariables false

/-! ### links, each once -/
/-- of each field that links lead to, the link that goes farthest back -/
structure IsOnce (l R : List Sp) : Prop where
  up : R.Pairwise fun x y => x.1 < y.1
  mem : ∀ x, x ∈ R ↔ x ∈ l ∧ ∀ y ∈ l, y.1 = x.1 → y.2 ≤ x.2
theorem up_one : ∀ {R S : List Sp}, R.Pairwise (fun x y => x.1 < y.1) → S.Pairwise (fun x y => x.1 < y.1) → (∀ x, x ∈ R ↔ x ∈ S) → R = S
  | [], S, _, _, h => by
    cases S with
    | nil => rfl
    | cons y S => exact absurd ((h y).2 (.head _)) (by simp)
  | x :: R, S, hr, hs, h => by
    cases S with
    | nil => exact absurd ((h x).1 (.head _)) (by simp)
    | cons y S =>
      rw [List.pairwise_cons] at hr hs
      have e : x = y := by
        rcases List.mem_cons.1 ((h x).1 (.head _)) with e | hx
        · exact e
        · rcases List.mem_cons.1 ((h y).2 (.head _)) with e | hy
          · exact e.symm
          · have h1 := hr.1 y hy; have h2 := hs.1 x hx; omega
      subst e
      rw [up_one hr.2 hs.2 fun z => ?_]
      constructor
      · intro hz
        rcases List.mem_cons.1 ((h z).1 (.tail _ hz)) with rfl | hz'
        · have := hr.1 _ hz; omega
        · exact hz'
      · intro hz
        rcases List.mem_cons.1 ((h z).2 (.tail _ hz)) with rfl | hz'
        · have := hs.1 _ hz; omega
        · exact hz'
theorem IsOnce.one {l R S : List Sp} (h : IsOnce l R) (k : IsOnce l S) : R = S := up_one h.up k.up fun x => by rw [h.mem, k.mem]
theorem IsOnce.perm {l m R : List Sp} (h : IsOnce m R) (hp : l.Perm m) : IsOnce l R :=
  ⟨h.up, fun x => by
    rw [h.mem, hp.mem_iff]
    exact and_congr_right fun _ => ⟨fun k y hy => k y (hp.mem_iff.1 hy), fun k y hy => k y (hp.mem_iff.2 hy)⟩⟩
/-- of links that lead to one field one goes farthest back -/
theorem far_one : ∀ {l : List Sp} {t : Int}, (∃ x ∈ l, x.1 = t) → ∃ x ∈ l, x.1 = t ∧ ∀ y ∈ l, y.1 = t → y.2 ≤ x.2
  | [], t, ⟨x, h, _⟩ => by cases h
  | z :: l, t, h => by
    by_cases hl : ∃ x ∈ l, x.1 = t
    · obtain ⟨x, hx, e, hm⟩ := far_one hl
      by_cases hz : z.1 = t ∧ x.2 < z.2
      · exact ⟨z, .head _, hz.1, fun y hy e2 => by
          rcases List.mem_cons.1 hy with rfl | hy
          · exact Int.le_refl _
          · have := hm y hy e2; omega⟩
      · refine ⟨x, .tail _ hx, e, fun y hy e2 => ?_⟩
        rcases List.mem_cons.1 hy with rfl | hy
        · have : ¬ x.2 < y.2 := fun h => hz ⟨e2, h⟩
          omega
        · exact hm y hy e2
    · obtain ⟨x, hx, e⟩ := h
      rcases List.mem_cons.1 hx with rfl | hx
      · refine ⟨x, .head _, e, fun y hy e2 => ?_⟩
        rcases List.mem_cons.1 hy with rfl | hy
        · exact Int.le_refl _
        · exact (hl ⟨y, hy, e2⟩).elim
      · exact (hl ⟨x, hx, e⟩).elim
theorem IsOnce.to {l R : List Sp} (h : IsOnce l R) (t : Int) : (∃ x ∈ R, x.1 = t) ↔ ∃ x ∈ l, x.1 = t := by
  constructor
  · rintro ⟨x, hx, e⟩; exact ⟨x, ((h.mem x).1 hx).1, e⟩
  · intro hl
    obtain ⟨x, hx, e, hm⟩ := far_one hl
    exact ⟨x, (h.mem x).2 ⟨hx, fun y hy e2 => hm y hy (e2.trans e)⟩, e⟩
theorem IsOnce.nil : IsOnce [] [] := ⟨.nil, by simp⟩
/-- is an element kept, where each one that has its forerunner's field is struck? -/
def keepsL (l : List Sp) (p : Nat) : Bool := decide (p = 0) || !decide ((l.getD p (0, 0)).1 = (l.getD (p - 1) (0, 0)).1)
def cutUp (l : List Sp) : Nat → List Sp
  | 0 => []
  | p + 1 => cutUp l p ++ (if keepsL l p then [l.getD p (0, 0)] else [])
theorem cutUp_len (l : List Sp) : ∀ p, (cutUp l p).length ≤ p
  | 0 => by simp [cutUp]
  | p + 1 => by
    have := cutUp_len l p
    unfold cutUp
    split <;> simp <;> omega
/-- links that lie by To rising, Back falling -/
def Sorted2 (l : List Sp) : Prop := l.Pairwise fun x y => x.1 < y.1 ∨ (x.1 = y.1 ∧ y.2 ≤ x.2)
theorem take_mem {l : List Sp} {m : Nat} {x : Sp} (h : x ∈ l.take m) : ∃ j, j < m ∧ j < l.length ∧ x = l.getD j (0, 0) := by
  obtain ⟨j, hj, e⟩ := List.mem_iff_getElem.1 h
  have hj2 : j < m ∧ j < l.length := by rw [List.length_take] at hj; omega
  refine ⟨j, hj2.1, hj2.2, ?_⟩
  rw [← e]; simp [hj2.2]
theorem Sorted2.at {l : List Sp} (h : Sorted2 l) {i j : Nat} (hij : i < j) (hj : j < l.length) : (l.getD i (0, 0)).1 < (l.getD j (0, 0)).1 ∨ ((l.getD i (0, 0)).1 = (l.getD j (0, 0)).1 ∧ (l.getD j (0, 0)).2 ≤ (l.getD i (0, 0)).2) := by
  have := List.pairwise_iff_getElem.1 h i j (by omega) hj hij
  simpa [hj, show i < l.length by omega] using this
theorem getD_mem_take {l : List Sp} {j m : Nat} (h : j < m) (hj : j < l.length) : l.getD j (0, 0) ∈ l.take m := by
  rw [List.mem_iff_getElem]
  exact ⟨j, by rw [List.length_take]; omega, by simp [hj]⟩
theorem cutUp_inv {l : List Sp} (hs : Sorted2 l) : ∀ m, m ≤ l.length → IsOnce (l.take m) (cutUp l m) ∧ ∀ x ∈ cutUp l m, 0 < m → x.1 ≤ (l.getD (m - 1) (0, 0)).1
  | 0, _ => ⟨by simpa [cutUp] using IsOnce.nil, fun x h => by simp [cutUp] at h⟩
  | m + 1, hm => by
    obtain ⟨h1, h2⟩ := cutUp_inv hs m (by omega)
    have ht : l.take (m + 1) = l.take m ++ [l.getD m (0, 0)] := by
      rw [List.take_succ_eq_append_getElem (by omega)]; simp [show m < l.length by omega]
    unfold cutUp
    by_cases hk : keepsL l m = true
    · rw [if_pos hk, ht]
      have hlt : ∀ y ∈ l.take m, y.1 < (l.getD m (0, 0)).1 := fun y hy => by
        obtain ⟨j, hj, hj2, rfl⟩ := take_mem hy
        unfold keepsL at hk
        simp only [Bool.or_eq_true, decide_eq_true_eq, Bool.not_eq_true', decide_eq_false_iff_not] at hk
        rcases hk with hk | hk
        · omega
        · have a1 := hs.at (i := m - 1) (j := m) (by omega) (by omega)
          by_cases hj3 : j = m - 1
          · subst hj3; omega
          · have a2 := hs.at (i := j) (j := m - 1) (by omega) (by omega); omega
      have hz : (l.getD (m + 1 - 1) (0, 0)) = l.getD m (0, 0) := rfl
      rw [hz]
      generalize l.getD m (0, 0) = z at hlt
      refine ⟨⟨?_, fun x => ?_⟩, fun x hx _ => ?_⟩
      · rw [List.pairwise_append]
        exact ⟨h1.up, by simp, fun a ha b hb => by
          rw [List.mem_singleton.1 hb]; exact hlt a ((h1.mem a).1 ha).1⟩
      · rw [List.mem_append, h1.mem, List.mem_singleton, List.mem_append, List.mem_singleton]
        constructor
        · rintro (⟨a, b⟩ | rfl)
          · refine ⟨.inl a, fun y hy e => ?_⟩
            rcases List.mem_append.1 hy with hy | hy
            · exact b y hy e
            · rw [List.mem_singleton.1 hy] at e; have := hlt x a; omega
          · refine ⟨.inr rfl, fun y hy e => ?_⟩
            rcases List.mem_append.1 hy with hy | hy
            · have := hlt y hy; omega
            · rw [List.mem_singleton.1 hy]; exact Int.le_refl _
        · rintro ⟨a | a, b⟩
          · exact .inl ⟨a, fun y hy => b y (List.mem_append.2 (.inl hy))⟩
          · exact .inr a
      · rcases List.mem_append.1 hx with hx | hx
        · have := hlt x ((h1.mem x).1 hx).1; omega
        · rw [List.mem_singleton.1 hx]; exact Int.le_refl _
    · rw [if_neg hk, List.append_nil, ht]
      unfold keepsL at hk
      simp only [Bool.or_eq_true, decide_eq_true_eq, Bool.not_eq_true', decide_eq_false_iff_not, not_or, Classical.not_not] at hk
      obtain ⟨hm0, he⟩ := hk
      have ha := hs.at (i := m - 1) (j := m) (by omega) (by omega)
      have hq := getD_mem_take (l := l) (j := m - 1) (m := m) (by omega) (by omega)
      have hz : (l.getD (m + 1 - 1) (0, 0)) = l.getD m (0, 0) := rfl
      have h2' := fun x hx => h2 x hx (by omega)
      rw [hz]
      generalize l.getD m (0, 0) = z at he ha
      generalize l.getD (m - 1) (0, 0) = q at he ha hq h2'
      refine ⟨⟨h1.up, fun x => ?_⟩, fun x hx _ => by rw [he]; exact h2' x hx⟩
      rw [h1.mem, List.mem_append, List.mem_singleton]
      constructor
      · rintro ⟨a, b⟩
        refine ⟨.inl a, fun y hy e => ?_⟩
        rcases List.mem_append.1 hy with hy | hy
        · exact b y hy e
        · rw [List.mem_singleton.1 hy] at e ⊢
          have := b q hq (by omega)
          omega
      · rintro ⟨a | a, b⟩
        · exact ⟨a, fun y hy => b y (List.mem_append.2 (.inl hy))⟩
        · subst a
          have h3 := b q (List.mem_append.2 (.inl hq)) he.symm
          have e : x = q := Prod.ext he (by omega)
          rw [e]
          exact ⟨hq, fun y hy e2 => by have := b y (List.mem_append.2 (.inl hy)) (by omega); omega⟩
theorem cutUp_once {l : List Sp} (hs : Sorted2 l) : IsOnce l (cutUp l l.length) := by
  have := (cutUp_inv hs l.length (Nat.le_refl _)).1
  rwa [List.take_length] at this
/-- the document's: of each field below n the farthest link -/
def backR (t : Int) : List Sp → Int → Int
  | [], b => b
  | x :: l, b => backR t l (if x.1 = t ∧ b < x.2 then x.2 else b)
def onR (l : List Sp) : Nat → List Sp
  | 0 => []
  | t + 1 => onR l t ++ (if 0 ≤ backR t l (-1) then [((t : Int), backR t l (-1))] else [])
theorem backR_spec (t : Int) : ∀ (l : List Sp) (b : Int), b ≤ backR t l b ∧ (∀ y ∈ l, y.1 = t → y.2 ≤ backR t l b) ∧ (backR t l b = b ∨ (t, backR t l b) ∈ l)
  | [], b => ⟨Int.le_refl _, by simp, .inl rfl⟩
  | x :: l, b => by
    obtain ⟨h1, h2, h3⟩ := backR_spec t l (if x.1 = t ∧ b < x.2 then x.2 else b)
    unfold backR
    by_cases hc : x.1 = t ∧ b < x.2
    · rw [if_pos hc] at h1 h2 h3 ⊢
      refine ⟨by omega, fun y hy e => ?_, ?_⟩
      · rcases List.mem_cons.1 hy with rfl | hy
        · exact h1
        · exact h2 y hy e
      · rcases h3 with h3 | h3
        · right; rw [h3]; exact List.mem_cons.2 (.inl (by rw [← hc.1]))
        · exact .inr (.tail _ h3)
    · rw [if_neg hc] at h1 h2 h3 ⊢
      refine ⟨h1, fun y hy e => ?_, h3.imp id (.tail _)⟩
      rcases List.mem_cons.1 hy with rfl | hy
      · have : ¬ b < y.2 := fun h => hc ⟨e, h⟩
        omega
      · exact h2 y hy e
theorem onR_len (l : List Sp) : ∀ n, (onR l n).length ≤ n
  | 0 => by simp [onR]
  | n + 1 => by
    have := onR_len l n
    unfold onR
    split <;> simp <;> omega
theorem onR_mem {l : List Sp} (h0 : ∀ x ∈ l, 0 ≤ x.2) : ∀ {n : Nat} {x : Sp}, x ∈ onR l n ↔ (0 ≤ x.1 ∧ x.1 < n) ∧ x ∈ l ∧ ∀ y ∈ l, y.1 = x.1 → y.2 ≤ x.2
  | 0, x => by simp [onR]; omega
  | n + 1, x => by
    obtain ⟨b1, b2, b3⟩ := backR_spec n l (-1)
    unfold onR
    rw [List.mem_append, onR_mem h0]
    have key : x ∈ (if 0 ≤ backR n l (-1) then [((n : Int), backR n l (-1))] else []) ↔ x.1 = n ∧ x ∈ l ∧ ∀ y ∈ l, y.1 = x.1 → y.2 ≤ x.2 := by
      constructor
      · intro hx
        by_cases hb : 0 ≤ backR n l (-1)
        · rw [if_pos hb, List.mem_singleton] at hx
          subst hx
          refine ⟨rfl, ?_, fun y hy e => b2 y hy e⟩
          rcases b3 with b3 | b3
          · omega
          · exact b3
        · rw [if_neg hb] at hx; cases hx
      · rintro ⟨e, hx, hm⟩
        have h1 := b2 x hx e
        have h2 := h0 x hx
        rw [if_pos (by omega), List.mem_singleton]
        rcases b3 with b3 | b3
        · omega
        · have h3 := hm _ b3 e.symm
          exact Prod.ext e (by simp at h3 ⊢; omega)
    rw [key]
    constructor
    · rintro (⟨a, b⟩ | ⟨a, b⟩)
      · exact ⟨by omega, b⟩
      · exact ⟨by omega, b⟩
    · rintro ⟨a, b⟩
      by_cases e : x.1 = n
      · exact .inr ⟨e, b⟩
      · exact .inl ⟨by omega, b⟩
theorem onR_up (l : List Sp) : ∀ n : Nat, (onR l n).Pairwise (fun x y => x.1 < y.1) ∧ ∀ x ∈ onR l n, x.1 < n
  | 0 => by simp [onR]
  | n + 1 => by
    obtain ⟨h1, h2⟩ := onR_up l n
    unfold onR
    split
    · refine ⟨List.pairwise_append.2 ⟨h1, by simp, fun a ha b hb => by rw [List.mem_singleton.1 hb]; exact h2 a ha⟩, fun x hx => ?_⟩
      rcases List.mem_append.1 hx with hx | hx
      · have := h2 x hx; omega
      · rw [List.mem_singleton.1 hx]; simp; omega
    · rw [List.append_nil]
      exact ⟨h1, fun x hx => by have := h2 x hx; omega⟩
theorem onR_once {l : List Sp} {n : Nat} (h : ∀ x ∈ l, 0 ≤ x.1 ∧ x.1 < n ∧ 0 ≤ x.2) : IsOnce l (onR l n) :=
  ⟨(onR_up l n).1, fun x => by
    rw [onR_mem fun x hx => (h x hx).2.2]
    exact ⟨fun k => k.2, fun k => ⟨⟨(h x k.1).1, (h x k.1).2.1⟩, k⟩⟩⟩
/-- the order hangs on which fields the links lead to, alone -/
theorem nextR_congr {L M : Lks} {out : List Int} : ∀ (m i : Nat), (∀ k, i ≤ k → k < i + m → ∀ t, (∃ x ∈ linksOf L k, x.1 = t) ↔ ∃ x ∈ linksOf M k, x.1 = t) → nextR L out i m = nextR M out i m
  | 0, _, _ => rfl
  | m + 1, i, h => by
    have e : freeB (linksOf L i) out = freeB (linksOf M i) out := by
      rw [Bool.eq_iff_iff, freeB_iff, freeB_iff]
      constructor
      · intro k x hx
        obtain ⟨y, hy, e⟩ := (h i (Nat.le_refl _) (by omega) x.1).2 ⟨x, hx, rfl⟩
        rw [← e]; exact k y hy
      · intro k x hx
        obtain ⟨y, hy, e⟩ := (h i (Nat.le_refl _) (by omega) x.1).1 ⟨x, hx, rfl⟩
        rw [← e]; exact k y hy
    unfold nextR
    rw [e, nextR_congr m (i + 1) fun k h1 h2 => h k (by omega) (by omega)]
theorem ordF_congr {L M : Lks} {n : Nat} (h : ∀ k, k < n → ∀ t, (∃ x ∈ linksOf L k, x.1 = t) ↔ ∃ x ∈ linksOf M k, x.1 = t) : ∀ (m : Nat) (out : List Int), ordF L n m out = ordF M n m out
  | 0, _ => rfl
  | m + 1, out => by
    unfold ordF
    rw [nextR_congr n 0 fun k _ h2 => h k (by omega)]
    cases nextR M out 0 n with
    | none => rfl
    | some i => exact ordF_congr h m _
theorem orderR_congr {L M : Lks} {n : Nat} (h : ∀ k, k < n → ∀ t, (∃ x ∈ linksOf L k, x.1 = t) ↔ ∃ x ∈ linksOf M k, x.1 = t) : orderR L n = orderR M n := ordF_congr h n []
/-! ### the fields that wait -/
/-- how many of a field's links lead to none of some -/
def leftN (l : List Sp) (out : List Int) : Nat := (l.filter fun x => !out.contains x.1).length
theorem leftN_nil (l : List Sp) : leftN l [] = l.length := by simp [leftN]
theorem leftN_le (l : List Sp) (out : List Int) : leftN l out ≤ l.length := List.length_filter_le _ _
theorem leftN_zero {l : List Sp} {out : List Int} : leftN l out = 0 ↔ ∀ x ∈ l, x.1 ∈ out := by
  unfold leftN
  rw [List.length_eq_zero_iff, List.filter_eq_nil_iff]
  simp
theorem leftN_snoc {out : List Int} {i : Int} (hi : i ∉ out) : ∀ {l : List Sp}, l.Pairwise (fun x y => x.1 < y.1) → leftN l out = leftN l (out ++ [i]) + (if (∃ x ∈ l, x.1 = i) then 1 else 0)
  | [], _ => by simp [leftN]
  | x :: l, h => by
    rw [List.pairwise_cons] at h
    have ih := leftN_snoc (out := out) (i := i) hi h.2
    unfold leftN at ih ⊢
    by_cases hx : x.1 = i
    · have hno : ¬ ∃ y ∈ l, y.1 = i := by
        rintro ⟨y, hy, e⟩
        have := h.1 y hy; omega
      rw [if_neg hno] at ih
      rw [if_pos ⟨x, .head _, hx⟩, List.filter_cons_of_pos (by simp [hx, hi]), List.filter_cons_of_neg (by simp [hx])]
      simp only [List.length_cons]
      omega
    · have hiff : (∃ y ∈ x :: l, y.1 = i) ↔ ∃ y ∈ l, y.1 = i := by
        constructor
        · rintro ⟨y, hy, e⟩
          rcases List.mem_cons.1 hy with rfl | hy
          · exact (hx e).elim
          · exact ⟨y, hy, e⟩
        · rintro ⟨y, hy, e⟩; exact ⟨y, .tail _ hy, e⟩
      simp only [hiff]
      by_cases hc : x.1 ∈ out
      · rw [List.filter_cons_of_neg (by simp [hc]), List.filter_cons_of_neg (by simp [hc])]
        exact ih
      · rw [List.filter_cons_of_pos (by simp [hc]), List.filter_cons_of_pos (by simp [hc, hx])]
        simp only [List.length_cons]
        omega
/-- what is counted, k fields done behind field i -/
structure InnerL (L : Lks) (n : Nat) (out : List Int) (i : Int) (k : Nat) (lf : List Int) : Prop where
  len : lf.length = n
  done : ∀ j, j < k → j < n → lf.getD j 0 = leftN (linksOf L j) (out ++ [i])
  todo : ∀ j, k ≤ j → j < n → lf.getD j 0 = leftN (linksOf L j) out
/-- what waits, k fields done behind field i -/
structure InnerW (L : Lks) (n : Nat) (out : List Int) (i : Int) (k : Nat) (hl : List Int) : Prop where
  nodup : hl.Nodup
  mem : ∀ z, z ∈ hl ↔ (z ≠ i ∧ Ready L n out z) ∨ (z < k ∧ Ready L n (out ++ [i]) z)
theorem InnerL.yes {L : Lks} {n : Nat} {out : List Int} {i : Int} {k : Nat} {lf : List Int} (h : InnerL L n out i k lf) (hk : k < n) (hu : (linksOf L k).Pairwise fun x y => x.1 < y.1) (hi : i ∉ out) (ha : ∃ x ∈ linksOf L k, x.1 = i) :
    InnerL L n out i (k + 1) (lf.set k (lf.getD k 0 - 1)) ∧ lf.getD k 0 - 1 = leftN (linksOf L k) (out ++ [i]) := by
  have h1 := leftN_snoc hi hu
  rw [if_pos ha] at h1
  have h2 := h.todo k (Nat.le_refl _) hk
  have h3 : lf.getD k 0 - 1 = leftN (linksOf L k) (out ++ [i]) := by rw [h2, h1]; omega
  refine ⟨⟨by simpa using h.len, fun j hj hn => ?_, fun j hj hn => ?_⟩, h3⟩
  · by_cases e : j = k
    · subst e
      rw [← h3]
      simp [h.len, hn]
    · rw [← h.done j (by omega) hn]
      simp [List.getElem?_set, Ne.symm e]
  · rw [← h.todo j (by omega) hn]
    simp [List.getElem?_set, show ¬ k = j by omega]
theorem InnerL.no {L : Lks} {n : Nat} {out : List Int} {i : Int} {k : Nat} {lf : List Int} (h : InnerL L n out i k lf) (hk : k < n) (hu : (linksOf L k).Pairwise fun x y => x.1 < y.1) (hi : i ∉ out) (ha : ¬ ∃ x ∈ linksOf L k, x.1 = i) :
    InnerL L n out i (k + 1) lf := by
  have h1 := leftN_snoc hi hu
  rw [if_neg ha] at h1
  have h2 := h.todo k (Nat.le_refl _) hk
  refine ⟨h.len, fun j hj hn => ?_, fun j hj hn => h.todo j (by omega) hn⟩
  by_cases e : j = k
  · subst e; rw [h2, h1]; simp
  · exact h.done j (by omega) hn
theorem ready_snoc {L : Lks} {n : Nat} {out : List Int} {i : Int} {k : Nat} (hk : k < n) (ha : ¬ ∃ x ∈ linksOf L k, x.1 = i) : Ready L n (out ++ [i]) k ↔ (k : Int) ≠ i ∧ Ready L n out k := by
  constructor
  · rintro ⟨j, e, h1, h2, h3⟩
    obtain rfl : k = j := by omega
    simp only [List.mem_append, List.mem_singleton, not_or] at h2
    refine ⟨h2.2, k, rfl, h1, h2.1, fun x hx => ?_⟩
    have := h3 x hx
    simp only [List.mem_append, List.mem_singleton] at this
    rcases this with h | h
    · exact h
    · exact (ha ⟨x, hx, h⟩).elim
  · rintro ⟨h0, j, e, h1, h2, h3⟩
    obtain rfl : k = j := by omega
    exact ⟨k, rfl, h1, by simp [h0, h2], fun x hx => by simp [h3 x hx]⟩
theorem InnerW.no {L : Lks} {n : Nat} {out : List Int} {i : Int} {k : Nat} {hl : List Int} (h : InnerW L n out i k hl) (hk : k < n) (ha : (¬ ∃ x ∈ linksOf L k, x.1 = i) ∨ leftN (linksOf L k) (out ++ [i]) ≠ 0) (ho : Ready L n out i) : InnerW L n out i (k + 1) hl := by
  refine ⟨h.nodup, fun z => ?_⟩
  rw [h.mem]
  constructor
  · rintro (a | a)
    · exact .inl a
    · exact .inr ⟨by omega, a.2⟩
  · rintro (a | ⟨a, b⟩)
    · exact .inl a
    · by_cases e : z = k
      · subst e
        by_cases hx : ∃ x ∈ linksOf L k, x.1 = i
        · rcases ha with ha | ha
          · exact (ha hx).elim
          · obtain ⟨j, e, h1, h2, h3⟩ := b
            obtain rfl : k = j := by omega
            exact (ha (leftN_zero.2 h3)).elim
        · exact .inl ((ready_snoc hk hx).1 b)
      · exact .inr ⟨by omega, b⟩
theorem InnerW.yes {L : Lks} {n : Nat} {out : List Int} {i : Int} {k : Nat} {hl hl' : List Int} (h : InnerW L n out i k hl) (hk : k < n) (ha : ∃ x ∈ linksOf L k, x.1 = i) (h0 : leftN (linksOf L k) (out ++ [i]) = 0) (ho : Ordered L n out) (hi : Ready L n out i) (hp : hl'.Perm ((k : Int) :: hl)) : InnerW L n out i (k + 1) hl' := by
  obtain ⟨x, hx, hxi⟩ := ha
  have hio : i ∉ out := by obtain ⟨j, e, h1, h2, h3⟩ := hi; exact h2
  have hko : (k : Int) ∉ out := fun hm => by
    obtain ⟨a, b, hab⟩ := List.append_of_mem hm
    have := ho.links a k b hab x (by simpa using hx)
    exact hio (hxi ▸ (by rw [hab]; exact List.mem_append.2 (.inl this)))
  have hki : (k : Int) ≠ i := fun e => by
    obtain ⟨j, e2, h1, h2, h3⟩ := hi
    obtain rfl : k = j := by omega
    have := h3 x hx
    rw [hxi] at this
    exact hio this
  have hr : Ready L n (out ++ [i]) k := ⟨k, rfl, hk, by simp [hko, hki], leftN_zero.1 h0⟩
  have hnr : ¬ Ready L n out k := by
    rintro ⟨j, e2, h1, h2, h3⟩
    obtain rfl : k = j := by omega
    have := h3 x hx
    rw [hxi] at this
    exact hio this
  have hkl : (k : Int) ∉ hl := fun hm => by
    rcases (h.mem k).1 hm with a | a
    · exact hnr a.2
    · omega
  refine ⟨hp.nodup_iff.2 (List.nodup_cons.2 ⟨hkl, h.nodup⟩), fun z => ?_⟩
  rw [hp.mem_iff, List.mem_cons, h.mem]
  constructor
  · rintro (rfl | a | a)
    · exact .inr ⟨by omega, hr⟩
    · exact .inl a
    · exact .inr ⟨by omega, a.2⟩
  · rintro (a | ⟨a, b⟩)
    · exact .inr (.inl a)
    · by_cases e : z = k
      · exact .inl e
      · exact .inr (.inr ⟨by omega, b⟩)
/-- what waits, between two rounds -/
structure Waits (L : Lks) (n : Nat) (out : List Int) (lf hl : List Int) : Prop where
  len : lf.length = n
  cnt : ∀ j, j < n → lf.getD j 0 = leftN (linksOf L j) out
  nodup : hl.Nodup
  mem : ∀ z, z ∈ hl ↔ Ready L n out z
theorem Waits.start {L : Lks} {n : Nat} {out lf hl hl' : List Int} {i : Int} (h : Waits L n out lf hl) (hp : hl.Perm (i :: hl')) : InnerL L n out i 0 lf ∧ InnerW L n out i 0 hl' ∧ Ready L n out i := by
  have hn := hp.nodup_iff.1 h.nodup
  rw [List.nodup_cons] at hn
  refine ⟨⟨h.len, fun j hj => by omega, fun j _ => h.cnt j⟩, ⟨hn.2, fun z => ?_⟩, (h.mem i).1 (hp.mem_iff.2 (.head _))⟩
  have hz := hp.mem_iff (a := z)
  rw [h.mem, List.mem_cons] at hz
  constructor
  · intro hm
    exact .inl ⟨fun e => hn.1 (e ▸ hm), hz.2 (.inr hm)⟩
  · rintro (⟨a, b⟩ | ⟨a, j, e, _⟩)
    · exact (hz.1 b).resolve_left a
    · omega
theorem InnerL.stop {L : Lks} {n : Nat} {out lf hl : List Int} {i : Int} (h : InnerL L n out i n lf) (k : InnerW L n out i n hl) : Waits L n (out ++ [i]) lf hl := by
  refine ⟨h.len, fun j hj => h.done j hj hj, k.nodup, fun z => ?_⟩
  rw [k.mem]
  constructor
  · rintro (⟨a, j, e, h1, h2, h3⟩ | a)
    · exact ⟨j, e, h1, by simp [a, h2], fun x hx => by simp [h3 x hx]⟩
    · exact a.2
  · rintro ⟨j, e, h1, h2⟩
    exact .inr ⟨by omega, j, e, h1, h2⟩
/-- at first: i fields looked at -/
structure FirstW (L : Lks) (n i : Nat) (lf hl : List Int) : Prop where
  len : lf.length = n
  cnt : ∀ j, j < i → j < n → lf.getD j 0 = (linksOf L j).length
  nodup : hl.Nodup
  mem : ∀ z, z ∈ hl ↔ ∃ j : Nat, z = j ∧ j < i ∧ j < n ∧ linksOf L j = []
theorem FirstW.nil (L : Lks) (n : Nat) : FirstW L n 0 (List.replicate n 0) [] := ⟨by simp, by omega, .nil, fun z => by simp⟩
theorem FirstW.step {L : Lks} {n i : Nat} {lf hl : List Int} (h : FirstW L n i lf hl) (hi : i < n) (h0 : linksOf L i ≠ []) : FirstW L n (i + 1) (lf.set i (linksOf L i).length) hl := by
  refine ⟨by simpa using h.len, fun j hj hn => ?_, h.nodup, fun z => ?_⟩
  · by_cases e : j = i
    · subst e; simp [h.len, hn]
    · rw [← h.cnt j (by omega) hn]; simp [List.getElem?_set, Ne.symm e]
  · rw [h.mem]
    constructor
    · rintro ⟨j, e, a, b⟩; exact ⟨j, e, by omega, b⟩
    · rintro ⟨j, e, a, b, c⟩
      by_cases e2 : j = i
      · subst e2; exact (h0 c).elim
      · exact ⟨j, e, by omega, b, c⟩
theorem FirstW.push {L : Lks} {n i : Nat} {lf hl hl' : List Int} (h : FirstW L n i lf hl) (hi : i < n) (h0 : linksOf L i = []) (hp : hl'.Perm ((i : Int) :: hl)) : FirstW L n (i + 1) (lf.set i (linksOf L i).length) hl' := by
  have hni : (i : Int) ∉ hl := fun hm => by
    obtain ⟨j, e, a, _⟩ := (h.mem i).1 hm
    omega
  refine ⟨by simpa using h.len, fun j hj hn => ?_, hp.nodup_iff.2 (List.nodup_cons.2 ⟨hni, h.nodup⟩), fun z => ?_⟩
  · by_cases e : j = i
    · subst e; simp [h.len, hn]
    · rw [← h.cnt j (by omega) hn]; simp [List.getElem?_set, Ne.symm e]
  · rw [hp.mem_iff, List.mem_cons, h.mem]
    constructor
    · rintro (rfl | ⟨j, e, a, b⟩)
      · exact ⟨i, rfl, by omega, hi, h0⟩
      · exact ⟨j, e, by omega, b⟩
    · rintro ⟨j, e, a, b, c⟩
      by_cases e2 : j = i
      · subst e2; exact .inl e
      · exact .inr ⟨j, e, by omega, b, c⟩
theorem FirstW.stop {L : Lks} {n : Nat} {lf hl : List Int} (h : FirstW L n n lf hl) : Waits L n [] lf hl := by
  refine ⟨h.len, fun j hj => by rw [leftN_nil]; exact h.cnt j hj hj, h.nodup, fun z => ?_⟩
  rw [h.mem]
  constructor
  · rintro ⟨j, e, _, b, c⟩
    exact ⟨j, e, b, by simp, by simp [c]⟩
  · rintro ⟨j, e, b, _, c⟩
    refine ⟨j, e, b, b, ?_⟩
    cases hl : linksOf L j with
    | nil => rfl
    | cons x r => exact absurd (c x (by rw [hl]; exact .head _)) (by simp)
/-- what waits holds a least one, and its turn is next -/
theorem Waits.least {L : Lks} {n : Nat} {out lf hl : List Int} {i : Int} (h : Waits L n out lf hl) (hi : ∀ y ∈ hl, i ≤ y) : ∀ y, Ready L n out y → i ≤ y := fun y hy => hi y ((h.mem y).2 hy)
theorem Waits.done {L : Lks} {n : Nat} {out lf : List Int} (h : Waits L n out lf []) : ∀ y, ¬ Ready L n out y := fun y hy => by
  have := (h.mem y).2 hy
  cases this
end Go.Proofs.YtefaihockgebeaaGreat
