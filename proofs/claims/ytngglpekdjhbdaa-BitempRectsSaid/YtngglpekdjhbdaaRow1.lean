/- Slices of elements of some cells each, as lists: read; of the call's own; grown, written, sorted. No program is named here. -/
import Derived.Test.YtngglpekdjhbdaaOwn
namespace Go.Proofs.Ytngglpekdjhbdaa
open Go.RowKit
set_option linter.unusedSimpArgs false
set_option linter.unusedVariables false

section
variable {α : Type} (enc : α → List Value)
def flat (l : List α) : List Value := l.flatMap enc
/-- A slice that reads as a list. -/
inductive RowAt (w : World) : Value → List α → Prop
  | nil (a : Option Addr) (cap : Nat) : RowAt w (.slice a 0 cap) []
  | at_ (b o cap : Nat) (l : List α) : l.length ≤ cap → w.rangeAt b o (flat enc l) → RowAt w (.slice (some ⟨b, o, none⟩) l.length cap) l
/-- A slice of the call's own. -/
def OwnR (k : Nat) (E : TypeId) (w : World) (base : Nat) (v : Value) (l : List α) : Prop := w.ownsRow base E k v l.length (flat enc l)
end
section
variable {α : Type} {enc : α → List Value} {k : Nat} {w w' : World} {v : Value} {l : List α}
theorem flat_nil : flat enc [] = [] := rfl
theorem flat_cons (x : α) (l : List α) : flat enc (x :: l) = enc x ++ flat enc l := rfl
theorem flat_append (a b : List α) : flat enc (a ++ b) = flat enc a ++ flat enc b := by simp [flat]
theorem flat_one (x : α) : flat enc [x] = enc x := by simp [flat]
theorem flat_length (hk : ∀ x, (enc x).length = k) (l : List α) : (flat enc l).length = l.length * k := by
  induction l with
  | nil => simp [flat]
  | cons x l ih => rw [flat_cons, List.length_append, ih, hk, List.length_cons, Nat.add_mul]; omega
theorem flat_get (hk : ∀ x, (enc x).length = k) : ∀ (l : List α) (i j : Nat) (hi : i < l.length) (hj : j < k), (flat enc l)[i * k + j]? = (enc l[i])[j]?
  | x :: l, 0, j, _, hj => by
    rw [flat_cons, Nat.zero_mul, Nat.zero_add, List.getElem?_append_left (by rw [hk]; exact hj)]
    rfl
  | x :: l, i + 1, j, hi, hj => by
    rw [flat_cons, List.getElem?_append_right (by rw [hk, Nat.add_mul]; omega), hk, show (i + 1) * k + j - k = i * k + j by rw [Nat.add_mul]; omega, flat_get hk l i j (by simpa using hi) hj]
    rfl
theorem flat_take (hk : ∀ x, (enc x).length = k) : ∀ (l : List α) (n : Nat), flat enc (l.take n) = (flat enc l).take (n * k)
  | [], n => by simp [flat]
  | x :: l, 0 => by simp [flat]
  | x :: l, n + 1 => by
    have e : ((flat enc (x :: l)).take ((n + 1) * k)) = enc x ++ (flat enc l).take (n * k) := by
      rw [flat_cons, show (n + 1) * k = (enc x).length + n * k by rw [hk, Nat.add_mul]; omega, List.take_length_add_append]
    rw [List.take_succ_cons, flat_cons, flat_take hk l n, e]
theorem flat_drop (hk : ∀ x, (enc x).length = k) : ∀ (l : List α) (n : Nat), flat enc (l.drop n) = (flat enc l).drop (n * k)
  | [], n => by simp [flat]
  | x :: l, 0 => by simp
  | x :: l, n + 1 => by
    have e : ((flat enc (x :: l)).drop ((n + 1) * k)) = (flat enc l).drop (n * k) := by
      rw [flat_cons, show (n + 1) * k = (enc x).length + n * k by rw [hk, Nat.add_mul]; omega, List.drop_length_add_append]
    rw [List.drop_succ_cons, flat_drop hk l n, e]
theorem flat_set (hk : ∀ x, (enc x).length = k) : ∀ (l : List α) (i j : Nat) (hi : i < l.length) (hj : j < k) (u : Value) (y : α), enc y = (enc l[i]).set j u → (flat enc l).set (i * k + j) u = flat enc (l.set i y)
  | x :: l, 0, j, _, hj, u, y, hy => by
    rw [flat_cons, Nat.zero_mul, Nat.zero_add, List.set_append_left _ _ (by rw [hk]; exact hj), List.set_cons_zero, flat_cons, hy]
    rfl
  | x :: l, i + 1, j, hi, hj, u, y, hy => by
    rw [flat_cons, List.set_append_right _ _ (by rw [hk, Nat.add_mul]; omega), hk, show (i + 1) * k + j - k = i * k + j by rw [Nat.add_mul]; omega, List.set_cons_succ, flat_cons, flat_set hk l i j (by simpa using hi) hj u y (by simpa using hy)]
theorem RowAt.form (h : RowAt enc w v l) : ∃ a cap, v = .slice a l.length cap := by
  cases h with
  | nil a cap => exact ⟨a, cap, rfl⟩
  | at_ b o cap l hc h => exact ⟨_, cap, rfl⟩
theorem rangeAt_kept {b o : Nat} {xs : List Value} (h : w.rangeAt b o xs) {ks : List Nat} (hm : Mod ks w w') (hn : b ∉ ks) : w'.rangeAt b o xs := by
  intro j v hj
  have hc := h j v hj
  have hb : b < w.heap.size := by
    apply Classical.byContradiction
    intro hge
    simp only [World.cell?] at hc
    rw [Array.getElem?_eq_none (by omega)] at hc
    cases hc
  rw [← hc]
  exact World.cell?_of_block (hm.block b hb hn)
theorem RowAt.kept {ks : List Nat} (h : RowAt enc w v l) (hm : Mod ks w w') (hn : ∀ b ∈ ks, v.ownBlock ≠ some b) : RowAt enc w' v l := by
  cases h with
  | nil a cap => exact .nil a cap
  | at_ b o cap l hc h => exact .at_ b o cap l hc (rangeAt_kept h hm fun hb => hn b hb rfl)
theorem RowAt.kept0 (h : RowAt enc w v l) (hm : Mod [] w w') : RowAt enc w' v l := h.kept hm (by simp)
theorem RowAt.get (hk : ∀ x, (enc x).length = k) {a : Option Addr} {c : Nat} (h : RowAt enc w (.slice a l.length c) l) {i : Nat} (hi : i < l.length) :
    ∃ b o, a = some ⟨b, o, none⟩ ∧ l.length ≤ c ∧ ∀ j u, j < k → (enc l[i])[j]? = some u → w.cell? ⟨b, o + (i * k + j), none⟩ = some u := by
  generalize hv : Value.slice a l.length c = v at h
  cases h with
  | nil a cap => simp at hi
  | at_ b o cap l hc h =>
    simp only [Value.slice.injEq, true_and] at hv
    obtain ⟨rfl, rfl⟩ := hv
    exact ⟨b, o, rfl, hc, fun j u hj hu => h _ u (by rw [flat_get hk l i j hi hj]; exact hu)⟩
theorem RowAt.range {a : Option Addr} {c : Nat} (h : RowAt enc w (.slice a l.length c) l) (h0 : l ≠ []) : ∃ b o, a = some ⟨b, o, none⟩ ∧ l.length ≤ c ∧ w.rangeAt b o (flat enc l) := by
  generalize hv : Value.slice a l.length c = v at h
  cases h with
  | nil a cap => exact absurd rfl h0
  | at_ b o cap l hc h =>
    simp only [Value.slice.injEq, true_and] at hv
    obtain ⟨rfl, rfl⟩ := hv
    exact ⟨b, o, rfl, hc, h⟩
theorem rangeAt_take {b o : Nat} {xs : List Value} (h : w.rangeAt b o xs) (n : Nat) : w.rangeAt b o (xs.take n) := fun j v hj => h j v (by
  rw [List.getElem?_take] at hj
  split at hj
  · exact hj
  · cases hj)
theorem rangeAt_drop {b o : Nat} {xs : List Value} (h : w.rangeAt b o xs) (n : Nat) : w.rangeAt b (o + n) (xs.drop n) := fun j v hj => by
  rw [List.getElem?_drop] at hj
  have := h (n + j) v hj
  rwa [← Nat.add_assoc] at this
theorem RowAt.take (hk : ∀ x, (enc x).length = k) {a : Option Addr} {c : Nat} (h : RowAt enc w (.slice a l.length c) l) (n : Nat) (hn : n ≤ l.length) : RowAt enc w (.slice a n c) (l.take n) := by
  by_cases h0 : n = 0
  · subst h0; exact .nil a c
  · obtain ⟨b, o, rfl, hc, hr⟩ := h.range (by intro e; subst e; simp at hn; omega)
    have := RowAt.at_ (enc := enc) (w := w) b o c (l.take n) (by rw [List.length_take]; omega) (by rw [flat_take hk]; exact rangeAt_take hr _)
    rwa [List.length_take, Nat.min_eq_left hn] at this
/-- s[n:], where something is left -/
theorem RowAt.drop (hk : ∀ x, (enc x).length = k) {b o : Nat} {c : Nat} (h : RowAt enc w (.slice (some ⟨b, o, none⟩) l.length c) l) (n : Nat) (hn : n < l.length) : RowAt enc w (.slice (some ⟨b, o + n * k, none⟩) (l.length - n) (c - n)) (l.drop n) := by
  obtain ⟨b', o', e, hc, hr⟩ := h.range (by intro e; subst e; simp at hn)
  simp only [Option.some.injEq, Addr.mk.injEq, and_true] at e
  obtain ⟨rfl, rfl⟩ := e
  have := RowAt.at_ (enc := enc) (w := w) b (o + n * k) (c - n) (l.drop n) (by rw [List.length_drop]; omega) (by rw [flat_drop hk]; exact rangeAt_drop hr _)
  rwa [List.length_drop] at this
theorem RowAt.nil' {v : Value} (h : RowAt enc w v l) (h0 : l.length = 0) (w2 : World) : RowAt enc w2 v l := by
  have : l = [] := List.eq_nil_of_length_eq_zero h0
  subst this
  cases h with
  | nil a cap => exact .nil a cap
  | at_ b o cap _ hc h => exact .at_ b o cap [] hc (by intro j v hj; simp [flat] at hj)
/-! ### the call's own -/
variable {E : TypeId} {base : Nat}
theorem OwnR.nil_ (w : World) (base : Nat) : OwnR enc k E w base (.slice none 0 0) [] := World.ownsRow_nil _ _ _ _
theorem OwnR.row (h : OwnR enc k E w base v l) : RowAt enc w v l := by
  rcases h.2 with ⟨rfl, h0⟩ | ⟨g, cap, cur, rfl, hb, hg, hn, hcm, hcs, htake⟩
  · have : l = [] := List.eq_nil_of_length_eq_zero h0
    subst this
    exact .nil _ _
  · refine .at_ g 0 cap l hn fun j v hj => ?_
    rw [Nat.zero_add, cell_blk hg]
    rw [← htake, List.getElem?_take] at hj
    split at hj
    · rw [← hj]; simp
    · cases hj
theorem OwnR.form (h : OwnR enc k E w base v l) : v = .slice none 0 0 ∧ l = [] ∨ ∃ g cap, v = .slice (some ⟨g, 0, none⟩) l.length cap ∧ base ≤ g ∧ g < w.heap.size ∧ l.length ≤ cap := by
  rcases h.2 with ⟨rfl, h0⟩ | ⟨g, cap, cur, rfl, hb, hg, hn, hcm, hcs, htake⟩
  · exact .inl ⟨rfl, List.eq_nil_of_length_eq_zero h0⟩
  · exact .inr ⟨g, cap, rfl, hb, lt_of_heap hg, hn⟩
theorem OwnR.kept {ks : List Nat} (h : OwnR enc k E w base v l) (hm : Mod ks w w') (hn : ∀ b, v.ownBlock = some b → b ∉ ks) : OwnR enc k E w' base v l := ownsRow_kept h hm hn
theorem OwnR.kept0 (h : OwnR enc k E w base v l) (hm : Mod [] w w') : OwnR enc k E w' base v l := ownsRow_kept0 h hm
theorem OwnR.mono {base' : Nat} (h : OwnR enc k E w base v l) (hb : base' ≤ base) : OwnR enc k E w base' v l := by
  obtain ⟨h1, h2⟩ := h
  refine ⟨h1, h2.imp id ?_⟩
  rintro ⟨g, cap, cur, rfl, hb', rest⟩
  exact ⟨g, cap, cur, rfl, Nat.le_trans hb hb', rest⟩
/-- A cell of it is written. -/
theorem ownsRow_set {e : TypeId} {size n : Nat} {xs : List Value} {g cap : Nat} (h : w.ownsRow base e size (.slice (some ⟨g, 0, none⟩) n cap) n xs) (q : Nat) (u : Value) : (w.setCell ⟨g, q, none⟩ u).ownsRow base e size (.slice (some ⟨g, 0, none⟩) n cap) n (xs.set q u) := by
  obtain ⟨h1, h2⟩ := h
  refine ⟨by rw [List.length_set]; exact h1, .inr ?_⟩
  rcases h2 with ⟨h2, _⟩ | ⟨g', cap', cur, e, hb, hg, hn, hcm, hcs, htake⟩
  · cases h2
  · simp only [Value.slice.injEq, Option.some.injEq, Addr.mk.injEq, and_true, true_and] at e
    obtain ⟨rfl, rfl⟩ := e
    refine ⟨g, cap, _, rfl, hb, heap_setCell_blk hg q u, hn, hcm, by simpa using hcs, ?_⟩
    rw [Array.toList_setIfInBounds, List.take_set, htake]
theorem OwnR.set (hk : ∀ x, (enc x).length = k) {g cap : Nat} (h : OwnR enc k E w base (.slice (some ⟨g, 0, none⟩) l.length cap) l) {i j : Nat} (hi : i < l.length) (hj : j < k) {u : Value} {y : α} (hy : enc y = (enc l[i]).set j u) :
    OwnR enc k E (w.setCell ⟨g, i * k + j, none⟩ u) base (.slice (some ⟨g, 0, none⟩) l.length cap) (l.set i y) := by
  have := ownsRow_set h (i * k + j) u
  rw [flat_set hk l i j hi hj u y hy] at this
  unfold OwnR
  rwa [List.length_set]
theorem OwnR.cell (hk : ∀ x, (enc x).length = k) {g cap : Nat} (h : OwnR enc k E w base (.slice (some ⟨g, 0, none⟩) l.length cap) l) {i j : Nat} (hi : i < l.length) (hj : j < k) {u : Value} (hu : (enc l[i])[j]? = some u) :
    w.cell? ⟨g, i * k + j, none⟩ = some u ∧ w.frozen? ⟨g, i * k + j, none⟩ = false := by
  obtain ⟨b, o, e, _, hc⟩ := h.row.get hk hi
  simp only [Option.some.injEq, Addr.mk.injEq, and_true] at e
  obtain ⟨rfl, rfl⟩ := e
  refine ⟨by have := hc j u hj hu; rwa [Nat.zero_add] at this, ?_⟩
  rcases h.2 with ⟨h2, _⟩ | ⟨g', cap', cur, e, hb, hg, _⟩
  · cases h2
  · simp only [Value.slice.injEq, Option.some.injEq, Addr.mk.injEq, and_true, true_and] at e
    obtain ⟨rfl, rfl⟩ := e
    exact frozen_blk hg _
end
/-! ### grown by append -/
/-- An element type of k cells, of a slice type. -/
structure ElemOk (P : Program) (t E : TypeId) (k bytes : Nat) : Prop where
  und : P.underlying t = some (.slice E)
  pos : 0 < k
  info : ∃ i z, P.info? E = some i ∧ i.zero = some z ∧ i.size = k ∧ i.bytes = bytes ∧ z.cells.size = k
theorem ElemOk.mk' {P : Program} {t E : TypeId} {k bytes : Nat} (und : P.underlying t = some (.slice E)) (pos : 0 < k) (h : (P.info? E).map (fun i => (i.zero.map (·.cells.size), i.size, i.bytes)) = some (some k, k, bytes)) : ElemOk P t E k bytes := by
  refine ⟨und, pos, ?_⟩
  cases hi : P.info? E with
  | none => rw [hi] at h; cases h
  | some i =>
    rw [hi] at h
    simp only [Option.map_some, Option.some.injEq, Prod.mk.injEq] at h
    obtain ⟨h1, h2, h3⟩ := h
    cases hz : i.zero with
    | none => rw [hz] at h1; cases h1
    | some z => rw [hz] at h1; exact ⟨i, z, rfl, hz, h2, h3, by simpa using h1⟩
section
variable {α : Type} {enc : α → List Value} {k : Nat} {w w' : World} {v : Value} {l : List α} {E : TypeId} {base : Nat} {P : Program}
theorem own_append {t bytes : Nat} (hE : ElemOk P t E k bytes) (hk : ∀ x, (enc x).length = k) (h : OwnR enc k E w base v l) (hb : base ≤ w.heap.size) {tx ty : TypeId} {x : Value} {l2 : List α} (hs : Src P k tx x l2.length (flat enc l2) w) (hlen : l.length + l2.length ≤ 1073741824) (hby : bytes ≤ 65536) :
    ∃ v' w', (Builtin.append_ #[t, tx] ty #[v, x]).run P w = .ok v' w' ∧ OwnR enc k E w' base v' (l ++ l2) ∧ Grew w v w' v' := by
  obtain ⟨i, z, hi, hz, hs1, hbb, hzs⟩ := hE.info
  obtain ⟨v', w', h1, h2, h3⟩ := append_own (P := P) base t tx ty E i z k bytes hE.und hi hz hs1 hbb hzs hE.pos h hs (by unfold maxLen; omega) (by
    have : (l.length + l2.length) * bytes ≤ 1073741824 * 65536 := Nat.mul_le_mul hlen hby
    omega) hb
  refine ⟨v', w', h1, ?_, h3⟩
  unfold OwnR
  rw [List.length_append, flat_append]
  exact h2
/-- append(v, x): x lies in a block of its own first. -/
theorem own_append1 {t bytes : Nat} (hE : ElemOk P t E k bytes) (hk : ∀ x, (enc x).length = k) (h1c : ∀ x, ∀ v ∈ enc x, v.oneCell' = true) (h : OwnR enc k E w base v l) (hb : base ≤ w.heap.size) {ty : TypeId} (x : α) (hlen : l.length < 1073741824) (hby : bytes ≤ 65536) :
    ∃ v' w', (Builtin.append_ #[t, t] ty #[v, .slice (some ⟨w.heap.size, 0, none⟩) 1 1]).run P (w.alloc (.cells (enc x).toArray E)) = .ok v' w' ∧ OwnR enc k E w' base v' (l ++ [x]) ∧ Grew w v w' v' := by
  have hm := (Mod.refl [] w).alloc (.cells (enc x).toArray E)
  obtain ⟨v', w', h1, h2, h3⟩ := own_append hE hk (h.kept0 hm) (Nat.le_trans hb hm.size) (ty := ty) (l2 := [x]) (Src.ofSlice (P := P) (w.alloc (.cells (enc x).toArray E)) hE.und ⟨w.heap.size, 0, none⟩ 1 1 (flat enc [x]) (by rw [flat_one, hk, Nat.one_mul]) (fun j u hu => by
    rw [flat_one] at hu
    rw [Addr.add_mid, Nat.zero_add, cell_blk (heap_alloc_new w _), ← hu]
    simp) (by intro u hu; rw [flat_one] at hu; exact h1c x u hu)) (by simp; omega) hby
  exact ⟨v', w', h1, h2, (Grew.of v hm).trans h3⟩
end
end Go.Proofs.Ytngglpekdjhbdaa
