/- Operations that write nothing that was there: comparisons, conversions, the operations as a whole. -/
import Derived.Test.YtdaokholmlpfkaaDoorPzC
import Derived.Orders
import Derived.Tactics
namespace Go.Proofs.YtdaokholmlpfkaaDoor
open Go.RowKit
set_option linter.unusedSimpArgs false
set_option linter.unusedVariables false

section
variable {α : Type} (enc : α → List Value)
def flat (l : List α) : List Value := l.flatMap enc
/-- A slice that reads as a list. -/
inductive RowAt (w : World) : Value → List α → Prop
  | nil (a : Option Addr) (cap : Nat) : RowAt w (.slice a 0 cap) []
  | at_ (b o cap : Nat) (l : List α) : l.length ≤ cap → w.rangeAt b o (flat enc l) → RowAt w (.slice (some ⟨b, o, none⟩) l.length cap) l
/-- A slice of the call's own. -/
def OwnR (k : Nat) (E : TypeId) (w : World) (base : Nat) (v : Value) (l : List α) : Prop := w.ownsRow base E k v l.length (flat enc l)
end
section
variable {α : Type} {enc : α → List Value} {k : Nat} {w w' : World} {v : Value} {l : List α}
theorem flat_nil : flat enc [] = [] := rfl
theorem flat_cons (x : α) (l : List α) : flat enc (x :: l) = enc x ++ flat enc l := rfl
theorem flat_append (a b : List α) : flat enc (a ++ b) = flat enc a ++ flat enc b := by simp [flat]
theorem flat_one (x : α) : flat enc [x] = enc x := by simp [flat]
theorem flat_length (hk : ∀ x, (enc x).length = k) (l : List α) : (flat enc l).length = l.length * k := by
  induction l with
  | nil => simp [flat]
  | cons x l ih => rw [flat_cons, List.length_append, ih, hk, List.length_cons, Nat.add_mul]; omega
theorem flat_get (hk : ∀ x, (enc x).length = k) : ∀ (l : List α) (i j : Nat) (hi : i < l.length) (hj : j < k), (flat enc l)[i * k + j]? = (enc l[i])[j]?
  | x :: l, 0, j, _, hj => by
    rw [flat_cons, Nat.zero_mul, Nat.zero_add, List.getElem?_append_left (by rw [hk]; exact hj)]
    rfl
  | x :: l, i + 1, j, hi, hj => by
    rw [flat_cons, List.getElem?_append_right (by rw [hk, Nat.add_mul]; omega), hk, show (i + 1) * k + j - k = i * k + j by rw [Nat.add_mul]; omega, flat_get hk l i j (by simpa using hi) hj]
    rfl
theorem flat_take (hk : ∀ x, (enc x).length = k) : ∀ (l : List α) (n : Nat), flat enc (l.take n) = (flat enc l).take (n * k)
  | [], n => by simp [flat]
  | x :: l, 0 => by simp [flat]
  | x :: l, n + 1 => by
    have e : ((flat enc (x :: l)).take ((n + 1) * k)) = enc x ++ (flat enc l).take (n * k) := by
      rw [flat_cons, show (n + 1) * k = (enc x).length + n * k by rw [hk, Nat.add_mul]; omega, List.take_length_add_append]
    rw [List.take_succ_cons, flat_cons, flat_take hk l n, e]
theorem flat_drop (hk : ∀ x, (enc x).length = k) : ∀ (l : List α) (n : Nat), flat enc (l.drop n) = (flat enc l).drop (n * k)
  | [], n => by simp [flat]
  | x :: l, 0 => by simp
  | x :: l, n + 1 => by
    have e : ((flat enc (x :: l)).drop ((n + 1) * k)) = (flat enc l).drop (n * k) := by
      rw [flat_cons, show (n + 1) * k = (enc x).length + n * k by rw [hk, Nat.add_mul]; omega, List.drop_length_add_append]
    rw [List.drop_succ_cons, flat_drop hk l n, e]
theorem flat_set (hk : ∀ x, (enc x).length = k) : ∀ (l : List α) (i j : Nat) (hi : i < l.length) (hj : j < k) (u : Value) (y : α), enc y = (enc l[i]).set j u → (flat enc l).set (i * k + j) u = flat enc (l.set i y)
  | x :: l, 0, j, _, hj, u, y, hy => by
    rw [flat_cons, Nat.zero_mul, Nat.zero_add, List.set_append_left _ _ (by rw [hk]; exact hj), List.set_cons_zero, flat_cons, hy]
    rfl
  | x :: l, i + 1, j, hi, hj, u, y, hy => by
    rw [flat_cons, List.set_append_right _ _ (by rw [hk, Nat.add_mul]; omega), hk, show (i + 1) * k + j - k = i * k + j by rw [Nat.add_mul]; omega, List.set_cons_succ, flat_cons, flat_set hk l i j (by simpa using hi) hj u y (by simpa using hy)]
theorem RowAt.form (h : RowAt enc w v l) : ∃ a cap, v = .slice a l.length cap := by
  cases h with
  | nil a cap => exact ⟨a, cap, rfl⟩
  | at_ b o cap l hc h => exact ⟨_, cap, rfl⟩
theorem rangeAt_kept {b o : Nat} {xs : List Value} (h : w.rangeAt b o xs) {ks : List Nat} (hm : Mod ks w w') (hn : b ∉ ks) : w'.rangeAt b o xs := by
  intro j v hj
  have hc := h j v hj
  have hb : b < w.heap.size := by
    apply Classical.byContradiction
    intro hge
    simp only [World.cell?] at hc
    rw [Array.getElem?_eq_none (by omega)] at hc
    cases hc
  rw [← hc]
  exact World.cell?_of_block (hm.block b hb hn)
theorem RowAt.kept {ks : List Nat} (h : RowAt enc w v l) (hm : Mod ks w w') (hn : ∀ b ∈ ks, v.ownBlock ≠ some b) : RowAt enc w' v l := by
  cases h with
  | nil a cap => exact .nil a cap
  | at_ b o cap l hc h => exact .at_ b o cap l hc (rangeAt_kept h hm fun hb => hn b hb rfl)
theorem RowAt.kept0 (h : RowAt enc w v l) (hm : Mod [] w w') : RowAt enc w' v l := h.kept hm (by simp)
theorem RowAt.get (hk : ∀ x, (enc x).length = k) {a : Option Addr} {c : Nat} (h : RowAt enc w (.slice a l.length c) l) {i : Nat} (hi : i < l.length) :
    ∃ b o, a = some ⟨b, o, none⟩ ∧ l.length ≤ c ∧ ∀ j u, j < k → (enc l[i])[j]? = some u → w.cell? ⟨b, o + (i * k + j), none⟩ = some u := by
  generalize hv : Value.slice a l.length c = v at h
  cases h with
  | nil a cap => simp at hi
  | at_ b o cap l hc h =>
    simp only [Value.slice.injEq, true_and] at hv
    obtain ⟨rfl, rfl⟩ := hv
    exact ⟨b, o, rfl, hc, fun j u hj hu => h _ u (by rw [flat_get hk l i j hi hj]; exact hu)⟩
theorem RowAt.range {a : Option Addr} {c : Nat} (h : RowAt enc w (.slice a l.length c) l) (h0 : l ≠ []) : ∃ b o, a = some ⟨b, o, none⟩ ∧ l.length ≤ c ∧ w.rangeAt b o (flat enc l) := by
  generalize hv : Value.slice a l.length c = v at h
  cases h with
  | nil a cap => exact absurd rfl h0
  | at_ b o cap l hc h =>
    simp only [Value.slice.injEq, true_and] at hv
    obtain ⟨rfl, rfl⟩ := hv
    exact ⟨b, o, rfl, hc, h⟩
theorem rangeAt_take {b o : Nat} {xs : List Value} (h : w.rangeAt b o xs) (n : Nat) : w.rangeAt b o (xs.take n) := fun j v hj => h j v (by
  rw [List.getElem?_take] at hj
  split at hj
  · exact hj
  · cases hj)
theorem rangeAt_drop {b o : Nat} {xs : List Value} (h : w.rangeAt b o xs) (n : Nat) : w.rangeAt b (o + n) (xs.drop n) := fun j v hj => by
  rw [List.getElem?_drop] at hj
  have := h (n + j) v hj
  rwa [← Nat.add_assoc] at this
theorem RowAt.take (hk : ∀ x, (enc x).length = k) {a : Option Addr} {c : Nat} (h : RowAt enc w (.slice a l.length c) l) (n : Nat) (hn : n ≤ l.length) : RowAt enc w (.slice a n c) (l.take n) := by
  by_cases h0 : n = 0
  · subst h0; exact .nil a c
  · obtain ⟨b, o, rfl, hc, hr⟩ := h.range (by intro e; subst e; simp at hn; omega)
    have := RowAt.at_ (enc := enc) (w := w) b o c (l.take n) (by rw [List.length_take]; omega) (by rw [flat_take hk]; exact rangeAt_take hr _)
    rwa [List.length_take, Nat.min_eq_left hn] at this
/-- s[n:], where something is left -/
theorem RowAt.drop (hk : ∀ x, (enc x).length = k) {b o : Nat} {c : Nat} (h : RowAt enc w (.slice (some ⟨b, o, none⟩) l.length c) l) (n : Nat) (hn : n < l.length) : RowAt enc w (.slice (some ⟨b, o + n * k, none⟩) (l.length - n) (c - n)) (l.drop n) := by
  obtain ⟨b', o', e, hc, hr⟩ := h.range (by intro e; subst e; simp at hn)
  simp only [Option.some.injEq, Addr.mk.injEq, and_true] at e
  obtain ⟨rfl, rfl⟩ := e
  have := RowAt.at_ (enc := enc) (w := w) b (o + n * k) (c - n) (l.drop n) (by rw [List.length_drop]; omega) (by rw [flat_drop hk]; exact rangeAt_drop hr _)
  rwa [List.length_drop] at this
theorem RowAt.nil' {v : Value} (h : RowAt enc w v l) (h0 : l.length = 0) (w2 : World) : RowAt enc w2 v l := by
  have : l = [] := List.eq_nil_of_length_eq_zero h0
  subst this
  cases h with
  | nil a cap => exact .nil a cap
  | at_ b o cap _ hc h => exact .at_ b o cap [] hc (by intro j v hj; simp [flat] at hj)
/-! ### the call's own -/
variable {E : TypeId} {base : Nat}
theorem OwnR.nil_ (w : World) (base : Nat) : OwnR enc k E w base (.slice none 0 0) [] := World.ownsRow_nil _ _ _ _
theorem OwnR.row (h : OwnR enc k E w base v l) : RowAt enc w v l := by
  rcases h.2 with ⟨rfl, h0⟩ | ⟨g, cap, cur, rfl, hb, hg, hn, hcm, hcs, htake⟩
  · have : l = [] := List.eq_nil_of_length_eq_zero h0
    subst this
    exact .nil _ _
  · refine .at_ g 0 cap l hn fun j v hj => ?_
    rw [Nat.zero_add, cell_blk hg]
    rw [← htake, List.getElem?_take] at hj
    split at hj
    · rw [← hj]; simp
    · cases hj
theorem OwnR.form (h : OwnR enc k E w base v l) : v = .slice none 0 0 ∧ l = [] ∨ ∃ g cap, v = .slice (some ⟨g, 0, none⟩) l.length cap ∧ base ≤ g ∧ g < w.heap.size ∧ l.length ≤ cap := by
  rcases h.2 with ⟨rfl, h0⟩ | ⟨g, cap, cur, rfl, hb, hg, hn, hcm, hcs, htake⟩
  · exact .inl ⟨rfl, List.eq_nil_of_length_eq_zero h0⟩
  · exact .inr ⟨g, cap, rfl, hb, lt_of_heap hg, hn⟩
theorem OwnR.kept {ks : List Nat} (h : OwnR enc k E w base v l) (hm : Mod ks w w') (hn : ∀ b, v.ownBlock = some b → b ∉ ks) : OwnR enc k E w' base v l := ownsRow_kept h hm hn
theorem OwnR.kept0 (h : OwnR enc k E w base v l) (hm : Mod [] w w') : OwnR enc k E w' base v l := ownsRow_kept0 h hm
theorem OwnR.mono {base' : Nat} (h : OwnR enc k E w base v l) (hb : base' ≤ base) : OwnR enc k E w base' v l := by
  obtain ⟨h1, h2⟩ := h
  refine ⟨h1, h2.imp id ?_⟩
  rintro ⟨g, cap, cur, rfl, hb', rest⟩
  exact ⟨g, cap, cur, rfl, Nat.le_trans hb hb', rest⟩
/-- A cell of it is written. -/
theorem ownsRow_set {e : TypeId} {size n : Nat} {xs : List Value} {g cap : Nat} (h : w.ownsRow base e size (.slice (some ⟨g, 0, none⟩) n cap) n xs) (q : Nat) (u : Value) : (w.setCell ⟨g, q, none⟩ u).ownsRow base e size (.slice (some ⟨g, 0, none⟩) n cap) n (xs.set q u) := by
  obtain ⟨h1, h2⟩ := h
  refine ⟨by rw [List.length_set]; exact h1, .inr ?_⟩
  rcases h2 with ⟨h2, _⟩ | ⟨g', cap', cur, e, hb, hg, hn, hcm, hcs, htake⟩
  · cases h2
  · simp only [Value.slice.injEq, Option.some.injEq, Addr.mk.injEq, and_true, true_and] at e
    obtain ⟨rfl, rfl⟩ := e
    refine ⟨g, cap, _, rfl, hb, heap_setCell_blk hg q u, hn, hcm, by simpa using hcs, ?_⟩
    rw [Array.toList_setIfInBounds, List.take_set, htake]
theorem OwnR.set (hk : ∀ x, (enc x).length = k) {g cap : Nat} (h : OwnR enc k E w base (.slice (some ⟨g, 0, none⟩) l.length cap) l) {i j : Nat} (hi : i < l.length) (hj : j < k) {u : Value} {y : α} (hy : enc y = (enc l[i]).set j u) :
    OwnR enc k E (w.setCell ⟨g, i * k + j, none⟩ u) base (.slice (some ⟨g, 0, none⟩) l.length cap) (l.set i y) := by
  have := ownsRow_set h (i * k + j) u
  rw [flat_set hk l i j hi hj u y hy] at this
  unfold OwnR
  rwa [List.length_set]
theorem OwnR.cell (hk : ∀ x, (enc x).length = k) {g cap : Nat} (h : OwnR enc k E w base (.slice (some ⟨g, 0, none⟩) l.length cap) l) {i j : Nat} (hi : i < l.length) (hj : j < k) {u : Value} (hu : (enc l[i])[j]? = some u) :
    w.cell? ⟨g, i * k + j, none⟩ = some u ∧ w.frozen? ⟨g, i * k + j, none⟩ = false := by
  obtain ⟨b, o, e, _, hc⟩ := h.row.get hk hi
  simp only [Option.some.injEq, Addr.mk.injEq, and_true] at e
  obtain ⟨rfl, rfl⟩ := e
  refine ⟨by have := hc j u hj hu; rwa [Nat.zero_add] at this, ?_⟩
  rcases h.2 with ⟨h2, _⟩ | ⟨g', cap', cur, e, hb, hg, _⟩
  · cases h2
  · simp only [Value.slice.injEq, Option.some.injEq, Addr.mk.injEq, and_true, true_and] at e
    obtain ⟨rfl, rfl⟩ := e
    exact frozen_blk hg _
end
/-! ### grown by append -/
/-- An element type of k cells, of a slice type. -/
structure ElemOk (P : Program) (t E : TypeId) (k bytes : Nat) : Prop where
  und : P.underlying t = some (.slice E)
  pos : 0 < k
  info : ∃ i z, P.info? E = some i ∧ i.zero = some z ∧ i.size = k ∧ i.bytes = bytes ∧ z.cells.size = k
theorem ElemOk.mk' {P : Program} {t E : TypeId} {k bytes : Nat} (und : P.underlying t = some (.slice E)) (pos : 0 < k) (h : (P.info? E).map (fun i => (i.zero.map (·.cells.size), i.size, i.bytes)) = some (some k, k, bytes)) : ElemOk P t E k bytes := by
  refine ⟨und, pos, ?_⟩
  cases hi : P.info? E with
  | none => rw [hi] at h; cases h
  | some i =>
    rw [hi] at h
    simp only [Option.map_some, Option.some.injEq, Prod.mk.injEq] at h
    obtain ⟨h1, h2, h3⟩ := h
    cases hz : i.zero with
    | none => rw [hz] at h1; cases h1
    | some z => rw [hz] at h1; exact ⟨i, z, rfl, hz, h2, h3, by simpa using h1⟩
section
variable {α : Type} {enc : α → List Value} {k : Nat} {w w' : World} {v : Value} {l : List α} {E : TypeId} {base : Nat} {P : Program}
theorem own_append {t bytes : Nat} (hE : ElemOk P t E k bytes) (hk : ∀ x, (enc x).length = k) (h : OwnR enc k E w base v l) (hb : base ≤ w.heap.size) {tx ty : TypeId} {x : Value} {l2 : List α} (hs : Src P k tx x l2.length (flat enc l2) w) (hlen : l.length + l2.length ≤ 1073741824) (hby : bytes ≤ 65536) :
    ∃ v' w', (Builtin.append_ #[t, tx] ty #[v, x]).run P w = .ok v' w' ∧ OwnR enc k E w' base v' (l ++ l2) ∧ Grew w v w' v' := by
  obtain ⟨i, z, hi, hz, hs1, hbb, hzs⟩ := hE.info
  obtain ⟨v', w', h1, h2, h3⟩ := append_own (P := P) base t tx ty E i z k bytes hE.und hi hz hs1 hbb hzs hE.pos h hs (by unfold maxLen; omega) (by
    have : (l.length + l2.length) * bytes ≤ 1073741824 * 65536 := Nat.mul_le_mul hlen hby
    omega) hb
  refine ⟨v', w', h1, ?_, h3⟩
  unfold OwnR
  rw [List.length_append, flat_append]
  exact h2
/-- append(v, x): x lies in a block of its own first. -/
theorem own_append1 {t bytes : Nat} (hE : ElemOk P t E k bytes) (hk : ∀ x, (enc x).length = k) (h1c : ∀ x, ∀ v ∈ enc x, v.oneCell' = true) (h : OwnR enc k E w base v l) (hb : base ≤ w.heap.size) {ty : TypeId} (x : α) (hlen : l.length < 1073741824) (hby : bytes ≤ 65536) :
    ∃ v' w', (Builtin.append_ #[t, t] ty #[v, .slice (some ⟨w.heap.size, 0, none⟩) 1 1]).run P (w.alloc (.cells (enc x).toArray E)) = .ok v' w' ∧ OwnR enc k E w' base v' (l ++ [x]) ∧ Grew w v w' v' := by
  have hm := (Mod.refl [] w).alloc (.cells (enc x).toArray E)
  obtain ⟨v', w', h1, h2, h3⟩ := own_append hE hk (h.kept0 hm) (Nat.le_trans hb hm.size) (ty := ty) (l2 := [x]) (Src.ofSlice (P := P) (w.alloc (.cells (enc x).toArray E)) hE.und ⟨w.heap.size, 0, none⟩ 1 1 (flat enc [x]) (by rw [flat_one, hk, Nat.one_mul]) (fun j u hu => by
    rw [flat_one] at hu
    rw [Addr.add_mid, Nat.zero_add, cell_blk (heap_alloc_new w _), ← hu]
    simp) (by intro u hu; rw [flat_one] at hu; exact h1c x u hu)) (by simp; omega) hby
  exact ⟨v', w', h1, h2, (Grew.of v hm).trans h3⟩
end
end Go.Proofs.YtdaokholmlpfkaaDoor
namespace Go.Proofs.YtdaokholmlpfkaaDoor
set_option linter.unusedSimpArgs false
set_option linter.unusedVariables false

/-- No store, no system call: it reads, makes blocks, draws. -/
def Ad {α : Type} : Sem α → Prop
  | .pure _ => True
  | .load _ _ k => ∀ v, Ad (k v)
  | .store _ _ _ _ => False
  | .new _ k => ∀ r, Ad (k r)
  | .shape _ k => ∀ s, Ad (k s)
  | .freeze _ _ _ => False
  | .frozen _ k => ∀ b, Ad (k b)
  | .getObj _ k => ∀ o, Ad (k o)
  | .setObj _ _ _ => False
  | .choose _ k => ∀ n, Ad (k n)
  | .sys _ _ => False
  | .program k => ∀ p, Ad (k p)
  | .mark _ k => Ad k
  | .halt _ => True
theorem Ad.bind {α β : Type} {s : Sem α} {f : α → Sem β} (h : Ad s) (hf : ∀ a, Ad (f a)) : Ad (s >>= f) := by
  show Ad (s.bind f)
  induction s with
  | pure a => exact hf a
  | load m a k ih => exact fun v => ih v (h v)
  | store m a v k ih => exact h.elim
  | new o k ih => exact fun v => ih v (h v)
  | shape r k ih => exact fun v => ih v (h v)
  | freeze a n k ih => exact h.elim
  | frozen a k ih => exact fun v => ih v (h v)
  | getObj r k ih => exact fun v => ih v (h v)
  | setObj r o k ih => exact h.elim
  | choose q k ih => exact fun v => ih v (h v)
  | sys c k ih => exact h.elim
  | program k ih => exact fun v => ih v (h v)
  | mark m k ih => exact ih h
  | halt x => trivial
theorem Ad.pure {α : Type} (a : α) : Ad (pure a : Sem α) := trivial
theorem Ad.map {α β : Type} {s : Sem α} {f : α → β} (h : Ad s) : Ad (f <$> s) := by
  show Ad (s.bind _)
  exact Ad.bind h fun _ => trivial
/-- The world is no smaller, and if nothing was made or drawn it is the same. -/
structure Grows (w w' : World) : Prop where
  size : w.heap.size ≤ w'.heap.size
  drawn : w.drawn ≤ w'.drawn
  same : w'.heap.size = w.heap.size → w'.drawn = w.drawn → w' = w
theorem Grows.refl (w : World) : Grows w w := ⟨Nat.le_refl _, Nat.le_refl _, fun _ _ => rfl⟩
theorem Ad.grows {α : Type} {p : Program} {s : Sem α} (h : Ad s) : ∀ {w : World} {v : α} {w' : World}, s.run p w = .ok v w' → Grows w w' := by
  induction s with
  | pure a => intro w v w' hr; simp [Sem.run] at hr; rw [hr.2]; exact Grows.refl _
  | load m a k ih =>
    intro w v w' hr
    simp only [Sem.run] at hr
    split at hr
    · exact ih _ (h _) hr
    · split at hr
      · exact ih _ (h _) hr
      · cases hr
  | store m a v k ih => exact h.elim
  | new o k ih =>
    intro w v w' hr
    simp only [Sem.run] at hr
    have g := ih _ (h _) hr
    have h1 := g.size
    simp at h1
    exact ⟨by omega, g.drawn, fun e _ => by omega⟩
  | shape r k ih => intro w v w' hr; exact ih _ (h _) hr
  | freeze a n k ih => exact h.elim
  | frozen a k ih => intro w v w' hr; exact ih _ (h _) hr
  | getObj r k ih =>
    intro w v w' hr
    simp only [Sem.run] at hr
    split at hr
    · cases hr
    · exact ih _ (h _) hr
    · cases hr
  | setObj r o k ih => exact h.elim
  | choose q k ih =>
    intro w v w' hr
    simp only [Sem.run] at hr
    split at hr
    · exact ih _ (h _) hr
    · have g := ih _ (h _) hr
      have h1 := g.drawn
      simp at h1
      exact ⟨g.size, by omega, fun _ e => by omega⟩
  | sys c k ih => exact h.elim
  | program k ih => intro w v w' hr; exact ih _ (h _) hr
  | mark m k ih => intro w v w' hr; exact ih h hr
  | halt x => intro w v w' hr; simp [Sem.run] at hr

/-! ### the model's own words -/
theorem ad_program : Ad program := fun _ => trivial
theorem ad_load (a : Addr) (m : Mode) : Ad (load a m) := fun _ => trivial
theorem ad_getObj (r : Nat) : Ad (getObj r) := fun _ => trivial
theorem ad_frozen (a : Addr) : Ad (frozen a) := fun _ => trivial
theorem ad_shape (r : Nat) : Ad (shape r) := fun _ => trivial
theorem ad_choose (q : Question) : Ad (choose q) := fun _ => trivial
theorem ad_newObj (o : Obj) : Ad (newObj o) := fun _ => trivial
theorem ad_stuck {α : Type} (s : String) : Ad (stuck s : Sem α) := trivial
theorem ad_unsupported {α : Type} (u : Unsupported) : Ad (unsupported u : Sem α) := trivial
theorem ad_goPanic {α : Type} (v : Value) : Ad (goPanic v : Sem α) := trivial
theorem ad_typeInfo (t : TypeId) : Ad (typeInfo t) := by
  unfold typeInfo
  refine Ad.bind ad_program fun p => ?_
  split
  · trivial
  · trivial
theorem ad_underlying (t : TypeId) : Ad (underlying t) := by
  unfold underlying
  refine Ad.bind ad_program fun p => ?_
  split
  · trivial
  · trivial
theorem ad_typeStr (t : TypeId) : Ad (typeStr t) := by
  unfold typeStr
  refine Ad.bind (ad_typeInfo t) fun p => ?_
  dsimp only
  split <;> trivial
theorem ad_zeroValue (t : TypeId) : Ad (zeroValue t) := by
  unfold zeroValue
  refine Ad.bind (ad_typeInfo t) fun p => ?_
  split <;> trivial
theorem ad_sizeOf (t : TypeId) : Ad (sizeOf t) := by
  unfold sizeOf
  exact Ad.bind (ad_typeInfo t) fun p => trivial
theorem ad_isAgg (t : TypeId) : Ad (isAgg t) := by
  unfold isAgg
  refine Ad.bind (ad_underlying t) fun p => ?_
  split <;> trivial
theorem ad_loadCellsFrom (a : Addr) : ∀ (n i : Nat) (acc : Array Value), Ad (loadCellsFrom a i n acc)
  | 0, _, _ => trivial
  | n + 1, i, acc => by
    unfold loadCellsFrom
    exact Ad.bind (ad_load _ _) fun v => ad_loadCellsFrom a n _ _
theorem ad_loadVar (t : TypeId) (a : Addr) : Ad (loadVar t a) := by
  unfold loadVar
  refine Ad.bind (ad_isAgg t) fun b => ?_
  split
  · exact Ad.bind (ad_sizeOf t) fun n => Ad.bind (ad_loadCellsFrom _ _ _ _) fun _ => trivial
  · exact ad_load _ _
theorem ad_part (t : TypeId) (cs : Array Value) (n : Nat) : Ad (part t cs n) := by
  unfold part
  refine Ad.bind (ad_isAgg t) fun b => ?_
  split
  · exact Ad.bind (ad_sizeOf t) fun n => trivial
  · split <;> trivial
theorem ad_elemOf (t : TypeId) : Ad (elemOf t) := by
  unfold elemOf
  refine Ad.bind (ad_underlying t) fun b => ?_
  split <;> trivial
theorem ad_newVar (t : TypeId) (v : Value) : Ad (newVar t v) := Ad.bind (ad_newObj _) fun _ => trivial
theorem ad_runtimePanic {α : Type} (e : RuntimeError) : Ad (runtimePanic e : Sem α) := by
  unfold runtimePanic
  refine Ad.bind ad_program fun p => ?_
  dsimp only
  split
  · trivial
  · trivial
  · trivial
  · trivial
  · exact Ad.bind (ad_elemOf _) fun _ => Ad.bind (ad_newVar _ _) fun _ => trivial
  · exact Ad.bind (ad_elemOf _) fun _ => Ad.bind (ad_newVar _ _) fun _ => trivial
  · trivial
theorem ad_boundsPanic {α : Type} (k : IntKind) (x y : Int) (c : BoundsCode) : Ad (boundsPanic k x y c : Sem α) := by
  unfold boundsPanic
  dsimp only
  split
  · exact Ad.bind (Ad.map (ad_choose _)) fun _ => ad_runtimePanic _
  · exact Ad.bind (Ad.pure _) fun _ => ad_runtimePanic _
theorem ad_asIntOf (v : Value) : Ad (asIntOf v) := by unfold asIntOf; split <;> trivial
theorem ad_asInt (v : Value) : Ad (asInt v) := Ad.bind (ad_asIntOf v) fun _ => trivial
theorem ad_asBool (v : Value) : Ad (asBool v) := by unfold asBool; split <;> trivial
theorem ad_asAgg (v : Value) : Ad (asAgg v) := by unfold asAgg; split <;> trivial
theorem ad_asAddr (v : Value) : Ad (asAddr v) := by
  unfold asAddr
  split
  · trivial
  · exact ad_runtimePanic _
  · trivial
theorem ad_sureAddr (v : Value) : Ad (Instr.sureAddr v) := by unfold Instr.sureAddr; split <;> trivial

/-! ### the instructions -/
theorem ad_loadAt (t : TypeId) (v : Value) : Ad (Instr.loadAt t v) := Ad.bind (ad_sureAddr v) fun a => ad_loadVar t a
theorem ad_viewAt (r : Nat) : Ad (viewAt r) := by
  unfold viewAt
  refine Ad.bind (ad_shape _) fun _ => ?_
  split
  · trivial
  · refine Ad.bind (ad_getObj _) fun _ => ?_
    split <;> trivial
theorem ad_numberAt (r : Nat) : Ad (numberAt r) := by
  unfold numberAt
  refine Ad.bind (ad_shape _) fun _ => ?_
  split
  · trivial
  · refine Ad.bind (ad_getObj _) fun _ => ?_
    split <;> trivial
theorem ad_behindNumber (a : Addr) : Ad (behindNumber a) := by
  unfold behindNumber
  exact Ad.bind (ad_numberAt _) fun _ => trivial
theorem ad_asNumber (a : Addr) (b : Bool) : Ad (asNumber a b) := Ad.bind (ad_newObj _) fun _ => trivial
theorem ad_noView (a : Addr) : Ad (noView a) := by
  unfold noView
  refine Ad.bind (ad_viewAt _) fun _ => ?_
  split <;> trivial
theorem ad_stringish (a : Addr) : Ad (stringish a) := by
  unfold stringish
  refine Ad.bind (ad_frozen _) fun _ => ?_
  split
  · trivial
  · refine Ad.bind (ad_shape _) fun _ => ?_
    split
    · exact ad_frozen _
    · trivial
theorem ad_mayBeOne (a b : Addr) : Ad (mayBeOne a b) := by
  unfold mayBeOne
  refine Ad.bind (ad_stringish _) fun _ => Ad.bind (ad_stringish _) fun _ => ?_
  exact Ad.bind (Ad.bind (ad_shape _) fun _ => trivial) fun _ => Ad.bind (Ad.bind (ad_shape _) fun _ => trivial) fun _ => trivial
theorem ad_sameAddr (a b : Addr) : Ad (sameAddr a b) := by
  unfold sameAddr
  dsimp only
  split
  · trivial
  · refine Ad.bind (ad_frozen _) fun _ => Ad.bind (ad_frozen _) fun _ => ?_
    split
    · trivial
    · refine Ad.bind (ad_noView _) fun _ => Ad.bind (ad_noView _) fun _ => Ad.bind (ad_mayBeOne _ _) fun _ => ?_
      split
      · exact Ad.bind (ad_choose _) fun _ => trivial
      · trivial
theorem ad_samePointer (a b : Option Addr) : Ad (samePointer a b) := by
  unfold samePointer
  split
  · exact ad_sameAddr _ _
  · trivial
theorem ad_fieldAt (t : TypeId) (v : Value) (f : Nat) (h : ∀ a g, Ad (fieldPlace a g)) : Ad (Instr.fieldAt t v f) := by
  unfold Instr.fieldAt
  refine Ad.bind (ad_underlying _) fun d => ?_
  split
  · split
    · exact Ad.bind (ad_sureAddr _) fun a => Ad.bind (h _ _) fun _ => trivial
    · trivial
  · trivial
theorem ad_indexAt (t : TypeId) (x i : Value) : Ad (Instr.indexAt t x i) := by
  unfold Instr.indexAt
  refine Ad.bind (ad_asIntOf _) fun ki => ?_
  dsimp only
  refine Ad.bind (ad_underlying _) fun d => ?_
  repeat' (first | exact ad_boundsPanic _ _ _ _ | exact ad_stuck _ | exact ad_unsupported _ | exact ad_underlying _ | exact ad_sizeOf _ | exact ad_sureAddr _ | exact Ad.pure _ | apply Ad.bind | split | intro _ | trivial)
theorem ad_arrayAt (t : TypeId) (x : Value) : Ad (Instr.arrayAt t x) := by
  unfold Instr.arrayAt
  repeat' (first | exact ad_runtimePanic _ | exact ad_stuck _ | exact ad_unsupported _ | exact ad_underlying _ | exact Ad.pure _ | apply Ad.bind | split | intro _ | trivial)
theorem ad_sliceBound (x : Value) (y : Nat) (c : BoundsCode) : Ad (Instr.sliceBound x y c) := by
  unfold Instr.sliceBound
  refine Ad.bind (ad_asIntOf _) fun ki => ?_
  dsimp only
  split
  · trivial
  · exact ad_boundsPanic _ _ _ _
theorem ad_sliceBounds (b : Bool) (n c : Nat) (l h m : Option Value) : Ad (Instr.sliceBounds b n c l h m) := by
  unfold Instr.sliceBounds
  repeat' (first | exact ad_sliceBound _ _ _ | exact ad_stuck _ | exact Ad.pure _ | apply Ad.bind | split | intro _ | trivial)
theorem ad_slice (t : TypeId) (x : Value) (l h m : Option Value) : Ad (Instr.slice t x l h m) := by
  unfold Instr.slice
  repeat' (first | exact ad_sliceBounds _ _ _ _ _ _ | exact ad_stuck _ | exact ad_underlying _ | exact ad_sizeOf _ | exact ad_asAddr _ | exact Ad.pure _ | apply Ad.bind | split | intro _ | trivial)
theorem ad_sliceAt (t : TypeId) (x : Value) (l h m : Option Value) : Ad (Instr.sliceAt t x l h m) := by
  unfold Instr.sliceAt
  repeat' (first | exact ad_slice _ _ _ _ _ | exact ad_sliceBounds _ _ _ _ _ _ | exact ad_underlying _ | exact ad_sizeOf _ | exact ad_sureAddr _ | exact Ad.pure _ | apply Ad.bind | split | intro _ | trivial)
theorem ad_field (t : TypeId) (x : Value) (i : Nat) : Ad (Instr.field t x i) := by
  unfold Instr.field
  repeat' (first | exact ad_part _ _ _ | exact ad_asAgg _ | exact ad_stuck _ | exact ad_underlying _ | exact Ad.pure _ | apply Ad.bind | split | intro _ | trivial)
theorem ad_extract (x : Value) (i : Nat) : Ad (Instr.extract x i) := by
  unfold Instr.extract
  repeat' (first | split | trivial)
theorem ad_len (ts : Array TypeId) (t : TypeId) (args : Array Value) : Ad (Builtin.len_ ts t args) := by
  unfold Builtin.len_
  repeat' (first | exact ad_getObj _ | exact ad_stuck _ | exact ad_underlying _ | exact Ad.pure _ | apply Ad.bind | split | intro _ | trivial)
theorem ad_cap (ts : Array TypeId) (t : TypeId) (args : Array Value) : Ad (Builtin.cap_ ts t args) := by
  unfold Builtin.cap_
  repeat' (first | exact ad_getObj _ | exact ad_stuck _ | exact ad_underlying _ | exact Ad.pure _ | apply Ad.bind | split | intro _ | trivial)
theorem ad_followBlind : ∀ (l : List FieldStep) (t : TypeId) (x : Option Value), Ad (followBlind l t x)
  | [], t, x => trivial
  | s :: rest, t, x => by
    unfold followBlind
    repeat' (first | exact ad_followBlind rest _ _ | exact ad_part _ _ _ | exact ad_stuck _ | exact ad_underlying _ | exact Ad.pure _ | apply Ad.bind | split | intro _ | trivial)
theorem ad_nilAhead : ∀ (n : Nat) (t : TypeId) (x : Value) (s : String), Ad (nilAhead n t x s)
  | 0, t, x, s => trivial
  | n + 1, t, x, s => by
    unfold nilAhead
    repeat' (first | exact ad_nilAhead n _ _ _ | exact ad_followBlind _ _ _ | exact ad_typeInfo _ | exact ad_stuck _ | exact ad_underlying _ | exact Ad.pure _ | apply Ad.bind | split | intro _ | trivial)
end Go.Proofs.YtdaokholmlpfkaaDoor
namespace Go.Proofs.YtdaokholmlpfkaaDoor
set_option linter.unusedSimpArgs false
set_option linter.unusedVariables false

theorem ad_byteOf (a : Addr) : Ad (byteOf a) := by
  unfold byteOf
  repeat' (first | exact ad_program | exact ad_noView _ | exact ad_shape _ | exact ad_stuck _ | exact Ad.pure _ | dsimp only | apply Ad.bind | split | intro _ | trivial)
theorem ad_partAt (a : Addr) (c b : Nat) : Ad (partAt a c b) := by
  unfold partAt
  repeat' (first | exact ad_byteOf _ | exact Ad.pure _ | dsimp only | apply Ad.bind | split | intro _ | trivial)
theorem ad_fieldPlace (a : Addr) (f : Field) : Ad (fieldPlace a f) := by
  unfold fieldPlace
  repeat' (first | exact ad_partAt _ _ _ | exact ad_sizeOf _ | exact Ad.pure _ | dsimp only | apply Ad.bind | split | intro _ | trivial)
theorem ad_twoPlaces (a b : Addr) : Ad (Op.twoPlaces a b) := by
  unfold Op.twoPlaces
  repeat' (first | exact ad_byteOf _ | exact ad_program | exact ad_unsupported _ | exact Ad.pure _ | dsimp only | apply Ad.bind | split | intro _ | trivial)
theorem ad_addrSub (k : IntKind) (a b : Addr) : Ad (Op.addrSub k a b) := by
  unfold Op.addrSub
  exact Ad.bind (ad_twoPlaces _ _) fun _ => trivial
theorem ad_addrCmp (k : BinOp) (a b : Addr) : Ad (Op.addrCmp k a b) := by
  unfold Op.addrCmp
  refine Ad.bind (ad_twoPlaces _ _) fun _ => ?_
  dsimp only
  split <;> exact trivial
theorem ad_addrMod (k : IntKind) (a : Addr) (n : Int) : Ad (Op.addrMod k a n) := by
  unfold Op.addrMod
  repeat' (first | exact ad_byteOf _ | exact ad_shape _ | exact ad_typeInfo _ | exact ad_unsupported _ | exact Ad.pure _ | dsimp only | apply Ad.bind | split | intro _ | trivial)
theorem ad_unsafeAdd (ts : Array TypeId) (t : TypeId) (args : Array Value) : Ad (Builtin.unsafeAdd_ ts t args) := by
  rcases args with ⟨_ | ⟨x, _ | ⟨y, _ | ⟨z, l⟩⟩⟩⟩
  · trivial
  · cases x <;> trivial
  · cases x
    case pointer p =>
      unfold Builtin.unsafeAdd_
      refine Ad.bind (ad_asInt _) fun n => ?_
      dsimp only
      repeat' (first | exact ad_viewAt _ | exact ad_shape _ | exact ad_program | exact ad_stuck _ | exact ad_unsupported _ | exact Ad.pure _ | dsimp only | apply Ad.bind | split | intro _ | trivial)
    all_goals trivial
  · cases x <;> trivial
theorem ad_movedNumber (t : TypeId) (x y : Value) : Ad (movedNumber t x y) := by
  unfold movedNumber
  repeat' (first | exact ad_underlying _ | exact ad_unsafeAdd _ _ _ | exact ad_behindNumber _ | exact ad_asNumber _ _ | exact ad_unsupported _ | exact Ad.pure _ | dsimp only | apply Ad.bind | split | intro _ | trivial)
theorem ad_movedPointer (t : TypeId) (x y : Value) : Ad (movedPointer t x y) := by
  unfold movedPointer
  repeat' (first | exact ad_numberAt _ | exact ad_unsafeAdd _ _ _ | exact ad_unsupported _ | exact Ad.pure _ | dsimp only | apply Ad.bind | split | intro _ | trivial)
theorem Ad.forIn {α β : Type} (f : α → β → Sem (ForInStep β)) (hf : ∀ a b, Ad (f a b)) : ∀ (l : List α) (b : β), Ad (forIn l b f)
  | [], b => trivial
  | a :: l, b => by
    rw [List.forIn_cons]
    refine Ad.bind (hf _ _) fun s => ?_
    cases s with
    | done b => trivial
    | yield b => exact Ad.forIn f hf l b
theorem ad_equalIn : ∀ (d : Nat) (t : TypeId) (x y : Value), Ad (Op.equalIn d t x y)
  | 0, t, x, y => trivial
  | d + 1, t, x, y => by
    unfold Op.equalIn
    refine Ad.bind (ad_underlying _) fun u => ?_
    split
    all_goals try trivial
    all_goals try (split <;> trivial)
    · refine Ad.bind (ad_behindNumber _) fun _ => Ad.bind (ad_behindNumber _) fun _ => ?_
      repeat' (first | exact ad_byteOf _ | exact ad_program | exact ad_typeInfo _ | exact ad_unsupported _ | exact Ad.pure _ | dsimp only | apply Ad.bind | split | intro _ | trivial)
    · repeat' (first | exact ad_sizeOf _ | exact ad_sameAddr _ _ | exact ad_choose _ | exact Ad.pure _ | dsimp only | apply Ad.bind | split | intro _ | trivial)
    · exact ad_samePointer _ _
    · repeat' (first | exact ad_equalIn d _ _ _ | exact ad_runtimePanic _ | exact ad_typeStr _ | exact ad_program | exact ad_typeInfo _ | exact ad_unsupported _ | exact Ad.pure _ | dsimp only | apply Ad.bind | split | intro _ | trivial)
    · simp only [← Array.forIn_toList]
      repeat' (first | exact ad_equalIn d _ _ _ | exact ad_part _ _ _ | exact ad_program | exact ad_unsupported _ | exact Ad.pure _ | dsimp only | apply Ad.forIn | apply Ad.bind | split | intro _ | trivial)
    · simp only [Std.Legacy.Range.forIn_eq_forIn_range']
      repeat' (first | exact ad_equalIn d _ _ _ | exact ad_part _ _ _ | exact ad_sizeOf _ | exact ad_unsupported _ | exact Ad.pure _ | dsimp only | apply Ad.forIn | apply Ad.bind | split | intro _ | trivial)
theorem ad_eqGuardIn : ∀ (d : Nat) (t : TypeId) (x y : Value), Ad (Op.eqGuardIn d t x y)
  | 0, t, x, y => trivial
  | d + 1, t, x, y => by
    unfold Op.eqGuardIn
    refine Ad.bind (ad_underlying _) fun u => ?_
    split
    · trivial
    · simp only [← Array.forIn_toList]
      repeat' (first | exact ad_eqGuardIn d _ _ _ | exact ad_part _ _ _ | exact Ad.pure _ | dsimp only | apply Ad.forIn | apply Ad.bind | split | intro _ | trivial)
    · simp only [Std.Legacy.Range.forIn_eq_forIn_range']
      repeat' (first | exact ad_eqGuardIn d _ _ _ | exact ad_part _ _ _ | exact ad_sizeOf _ | exact Ad.pure _ | dsimp only | apply Ad.forIn | apply Ad.bind | split | intro _ | trivial)
    · trivial
theorem ad_eqGuard (op : BinOp) (t : TypeId) (x y : Operand) (a b : Value) : Ad (eqGuard op t x y a b) := by
  unfold eqGuard
  repeat' (first | exact ad_eqGuardIn _ _ _ _ | exact ad_program | exact ad_unsupported _ | exact Ad.pure _ | dsimp only | apply Ad.bind | split | intro _ | trivial)
theorem ad_floatArith (op : BinOp) (k : FloatKind) (x y : Nat) : Ad (Op.floatArith op k x y) := by
  unfold Op.floatArith
  repeat' (first | exact ad_choose _ | exact ad_stuck _ | exact Ad.pure _ | dsimp only | apply Ad.bind | split | intro _ | trivial)
theorem ad_carith (op : BinOp) (k : FloatKind) (x y : Nat) : Ad (Op.Complex.arith op k x y) := by
  unfold Op.Complex.arith
  repeat' (first | exact ad_floatArith _ _ _ _ | exact ad_stuck _ | exact Ad.pure _ | dsimp only | apply Ad.bind | split | intro _ | trivial)
theorem ad_floatCmp (op : BinOp) (k : FloatKind) (x y : Nat) : Ad (Op.floatCmp op k x y) := by
  unfold Op.floatCmp; dsimp only; split <;> trivial
theorem ad_ccmp (op : BinOp) (k : FloatKind) (x y : Nat) : Ad (Op.Complex.cmp op k x y) := Ad.bind (ad_floatCmp _ _ _ _) fun v => ad_asBool v
theorem ad_floatToFloat (s : FloatKind) (x : Nat) (d : FloatKind) : Ad (Conv.floatToFloat s x d) := by
  unfold Conv.floatToFloat
  repeat' (first | exact ad_choose _ | exact ad_stuck _ | exact ad_unsupported _ | exact Ad.pure _ | dsimp only | apply Ad.bind | split | intro _ | trivial)
theorem ad_cconv (s : FloatKind) (x : Nat) (d : FloatKind) : Ad (Op.Complex.conv s x d) := by
  unfold Op.Complex.conv
  repeat' (first | exact ad_floatToFloat _ _ _ | exact ad_stuck _ | exact Ad.pure _ | dsimp only | apply Ad.bind | split | intro _ | trivial)
theorem ad_cadd (x y : Nat) : Ad (Op.Complex.add x y) := ad_carith _ _ _ _
theorem ad_csub (x y : Nat) : Ad (Op.Complex.sub x y) := ad_carith _ _ _ _
theorem ad_cmul (x y : Nat) : Ad (Op.Complex.mul x y) := ad_carith _ _ _ _
theorem ad_cquo (x y : Nat) : Ad (Op.Complex.quo x y) := ad_carith _ _ _ _
theorem ad_cproduct (a b c d : Nat) : Ad (Op.Complex.product a b c d) := by
  unfold Op.Complex.product
  repeat' (first | with_reducible exact ad_cadd _ _ | with_reducible exact ad_csub _ _ | with_reducible exact ad_cmul _ _ | with_reducible exact ad_cquo _ _ | with_reducible exact ad_carith _ _ _ _ | with_reducible exact ad_ccmp _ _ _ _ | with_reducible exact ad_cconv _ _ _ | with_reducible exact ad_stuck _ | with_reducible exact Ad.pure _ | with_reducible apply Ad.bind | split | intro _ | dsimp only)
theorem ad_ccorrected (s a b c d : Nat) : Ad (Op.Complex.corrected s a b c d) := by
  unfold Op.Complex.corrected
  repeat' (first | with_reducible exact ad_cadd _ _ | with_reducible exact ad_csub _ _ | with_reducible exact ad_cmul _ _ | with_reducible exact ad_cquo _ _ | with_reducible exact ad_carith _ _ _ _ | with_reducible exact ad_ccmp _ _ _ _ | with_reducible exact ad_cconv _ _ _ | with_reducible exact ad_cproduct _ _ _ _ | with_reducible exact ad_stuck _ | with_reducible exact Ad.pure _ | with_reducible apply Ad.bind | split | intro _ | dsimp only)
theorem ad_cquotient (a b c d : Nat) : Ad (Op.Complex.quotient a b c d) := by
  unfold Op.Complex.quotient
  repeat' (first | with_reducible exact ad_cadd _ _ | with_reducible exact ad_csub _ _ | with_reducible exact ad_cmul _ _ | with_reducible exact ad_cquo _ _ | with_reducible exact ad_carith _ _ _ _ | with_reducible exact ad_ccmp _ _ _ _ | with_reducible exact ad_cconv _ _ _ | with_reducible exact ad_cproduct _ _ _ _ | with_reducible exact ad_ccorrected _ _ _ _ _ | with_reducible exact ad_stuck _ | with_reducible exact Ad.pure _ | with_reducible apply Ad.bind | split | intro _ | dsimp only)
theorem ad_complexOp (op : BinOp) (k : FloatKind) (a b c d : Nat) : Ad (Op.complexOp op k a b c d) := by
  unfold Op.complexOp
  repeat' (first | with_reducible exact ad_cadd _ _ | with_reducible exact ad_csub _ _ | with_reducible exact ad_cmul _ _ | with_reducible exact ad_cquo _ _ | with_reducible exact ad_carith _ _ _ _ | with_reducible exact ad_ccmp _ _ _ _ | with_reducible exact ad_cconv _ _ _ | with_reducible exact ad_cproduct _ _ _ _ | with_reducible exact ad_ccorrected _ _ _ _ _ | with_reducible exact ad_cquotient _ _ _ _ | with_reducible exact ad_stuck _ | with_reducible exact Ad.pure _ | with_reducible apply Ad.bind | split | intro _ | dsimp only)
theorem ad_binOp (op : BinOp) (t : TypeId) (x y : Value) : Ad (binOp op t x y) := by
  unfold binOp
  split
  all_goals try (with_reducible exact ad_stuck _)
  all_goals try (with_reducible exact ad_unsupported _)
  all_goals try (with_reducible exact ad_movedNumber _ _ _)
  · unfold Op.shift; repeat' (first | exact ad_runtimePanic _ | exact ad_stuck _ | exact Ad.pure _ | split | trivial)
  · unfold Op.shift; repeat' (first | exact ad_runtimePanic _ | exact ad_stuck _ | exact Ad.pure _ | split | trivial)
  · split
    · trivial
    · split
      all_goals first
        | (unfold Op.intArith; split <;> trivial)
        | (unfold Op.intDiv; repeat' (first | exact ad_runtimePanic _ | exact ad_stuck _ | exact Ad.pure _ | split | trivial))
        | (unfold Op.intBits; split <;> trivial)
        | (unfold Op.intCmp; split <;> trivial)
  · split
    · trivial
    · split
      all_goals first
        | exact ad_floatArith _ _ _ _
        | (unfold Op.floatCmp; dsimp only; split <;> trivial)
  · split
    · trivial
    · with_reducible exact ad_complexOp _ _ _ _ _ _
  · unfold Op.stringOp; dsimp only; repeat' (first | exact ad_unsupported _ | exact ad_stuck _ | exact Ad.pure _ | split | trivial)
  · exact Ad.bind (ad_equalIn _ _ _ _) fun _ => trivial
  · exact Ad.bind (ad_equalIn _ _ _ _) fun _ => trivial
  · refine Ad.bind (ad_underlying _) fun _ => ?_
    split
    · exact ad_movedPointer _ _ _
    · exact ad_movedNumber _ _ _
  · exact Ad.bind (ad_behindNumber _) fun _ => Ad.bind (ad_behindNumber _) fun _ => ad_addrSub _ _ _
  · exact Ad.bind (ad_behindNumber _) fun _ => Ad.bind (ad_behindNumber _) fun _ => ad_addrCmp _ _ _
  · exact Ad.bind (ad_behindNumber _) fun _ => Ad.bind (ad_behindNumber _) fun _ => ad_addrCmp _ _ _
  · exact Ad.bind (ad_behindNumber _) fun _ => Ad.bind (ad_behindNumber _) fun _ => ad_addrCmp _ _ _
  · exact Ad.bind (ad_behindNumber _) fun _ => Ad.bind (ad_behindNumber _) fun _ => ad_addrCmp _ _ _
  · exact Ad.bind (ad_behindNumber _) fun _ => ad_addrMod _ _ _
  · exact Ad.bind (ad_behindNumber _) fun _ => ad_addrMod _ _ _
  · exact Ad.bind (ad_behindNumber _) fun _ => ad_addrMod _ _ _
end Go.Proofs.YtdaokholmlpfkaaDoor
