/- Layer 12: may, all, there; Cut. -/
import Derived.Test.YtngglpekdjhbdaaGreatWzAc
import Derived.Test.YtngglpekdjhbdaaGreatShelf3
import Derived.Test.YtngglpekdjhbdaaGreatWzJ
import Derived.Lib.RowBridge
namespace Go.Proofs.YtngglpekdjhbdaaGreat
open Go.RowKit Go.ChangeMaps Go.Deep Tr
set_option linter.unusedSimpArgs false
set_option linter.unusedVariables false
set_option maxRecDepth 20000

/-- the days on which segments begin, but for the first one -/
def endsL (L : List Sg) : List Int := L.tail.map (·.f)
theorem endsL_take (L : List Sg) (j : Nat) (hj : j < L.length) : endsL (L.take (j + 1)) = endsL (L.take j) ++ (if 0 < j then [(L[j]).f] else []) := by
  unfold endsL
  rw [List.take_succ_eq_append_getElem hj]
  cases j with
  | zero => simp
  | succ j =>
    rw [if_pos (by omega), List.tail_append_of_ne_nil (by intro h; have := congrArg List.length h; rw [List.length_take, List.length_nil] at this; omega)]
    simp
theorem segsTo_len {g : Int → Int} {a z : Int} {L : List Sg} (h : SegsTo g a z L) : (L.length : Int) ≤ z - a := by
  induction h with
  | nil => simp
  | snoc s h h1 h2 h3 h4 ih => simp only [List.length_append, List.length_singleton]; omega
end Go.Proofs.YtngglpekdjhbdaaGreat
namespace Go.Proofs.YtngglpekdjhbdaaGreat
open Go.RowKit Go.ChangeMaps Go.Deep Go.Shelf Go.Sort
set_option linter.unusedSimpArgs false
set_option linter.unusedVariables false

section
variable {α : Type} [Inhabited α] {enc : α → Value} {w : World} {blk : Nat}
theorem heap_putRow {c : Array Value} {E : TypeId} {f : Nat × Nat} (h : w.heap[blk]? = some (.cells c E f)) (n : Nat) (d : Array α) (os : Array Obj) :
    (grow (putRow enc (Sort.ahead w n) blk 0 d) os).heap[blk]? = some (.cells (putCells enc 0 d c) E f) := by
  have hb : blk < w.heap.size := (Array.getElem?_eq_some_iff.1 h).1
  have hb' : blk < (w.heap.modify blk (onCells (putCells enc 0 d))).size := by simpa using hb
  show (w.heap.modify blk (onCells (putCells enc 0 d)) ++ os)[blk]? = _
  rw [Array.getElem?_append_left hb', Array.getElem?_modify, if_pos rfl, h]
  rfl
theorem mod_putRow (w : World) (blk n : Nat) (d : Array α) (os : Array Obj) : Mod [blk] w (grow (putRow enc (Sort.ahead w n) blk 0 d) os) := by
  refine ⟨rfl, rfl, rfl, ?_, fun i hi hn => ?_⟩
  · show w.heap.size ≤ (w.heap.modify blk (onCells (putCells enc 0 d)) ++ os).size
    simp
  · have hb' : i < (w.heap.modify blk (onCells (putCells enc 0 d))).size := by simpa using hi
    show (w.heap.modify blk (onCells (putCells enc 0 d)) ++ os)[i]? = _
    rw [Array.getElem?_append_left hb', Array.getElem?_modify, if_neg (fun e => hn (by simp [e]))]
theorem take_putCells1 (d : Array α) (c : Array Value) (h : d.size ≤ c.size) : (putCells enc 0 d c).toList.take d.size = d.toList.map enc := by
  apply List.ext_getElem?
  intro t
  rw [List.getElem?_take]
  by_cases ht : t < d.size
  · rw [if_pos ht, Array.getElem?_toList, List.getElem?_map, Array.getElem?_toList]
    unfold putCells
    rw [Array.getElem?_mapIdx, Array.getElem?_eq_getElem (show t < c.size by omega), Array.getElem?_eq_getElem ht]
    simp [ht]
  · rw [if_neg ht, List.getElem?_map, Array.getElem?_toList, Array.getElem?_eq_none (by omega)]
    rfl
end
theorem ownN_holds {w : World} {base : Nat} {l : List Int} {g cap : Nat} (h : OwnN w base (.slice (some ⟨g, 0, none⟩) l.length cap) l) : Holds (Value.int .i64) w g 0 l.toArray := by
  intro j hj
  have hj' : j < l.length := by simpa using hj
  have := h.cell encI_len (i := j) (j := 0) hj' (by omega) (u := .int .i64 l[j]) rfl
  rw [Nat.mul_one, Nat.add_zero] at this
  rw [Nat.zero_add, getElem!_pos l.toArray j hj]
  exact this
theorem ownN_put {w : World} {base : Nat} {l : List Int} {g cap : Nat} (h : OwnN w base (.slice (some ⟨g, 0, none⟩) l.length cap) l) (n : Nat) (d : Array Int) (os : Array Obj) (hd : d.size = l.length) :
    OwnN (grow (putRow (Value.int .i64) (Sort.ahead w n) g 0 d) os) base (.slice (some ⟨g, 0, none⟩) l.length cap) d.toList := by
  rcases h.2 with ⟨e, _⟩ | ⟨g', cap', cur, e, hb, hg, hn, hcm, hcs, htake⟩
  · cases e
  · simp only [Value.slice.injEq, Option.some.injEq, Addr.mk.injEq, and_true, true_and] at e
    obtain ⟨rfl, rfl⟩ := e
    have hdl : d.toList.length = l.length := by simp [hd]
    have hle : d.size ≤ cur.size := by rw [hcs, hd]; omega
    refine ⟨flat_length encI_len _, .inr ⟨g, cap, _, by rw [hdl], hb, heap_putRow hg n d os, by rw [hdl]; exact hn, hcm, by simp [putCells, hcs], ?_⟩⟩
    have := take_putCells1 (enc := Value.int .i64) d cur hle
    rw [Nat.mul_one, Array.length_toList, this, flat_encI]
theorem OwnR.shrink {α : Type} {enc : α → List Value} {k : Nat} {E : TypeId} {w : World} {base : Nat} {l : List α} {g cap : Nat} (hk : ∀ x, (enc x).length = k) (h : OwnR enc k E w base (.slice (some ⟨g, 0, none⟩) l.length cap) l) (n : Nat) (hn : n ≤ l.length) :
    OwnR enc k E w base (.slice (some ⟨g, 0, none⟩) n cap) (l.take n) := by
  rcases h.2 with ⟨e, _⟩ | ⟨g', cap', cur, e, hb, hg, hc, hcm, hcs, htake⟩
  · cases e
  · simp only [Value.slice.injEq, Option.some.injEq, Addr.mk.injEq, and_true, true_and] at e
    obtain ⟨rfl, rfl⟩ := e
    have hl : (l.take n).length = n := by rw [List.length_take]; omega
    refine ⟨flat_length hk _, .inr ⟨g, cap, cur, by rw [hl], hb, hg, by omega, hcm, hcs, ?_⟩⟩
    rw [hl, flat_take hk, ← htake, List.take_take, Nat.min_eq_left (Nat.mul_le_mul_right _ hn)]
/-! ### what the library makes of the ends -/
def Asc (l : List Int) : Prop := l.Pairwise (· < ·)
theorem compact_inv {l : List Int} (hs : l.Pairwise (· ≤ ·)) : ∀ m, m ≤ l.length → Asc (Lib.compactUpTo l.toArray m) ∧ (∀ v, v ∈ Lib.compactUpTo l.toArray m ↔ ∃ j, j < m ∧ l.toArray[j]! = v) ∧ (∀ v ∈ Lib.compactUpTo l.toArray m, 0 < m → v ≤ l.toArray[m - 1]!) := by
  have hle : ∀ i j, i ≤ j → j < l.length → l.toArray[i]! ≤ l.toArray[j]! := fun i j hij hj => by
    rw [getElem!_pos l.toArray i (by simp; omega), getElem!_pos l.toArray j (by simpa using hj)]
    by_cases e : i = j
    · subst e; exact Int.le_refl _
    · have := List.pairwise_iff_getElem.1 hs i j (by omega) hj (by omega)
      simpa using this
  intro m
  induction m with
  | zero => intro _; exact ⟨by simp [Lib.compactUpTo, Asc], fun v => by simp [Lib.compactUpTo], fun v hv h => by omega⟩
  | succ m ih =>
    intro hm
    obtain ⟨h1, h2, h3⟩ := ih (by omega)
    rw [Lib.compactUpTo_succ]
    by_cases hk : Lib.keeps l.toArray m = true
    · rw [if_pos hk]
      have hlt : ∀ v ∈ Lib.compactUpTo l.toArray m, v < l.toArray[m]! := fun v hv => by
        obtain ⟨j, hj, _⟩ := (h2 v).1 hv
        have a1 := h3 v hv (by omega)
        have a2 := hle (m - 1) m (by omega) (by omega)
        have a3 : m = 0 ∨ l.toArray[m]! ≠ l.toArray[m - 1]! := by simpa [Lib.keeps] using hk
        rcases a3 with a3 | a3
        · omega
        · omega
      refine ⟨List.pairwise_append.2 ⟨h1, by simp, fun a ha b hb => ?_⟩, fun v => ?_, fun v hv _ => ?_⟩
      · rw [List.mem_singleton.1 hb]; exact hlt a ha
      · rw [List.mem_append, h2, List.mem_singleton]
        constructor
        · rintro (⟨j, hj, e⟩ | e)
          · exact ⟨j, by omega, e⟩
          · exact ⟨m, by omega, e.symm⟩
        · rintro ⟨j, hj, e⟩
          by_cases hjm : j = m
          · subst hjm; exact .inr e.symm
          · exact .inl ⟨j, by omega, e⟩
      · rcases List.mem_append.1 hv with hv | hv
        · have := hlt v hv; show v ≤ l.toArray[m]!; omega
        · rw [List.mem_singleton.1 hv]; exact Int.le_refl _
    · have hk' : Lib.keeps l.toArray m = false := by simpa using hk
      rw [hk']
      have hn : ¬ (m = 0 ∨ l.toArray[m]! ≠ l.toArray[m - 1]!) := by
        intro h
        have : Lib.keeps l.toArray m = true := by simpa [Lib.keeps] using h
        rw [this] at hk'
        cases hk'
      have hm0 : m ≠ 0 := fun e => hn (.inl e)
      have he : l.toArray[m]! = l.toArray[m - 1]! := Classical.byContradiction fun h => hn (.inr h)
      simp only [Bool.false_eq_true, if_false, List.append_nil]
      refine ⟨h1, fun v => ?_, fun v hv _ => ?_⟩
      · rw [h2]
        constructor
        · rintro ⟨j, hj, e⟩; exact ⟨j, by omega, e⟩
        · rintro ⟨j, hj, e⟩
          by_cases hjm : j = m
          · subst hjm; exact ⟨j - 1, by omega, by rw [← he]; exact e⟩
          · exact ⟨j, by omega, e⟩
      · have := h3 v hv (by omega)
        show v ≤ l.toArray[m]!
        rw [he]; exact this
/-- sorted, each once -/
def onceS (l : List Int) : List Int := Lib.compact (l.mergeSort fun x y => decide (x ≤ y))
theorem mergeSort_up (l : List Int) : (l.mergeSort fun x y => decide (x ≤ y)).Pairwise (· ≤ ·) := by
  have := List.pairwise_mergeSort (le := fun x y : Int => decide (x ≤ y)) (fun a b c h1 h2 => by simp at *; omega) (fun a b => by simp; omega) l
  exact this.imp fun h => by simpa using h
theorem asc_onceS (l : List Int) : Asc (onceS l) := (compact_inv (mergeSort_up l) _ (Nat.le_refl _)).1
theorem mem_onceS {l : List Int} {v : Int} : v ∈ onceS l ↔ v ∈ l := by
  have h := (compact_inv (mergeSort_up l) _ (Nat.le_refl _)).2.1 v
  rw [onceS, Lib.compact, h]
  have hp := (List.mergeSort_perm l fun x y => decide (x ≤ y)).mem_iff (a := v)
  rw [← hp, List.mem_iff_getElem]
  constructor
  · rintro ⟨j, hj, e⟩
    exact ⟨j, hj, by rw [getElem!_pos _ j (by simpa using hj)] at e; simpa using e⟩
  · rintro ⟨j, hj, e⟩
    exact ⟨j, hj, by rw [getElem!_pos _ j (by simpa using hj)]; simpa using e⟩
theorem onceS_len (l : List Int) : (onceS l).length ≤ l.length := by
  have := Lib.compact_length_le (l.mergeSort fun x y => decide (x ≤ y))
  rw [List.length_mergeSort] at this
  exact this
/-- slices.Sort, slices.Compact, of a row of the call's own. -/
theorem sortInt_any (v : Value) (l : List Int) (w : World) (base : Nat) (h : OwnN w base v l) (hl : l.length ≤ 10000000) :
    Calls Tryz.prog 20 #[v] w fun e w' => e = .returned (.tuple #[]) ∧ OwnN w' base v (l.mergeSort fun x y => decide (x ≤ y)) ∧ Mod (blk v) w w' := by
  rcases h.form with ⟨rfl, rfl⟩ | ⟨g, cap, rfl, hb, hg, hc⟩
  · refine (Tryz.slices_Sort_int_none none 0 w).mono ?_
    rintro e w' ⟨rfl, rfl⟩
    exact ⟨rfl, by simpa using h, Mod.refl _ _⟩
  · refine (Tryz.slices_Sort_int g 0 cap l w (ownN_holds h) hg (by omega)).mono ?_
    rintro e w' ⟨rfl, n, os, rfl⟩
    exact ⟨rfl, by simpa using ownN_put h n (l.mergeSort fun x y => decide (x ≤ y)).toArray os (by simp), mod_putRow w g n _ os⟩
theorem grow_none (w : World) : grow w #[] = w := by simp [grow]
theorem compactInt_any (v : Value) (l : List Int) (w : World) (base : Nat) (h : OwnN w base v l) (hl : l.length ≤ 10000000) :
    Calls Tryz.prog 21 #[v] w fun e w' => ∃ v', e = .returned v' ∧ OwnN w' base v' (Lib.compact l) ∧ Mod (blk v) w w' ∧ v'.ownBlock = v.ownBlock := by
  rcases h.form with ⟨rfl, rfl⟩ | ⟨g, cap, rfl, hb, hg, hc⟩
  · refine (Tryz.slices_Compact_int_empty none 0 w).mono ?_
    rintro e w' ⟨rfl, rfl⟩
    exact ⟨_, rfl, by simpa [Lib.compact, Lib.compactUpTo] using h, Mod.refl _ _, rfl⟩
  · refine (Tryz.slices_Compact_int g 0 cap l w (ownN_holds h) (by omega) hc).mono ?_
    rintro e w' ⟨rfl, q, rfl⟩
    have hcl := Lib.compact_length_le l
    have hm := mod_putRow (enc := Value.int .i64) w g q (Lib.compact l ++ List.replicate (l.length - (Lib.compact l).length) 0).toArray #[]
    rw [grow_none] at hm
    have ho := ownN_put h q (Lib.compact l ++ List.replicate (l.length - (Lib.compact l).length) 0).toArray #[] (by simp; omega)
    rw [grow_none] at ho
    have hlen : (Lib.compact l ++ List.replicate (l.length - (Lib.compact l).length) (0 : Int)).length = l.length := by simp; omega
    refine ⟨_, rfl, ?_, hm, rfl⟩
    have := OwnR.shrink encI_len (by rw [hlen]; exact ho) (Lib.compact l).length (by rw [hlen]; exact hcl)
    simpa using this
theorem Mod.ofBelow {w w' : World} (h : Below w.heap.size w w') : Mod [] w w' := ⟨h.os, h.tape, h.output, h.size, fun k hk _ => h.block k hk⟩
theorem onceS_eq (l : List Int) : Lib.compact (l.mergeSort fun x y => decide (x ≤ y)) = onceS l := rfl
/-- slices.Clone of a row of numbers -/
theorem cloneInt_any (v : Value) (l : List Int) (w : World) (h : RowAt encI w v l) (hl : l.length ≤ 10000000) :
    Calls Tryz.prog 31 #[v] w fun e w' => ∃ v', e = .returned v' ∧ OwnN w' w.heap.size v' l ∧ Mod [] w w' := by
  obtain ⟨a, c, rfl⟩ := h.form
  cases a with
  | none =>
    obtain rfl := h.of_none rfl
    refine (Tryz.slices_Clone_int_nil _ c w).mono ?_
    rintro e w' ⟨rfl, rfl⟩
    exact ⟨_, rfl, OwnR.nil_ _ _, Mod.refl _ _⟩
  | some a =>
    by_cases h0 : l.length = 0
    · obtain rfl := List.eq_nil_of_length_eq_zero h0
      refine (Tryz.slices_Clone_int_zero a c w).mono ?_
      rintro e w' ⟨v', rfl, h1, h2, h3⟩
      exact ⟨v', rfl, h1, Mod.ofBelow h3⟩
    · obtain ⟨b, o, e, hc, hg⟩ := RowAt.get encI_len h (show 0 < l.length by omega)
      cases e
      refine (Tryz.slices_Clone_int b o l.length c l w (Nat.le_refl _) (by omega) (fun j hj => ?_)).mono ?_
      · obtain ⟨b', o', e', hc', hg'⟩ := RowAt.get1 h hj
        cases e'
        rw [hg', List.getD_eq_getElem?_getD, List.getElem?_eq_getElem hj]
        rfl
      · rintro e w' ⟨v', rfl, h1, h2, h3⟩
        refine ⟨v', rfl, ?_, Mod.ofBelow h3⟩
        rw [List.take_length] at h1
        show w'.ownsRow w.heap.size 3 1 v' l.length (flat encI l)
        rw [flat_encI]
        exact h1
end Go.Proofs.YtngglpekdjhbdaaGreat
namespace Go.Proofs.YtngglpekdjhbdaaGreat
open Go.RowKit Go.ChangeMaps Go.Deep Tr
set_option linter.unusedSimpArgs false
set_option linter.unusedVariables false
set_option maxRecDepth 20000

abbrev Cs := Int × Int
def encC (x : Cs) : List Value := [.int .i64 x.1, .int .i64 x.2]
theorem encC_len (x : Cs) : (encC x).length = 2 := rfl
theorem encC_one (x : Cs) : ∀ v ∈ encC x, v.oneCell' = true := by intro v hv; simp [encC] at hv; rcases hv with rfl | rfl <;> rfl
theorem elemCs : ElemOk Tryz.prog 53 39 2 16 := .mk' Tryz.underlying53 (by omega) (by kernel_rfl)
/-- L: what lies from a to z, cut at the days of which P is true -/
inductive CutTo (P : Int → Prop) (a : Int) : Int → List Cs → Prop
  | nil : CutTo P a a []
  | snoc {z : Int} {L : List Cs} (t : Int) : CutTo P a z L → z < t → (∀ d, z < d → d < t → ¬ P d) → (z = a ∨ P z) → CutTo P a t (L ++ [(z, t)])
theorem CutTo.cases' {P : Int → Prop} {a z : Int} {L : List Cs} (h : CutTo P a z L) : (L = [] ∧ z = a) ∨ ∃ L' f, L = L' ++ [(f, z)] ∧ CutTo P a f L' ∧ f < z ∧ (∀ d, f < d → d < z → ¬ P d) ∧ (f = a ∨ P f) := by
  cases h with
  | nil => exact .inl ⟨rfl, rfl⟩
  | snoc t h h1 h2 h3 => exact .inr ⟨_, _, rfl, h, h1, h2, h3⟩
theorem CutTo.le {P : Int → Prop} {a z : Int} {L : List Cs} (h : CutTo P a z L) : a ≤ z := by
  induction h with
  | nil => exact Int.le_refl _
  | snoc t h h1 h2 h3 ih => omega
theorem CutTo.unique {P : Int → Prop} {a : Int} : ∀ (n : Nat) {z : Int} {L L' : List Cs}, L.length ≤ n → CutTo P a z L → CutTo P a z L' → L = L'
  | n, z, L, L', hn, h, h' => by
    rcases h.cases' with ⟨rfl, e⟩ | ⟨K, f, rfl, h2, h3, h4, h5⟩ <;> rcases h'.cases' with ⟨rfl, e'⟩ | ⟨K', f', rfl, h2', h3', h4', h5'⟩
    · rfl
    · have := h2'.le; omega
    · have := h2.le; omega
    · have hf : f = f' := by
        have q := h2.le
        have q' := h2'.le
        rcases Int.lt_trichotomy f f' with c | c | c
        · rcases h5' with e | e
          · omega
          · exact absurd e (h4 f' c h3')
        · exact c
        · rcases h5 with e | e
          · omega
          · exact absurd e (h4' f c h3)
      subst hf
      cases n with
      | zero => simp at hn
      | succ n => rw [CutTo.unique n (L := K) (L' := K') (by simp at hn; omega) h2 h2']
theorem CutTo.congr {P Q : Int → Prop} {a z : Int} {L : List Cs} (h : CutTo P a z L) (hpq : ∀ d, P d ↔ Q d) : CutTo Q a z L := by
  induction h with
  | nil => exact .nil
  | snoc t h h1 h2 h3 ih => exact .snoc t ih h1 (fun d c1 c2 c => h2 d c1 c2 ((hpq d).2 c)) (h3.imp id (hpq _).1)
theorem CutTo.len {P : Int → Prop} {a z : Int} {L : List Cs} (h : CutTo P a z L) : (L.length : Int) ≤ z - a := by
  induction h with
  | nil => simp
  | snoc t h h1 h2 h3 ih => simp only [List.length_append, List.length_singleton]; omega
theorem rfMay_at (w : World) (a b : Int) : Calls Tryz.prog 30 #[.agg #[.int .i64 a, .int .i64 b]] w fun e w' => e = .returned (.bool (decide (mayS a b))) ∧ Mod [] w w' := by
  have hm := Lib.hid ((Mod.refl [] w).alloc (.cells #[.int .i64 a, .int .i64 b] 39))
  by_cases h1 : 1 ≤ a
  · by_cases h2 : a < b
    · by_cases h3 : b ≤ 3652060
      · have HD := Lib.hid (show decide (mayS a b) = true from decide_eq_true ⟨h1, h2, h3⟩)
        go_enter Tryz.func30, Tryz.ntmps30
        go_wp2_with fail
        go_ret
        exact ⟨by rw [HD.out]; rfl, hm.out⟩
      · have HD := Lib.hid (show decide (mayS a b) = false from decide_eq_false fun h => h3 h.2.2)
        go_enter Tryz.func30, Tryz.ntmps30
        go_wp2_with fail
        go_ret
        exact ⟨by rw [HD.out]; rfl, hm.out⟩
    · have HD := Lib.hid (show decide (mayS a b) = false from decide_eq_false fun h => h2 h.2.1)
      go_enter Tryz.func30, Tryz.ntmps30
      go_wp2_with fail
      go_ret
      exact ⟨by rw [HD.out]; rfl, hm.out⟩
  · have HD := Lib.hid (show decide (mayS a b) = false from decide_eq_false fun h => h1 h.1)
    go_enter Tryz.func30, Tryz.ntmps30
    go_wp2_with fail
    go_ret
    exact ⟨by rw [HD.out]; rfl, hm.out⟩
theorem may_all : mayS 1 3652060 := ⟨by omega, by omega, by omega⟩
/-- where Cut stands: what is cut, the day -/
def cutS (b : Int) (o : List Cs × Int) (d : Int) : List Cs × Int := if o.2 < d ∧ d < b then (o.1 ++ [(o.2, d)], d) else o
theorem cut_inv {a b : Int} (hab : a < b) {l : List Int} (hs : Asc l) : ∀ n, n ≤ l.length → CutTo (· ∈ l) a ((l.take n).foldl (cutS b) ([], a)).2 ((l.take n).foldl (cutS b) ([], a)).1 ∧ ((l.take n).foldl (cutS b) ([], a)).2 < b ∧ (((l.take n).foldl (cutS b) ([], a)).2 = a ∨ ((l.take n).foldl (cutS b) ([], a)).2 ∈ l) ∧ (∀ d ∈ l.take n, d < b → d ≤ ((l.take n).foldl (cutS b) ([], a)).2) ∧ ((l.take n).foldl (cutS b) ([], a)).1.length ≤ n := fun n => by
  induction n with
  | zero => intro _; exact ⟨.nil, hab, .inl rfl, by simp, by simp⟩
  | succ n ih =>
    intro hn
    obtain ⟨h1, h2, h3, h4, h5⟩ := ih (by omega)
    have hlt : n < l.length := by omega
    rw [List.take_succ_eq_append_getElem hlt, List.foldl_append]
    simp only [List.foldl_cons, List.foldl_nil]
    generalize (l.take n).foldl (cutS b) ([], a) = o at h1 h2 h3 h4 h5
    have hspl : l.take n ++ l[n] :: l.drop (n + 1) = l := by rw [← List.drop_eq_getElem_cons hlt, List.take_append_drop]
    have hp : (l.take n ++ l[n] :: l.drop (n + 1)).Pairwise (· < ·) := by rw [hspl]; exact hs
    have haft : ∀ z ∈ l.drop (n + 1), l[n] < z := fun z hz => (List.pairwise_cons.1 (List.pairwise_append.1 hp).2.1).1 z hz
    have hbef : ∀ z ∈ l.take n, z < l[n] := fun z hz => (List.pairwise_append.1 hp).2.2 z hz _ List.mem_cons_self
    unfold cutS
    by_cases hc : o.2 < l[n] ∧ l[n] < b
    · rw [if_pos hc]
      refine ⟨.snoc _ h1 hc.1 (fun d c1 c2 c => ?_) h3, hc.2, .inr (List.getElem_mem hlt), fun d hd hdb => ?_, by simp; omega⟩
      · rw [← hspl] at c
        rcases List.mem_append.1 c with c | c
        · have := h4 d c (by omega); omega
        · rcases List.mem_cons.1 c with rfl | c
          · omega
          · have := haft d c; omega
      · rcases List.mem_append.1 hd with hd | hd
        · have := h4 d hd hdb
          dsimp only; omega
        · simp at hd; subst hd; dsimp only; omega
    · rw [if_neg hc]
      refine ⟨h1, h2, h3, fun d hd hdb => ?_, by omega⟩
      rcases List.mem_append.1 hd with hd | hd
      · exact h4 d hd hdb
      · simp at hd; subst hd; omega
theorem cut_all {a b : Int} (hab : a < b) {l : List Int} (hs : Asc l) : CutTo (· ∈ l) a b ((l.foldl (cutS b) ([], a)).1 ++ [((l.foldl (cutS b) ([], a)).2, b)]) ∧ (l.foldl (cutS b) ([], a)).1.length ≤ l.length := by
  obtain ⟨h1, h2, h3, h4, h5⟩ := cut_inv hab hs l.length (Nat.le_refl _)
  rw [List.take_length] at h1 h2 h3 h4 h5
  exact ⟨.snoc b h1 h2 (fun d c1 c2 c => by have := h4 d c c2; omega) h3, h5⟩
end Go.Proofs.YtngglpekdjhbdaaGreat
