/- Rows of ints of the call's own: sorted, each once, by the library. -/
import Derived.Test.YtefaihockgebeaaGreatSpL
import Derived.Lib.RowBridge
namespace Go.Proofs.YtefaihockgebeaaGreat
open Go.RowKit Go.ChangeMaps Go.Deep Go.Shelf Go.Sort
set_option linter.unusedSimpArgs false
set_option linter.unusedVariables false

section
variable {α : Type} [Inhabited α] {enc : α → Value} {w : World} {blk : Nat}
theorem heap_putRow {c : Array Value} {E : TypeId} {f : Nat × Nat} (h : w.heap[blk]? = some (.cells c E f)) (n : Nat) (d : Array α) (os : Array Obj) :
    (grow (putRow enc (Sort.ahead w n) blk 0 d) os).heap[blk]? = some (.cells (putCells enc 0 d c) E f) := by
  have hb : blk < w.heap.size := (Array.getElem?_eq_some_iff.1 h).1
  have hb' : blk < (w.heap.modify blk (onCells (putCells enc 0 d))).size := by simpa using hb
  show (w.heap.modify blk (onCells (putCells enc 0 d)) ++ os)[blk]? = _
  rw [Array.getElem?_append_left hb', Array.getElem?_modify, if_pos rfl, h]
  rfl
theorem mod_putRow (w : World) (blk n : Nat) (d : Array α) (os : Array Obj) : Mod [blk] w (grow (putRow enc (Sort.ahead w n) blk 0 d) os) := by
  refine ⟨rfl, rfl, rfl, ?_, fun i hi hn => ?_⟩
  · show w.heap.size ≤ (w.heap.modify blk (onCells (putCells enc 0 d)) ++ os).size
    simp
  · have hb' : i < (w.heap.modify blk (onCells (putCells enc 0 d))).size := by simpa using hi
    show (w.heap.modify blk (onCells (putCells enc 0 d)) ++ os)[i]? = _
    rw [Array.getElem?_append_left hb', Array.getElem?_modify, if_neg (fun e => hn (by simp [e]))]
theorem take_putCells1 (d : Array α) (c : Array Value) (h : d.size ≤ c.size) : (putCells enc 0 d c).toList.take d.size = d.toList.map enc := by
  apply List.ext_getElem?
  intro t
  rw [List.getElem?_take]
  by_cases ht : t < d.size
  · rw [if_pos ht, Array.getElem?_toList, List.getElem?_map, Array.getElem?_toList]
    unfold putCells
    rw [Array.getElem?_mapIdx, Array.getElem?_eq_getElem (show t < c.size by omega), Array.getElem?_eq_getElem ht]
    simp [ht]
  · rw [if_neg ht, List.getElem?_map, Array.getElem?_toList, Array.getElem?_eq_none (by omega)]
    rfl
end
theorem flat_encI (l : List Int) : flat encI l = l.map (Value.int .i64) := by
  induction l with
  | nil => rfl
  | cons x l ih => rw [flat_cons, ih]; rfl
theorem ownN_holds {w : World} {base : Nat} {l : List Int} {g cap : Nat} (h : OwnN w base (.slice (some ⟨g, 0, none⟩) l.length cap) l) : Holds (Value.int .i64) w g 0 l.toArray := by
  intro j hj
  have hj' : j < l.length := by simpa using hj
  have := h.cell encI_len (i := j) (j := 0) hj' (by omega) (u := .int .i64 l[j]) rfl
  rw [Nat.mul_one, Nat.add_zero] at this
  rw [Nat.zero_add, getElem!_pos l.toArray j hj]
  exact this
theorem ownN_put {w : World} {base : Nat} {l : List Int} {g cap : Nat} (h : OwnN w base (.slice (some ⟨g, 0, none⟩) l.length cap) l) (n : Nat) (d : Array Int) (os : Array Obj) (hd : d.size = l.length) :
    OwnN (grow (putRow (Value.int .i64) (Sort.ahead w n) g 0 d) os) base (.slice (some ⟨g, 0, none⟩) l.length cap) d.toList := by
  rcases h.2 with ⟨e, _⟩ | ⟨g', cap', cur, e, hb, hg, hn, hcm, hcs, htake⟩
  · cases e
  · simp only [Value.slice.injEq, Option.some.injEq, Addr.mk.injEq, and_true, true_and] at e
    obtain ⟨rfl, rfl⟩ := e
    have hdl : d.toList.length = l.length := by simp [hd]
    have hle : d.size ≤ cur.size := by rw [hcs, hd]; omega
    refine ⟨flat_length encI_len _, .inr ⟨g, cap, _, by rw [hdl], hb, heap_putRow hg n d os, by rw [hdl]; exact hn, hcm, by simp [putCells, hcs], ?_⟩⟩
    have := take_putCells1 (enc := Value.int .i64) d cur hle
    rw [Nat.mul_one, Array.length_toList, this, flat_encI]
theorem OwnR.shrink {α : Type} {enc : α → List Value} {k : Nat} {E : TypeId} {w : World} {base : Nat} {l : List α} {g cap : Nat} (hk : ∀ x, (enc x).length = k) (h : OwnR enc k E w base (.slice (some ⟨g, 0, none⟩) l.length cap) l) (n : Nat) (hn : n ≤ l.length) :
    OwnR enc k E w base (.slice (some ⟨g, 0, none⟩) n cap) (l.take n) := by
  rcases h.2 with ⟨e, _⟩ | ⟨g', cap', cur, e, hb, hg, hc, hcm, hcs, htake⟩
  · cases e
  · simp only [Value.slice.injEq, Option.some.injEq, Addr.mk.injEq, and_true, true_and] at e
    obtain ⟨rfl, rfl⟩ := e
    have hl : (l.take n).length = n := by rw [List.length_take]; omega
    refine ⟨flat_length hk _, .inr ⟨g, cap, cur, by rw [hl], hb, hg, by omega, hcm, hcs, ?_⟩⟩
    rw [hl, flat_take hk, ← htake, List.take_take, Nat.min_eq_left (Nat.mul_le_mul_right _ hn)]
/-! ### what the library makes of the ends -/
theorem compact_inv {l : List Int} (hs : l.Pairwise (· ≤ ·)) : ∀ m, m ≤ l.length → Asc (Lib.compactUpTo l.toArray m) ∧ (∀ v, v ∈ Lib.compactUpTo l.toArray m ↔ ∃ j, j < m ∧ l.toArray[j]! = v) ∧ (∀ v ∈ Lib.compactUpTo l.toArray m, 0 < m → v ≤ l.toArray[m - 1]!) := by
  have hle : ∀ i j, i ≤ j → j < l.length → l.toArray[i]! ≤ l.toArray[j]! := fun i j hij hj => by
    rw [getElem!_pos l.toArray i (by simp; omega), getElem!_pos l.toArray j (by simpa using hj)]
    by_cases e : i = j
    · subst e; exact Int.le_refl _
    · have := List.pairwise_iff_getElem.1 hs i j (by omega) hj (by omega)
      simpa using this
  intro m
  induction m with
  | zero => intro _; exact ⟨by simp [Lib.compactUpTo, Asc], fun v => by simp [Lib.compactUpTo], fun v hv h => by omega⟩
  | succ m ih =>
    intro hm
    obtain ⟨h1, h2, h3⟩ := ih (by omega)
    rw [Lib.compactUpTo_succ]
    by_cases hk : Lib.keeps l.toArray m = true
    · rw [if_pos hk]
      have hlt : ∀ v ∈ Lib.compactUpTo l.toArray m, v < l.toArray[m]! := fun v hv => by
        obtain ⟨j, hj, _⟩ := (h2 v).1 hv
        have a1 := h3 v hv (by omega)
        have a2 := hle (m - 1) m (by omega) (by omega)
        have a3 : m = 0 ∨ l.toArray[m]! ≠ l.toArray[m - 1]! := by simpa [Lib.keeps] using hk
        rcases a3 with a3 | a3
        · omega
        · omega
      refine ⟨List.pairwise_append.2 ⟨h1, by simp, fun a ha b hb => ?_⟩, fun v => ?_, fun v hv _ => ?_⟩
      · rw [List.mem_singleton.1 hb]; exact hlt a ha
      · rw [List.mem_append, h2, List.mem_singleton]
        constructor
        · rintro (⟨j, hj, e⟩ | e)
          · exact ⟨j, by omega, e⟩
          · exact ⟨m, by omega, e.symm⟩
        · rintro ⟨j, hj, e⟩
          by_cases hjm : j = m
          · subst hjm; exact .inr e.symm
          · exact .inl ⟨j, by omega, e⟩
      · rcases List.mem_append.1 hv with hv | hv
        · have := hlt v hv; show v ≤ l.toArray[m]!; omega
        · rw [List.mem_singleton.1 hv]; exact Int.le_refl _
    · have hk' : Lib.keeps l.toArray m = false := by simpa using hk
      rw [hk']
      have hn : ¬ (m = 0 ∨ l.toArray[m]! ≠ l.toArray[m - 1]!) := by
        intro h
        have : Lib.keeps l.toArray m = true := by simpa [Lib.keeps] using h
        rw [this] at hk'
        cases hk'
      have hm0 : m ≠ 0 := fun e => hn (.inl e)
      have he : l.toArray[m]! = l.toArray[m - 1]! := Classical.byContradiction fun h => hn (.inr h)
      simp only [Bool.false_eq_true, if_false, List.append_nil]
      refine ⟨h1, fun v => ?_, fun v hv _ => ?_⟩
      · rw [h2]
        constructor
        · rintro ⟨j, hj, e⟩; exact ⟨j, by omega, e⟩
        · rintro ⟨j, hj, e⟩
          by_cases hjm : j = m
          · subst hjm; exact ⟨j - 1, by omega, by rw [← he]; exact e⟩
          · exact ⟨j, by omega, e⟩
      · have := h3 v hv (by omega)
        show v ≤ l.toArray[m]!
        rw [he]; exact this
/-- sorted, each once -/
def onceS (l : List Int) : List Int := Lib.compact (l.mergeSort fun x y => decide (x ≤ y))
theorem mergeSort_up (l : List Int) : (l.mergeSort fun x y => decide (x ≤ y)).Pairwise (· ≤ ·) := by
  have := List.pairwise_mergeSort (le := fun x y : Int => decide (x ≤ y)) (fun a b c h1 h2 => by simp at *; omega) (fun a b => by simp; omega) l
  exact this.imp fun h => by simpa using h
theorem asc_onceS (l : List Int) : Asc (onceS l) := (compact_inv (mergeSort_up l) _ (Nat.le_refl _)).1
theorem mem_onceS {l : List Int} {v : Int} : v ∈ onceS l ↔ v ∈ l := by
  have h := (compact_inv (mergeSort_up l) _ (Nat.le_refl _)).2.1 v
  rw [onceS, Lib.compact, h]
  have hp := (List.mergeSort_perm l fun x y => decide (x ≤ y)).mem_iff (a := v)
  rw [← hp, List.mem_iff_getElem]
  constructor
  · rintro ⟨j, hj, e⟩
    exact ⟨j, hj, by rw [getElem!_pos _ j (by simpa using hj)] at e; simpa using e⟩
  · rintro ⟨j, hj, e⟩
    exact ⟨j, hj, by rw [getElem!_pos _ j (by simpa using hj)]; simpa using e⟩
theorem onceS_len (l : List Int) : (onceS l).length ≤ l.length := by
  have := Lib.compact_length_le (l.mergeSort fun x y => decide (x ≤ y))
  rw [List.length_mergeSort] at this
  exact this
/-- slices.Sort, slices.Compact, of a row of the call's own. -/
theorem sortInt_any (v : Value) (l : List Int) (w : World) (base : Nat) (h : OwnN w base v l) (hl : l.length ≤ 10000000) :
    Calls Tryz.prog 76 #[v] w fun e w' => e = .returned (.tuple #[]) ∧ OwnN w' base v (l.mergeSort fun x y => decide (x ≤ y)) ∧ Mod (blk v) w w' := by
  rcases h.form with ⟨rfl, rfl⟩ | ⟨g, cap, rfl, hb, hg, hc⟩
  · refine (Tryz.slices_Sort_int_none none 0 w).mono ?_
    rintro e w' ⟨rfl, rfl⟩
    exact ⟨rfl, by simpa using h, Mod.refl _ _⟩
  · refine (Tryz.slices_Sort_int g 0 cap l w (ownN_holds h) hg (by omega)).mono ?_
    rintro e w' ⟨rfl, n, os, rfl⟩
    exact ⟨rfl, by simpa using ownN_put h n (l.mergeSort fun x y => decide (x ≤ y)).toArray os (by simp), mod_putRow w g n _ os⟩
theorem grow_none (w : World) : grow w #[] = w := by simp [grow]
theorem compactInt_any (v : Value) (l : List Int) (w : World) (base : Nat) (h : OwnN w base v l) (hl : l.length ≤ 10000000) :
    Calls Tryz.prog 77 #[v] w fun e w' => ∃ v', e = .returned v' ∧ OwnN w' base v' (Lib.compact l) ∧ Mod (blk v) w w' ∧ v'.ownBlock = v.ownBlock := by
  rcases h.form with ⟨rfl, rfl⟩ | ⟨g, cap, rfl, hb, hg, hc⟩
  · refine (Tryz.slices_Compact_int_empty none 0 w).mono ?_
    rintro e w' ⟨rfl, rfl⟩
    exact ⟨_, rfl, by simpa [Lib.compact, Lib.compactUpTo] using h, Mod.refl _ _, rfl⟩
  · refine (Tryz.slices_Compact_int g 0 cap l w (ownN_holds h) (by omega) hc).mono ?_
    rintro e w' ⟨rfl, q, rfl⟩
    have hcl := Lib.compact_length_le l
    have hm := mod_putRow (enc := Value.int .i64) w g q (Lib.compact l ++ List.replicate (l.length - (Lib.compact l).length) 0).toArray #[]
    rw [grow_none] at hm
    have ho := ownN_put h q (Lib.compact l ++ List.replicate (l.length - (Lib.compact l).length) 0).toArray #[] (by simp; omega)
    rw [grow_none] at ho
    have hlen : (Lib.compact l ++ List.replicate (l.length - (Lib.compact l).length) (0 : Int)).length = l.length := by simp; omega
    refine ⟨_, rfl, ?_, hm, rfl⟩
    have := OwnR.shrink encI_len (by rw [hlen]; exact ho) (Lib.compact l).length (by rw [hlen]; exact hcl)
    simpa using this
end Go.Proofs.YtefaihockgebeaaGreat
