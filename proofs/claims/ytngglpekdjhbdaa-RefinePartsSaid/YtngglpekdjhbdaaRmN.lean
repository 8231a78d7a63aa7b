/- Layer 12: rows of rows; what stands in the middle of a row of segments. -/
import Derived.Test.YtngglpekdjhbdaaShelf3
import Derived.Test.YtngglpekdjhbdaaRowI
import Derived.Lib.RowBridge
import Derived.Test.YtngglpekdjhbdaaRmM
namespace Go.Proofs.Ytngglpekdjhbdaa
open Go.RowKit Go.ChangeMaps Go.Deep Go.Shelf Go.Sort
set_option linter.unusedSimpArgs false
set_option linter.unusedVariables false

section
variable {α : Type} [Inhabited α] {enc : α → Value} {w : World} {blk : Nat}
theorem heap_putRow {c : Array Value} {E : TypeId} {f : Nat × Nat} (h : w.heap[blk]? = some (.cells c E f)) (n : Nat) (d : Array α) (os : Array Obj) :
    (grow (putRow enc (Sort.ahead w n) blk 0 d) os).heap[blk]? = some (.cells (putCells enc 0 d c) E f) := by
  have hb : blk < w.heap.size := (Array.getElem?_eq_some_iff.1 h).1
  have hb' : blk < (w.heap.modify blk (onCells (putCells enc 0 d))).size := by simpa using hb
  show (w.heap.modify blk (onCells (putCells enc 0 d)) ++ os)[blk]? = _
  rw [Array.getElem?_append_left hb', Array.getElem?_modify, if_pos rfl, h]
  rfl
theorem mod_putRow (w : World) (blk n : Nat) (d : Array α) (os : Array Obj) : Mod [blk] w (grow (putRow enc (Sort.ahead w n) blk 0 d) os) := by
  refine ⟨rfl, rfl, rfl, ?_, fun i hi hn => ?_⟩
  · show w.heap.size ≤ (w.heap.modify blk (onCells (putCells enc 0 d)) ++ os).size
    simp
  · have hb' : i < (w.heap.modify blk (onCells (putCells enc 0 d))).size := by simpa using hi
    show (w.heap.modify blk (onCells (putCells enc 0 d)) ++ os)[i]? = _
    rw [Array.getElem?_append_left hb', Array.getElem?_modify, if_neg (fun e => hn (by simp [e]))]
theorem take_putCells1 (d : Array α) (c : Array Value) (h : d.size ≤ c.size) : (putCells enc 0 d c).toList.take d.size = d.toList.map enc := by
  apply List.ext_getElem?
  intro t
  rw [List.getElem?_take]
  by_cases ht : t < d.size
  · rw [if_pos ht, Array.getElem?_toList, List.getElem?_map, Array.getElem?_toList]
    unfold putCells
    rw [Array.getElem?_mapIdx, Array.getElem?_eq_getElem (show t < c.size by omega), Array.getElem?_eq_getElem ht]
    simp [ht]
  · rw [if_neg ht, List.getElem?_map, Array.getElem?_toList, Array.getElem?_eq_none (by omega)]
    rfl
end
theorem ownN_holds {w : World} {base : Nat} {l : List Int} {g cap : Nat} (h : OwnN w base (.slice (some ⟨g, 0, none⟩) l.length cap) l) : Holds (Value.int .i64) w g 0 l.toArray := by
  intro j hj
  have hj' : j < l.length := by simpa using hj
  have := h.cell encI_len (i := j) (j := 0) hj' (by omega) (u := .int .i64 l[j]) rfl
  rw [Nat.mul_one, Nat.add_zero] at this
  rw [Nat.zero_add, getElem!_pos l.toArray j hj]
  exact this
theorem ownN_put {w : World} {base : Nat} {l : List Int} {g cap : Nat} (h : OwnN w base (.slice (some ⟨g, 0, none⟩) l.length cap) l) (n : Nat) (d : Array Int) (os : Array Obj) (hd : d.size = l.length) :
    OwnN (grow (putRow (Value.int .i64) (Sort.ahead w n) g 0 d) os) base (.slice (some ⟨g, 0, none⟩) l.length cap) d.toList := by
  rcases h.2 with ⟨e, _⟩ | ⟨g', cap', cur, e, hb, hg, hn, hcm, hcs, htake⟩
  · cases e
  · simp only [Value.slice.injEq, Option.some.injEq, Addr.mk.injEq, and_true, true_and] at e
    obtain ⟨rfl, rfl⟩ := e
    have hdl : d.toList.length = l.length := by simp [hd]
    have hle : d.size ≤ cur.size := by rw [hcs, hd]; omega
    refine ⟨flat_length encI_len _, .inr ⟨g, cap, _, by rw [hdl], hb, heap_putRow hg n d os, by rw [hdl]; exact hn, hcm, by simp [putCells, hcs], ?_⟩⟩
    have := take_putCells1 (enc := Value.int .i64) d cur hle
    rw [Nat.mul_one, Array.length_toList, this, flat_encI]
theorem OwnR.shrink {α : Type} {enc : α → List Value} {k : Nat} {E : TypeId} {w : World} {base : Nat} {l : List α} {g cap : Nat} (hk : ∀ x, (enc x).length = k) (h : OwnR enc k E w base (.slice (some ⟨g, 0, none⟩) l.length cap) l) (n : Nat) (hn : n ≤ l.length) :
    OwnR enc k E w base (.slice (some ⟨g, 0, none⟩) n cap) (l.take n) := by
  rcases h.2 with ⟨e, _⟩ | ⟨g', cap', cur, e, hb, hg, hc, hcm, hcs, htake⟩
  · cases e
  · simp only [Value.slice.injEq, Option.some.injEq, Addr.mk.injEq, and_true, true_and] at e
    obtain ⟨rfl, rfl⟩ := e
    have hl : (l.take n).length = n := by rw [List.length_take]; omega
    refine ⟨flat_length hk _, .inr ⟨g, cap, cur, by rw [hl], hb, hg, by omega, hcm, hcs, ?_⟩⟩
    rw [hl, flat_take hk, ← htake, List.take_take, Nat.min_eq_left (Nat.mul_le_mul_right _ hn)]
/-! ### what the library makes of the ends -/
def Asc (l : List Int) : Prop := l.Pairwise (· < ·)
theorem compact_inv {l : List Int} (hs : l.Pairwise (· ≤ ·)) : ∀ m, m ≤ l.length → Asc (Lib.compactUpTo l.toArray m) ∧ (∀ v, v ∈ Lib.compactUpTo l.toArray m ↔ ∃ j, j < m ∧ l.toArray[j]! = v) ∧ (∀ v ∈ Lib.compactUpTo l.toArray m, 0 < m → v ≤ l.toArray[m - 1]!) := by
  have hle : ∀ i j, i ≤ j → j < l.length → l.toArray[i]! ≤ l.toArray[j]! := fun i j hij hj => by
    rw [getElem!_pos l.toArray i (by simp; omega), getElem!_pos l.toArray j (by simpa using hj)]
    by_cases e : i = j
    · subst e; exact Int.le_refl _
    · have := List.pairwise_iff_getElem.1 hs i j (by omega) hj (by omega)
      simpa using this
  intro m
  induction m with
  | zero => intro _; exact ⟨by simp [Lib.compactUpTo, Asc], fun v => by simp [Lib.compactUpTo], fun v hv h => by omega⟩
  | succ m ih =>
    intro hm
    obtain ⟨h1, h2, h3⟩ := ih (by omega)
    rw [Lib.compactUpTo_succ]
    by_cases hk : Lib.keeps l.toArray m = true
    · rw [if_pos hk]
      have hlt : ∀ v ∈ Lib.compactUpTo l.toArray m, v < l.toArray[m]! := fun v hv => by
        obtain ⟨j, hj, _⟩ := (h2 v).1 hv
        have a1 := h3 v hv (by omega)
        have a2 := hle (m - 1) m (by omega) (by omega)
        have a3 : m = 0 ∨ l.toArray[m]! ≠ l.toArray[m - 1]! := by simpa [Lib.keeps] using hk
        rcases a3 with a3 | a3
        · omega
        · omega
      refine ⟨List.pairwise_append.2 ⟨h1, by simp, fun a ha b hb => ?_⟩, fun v => ?_, fun v hv _ => ?_⟩
      · rw [List.mem_singleton.1 hb]; exact hlt a ha
      · rw [List.mem_append, h2, List.mem_singleton]
        constructor
        · rintro (⟨j, hj, e⟩ | e)
          · exact ⟨j, by omega, e⟩
          · exact ⟨m, by omega, e.symm⟩
        · rintro ⟨j, hj, e⟩
          by_cases hjm : j = m
          · subst hjm; exact .inr e.symm
          · exact .inl ⟨j, by omega, e⟩
      · rcases List.mem_append.1 hv with hv | hv
        · have := hlt v hv; show v ≤ l.toArray[m]!; omega
        · rw [List.mem_singleton.1 hv]; exact Int.le_refl _
    · have hk' : Lib.keeps l.toArray m = false := by simpa using hk
      rw [hk']
      have hn : ¬ (m = 0 ∨ l.toArray[m]! ≠ l.toArray[m - 1]!) := by
        intro h
        have : Lib.keeps l.toArray m = true := by simpa [Lib.keeps] using h
        rw [this] at hk'
        cases hk'
      have hm0 : m ≠ 0 := fun e => hn (.inl e)
      have he : l.toArray[m]! = l.toArray[m - 1]! := Classical.byContradiction fun h => hn (.inr h)
      simp only [Bool.false_eq_true, if_false, List.append_nil]
      refine ⟨h1, fun v => ?_, fun v hv _ => ?_⟩
      · rw [h2]
        constructor
        · rintro ⟨j, hj, e⟩; exact ⟨j, by omega, e⟩
        · rintro ⟨j, hj, e⟩
          by_cases hjm : j = m
          · subst hjm; exact ⟨j - 1, by omega, by rw [← he]; exact e⟩
          · exact ⟨j, by omega, e⟩
      · have := h3 v hv (by omega)
        show v ≤ l.toArray[m]!
        rw [he]; exact this
/-- sorted, each once -/
def onceS (l : List Int) : List Int := Lib.compact (l.mergeSort fun x y => decide (x ≤ y))
theorem mergeSort_up (l : List Int) : (l.mergeSort fun x y => decide (x ≤ y)).Pairwise (· ≤ ·) := by
  have := List.pairwise_mergeSort (le := fun x y : Int => decide (x ≤ y)) (fun a b c h1 h2 => by simp at *; omega) (fun a b => by simp; omega) l
  exact this.imp fun h => by simpa using h
theorem asc_onceS (l : List Int) : Asc (onceS l) := (compact_inv (mergeSort_up l) _ (Nat.le_refl _)).1
theorem mem_onceS {l : List Int} {v : Int} : v ∈ onceS l ↔ v ∈ l := by
  have h := (compact_inv (mergeSort_up l) _ (Nat.le_refl _)).2.1 v
  rw [onceS, Lib.compact, h]
  have hp := (List.mergeSort_perm l fun x y => decide (x ≤ y)).mem_iff (a := v)
  rw [← hp, List.mem_iff_getElem]
  constructor
  · rintro ⟨j, hj, e⟩
    exact ⟨j, hj, by rw [getElem!_pos _ j (by simpa using hj)] at e; simpa using e⟩
  · rintro ⟨j, hj, e⟩
    exact ⟨j, hj, by rw [getElem!_pos _ j (by simpa using hj)]; simpa using e⟩
theorem onceS_len (l : List Int) : (onceS l).length ≤ l.length := by
  have := Lib.compact_length_le (l.mergeSort fun x y => decide (x ≤ y))
  rw [List.length_mergeSort] at this
  exact this
/-- slices.Sort, slices.Compact, of a row of the call's own. -/
theorem sortInt_any (v : Value) (l : List Int) (w : World) (base : Nat) (h : OwnN w base v l) (hl : l.length ≤ 10000000) :
    Calls Try.prog 38 #[v] w fun e w' => e = .returned (.tuple #[]) ∧ OwnN w' base v (l.mergeSort fun x y => decide (x ≤ y)) ∧ Mod (blk v) w w' := by
  rcases h.form with ⟨rfl, rfl⟩ | ⟨g, cap, rfl, hb, hg, hc⟩
  · refine (Try.slices_Sort_int_none none 0 w).mono ?_
    rintro e w' ⟨rfl, rfl⟩
    exact ⟨rfl, by simpa using h, Mod.refl _ _⟩
  · refine (Try.slices_Sort_int g 0 cap l w (ownN_holds h) hg (by omega)).mono ?_
    rintro e w' ⟨rfl, n, os, rfl⟩
    exact ⟨rfl, by simpa using ownN_put h n (l.mergeSort fun x y => decide (x ≤ y)).toArray os (by simp), mod_putRow w g n _ os⟩
theorem grow_none (w : World) : grow w #[] = w := by simp [grow]
theorem compactInt_any (v : Value) (l : List Int) (w : World) (base : Nat) (h : OwnN w base v l) (hl : l.length ≤ 10000000) :
    Calls Try.prog 39 #[v] w fun e w' => ∃ v', e = .returned v' ∧ OwnN w' base v' (Lib.compact l) ∧ Mod (blk v) w w' ∧ v'.ownBlock = v.ownBlock := by
  rcases h.form with ⟨rfl, rfl⟩ | ⟨g, cap, rfl, hb, hg, hc⟩
  · refine (Try.slices_Compact_int_empty none 0 w).mono ?_
    rintro e w' ⟨rfl, rfl⟩
    exact ⟨_, rfl, by simpa [Lib.compact, Lib.compactUpTo] using h, Mod.refl _ _, rfl⟩
  · refine (Try.slices_Compact_int g 0 cap l w (ownN_holds h) (by omega) hc).mono ?_
    rintro e w' ⟨rfl, q, rfl⟩
    have hcl := Lib.compact_length_le l
    have hm := mod_putRow (enc := Value.int .i64) w g q (Lib.compact l ++ List.replicate (l.length - (Lib.compact l).length) 0).toArray #[]
    rw [grow_none] at hm
    have ho := ownN_put h q (Lib.compact l ++ List.replicate (l.length - (Lib.compact l).length) 0).toArray #[] (by simp; omega)
    rw [grow_none] at ho
    have hlen : (Lib.compact l ++ List.replicate (l.length - (Lib.compact l).length) (0 : Int)).length = l.length := by simp; omega
    refine ⟨_, rfl, ?_, hm, rfl⟩
    have := OwnR.shrink encI_len (by rw [hlen]; exact ho) (Lib.compact l).length (by rw [hlen]; exact hcl)
    simpa using this
theorem Mod.ofBelow {w w' : World} (h : Below w.heap.size w w') : Mod [] w w' := ⟨h.os, h.tape, h.output, h.size, fun k hk _ => h.block k hk⟩
theorem onceS_eq (l : List Int) : Lib.compact (l.mergeSort fun x y => decide (x ≤ y)) = onceS l := rfl
/-- slices.Clone of a row of numbers -/
theorem cloneInt_any (v : Value) (l : List Int) (w : World) (h : RowAt encI w v l) (hl : l.length ≤ 10000000) :
    Calls Try.prog 37 #[v] w fun e w' => ∃ v', e = .returned v' ∧ OwnN w' w.heap.size v' l ∧ Mod [] w w' := by
  obtain ⟨a, c, rfl⟩ := h.form
  cases a with
  | none =>
    obtain rfl := h.of_none rfl
    refine (Try.slices_Clone_int_nil _ c w).mono ?_
    rintro e w' ⟨rfl, rfl⟩
    exact ⟨_, rfl, OwnR.nil_ _ _, Mod.refl _ _⟩
  | some a =>
    by_cases h0 : l.length = 0
    · obtain rfl := List.eq_nil_of_length_eq_zero h0
      refine (Try.slices_Clone_int_zero a c w).mono ?_
      rintro e w' ⟨v', rfl, h1, h2, h3⟩
      exact ⟨v', rfl, h1, Mod.ofBelow h3⟩
    · obtain ⟨b, o, e, hc, hg⟩ := RowAt.get encI_len h (show 0 < l.length by omega)
      cases e
      refine (Try.slices_Clone_int b o l.length c l w (Nat.le_refl _) (by omega) (fun j hj => ?_)).mono ?_
      · obtain ⟨b', o', e', hc', hg'⟩ := RowAt.get1 h hj
        cases e'
        rw [hg', List.getD_eq_getElem?_getD, List.getElem?_eq_getElem hj]
        rfl
      · rintro e w' ⟨v', rfl, h1, h2, h3⟩
        refine ⟨v', rfl, ?_, Mod.ofBelow h3⟩
        rw [List.take_length] at h1
        show w'.ownsRow w.heap.size 3 1 v' l.length (flat encI l)
        rw [flat_encI]
        exact h1
end Go.Proofs.Ytngglpekdjhbdaa
namespace Go.Proofs.Ytngglpekdjhbdaa
open Go.RowKit Go.ChangeMaps Go.Deep Tr
set_option linter.unusedSimpArgs false
set_option linter.unusedVariables false
set_option maxRecDepth 20000

abbrev Cs := Int × Int
def encC (x : Cs) : List Value := [.int .i64 x.1, .int .i64 x.2]
theorem encC_len (x : Cs) : (encC x).length = 2 := rfl
theorem encC_one (x : Cs) : ∀ v ∈ encC x, v.oneCell' = true := by intro v hv; simp [encC] at hv; rcases hv with rfl | rfl <;> rfl
theorem elemCs : ElemOk Try.prog 41 24 2 16 := .mk' Try.underlying41 (by omega) (by kernel_rfl)
/-- L: what lies from a to z, cut at the days of which P is true -/
inductive CutTo (P : Int → Prop) (a : Int) : Int → List Cs → Prop
  | nil : CutTo P a a []
  | snoc {z : Int} {L : List Cs} (t : Int) : CutTo P a z L → z < t → (∀ d, z < d → d < t → ¬ P d) → (z = a ∨ P z) → CutTo P a t (L ++ [(z, t)])
theorem CutTo.cases' {P : Int → Prop} {a z : Int} {L : List Cs} (h : CutTo P a z L) : (L = [] ∧ z = a) ∨ ∃ L' f, L = L' ++ [(f, z)] ∧ CutTo P a f L' ∧ f < z ∧ (∀ d, f < d → d < z → ¬ P d) ∧ (f = a ∨ P f) := by
  cases h with
  | nil => exact .inl ⟨rfl, rfl⟩
  | snoc t h h1 h2 h3 => exact .inr ⟨_, _, rfl, h, h1, h2, h3⟩
theorem CutTo.le {P : Int → Prop} {a z : Int} {L : List Cs} (h : CutTo P a z L) : a ≤ z := by
  induction h with
  | nil => exact Int.le_refl _
  | snoc t h h1 h2 h3 ih => omega
theorem CutTo.unique {P : Int → Prop} {a : Int} : ∀ (n : Nat) {z : Int} {L L' : List Cs}, L.length ≤ n → CutTo P a z L → CutTo P a z L' → L = L'
  | n, z, L, L', hn, h, h' => by
    rcases h.cases' with ⟨rfl, e⟩ | ⟨K, f, rfl, h2, h3, h4, h5⟩ <;> rcases h'.cases' with ⟨rfl, e'⟩ | ⟨K', f', rfl, h2', h3', h4', h5'⟩
    · rfl
    · have := h2'.le; omega
    · have := h2.le; omega
    · have hf : f = f' := by
        have q := h2.le
        have q' := h2'.le
        rcases Int.lt_trichotomy f f' with c | c | c
        · rcases h5' with e | e
          · omega
          · exact absurd e (h4 f' c h3')
        · exact c
        · rcases h5 with e | e
          · omega
          · exact absurd e (h4' f c h3)
      subst hf
      cases n with
      | zero => simp at hn
      | succ n => rw [CutTo.unique n (L := K) (L' := K') (by simp at hn; omega) h2 h2']
theorem CutTo.congr {P Q : Int → Prop} {a z : Int} {L : List Cs} (h : CutTo P a z L) (hpq : ∀ d, P d ↔ Q d) : CutTo Q a z L := by
  induction h with
  | nil => exact .nil
  | snoc t h h1 h2 h3 ih => exact .snoc t ih h1 (fun d c1 c2 c => h2 d c1 c2 ((hpq d).2 c)) (h3.imp id (hpq _).1)
theorem CutTo.len {P : Int → Prop} {a z : Int} {L : List Cs} (h : CutTo P a z L) : (L.length : Int) ≤ z - a := by
  induction h with
  | nil => simp
  | snoc t h h1 h2 h3 ih => simp only [List.length_append, List.length_singleton]; omega
theorem rfMay_at (w : World) (a b : Int) : Calls Try.prog 36 #[.agg #[.int .i64 a, .int .i64 b]] w fun e w' => e = .returned (.bool (decide (mayS a b))) ∧ Mod [] w w' := by
  have hm := Lib.hid ((Mod.refl [] w).alloc (.cells #[.int .i64 a, .int .i64 b] 24))
  by_cases h1 : 1 ≤ a
  · by_cases h2 : a < b
    · by_cases h3 : b ≤ 3652060
      · have HD := Lib.hid (show decide (mayS a b) = true from decide_eq_true ⟨h1, h2, h3⟩)
        go_enter Try.func36, Try.ntmps36
        go_wp2_with fail
        go_ret
        exact ⟨by rw [HD.out]; rfl, hm.out⟩
      · have HD := Lib.hid (show decide (mayS a b) = false from decide_eq_false fun h => h3 h.2.2)
        go_enter Try.func36, Try.ntmps36
        go_wp2_with fail
        go_ret
        exact ⟨by rw [HD.out]; rfl, hm.out⟩
    · have HD := Lib.hid (show decide (mayS a b) = false from decide_eq_false fun h => h2 h.2.1)
      go_enter Try.func36, Try.ntmps36
      go_wp2_with fail
      go_ret
      exact ⟨by rw [HD.out]; rfl, hm.out⟩
  · have HD := Lib.hid (show decide (mayS a b) = false from decide_eq_false fun h => h1 h.1)
    go_enter Try.func36, Try.ntmps36
    go_wp2_with fail
    go_ret
    exact ⟨by rw [HD.out]; rfl, hm.out⟩
theorem rfAll_at (w : World) : Calls Try.prog 43 #[] w fun e w' => e = .returned (.agg #[.int .i64 1, .int .i64 3652060]) ∧ Mod [] w w' := by
  have m := (Mod.refl [] w).alloc (.cells #[.int .i64 1, .int .i64 3652060] 24)
  have b := heap_alloc_new w (.cells #[.int .i64 1, .int .i64 3652060] 24)
  have c0 := cell_blk b 0
  have c1 := cell_blk b 1
  simp only [List.getElem?_toArray, List.getElem?_cons_succ, List.getElem?_cons_zero] at c0 c1
  have HM := Lib.hid m
  clear m b
  go_enter Try.func43, Try.ntmps43
  go_wp2_with fail
  refine bodyPost_ret (v := .agg #[.int .i64 1, .int .i64 3652060]) ?_ rfl ⟨rfl, HM.out⟩
  simp [results, Try.results43, go_sem, c0, c1]
theorem may_all : mayS 1 3652060 := ⟨by omega, by omega, by omega⟩
theorem there_line {w : World} {g : Nat} {B : List Nat} {n : Nat} {gf : Int → Int} (h : LineAt w g B n gf) (hn : n ≤ 40000) :
    Calls Try.prog 32 #[.pointer (some ⟨g, 0, none⟩)] w fun e w' => e = .returned (.pointer (some ⟨g, 0, none⟩)) ∧ Mod [] w w' := by
  have CA := Lib.hid (rfAll_at w)
  have H := Lib.hid h
  clear h
  go_enter Try.func32, Try.ntmps32
  go_wp2_with fail
  refine CA.out.mono ?_
  rintro e w1 ⟨rfl, m1⟩
  have CS := Lib.hid (segs_at H.out hn may_all m1)
  go_wp2_with fail
  refine CS.out.mono ?_
  rintro e w2 ⟨v, L, rfl, o, ⟨hs, hl⟩, m⟩
  obtain ⟨la, lc, rfl⟩ := o.lens
  have hne : L ≠ [] := hs.le.2 (by omega)
  have hl0 : ((L.length : Int) == 0) = false := by
    cases L with
    | nil => exact absurd rfl hne
    | cons x L => simp; omega
  have HM := Lib.hid (m1.trans m)
  clear o m m1 hs hne
  go_wp2_with fail
  go_ret
  exact ⟨rfl, HM.out⟩
/-- where Cut stands: what is cut, the day -/
def cutS (b : Int) (o : List Cs × Int) (d : Int) : List Cs × Int := if o.2 < d ∧ d < b then (o.1 ++ [(o.2, d)], d) else o
theorem cut_inv {a b : Int} (hab : a < b) {l : List Int} (hs : Asc l) : ∀ n, n ≤ l.length → CutTo (· ∈ l) a ((l.take n).foldl (cutS b) ([], a)).2 ((l.take n).foldl (cutS b) ([], a)).1 ∧ ((l.take n).foldl (cutS b) ([], a)).2 < b ∧ (((l.take n).foldl (cutS b) ([], a)).2 = a ∨ ((l.take n).foldl (cutS b) ([], a)).2 ∈ l) ∧ (∀ d ∈ l.take n, d < b → d ≤ ((l.take n).foldl (cutS b) ([], a)).2) ∧ ((l.take n).foldl (cutS b) ([], a)).1.length ≤ n := fun n => by
  induction n with
  | zero => intro _; exact ⟨.nil, hab, .inl rfl, by simp, by simp⟩
  | succ n ih =>
    intro hn
    obtain ⟨h1, h2, h3, h4, h5⟩ := ih (by omega)
    have hlt : n < l.length := by omega
    rw [List.take_succ_eq_append_getElem hlt, List.foldl_append]
    simp only [List.foldl_cons, List.foldl_nil]
    generalize (l.take n).foldl (cutS b) ([], a) = o at h1 h2 h3 h4 h5
    have hspl : l.take n ++ l[n] :: l.drop (n + 1) = l := by rw [← List.drop_eq_getElem_cons hlt, List.take_append_drop]
    have hp : (l.take n ++ l[n] :: l.drop (n + 1)).Pairwise (· < ·) := by rw [hspl]; exact hs
    have haft : ∀ z ∈ l.drop (n + 1), l[n] < z := fun z hz => (List.pairwise_cons.1 (List.pairwise_append.1 hp).2.1).1 z hz
    have hbef : ∀ z ∈ l.take n, z < l[n] := fun z hz => (List.pairwise_append.1 hp).2.2 z hz _ List.mem_cons_self
    unfold cutS
    by_cases hc : o.2 < l[n] ∧ l[n] < b
    · rw [if_pos hc]
      refine ⟨.snoc _ h1 hc.1 (fun d c1 c2 c => ?_) h3, hc.2, .inr (List.getElem_mem hlt), fun d hd hdb => ?_, by simp; omega⟩
      · rw [← hspl] at c
        rcases List.mem_append.1 c with c | c
        · have := h4 d c (by omega); omega
        · rcases List.mem_cons.1 c with rfl | c
          · omega
          · have := haft d c; omega
      · rcases List.mem_append.1 hd with hd | hd
        · have := h4 d hd hdb
          dsimp only; omega
        · simp at hd; subst hd; dsimp only; omega
    · rw [if_neg hc]
      refine ⟨h1, h2, h3, fun d hd hdb => ?_, by omega⟩
      rcases List.mem_append.1 hd with hd | hd
      · exact h4 d hd hdb
      · simp at hd; subst hd; omega
theorem cut_all {a b : Int} (hab : a < b) {l : List Int} (hs : Asc l) : CutTo (· ∈ l) a b ((l.foldl (cutS b) ([], a)).1 ++ [((l.foldl (cutS b) ([], a)).2, b)]) ∧ (l.foldl (cutS b) ([], a)).1.length ≤ l.length := by
  obtain ⟨h1, h2, h3, h4, h5⟩ := cut_inv hab hs l.length (Nat.le_refl _)
  rw [List.take_length] at h1 h2 h3 h4 h5
  exact ⟨.snoc b h1 h2 (fun d c1 c2 c => by have := h4 d c c2; omega) h3, h5⟩
end Go.Proofs.Ytngglpekdjhbdaa
namespace Go.Proofs.Ytngglpekdjhbdaa
open Go.RowKit Go.ChangeMaps Go.Deep Tr
set_option linter.unusedSimpArgs false
set_option linter.unusedVariables false
set_option maxRecDepth 20000

theorem cut_not {w : World} {v : Value} {a b : Int} (hab : ¬ mayS a b) : Calls Try.prog 14 #[.agg #[.int .i64 a, .int .i64 b], v] w fun e w' => e = .returned (.slice none 0 0) ∧ Mod [] w w' := by
  have mA := (Mod.refl [] w).alloc (.cells #[.int .i64 a, .int .i64 b] 24)
  have bA := heap_alloc_new w (.cells #[.int .i64 a, .int .i64 b] 24)
  have CM := Lib.hid (rfMay_at (w.alloc (.cells #[.int .i64 a, .int .i64 b] 24)) a b)
  rw [decide_eq_false hab] at CM
  have s0 := cell_blk bA 0
  have s1 := cell_blk bA 1
  simp only [List.getElem?_toArray, List.getElem?_cons_succ, List.getElem?_cons_zero] at s0 s1
  have HMA := Lib.hid mA
  clear mA bA
  go_enter Try.func14, Try.ntmps14
  go_wp2_with fail
  refine CM.out.mono ?_
  rintro e w2 ⟨rfl, m2⟩
  have HM2 := Lib.hid (HMA.out.trans m2)
  go_wp2_with fail
  go_ret
  exact ⟨rfl, HM2.out⟩
set_option maxHeartbeats 4000000 in
theorem cut_any {w : World} {v : Value} {ends : List Int} (h : RowAt encI w v ends) (hl : ends.length ≤ 10000000) {a b : Int} (hab : mayS a b) :
    Calls Try.prog 14 #[.agg #[.int .i64 a, .int .i64 b], v] w fun e w' => ∃ u L, e = .returned u ∧ OwnR encC 2 24 w' w.heap.size u L ∧ CutTo (· ∈ ends) a b L ∧ L.length ≤ ends.length + 1 ∧ Mod [] w w' := by
  have mA := (Mod.refl [] w).alloc (.cells #[.int .i64 a, .int .i64 b] 24)
  have bA := heap_alloc_new w (.cells #[.int .i64 a, .int .i64 b] 24)
  have CM := Lib.hid (rfMay_at (w.alloc (.cells #[.int .i64 a, .int .i64 b] 24)) a b)
  rw [decide_eq_true hab] at CM
  have s0 := cell_blk bA 0
  have s1 := cell_blk bA 1
  simp only [List.getElem?_toArray, List.getElem?_cons_succ, List.getElem?_cons_zero] at s0 s1
  have H := Lib.hid h
  have HMA := Lib.hid mA
  have HBA := Lib.hid bA
  clear mA bA h
  go_enter Try.func14, Try.ntmps14
  go_wp2_with fail
  refine CM.out.mono ?_
  rintro e w2 ⟨rfl, m2⟩
  have HB2 := Lib.hid (m2.heap HBA.out (by simp))
  have HM2 := Lib.hid (HMA.out.trans m2)
  have CC := Lib.hid (cloneInt_any v ends w2 (H.out.kept0 HM2.out) hl)
  clear CM m2 s0 s1
  go_wp2_with fail
  refine CC.out.mono ?_
  rintro e w3 ⟨v3, rfl, o3, m3⟩
  have HB3 := Lib.hid (m3.heap HB2.out (by simp))
  have HM3 := Lib.hid (HM2.out.trans m3)
  have CS := Lib.hid (sortInt_any v3 ends w3 w2.heap.size o3 hl)
  have hob : ∀ k, v3.ownBlock = some k → w2.heap.size ≤ k := fun k hk => (World.ownsRow.lt o3 k hk).1
  clear CC m3 o3
  go_wp2_with fail
  refine CS.out.mono ?_
  rintro e w4 ⟨rfl, o4, m4⟩
  have hw2 : w.heap.size < w2.heap.size := lt_of_heap HB2.out
  have hb4 := m4.heap HB3.out (by rw [mem_blk]; intro h; have := hob _ h; omega)
  have HM4 := Lib.hid (Mod.into' HM3.out m4 (fun k hk => .inl (by rw [mem_blk] at hk; have := hob k hk; omega)))
  have CP := Lib.hid (compactInt_any v3 _ w4 w2.heap.size o4 (by rw [List.length_mergeSort]; exact hl))
  rw [onceS_eq] at CP
  have t0 := cell_blk hb4 0
  simp only [List.getElem?_toArray, List.getElem?_cons_zero] at t0
  have HB4 := Lib.hid hb4
  clear CS o4 m4 hb4
  go_wp2_with fail
  refine CP.out.mono ?_
  rintro e w5 ⟨v5, rfl, o5, m5, hv5⟩
  have hb5 := m5.heap HB4.out (by rw [mem_blk]; intro h; have := hob _ h; omega)
  have HM5 := Lib.hid (Mod.into' HM4.out m5 (fun k hk => .inl (by rw [mem_blk] at hk; have := hob k hk; omega)))
  have hol := onceS_len ends
  have HAS := Lib.hid (asc_onceS ends)
  have HME := Lib.hid (fun d => (mem_onceS (l := ends) (v := d)))
  generalize onceS ends = l at o5 hol HAS HME
  obtain ⟨la, lc, rfl⟩ := o5.lens
  have HO5 := Lib.hid o5
  have HB5 := Lib.hid hb5
  have hlb : ∀ k, (Value.slice la l.length lc).ownBlock = some k → w2.heap.size ≤ k ∧ k < w5.heap.size := fun k hk => World.ownsRow.lt o5 k hk
  clear CP t0 o5 m5 hb5
  go_wp2_with fail
  go_loopw [4, 6, 21] (fun s4 s6 s21 W => ∃ j : Nat, j ≤ l.length ∧ s21 = .int .i64 j ∧ s6 = .int .i64 ((l.take j).foldl (cutS b) ([], a)).2 ∧ Hid (OwnR encC 2 24 W w5.heap.size s4 ((l.take j).foldl (cutS b) ([], a)).1 ∧ Mod [] w5 W)) (fun _ _ s21 _ => l.length - (intOf s21).toNat)
  case atStart => exact ⟨0, by omega, rfl, rfl, Lib.hid ⟨OwnR.nil_ _ _, Mod.refl _ _⟩⟩
  case round =>
    obtain ⟨j, hj, rfl, rfl, hS⟩ := hrel
    obtain ⟨h1, h2⟩ := hS.out
    have hbW := h2.heap HB5.out (by simp)
    have t1 := cell_blk hbW 1
    simp only [List.getElem?_toArray, List.getElem?_cons_succ, List.getElem?_cons_zero] at t1
    by_cases hlt : j < l.length
    · obtain ⟨_, _, _, _, hlen⟩ := cut_inv hab.2.1 HAS.out j (by omega)
      have htk : (l.take (j + 1)).foldl (cutS b) ([], a) = cutS b ((l.take j).foldl (cutS b) ([], a)) l[j] := by
        rw [List.take_succ_eq_append_getElem hlt, List.foldl_append]
        rfl
      obtain ⟨q, cap, heq, hq, hcap⟩ := (HO5.out.kept0 h2).at_ (show l[j]? = some l[j] from List.getElem?_eq_getElem hlt)
      simp only [Value.slice.injEq] at heq
      obtain ⟨rfl, _, rfl⟩ := heq
      have vk := ((HO5.out.kept0 h2).cell encI_len hlt (j := 0) (by omega) (u := .int .i64 l[j]) rfl).1
      simp only [Nat.mul_one, Nat.add_zero] at vk
      generalize l[j] = d at vk htk
      generalize (l.take j).foldl (cutS b) ([], a) = o at h1 htk hlen
      have hj0 : decide ((j : Int) < 0) = false := decide_eq_false (by omega)
      have hj1 : decide ((l.length : Int) ≤ (j : Int)) = false := decide_eq_false (by omega)
      have hj2 : decide ((j : Int) < (l.length : Int)) = true := decide_eq_true (by omega)
      by_cases hc1 : o.2 < d
      · have hd1 : decide (o.2 < d) = true := decide_eq_true hc1
        by_cases hc2 : d < b
        · have hd2 : decide (d < b) = true := decide_eq_true hc2
          rw [show cutS b o d = (o.1 ++ [(o.2, d)], d) from if_pos ⟨hc1, hc2⟩] at htk
          obtain ⟨v', w', ra, ho', gr⟩ := own_append1 (P := Try.prog) (ty := 41) elemCs encC_len encC_one h1 h2.size (o.2, d) (by omega) (by omega)
          dsimp only [encC] at ra
          obtain ⟨a', n', c', rfl⟩ : ∃ a n c, v' = .slice a n c := by obtain ⟨a, c, e⟩ := ho'.lens; exact ⟨a, _, c, e⟩
          have HF := Lib.hid (show ((l.take (j + 1)).foldl (cutS b) ([], a)).2 = d by rw [htk])
          have HN := Lib.hid (show OwnR encC 2 24 w' w5.heap.size (.slice a' n' c') ((l.take (j + 1)).foldl (cutS b) ([], a)).1 ∧ Mod [] w5 w' from ⟨by rw [htk]; exact ho', Mod.into' h2 gr.mod (fun k hk => .inl (by rw [mem_blk] at hk; exact (World.ownsRow.lt h1 k hk).1))⟩)
          have RA := Lib.hid ra
          clear h1 h2 hbW ra ho' gr htk hlen
          go_wp2_with ((with_reducible refine xAppendAt RA.out rfl rfl ?_ ?_ ?_ ?_); exact rfl; exact rfl; exact rfl)
          go_roundw
          case rel => exact ⟨j + 1, by omega, by go_num, by rw [HF.out], HN⟩
          case measure => simp [intOf]; omega
        · have hd2 : decide (d < b) = false := decide_eq_false hc2
          rw [show cutS b o d = o from if_neg (fun h => hc2 h.2)] at htk
          have HF := Lib.hid (show ((l.take (j + 1)).foldl (cutS b) ([], a)).2 = o.2 by rw [htk])
          have HN := Lib.hid (show OwnR encC 2 24 wr w5.heap.size u4 ((l.take (j + 1)).foldl (cutS b) ([], a)).1 ∧ Mod [] w5 wr from ⟨by rw [htk]; exact h1, h2⟩)
          clear h1 h2 hbW htk hlen
          go_wp2_with fail
          go_roundw
          case rel => exact ⟨j + 1, by omega, by go_num, by rw [HF.out], HN⟩
          case measure => simp [intOf]; omega
      · have hd1 : decide (o.2 < d) = false := decide_eq_false hc1
        rw [show cutS b o d = o from if_neg (fun h => hc1 h.1)] at htk
        have HF := Lib.hid (show ((l.take (j + 1)).foldl (cutS b) ([], a)).2 = o.2 by rw [htk])
        have HN := Lib.hid (show OwnR encC 2 24 wr w5.heap.size u4 ((l.take (j + 1)).foldl (cutS b) ([], a)).1 ∧ Mod [] w5 wr from ⟨by rw [htk]; exact h1, h2⟩)
        clear h1 h2 hbW htk hlen
        go_wp2_with fail
        go_roundw
        case rel => exact ⟨j + 1, by omega, by go_num, by rw [HF.out], HN⟩
        case measure => simp [intOf]; omega
    · have hje : j = l.length := by omega
      have hj2 : decide ((j : Int) < (l.length : Int)) = false := decide_eq_false (by omega)
      have hca := cut_all hab.2.1 HAS.out
      rw [List.take_of_length_le (by omega)] at h1 ⊢
      generalize l.foldl (cutS b) ([], a) = o at h1 hca
      obtain ⟨v', w', ra, ho', gr⟩ := own_append1 (P := Try.prog) (ty := 41) elemCs encC_len encC_one h1 h2.size (o.2, b) (by have := hca.2; omega) (by omega)
      dsimp only [encC] at ra
      have hw5 := HM5.out.size
      have HE := Lib.hid (show OwnR encC 2 24 w' w.heap.size v' (o.1 ++ [(o.2, b)]) ∧ CutTo (· ∈ ends) a b (o.1 ++ [(o.2, b)]) ∧ (o.1 ++ [(o.2, b)]).length ≤ ends.length + 1 ∧ Mod [] w w' from ⟨ho'.mono hw5, hca.1.congr (fun d => HME.out d), by have := hca.2; simp; omega, Mod.into' (HM5.out.trans h2) gr.mod (fun k hk => .inl (by rw [mem_blk] at hk; have := (World.ownsRow.lt h1 k hk).1; omega))⟩)
      have RA := Lib.hid ra
      clear h1 h2 hbW ra ho' gr hca
      subst hje
      go_wp2_with ((with_reducible refine xAppendAt RA.out rfl rfl ?_ ?_ ?_ ?_); exact rfl; exact rfl; exact rfl)
      go_ret
      exact ⟨_, _, rfl, HE.out⟩
end Go.Proofs.Ytngglpekdjhbdaa
namespace Go.Proofs.Ytngglpekdjhbdaa
open Go.RowKit Go.ChangeMaps Go.Deep Tr
set_option linter.unusedSimpArgs false
set_option linter.unusedVariables false
set_option maxRecDepth 20000

theorem SegsTo.mid {g : Int → Int} {a z : Int} {pre R : List Sg} {s : Sg} (h : SegsTo g a z (pre ++ s :: R)) : ((pre = [] ∧ s.f = a) ∨ ∃ r, pre.getLast? = some r ∧ r.t = s.f) ∧ s.f < s.t ∧ (∀ d, s.f ≤ d → d < s.t → g d = s.v) ∧ s.t ≤ z := by
  obtain ⟨n, hn⟩ : ∃ n, n = R.length := ⟨_, rfl⟩
  induction n generalizing R z with
  | zero =>
    obtain rfl : R = [] := List.eq_nil_of_length_eq_zero hn.symm
    rcases h.cases' with ⟨e, _⟩ | ⟨K, x, e, h1, h2, h3, h4, h5⟩
    · simp at e
    · obtain ⟨rfl, e2⟩ := List.append_inj' e rfl
      cases e2
      refine ⟨?_, h3, h4, by omega⟩
      rcases h2.cases' with ⟨e, e'⟩ | ⟨K', r, rfl, h6, _⟩
      · exact .inl ⟨e, e'⟩
      · exact .inr ⟨r, by simp, h6⟩
  | succ n ih =>
    rcases List.eq_nil_or_concat R with rfl | ⟨R', x, rfl⟩
    · simp at hn
    · rw [List.concat_eq_append] at h hn
      rcases h.cases' with ⟨e, _⟩ | ⟨K, x', e, h1, h2, h3, h4, h5⟩
      · simp at e
      · rw [show pre ++ s :: (R' ++ [x]) = (pre ++ s :: R') ++ [x] by simp] at e
        obtain ⟨rfl, e2⟩ := List.append_inj' e rfl
        have := ih h2 (by simp at hn; omega)
        exact ⟨this.1, this.2.1, this.2.2.1, by have := this.2.2.2; omega⟩
theorem SegsTo.last {g : Int → Int} {a z : Int} {L : List Sg} (h : SegsTo g a z L) (haz : a < z) : ∃ r, L.getLast? = some r ∧ r.t = z := by
  rcases h.cases' with ⟨_, e⟩ | ⟨K, s, rfl, h1, _⟩
  · omega
  · exact ⟨s, by simp, h1⟩
/-- R: what is left of a row of segments, where those that end at a day or ahead of it are passed -/
def RestOf (L : List Sg) (c : Int) (R : List Sg) : Prop := ∃ pre, L = pre ++ R ∧ ∀ s ∈ pre, s.t ≤ c
theorem RestOf.ne {g : Int → Int} {a b c : Int} {L R : List Sg} (h : RestOf L c R) (hs : SegsTo g a b L) (hab : a < b) (hc : c < b) : R ≠ [] := by
  obtain ⟨pre, e, hp⟩ := h
  rintro rfl
  rw [List.append_nil] at e
  subst e
  obtain ⟨r, h1, h2⟩ := hs.last hab
  have := hp r (List.mem_of_getLast? h1)
  omega
theorem RestOf.mono {L R : List Sg} {c d : Int} (h : RestOf L c R) (hcd : c ≤ d) : RestOf L d R := by
  obtain ⟨pre, e, hp⟩ := h
  exact ⟨pre, e, fun s hs => by have := hp s hs; omega⟩
theorem RestOf.next {L R : List Sg} {s : Sg} {c : Int} (h : RestOf L c (s :: R)) (hc : s.t ≤ c) : RestOf L c R := by
  obtain ⟨pre, e, hp⟩ := h
  refine ⟨pre ++ [s], by simpa using e, fun x hx => ?_⟩
  rcases List.mem_append.1 hx with hx | hx
  · exact hp x hx
  · simp at hx; subst hx; exact hc
theorem RestOf.val {g : Int → Int} {a b c : Int} {L R : List Sg} {s : Sg} (h : RestOf L c (s :: R)) (hs : SegsTo g a b L) (hc : a ≤ c) (hct : c < s.t) : g c = s.v := by
  obtain ⟨pre, rfl, hp⟩ := h
  obtain ⟨h1, h2, h3, h4⟩ := hs.mid
  refine h3 c ?_ hct
  rcases h1 with ⟨_, e⟩ | ⟨r, hr, e⟩
  · omega
  · have := hp r (List.mem_of_getLast? hr)
    omega
/-- a slice, told by its parts -/
structure SlH where
  a : Option Addr
  n : Nat
  c : Nat
def SlH.val (h : SlH) : Value := .slice h.a h.n h.c
def encH (h : SlH) : List Value := [.slice h.a h.n h.c]
theorem encH_len (x : SlH) : (encH x).length = 1 := rfl
theorem encH_one (x : SlH) : ∀ v ∈ encH x, v.oneCell' = true := by intro v hv; simp [encH] at hv; subst hv; rfl
theorem RowAt.head {α : Type} {enc : α → List Value} {w : World} {v : Value} {l : List α} (h : RowAt enc w v l) : ∃ x : SlH, v = x.val ∧ x.n = l.length := by
  obtain ⟨a, c, e⟩ := h.form
  exact ⟨⟨a, l.length, c⟩, e, rfl⟩
theorem run_makeSegs (n : Nat) (hn : n ≤ 1000000) (w : World) : (Instr.makeSlice 74 (.int .i64 n) (.int .i64 n)).run Try.prog w = .ok (.slice (some ⟨w.heap.size, 0, none⟩) n n) (w.alloc (.cells (Array.replicate n (.slice none 0 0)) 76)) := by
  have h5 : (Try.prog.info? 76).map (fun i => (i.zero, i.size, i.bytes)) = some (some (.slice none 0 0), 1, 24) := by kernel_rfl
  obtain ⟨i0, hi, hz0, hz1, hz2⟩ := info_parts h5
  have h := run_make (P := Try.prog) (w := w) 74 76 i0 (.slice none 0 0) Try.underlying74 hi hz0 .i64 .i64 n n (by omega) (Int.le_refl _) (by rw [hz2]; omega) (by omega)
  rw [hz1, Nat.mul_one] at h
  have e : (Value.slice none 0 0).cells = #[.slice none 0 0] := rfl
  rw [e, made_one, Int.toNat_natCast] at h
  exact h
def SlH.none_ : SlH := ⟨none, 0, 0⟩
theorem own_nones (w : World) (n base : Nat) (hb : base ≤ w.heap.size) (hn : n ≤ 1000000) : OwnR encH 1 76 (w.alloc (.cells (Array.replicate n (.slice none 0 0)) 76)) base (.slice (some ⟨w.heap.size, 0, none⟩) (List.replicate n SlH.none_).length n) (List.replicate n SlH.none_) := by
  have hfl : flat encH (List.replicate n SlH.none_) = List.replicate n (.slice none 0 0) := by
    clear hn hb
    unfold flat
    induction n with
    | zero => rfl
    | succ n ih => rw [List.replicate_succ, List.flatMap_cons, ih, List.replicate_succ]; rfl
  refine ⟨by rw [hfl]; simp, .inr ⟨w.heap.size, n, Array.replicate n (.slice none 0 0), by simp, hb, heap_alloc_new w _, by simp, ?_, by simp, ?_⟩⟩
  · unfold maxLen; omega
  · rw [hfl]; simp
/-- rows of parts -/
abbrev Pt := Int × Int × List Int
abbrev Cu := Int × Int × SlH
def encU (u : Cu) : List Value := [.int .i64 u.1, .int .i64 u.2.1, .slice u.2.2.a u.2.2.n u.2.2.c]
theorem encU_len (x : Cu) : (encU x).length = 3 := rfl
theorem encU_one (x : Cu) : ∀ v ∈ encU x, v.oneCell' = true := by intro v hv; simp [encU] at hv; rcases hv with rfl | rfl | rfl <;> rfl
theorem elemPart : ElemOk Try.prog 36 45 3 40 := .mk' Try.underlying36 (by omega) (by kernel_rfl)
structure PtsAt (W : World) (base : Nat) (v : Value) (us : List Cu) (ps : List Pt) : Prop where
  own : OwnR encU 3 45 W base v us
  len : us.length = ps.length
  rel : ∀ (i : Nat) (u : Cu) (p : Pt), us[i]? = some u → ps[i]? = some p → u.1 = p.1 ∧ u.2.1 = p.2.1 ∧ OwnR encI 1 3 W base u.2.2.val p.2.2
theorem PtsAt.kept {l : List Nat} {W W' : World} {base : Nat} {v : Value} {us : List Cu} {ps : List Pt} (h : PtsAt W base v us ps) (m : Mod l W W') (h1 : ∀ k, v.ownBlock = some k → k ∉ l) (h2 : ∀ k ∈ l, W.heap.size ≤ k ∨ k < base ∨ ∃ c, W.heap[k]? = some (.cells c 45 (0, 0))) : PtsAt W' base v us ps := by
  refine ⟨h.own.kept m h1, h.len, fun i u p hu hp => ?_⟩
  obtain ⟨e1, e2, e3⟩ := h.rel i u p hu hp
  refine ⟨e1, e2, e3.kept m fun k hk hm => ?_⟩
  obtain ⟨b1, b2⟩ := World.ownsRow.lt e3 k hk
  rcases h2 k hm with c | c | ⟨c, hc⟩
  · omega
  · omega
  · obtain ⟨c', hc'⟩ := ownsRow_cells e3 hk
    rw [hc] at hc'
    cases hc'
end Go.Proofs.Ytngglpekdjhbdaa
