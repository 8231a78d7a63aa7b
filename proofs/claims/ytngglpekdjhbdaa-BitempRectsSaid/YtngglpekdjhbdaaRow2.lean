/- Slices of the call's own: sorted by the library. No program is named here. -/
import Derived.Test.YtngglpekdjhbdaaRow1
import Derived.Shelf.SlSortCmp.WholeK
namespace Go.Proofs.Ytngglpekdjhbdaa
open Go.RowKit Go.Sort
set_option linter.unusedSimpArgs false
set_option linter.unusedVariables false

section
variable {α : Type} [Inhabited α] {enc : α → List Value} {k : Nat}
theorem flatK_eq (hk : ∀ x, (enc x).length = k) (d : Array α) : (flatK enc k d).toList = flat enc d.toList := by
  have hl : (flat enc d.toList).length = d.size * k := by rw [flat_length hk, Array.length_toList]
  apply List.ext_getElem?
  intro t
  by_cases ht : t < d.size * k
  · have h0 : 0 < k := by
      apply Classical.byContradiction
      intro h
      have : k = 0 := by omega
      subst this
      simp at ht
    have h1 := get_flatK enc k d t ht
    have hd : t / k < d.size := Nat.div_lt_of_lt_mul (by rw [Nat.mul_comm]; exact ht)
    have hm : t % k < k := Nat.mod_lt _ h0
    have h2 := flat_get hk d.toList (t / k) (t % k) (by rw [Array.length_toList]; exact hd) hm
    rw [show t / k * k + t % k = t by rw [Nat.mul_comm]; exact Nat.div_add_mod t k] at h2
    rw [h2, Array.getElem?_toList, Array.getElem?_eq_getElem (by rw [size_flatK]; exact ht)]
    rw [getElem!_pos (flatK enc k d) t (by rw [size_flatK]; exact ht), getElem!_pos d (t / k) hd] at h1
    rw [h1]
    have hlen : t % k < (enc d.toList[t / k]).length := by rw [hk]; exact hm
    rw [List.getElem?_eq_getElem hlen, getElem!_pos (enc d[t / k]) (t % k) (by rw [hk]; exact hm)]
    rfl
  · rw [List.getElem?_eq_none (by rw [Array.length_toList, size_flatK]; omega), List.getElem?_eq_none (by rw [hl]; omega)]
theorem OwnR.holds {w : World} {base : Nat} {E : TypeId} {l : List α} {g cap : Nat} (hk : ∀ x, (enc x).length = k) (h : OwnR enc k E w base (.slice (some ⟨g, 0, none⟩) l.length cap) l) : HoldsK enc k w g 0 l.toArray := by
  rcases h.2 with ⟨e, _⟩ | ⟨g', cap', cur, e, hb, hg, hn, hcm, hcs, htake⟩
  · cases e
  · simp only [Value.slice.injEq, Option.some.injEq, Addr.mk.injEq, and_true, true_and] at e
    obtain ⟨rfl, rfl⟩ := e
    intro j hj
    have hF := flatK_eq hk l.toArray
    refine ⟨?_, frozen_blk hg _⟩
    rw [cell_blk hg, Nat.zero_add]
    have h1 : cur.toList[j]? = (flat enc l)[j]? := by
      rw [← htake, List.getElem?_take, if_pos (by rw [size_flatK] at hj; simpa using hj)]
    rw [← Array.getElem?_toList, h1, show flat enc l = (flatK enc k l.toArray).toList by rw [hF], Array.getElem?_toList, Array.getElem?_eq_getElem hj, getElem!_pos _ j hj]
    rfl
theorem heap_sorted {w : World} {blk : Nat} {c : Array Value} {E : TypeId} {f : Nat × Nat} (h : w.heap[blk]? = some (.cells c E f)) (n : Nat) (d : Array α) (os : Array Obj) :
    (sortWorldK enc k w blk 0 n d os).heap[blk]? = some (.cells (putCells id 0 (flatK enc k d) c) E f) := by
  have hb : blk < w.heap.size := (Array.getElem?_eq_some_iff.1 h).1
  have hb' : blk < (w.heap.modify blk (onCells (putCells id 0 (flatK enc k d)))).size := by simpa using hb
  show (w.heap.modify blk (onCells (putCells id 0 (flatK enc k d))) ++ os)[blk]? = _
  rw [Array.getElem?_append_left hb', Array.getElem?_modify, if_pos rfl, h]
  rfl
theorem heap_sorted_ne {w : World} {blk i : Nat} (hi : i < w.heap.size) (hne : i ≠ blk) (n : Nat) (d : Array α) (os : Array Obj) : (sortWorldK enc k w blk 0 n d os).heap[i]? = w.heap[i]? := by
  have hb' : i < (w.heap.modify blk (onCells (putCells id 0 (flatK enc k d)))).size := by simpa using hi
  show (w.heap.modify blk (onCells (putCells id 0 (flatK enc k d))) ++ os)[i]? = _
  rw [Array.getElem?_append_left hb', Array.getElem?_modify, if_neg (Ne.symm hne)]
theorem mod_sorted (w : World) (blk n : Nat) (d : Array α) (os : Array Obj) : Mod [blk] w (sortWorldK enc k w blk 0 n d os) := by
  refine ⟨rfl, rfl, rfl, ?_, fun i hi hn => heap_sorted_ne hi (by simpa using hn) n d os⟩
  show w.heap.size ≤ (w.heap.modify blk (onCells (putCells id 0 (flatK enc k d))) ++ os).size
  simp
theorem take_putCells (F c : Array Value) (h : F.size ≤ c.size) : (putCells id 0 F c).toList.take F.size = F.toList := by
  apply List.ext_getElem?
  intro t
  rw [List.getElem?_take]
  by_cases ht : t < F.size
  · rw [if_pos ht, Array.getElem?_toList, Array.getElem?_toList]
    unfold putCells
    rw [Array.getElem?_mapIdx, Array.getElem?_eq_getElem (show t < c.size by omega), Array.getElem?_eq_getElem ht]
    simp [ht]
  · rw [if_neg ht, Array.getElem?_toList, Array.getElem?_eq_none (by omega)]
theorem OwnR.sorted {w : World} {base : Nat} {E : TypeId} {l : List α} {g cap : Nat} (hk : ∀ x, (enc x).length = k) (h : OwnR enc k E w base (.slice (some ⟨g, 0, none⟩) l.length cap) l) (n : Nat) (d : Array α) (os : Array Obj) (hd : d.size = l.length) :
    OwnR enc k E (sortWorldK enc k w g 0 n d os) base (.slice (some ⟨g, 0, none⟩) l.length cap) d.toList := by
  rcases h.2 with ⟨e, _⟩ | ⟨g', cap', cur, e, hb, hg, hn, hcm, hcs, htake⟩
  · cases e
  · simp only [Value.slice.injEq, Option.some.injEq, Addr.mk.injEq, and_true, true_and] at e
    obtain ⟨rfl, rfl⟩ := e
    have hle : (flatK enc k d).size ≤ cur.size := by rw [size_flatK, hcs, hd]; exact Nat.mul_le_mul_right _ hn
    have hdl : d.toList.length = l.length := by simp [hd]
    refine ⟨flat_length hk _, .inr ⟨g, cap, _, by rw [hdl], hb, heap_sorted hg n d os, by rw [Array.length_toList, hd]; exact hn, hcm, by simp [putCells, hcs], ?_⟩⟩
    have := take_putCells (flatK enc k d) cur hle
    rw [size_flatK] at this
    rw [Array.length_toList, this, flatK_eq hk]
/-- what the library says of a sorted row, as a list -/
theorem perm_of {l : List α} {d : Array α} (h : PermIn 0 l.toArray.size l.toArray d) : l.Perm d.toList ∧ d.size = l.length := by
  obtain ⟨h1, _, h2⟩ := h
  have hs : d.size = l.length := by simpa using h1
  refine ⟨?_, hs⟩
  have e1 : d.extract 0 l.toArray.size = d := by rw [show l.toArray.size = d.size by simp [hs]]; simp
  have e2 : l.toArray.extract 0 l.toArray.size = l.toArray := by simp
  rw [e1, e2] at h2
  exact h2.symm
theorem pairwise_of {lt : α → α → Bool} {d : Array α} (h : SortedIn lt 0 d.size d) : d.toList.Pairwise fun x y => lt y x = false := by
  rw [List.pairwise_iff_getElem]
  intro i j hi hj hij
  have := h i j (Nat.zero_le _) hij (by simpa using hj)
  rw [getElem!_pos d j (by simpa using hj), getElem!_pos d i (by simpa using hi)] at this
  simpa using this
end
end Go.Proofs.Ytngglpekdjhbdaa
