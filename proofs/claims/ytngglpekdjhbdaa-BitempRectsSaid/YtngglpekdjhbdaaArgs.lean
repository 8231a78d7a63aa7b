/- Arguments opened: slices of whatever elements, with the byte bound of each. Nothing of the dump is named here but its table. -/
import Derived.Test.YtngglpekdjhbdaaLift
import Derived.Test.YtngglpekdjhbdaaKit
import Derived.Deep.Strs
namespace Go.Proofs.Ytngglpekdjhbdaa
open Go.ChangeShapes Go.WideShapes Go.ChangeAt Go.RowKit Go.Deep
set_option linter.unusedSimpArgs false
set_option linter.unusedVariables false

section
variable {H : Type} {enc : TypeId × Value → H} {P : Program} {w : World}
/-- Each string, slice and map of a datum is within the reach. -/
def Lite (P : Program) (t : TypeId) (d : DataW H) : Prop := ∀ n ∈ d.weights P t, n ≤ reachBytes
theorem Lite.of {ts : List TypeId} {ds : List (DataW H)} (h : (DataW.weightsEach P ts ds).all (· ≤ reachBytes) = true) {j : Nat} {t : TypeId} {d : DataW H} (ht : ts[j]? = some t) (hd : ds[j]? = some d) : Lite P t d := fun n hn => by
  have := List.all_eq_true.1 h n (DataW.weights_mem_each ht hd n hn)
  simpa using this
theorem weightsAll_mem {e : TypeId} : ∀ {ds : List (DataW H)} {d : DataW H} {n : Nat}, d ∈ ds → n ∈ d.weights P e → n ∈ DataW.weightsAll P e ds
  | x :: r, d, n, hd, hn => by
    simp only [DataW.weightsAll, List.mem_append]
    rcases List.mem_cons.1 hd with rfl | hd
    · exact .inl hn
    · exact .inr (weightsAll_mem hd hn)
theorem Lite.elem {t e : TypeId} (ht : P.underlying t = some (.slice e)) {l r : List (DataW H)} (h : Lite P t (.slice l r)) {d : DataW H} (hd : d ∈ l) : Lite P e d := fun n hn => by
  refine h n ?_
  simp only [DataW.weights, ht, List.mem_cons, List.mem_append]
  exact .inr (.inl (weightsAll_mem hd hn))
theorem Lite.len {t e : TypeId} (ht : P.underlying t = some (.slice e)) {l r : List (DataW H)} (h : Lite P t (.slice l r)) : (l.length + r.length) * P.bytesOf e ≤ reachBytes := by
  refine h _ ?_
  simp [DataW.weights, ht]
theorem Lite.field {t : TypeId} {fs : Array Field} (ht : P.underlying t = some (.struct fs)) {l : List (DataW H)} (h : Lite P t (.agg l)) {j : Nat} {f : Field} {d : DataW H} (hf : fs[j]? = some f) (hd : l[j]? = some d) : Lite P f.type d := fun n hn => by
  refine h n ?_
  simp only [DataW.weights, ht]
  exact DataW.weights_mem_each (by simp [hf]) hd n hn
theorem Lite.str {t : TypeId} {bs : List UInt8} (h : Lite P t (.lit (.string bs) : DataW H)) : bs.length ≤ reachBytes := h _ (by simp [DataW.weights])
theorem range_of_cells {base : Nat} {a : Addr} {n : Nat} {cs : List Value} (h : w.cells? base a n = some cs) (hn : 0 < n) : ∃ b o, a = ⟨b, o, none⟩ ∧ w.rangeAt b o cs ∧ cs.length = n := by
  obtain ⟨_, hl, hc⟩ := World.cells?_some h
  obtain ⟨b, o, sp⟩ := a
  have h0 := hc 0 hn
  have e0 : (⟨b, o, sp⟩ : Addr).add 0 = ⟨b, o, sp⟩ := rfl
  rw [e0] at h0
  have hsp : sp = none := by
    cases sp with
    | none => rfl
    | some s =>
      simp only [World.cell?] at h0
      have : cs[0]? ≠ none := by rw [List.getElem?_eq_getElem (by omega)]; simp
      split at h0 <;> first | exact absurd h0.symm this | simp_all
  subst hsp
  refine ⟨b, o, rfl, fun j v hj => ?_, hl⟩
  have hjn := (List.getElem?_eq_some_iff.1 hj).1
  have := hc j (by omega)
  rw [Addr.add_mid] at this
  rw [this, hj]
/-- A slice, opened: each element's cells, and what it reads as. -/
theorem slice_cells {t e : TypeId} (ht : P.underlying t = some (.slice e)) (hc : 0 < P.cellsOf e) {fuel : Nat} {cs : List Value} {d : DataW H} {ps : List MemPlace} (h : DataW.trod enc P w 0 (fun _ => true) true fuel t cs = some (d, ps)) (hw : Lite P t d) :
    ∃ (a : Option Addr) (len cap : Nat) (n : Nat), cs = [.slice a len cap] ∧ len ≤ cap ∧ cap ≤ maxLen ∧ cap * P.bytesOf e ≤ reachBytes ∧ (a = none → len = 0 ∧ cap = 0) ∧
      ∀ i, i < cap → ∃ b o xs di pl, a = some ⟨b, o, none⟩ ∧ w.rangeAt b (o + i * P.cellsOf e) xs ∧ xs.length = P.cellsOf e ∧ DataW.trod enc P w 0 (fun _ => true) true n e xs = some (di, pl) ∧ (i < len → Lite P e di) := by
  rcases open_slice ht h with ⟨rfl, h2⟩ | ⟨a, len, cap, m, n, D, Pl, rfl, _, hl, hm, hmm, hx, hi⟩
  · exact ⟨none, 0, 0, 0, rfl, Nat.le_refl _, Nat.zero_le _, by omega, fun _ => ⟨rfl, rfl⟩, fun i hi => by omega⟩
  · simp only [if_true] at hmm
    subst hmm
    obtain ⟨rfl, rfl⟩ := Prod.mk.inj hx
    refine ⟨some a, len, m, n, rfl, hl, hm, ?_, fun h => (by cases h), fun i hlt => ?_⟩
    · have := hw.len ht
      simpa [show len + (m - len) = m by omega] using this
    · obtain ⟨xs, h1, h2⟩ := hi i hlt
      obtain ⟨b, o, ha, hr, hl'⟩ := range_of_cells h1 hc
      obtain ⟨xs0, h10, _⟩ := hi 0 (by omega)
      obtain ⟨b0, o0, ha0, _, _⟩ := range_of_cells h10 hc
      rw [Nat.zero_mul] at ha0
      have ha00 : a = ⟨b0, o0, none⟩ := ha0
      subst ha00
      rw [Addr.add_mid] at ha
      simp only [Addr.mk.injEq] at ha
      obtain ⟨rfl, rfl, _⟩ := ha
      exact ⟨b0, o0, xs, D i, Pl i, rfl, hr, hl', h2, fun hil => hw.elem ht (List.mem_map.2 ⟨i, List.mem_range.2 hil, rfl⟩)⟩
/-- .. of ints. -/
theorem ints_cells {t e : TypeId} {k : IntKind} (ht : P.underlying t = some (.slice e)) (he : P.underlying e = some (.int k)) (hc : P.cellsOf e = 1) {fuel : Nat} {cs : List Value} {d : DataW H} {ps : List MemPlace} (h : DataW.trod enc P w 0 (fun _ => true) true fuel t cs = some (d, ps)) (hw : Lite P t d) :
    ∃ (a : Option Addr) (l : List Int) (cap : Nat), cs = [.slice a l.length cap] ∧ l.length ≤ cap ∧ cap ≤ maxLen ∧ cap * P.bytesOf e ≤ reachBytes ∧ (∀ n ∈ l, (Lit.int k n).wf = true) ∧ (l = [] ∨ ∃ b o, a = some ⟨b, o, none⟩ ∧ w.rangeAt b o (l.map (Value.int k))) := by
  obtain ⟨a, len, cap, n, rfl, hl, hm, hb, h0, hi⟩ := slice_cells ht (by omega) h hw
  rw [hc] at hi
  have each : ∀ i, i < len → ∃ z : Int, (Lit.int k z).wf = true ∧ ∃ b o, a = some ⟨b, o, none⟩ ∧ w.cell? ⟨b, o + i, none⟩ = some (.int k z) := fun i hlt => by
    obtain ⟨b, o, xs, di, pl, ha, hr, hlen, htr, _⟩ := hi i (by omega)
    obtain ⟨z, rfl, _, hz⟩ := DataW.trod_int he htr
    refine ⟨z, hz, b, o, ha, ?_⟩
    have := hr 0 _ rfl
    simpa using this
  obtain ⟨Z, hZ⟩ := choose_lt each
  refine ⟨a, (List.range len).map Z, cap, by simp, by simpa using hl, hm, hb, ?_, ?_⟩
  · intro n hn
    obtain ⟨i, hi, rfl⟩ := List.mem_map.1 hn
    exact (hZ i (List.mem_range.1 hi)).1
  · by_cases h0 : len = 0
    · subst h0; exact .inl rfl
    · right
      obtain ⟨_, b, o, ha, _⟩ := hZ 0 (by omega)
      refine ⟨b, o, ha, fun j v hj => ?_⟩
      have hjl := (List.getElem?_eq_some_iff.1 hj).1
      simp at hjl
      obtain ⟨_, b', o', ha', hc'⟩ := hZ j hjl
      rw [ha] at ha'
      simp at ha'
      obtain ⟨rfl, rfl⟩ := ha'
      rw [hc', ← hj]
      simp [hjl]
end
theorem i64_le {n : Int} (h : (Lit.int .i64 n).wf = true) : -9223372036854775808 ≤ n ∧ n ≤ 9223372036854775807 := bounds_i64 h
end Go.Proofs.Ytngglpekdjhbdaa
