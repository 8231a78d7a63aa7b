/- Arguments opened: slices of whatever elements, as rows. -/
import Derived.Test.YtngglpekdjhbdaaGreatWzA
import Derived.Test.YtngglpekdjhbdaaGreatWzB
import Derived.Deep.Strs
import Derived.Deep.AppendSrc
import Derived.OwnWalk
import Derived.Deep.MidRow
namespace Go.Proofs.YtngglpekdjhbdaaGreat
open Go.ChangeShapes Go.WideShapes Go.ChangeAt Go.RowKit Go.Deep
set_option linter.unusedSimpArgs false
set_option linter.unusedVariables false

section
variable {H : Type} {enc : TypeId × Value → H} {P : Program} {w : World}
/-- Each string, slice and map of a datum is within the reach. -/
def Lite (P : Program) (t : TypeId) (d : DataW H) : Prop := ∀ n ∈ d.weights P t, n ≤ reachBytes
theorem Lite.of {ts : List TypeId} {ds : List (DataW H)} (h : (DataW.weightsEach P ts ds).all (· ≤ reachBytes) = true) {j : Nat} {t : TypeId} {d : DataW H} (ht : ts[j]? = some t) (hd : ds[j]? = some d) : Lite P t d := fun n hn => by
  have := List.all_eq_true.1 h n (DataW.weights_mem_each ht hd n hn)
  simpa using this
theorem weightsAll_mem {e : TypeId} : ∀ {ds : List (DataW H)} {d : DataW H} {n : Nat}, d ∈ ds → n ∈ d.weights P e → n ∈ DataW.weightsAll P e ds
  | x :: r, d, n, hd, hn => by
    simp only [DataW.weightsAll, List.mem_append]
    rcases List.mem_cons.1 hd with rfl | hd
    · exact .inl hn
    · exact .inr (weightsAll_mem hd hn)
theorem Lite.elem {t e : TypeId} (ht : P.underlying t = some (.slice e)) {l r : List (DataW H)} (h : Lite P t (.slice l r)) {d : DataW H} (hd : d ∈ l) : Lite P e d := fun n hn => by
  refine h n ?_
  simp only [DataW.weights, ht, List.mem_cons, List.mem_append]
  exact .inr (.inl (weightsAll_mem hd hn))
theorem Lite.len {t e : TypeId} (ht : P.underlying t = some (.slice e)) {l r : List (DataW H)} (h : Lite P t (.slice l r)) : (l.length + r.length) * P.bytesOf e ≤ reachBytes := by
  refine h _ ?_
  simp [DataW.weights, ht]
theorem Lite.field {t : TypeId} {fs : Array Field} (ht : P.underlying t = some (.struct fs)) {l : List (DataW H)} (h : Lite P t (.agg l)) {j : Nat} {f : Field} {d : DataW H} (hf : fs[j]? = some f) (hd : l[j]? = some d) : Lite P f.type d := fun n hn => by
  refine h n ?_
  simp only [DataW.weights, ht]
  exact DataW.weights_mem_each (by simp [hf]) hd n hn
theorem Lite.str {t : TypeId} {bs : List UInt8} (h : Lite P t (.lit (.string bs) : DataW H)) : bs.length ≤ reachBytes := h _ (by simp [DataW.weights])
theorem range_of_cells {base : Nat} {a : Addr} {n : Nat} {cs : List Value} (h : w.cells? base a n = some cs) (hn : 0 < n) : ∃ b o, a = ⟨b, o, none⟩ ∧ w.rangeAt b o cs ∧ cs.length = n := by
  obtain ⟨_, hl, hc⟩ := World.cells?_some h
  obtain ⟨b, o, sp⟩ := a
  have h0 := hc 0 hn
  have e0 : (⟨b, o, sp⟩ : Addr).add 0 = ⟨b, o, sp⟩ := rfl
  rw [e0] at h0
  have hsp : sp = none := by
    cases sp with
    | none => rfl
    | some s =>
      simp only [World.cell?] at h0
      have : cs[0]? ≠ none := by rw [List.getElem?_eq_getElem (by omega)]; simp
      split at h0 <;> first | exact absurd h0.symm this | simp_all
  subst hsp
  refine ⟨b, o, rfl, fun j v hj => ?_, hl⟩
  have hjn := (List.getElem?_eq_some_iff.1 hj).1
  have := hc j (by omega)
  rw [Addr.add_mid] at this
  rw [this, hj]
/-- A slice, opened: each element's cells, and what it reads as. -/
theorem slice_cells {t e : TypeId} (ht : P.underlying t = some (.slice e)) (hc : 0 < P.cellsOf e) {fuel : Nat} {cs : List Value} {d : DataW H} {ps : List MemPlace} (h : DataW.trod enc P w 0 (fun _ => true) true fuel t cs = some (d, ps)) (hw : Lite P t d) :
    ∃ (a : Option Addr) (len cap : Nat) (n : Nat), cs = [.slice a len cap] ∧ len ≤ cap ∧ cap ≤ maxLen ∧ cap * P.bytesOf e ≤ reachBytes ∧ (a = none → len = 0 ∧ cap = 0) ∧
      ∀ i, i < cap → ∃ b o xs di pl, a = some ⟨b, o, none⟩ ∧ w.rangeAt b (o + i * P.cellsOf e) xs ∧ xs.length = P.cellsOf e ∧ DataW.trod enc P w 0 (fun _ => true) true n e xs = some (di, pl) ∧ (i < len → Lite P e di) := by
  rcases open_slice ht h with ⟨rfl, h2⟩ | ⟨a, len, cap, m, n, D, Pl, rfl, _, hl, hm, hmm, hx, hi⟩
  · exact ⟨none, 0, 0, 0, rfl, Nat.le_refl _, Nat.zero_le _, by omega, fun _ => ⟨rfl, rfl⟩, fun i hi => by omega⟩
  · simp only [if_true] at hmm
    subst hmm
    obtain ⟨rfl, rfl⟩ := Prod.mk.inj hx
    refine ⟨some a, len, m, n, rfl, hl, hm, ?_, fun h => (by cases h), fun i hlt => ?_⟩
    · have := hw.len ht
      simpa [show len + (m - len) = m by omega] using this
    · obtain ⟨xs, h1, h2⟩ := hi i hlt
      obtain ⟨b, o, ha, hr, hl'⟩ := range_of_cells h1 hc
      obtain ⟨xs0, h10, _⟩ := hi 0 (by omega)
      obtain ⟨b0, o0, ha0, _, _⟩ := range_of_cells h10 hc
      rw [Nat.zero_mul] at ha0
      have ha00 : a = ⟨b0, o0, none⟩ := ha0
      subst ha00
      rw [Addr.add_mid] at ha
      simp only [Addr.mk.injEq] at ha
      obtain ⟨rfl, rfl, _⟩ := ha
      exact ⟨b0, o0, xs, D i, Pl i, rfl, hr, hl', h2, fun hil => hw.elem ht (List.mem_map.2 ⟨i, List.mem_range.2 hil, rfl⟩)⟩
/-- .. of ints. -/
theorem ints_cells {t e : TypeId} {k : IntKind} (ht : P.underlying t = some (.slice e)) (he : P.underlying e = some (.int k)) (hc : P.cellsOf e = 1) {fuel : Nat} {cs : List Value} {d : DataW H} {ps : List MemPlace} (h : DataW.trod enc P w 0 (fun _ => true) true fuel t cs = some (d, ps)) (hw : Lite P t d) :
    ∃ (a : Option Addr) (l : List Int) (cap : Nat), cs = [.slice a l.length cap] ∧ l.length ≤ cap ∧ cap ≤ maxLen ∧ cap * P.bytesOf e ≤ reachBytes ∧ (∀ n ∈ l, (Lit.int k n).wf = true) ∧ (l = [] ∨ ∃ b o, a = some ⟨b, o, none⟩ ∧ w.rangeAt b o (l.map (Value.int k))) := by
  obtain ⟨a, len, cap, n, rfl, hl, hm, hb, h0, hi⟩ := slice_cells ht (by omega) h hw
  rw [hc] at hi
  have each : ∀ i, i < len → ∃ z : Int, (Lit.int k z).wf = true ∧ ∃ b o, a = some ⟨b, o, none⟩ ∧ w.cell? ⟨b, o + i, none⟩ = some (.int k z) := fun i hlt => by
    obtain ⟨b, o, xs, di, pl, ha, hr, hlen, htr, _⟩ := hi i (by omega)
    obtain ⟨z, rfl, _, hz⟩ := DataW.trod_int he htr
    refine ⟨z, hz, b, o, ha, ?_⟩
    have := hr 0 _ rfl
    simpa using this
  obtain ⟨Z, hZ⟩ := choose_lt each
  refine ⟨a, (List.range len).map Z, cap, by simp, by simpa using hl, hm, hb, ?_, ?_⟩
  · intro n hn
    obtain ⟨i, hi, rfl⟩ := List.mem_map.1 hn
    exact (hZ i (List.mem_range.1 hi)).1
  · by_cases h0 : len = 0
    · subst h0; exact .inl rfl
    · right
      obtain ⟨_, b, o, ha, _⟩ := hZ 0 (by omega)
      refine ⟨b, o, ha, fun j v hj => ?_⟩
      have hjl := (List.getElem?_eq_some_iff.1 hj).1
      simp at hjl
      obtain ⟨_, b', o', ha', hc'⟩ := hZ j hjl
      rw [ha] at ha'
      simp at ha'
      obtain ⟨rfl, rfl⟩ := ha'
      rw [hc', ← hj]
      simp [hjl]
end
theorem i64_le {n : Int} (h : (Lit.int .i64 n).wf = true) : -9223372036854775808 ≤ n ∧ n ≤ 9223372036854775807 := bounds_i64 h
end Go.Proofs.YtngglpekdjhbdaaGreat
namespace Go.Proofs.YtngglpekdjhbdaaGreat
open Go.RowKit
set_option linter.unusedSimpArgs false
set_option linter.unusedVariables false

/-- The block in which a slice begins, if it is of the call's own. -/
def blk (v : Value) : List Nat := v.ownBlock.toList
/-- v' has grown out of v. -/
structure Grew (w : World) (v : Value) (w' : World) (v' : Value) : Prop where
  mod : Mod (blk v) w w'
  heir : v'.ownBlock = v.ownBlock ∨ ∀ k, v'.ownBlock = some k → w.heap.size ≤ k
theorem mem_blk {v : Value} {k : Nat} : k ∈ blk v ↔ v.ownBlock = some k := by
  unfold blk
  cases v.ownBlock <;> simp [eq_comm]
theorem Grew.refl (w : World) (v : Value) : Grew w v w v := ⟨Mod.refl _ _, .inl rfl⟩
theorem Grew.trans {w w1 w2 : World} {v v1 v2 : Value} (h : Grew w v w1 v1) (k : Grew w1 v1 w2 v2) : Grew w v w2 v2 := by
  have hs := h.mod.size
  refine ⟨⟨k.mod.os.trans h.mod.os, k.mod.tape.trans h.mod.tape, k.mod.output.trans h.mod.output, Nat.le_trans hs k.mod.size, fun b hb hn => ?_⟩, ?_⟩
  · refine (k.mod.block b (by omega) fun hm => ?_).trans (h.mod.block b hb hn)
    rw [mem_blk] at hm
    rcases h.heir with e | e
    · exact hn (mem_blk.2 (e ▸ hm))
    · have := e b hm; omega
  · rcases k.heir with e | e
    · rcases h.heir with e' | e'
      · exact .inl (e.trans e')
      · exact .inr fun b hb => e' b (e ▸ hb)
    · exact .inr fun b hb => by have := e b hb; omega
theorem Grew.step {w w1 w2 : World} {v v1 : Value} (h : Grew w v w1 v1) (k : Mod [] w1 w2) : Grew w v w2 v1 := h.trans ⟨k.nil, .inl rfl⟩
theorem Grew.of {w w1 : World} (v : Value) (k : Mod [] w w1) : Grew w v w1 v := ⟨k.nil, .inl rfl⟩
theorem ownsRow_kept {w w' : World} {base : Nat} {e : TypeId} {size : Nat} {v : Value} {n : Nat} {xs : List Value} {l : List Nat} (h : w.ownsRow base e size v n xs) (hm : Mod l w w') (hn : ∀ k, v.ownBlock = some k → k ∉ l) : w'.ownsRow base e size v n xs := by
  obtain ⟨h1, h2⟩ := h
  refine ⟨h1, h2.imp id ?_⟩
  rintro ⟨g, cap, cur, rfl, hb, hg, hr⟩
  exact ⟨g, cap, cur, rfl, hb, hm.heap hg (hn g rfl), hr⟩
theorem ownsRow_kept0 {w w' : World} {base : Nat} {e : TypeId} {size : Nat} {v : Value} {n : Nat} {xs : List Value} (h : w.ownsRow base e size v n xs) (hm : Mod [] w w') : w'.ownsRow base e size v n xs := ownsRow_kept h hm (by simp)
/-- What grew out of a slice of the call's own turned nothing that was there when the call began. -/
theorem Grew.intoNil {w0 w w' : World} {base : Nat} {e : TypeId} {size : Nat} {v v' : Value} {n : Nat} {xs : List Value} (h : Grew w v w' v') (hown : w.ownsRow base e size v n xs) (hb : w0.heap.size ≤ base) (h0 : Mod [] w0 w) : Mod [] w0 w' :=
  ⟨h.mod.os.trans h0.os, h.mod.tape.trans h0.tape, h.mod.output.trans h0.output, Nat.le_trans h0.size h.mod.size, fun k hk _ =>
    (h.mod.block k (Nat.lt_of_lt_of_le hk h0.size) (fun hm => by have := (hown.lt k (mem_blk.1 hm)).1; omega)).trans (h0.block k hk (by simp))⟩
section
variable {P : Program} {w : World}
theorem append_own (base : Nat) (t tx ty e : TypeId) (i : TypeInfo) (z : Value) (size bytes : Nat) (ht : P.underlying t = some (.slice e)) (hi : P.info? e = some i) (hz : i.zero = some z)
    (hsize : i.size = size) (hby : i.bytes = bytes) (hzs : z.cells.size = size) (hsz : 0 < size)
    {v : Value} {n : Nat} {xs : List Value} (hown : w.ownsRow base e size v n xs) {x : Value} {m : Nat} {news : List Value} (hs : Src P size tx x m news w)
    (h63 : n + m ≤ maxLen) (hbytes : (n + m) * bytes ≤ 140737488355328) (hbase : base ≤ w.heap.size) :
    ∃ v' w', (Builtin.append_ #[t, tx] ty #[v, x]).run P w = .ok v' w' ∧ w'.ownsRow base e size v' (n + m) (xs ++ news) ∧ Grew w v w' v' := by
  subst hsize
  subst hby
  have hsmall : n + m ≤ 9223372036854775807 := by simp only [maxLen] at h63; omega
  have hl := hs.newsLen
  have hlen : (xs ++ news).length = (n + m) * i.size := by rw [List.length_append, hown.1, hl, Nat.add_mul]
  have grown : ∀ (old : Nat), old < n + m →
      (w.drew.alloc (.cells ((xs ++ news).toArray ++ Builtin.zeroCells z.cells (grownCap w (n + m) old e - (n + m))) e)).ownsRow base e i.size
        (.slice (some ⟨w.heap.size, 0, none⟩) (n + m) (grownCap w (n + m) old e)) (n + m) (xs ++ news) ∧
      Grew w v (w.drew.alloc (.cells ((xs ++ news).toArray ++ Builtin.zeroCells z.cells (grownCap w (n + m) old e - (n + m))) e)) (.slice (some ⟨w.heap.size, 0, none⟩) (n + m) (grownCap w (n + m) old e)) := by
    intro old ho
    have hge := grownCap_ge w (n + m) old e
    have hcm : grownCap w (n + m) old e ≤ maxLen := grownCap_le_maxLen w (n + m) old e h63
    refine ⟨⟨hlen, .inr ⟨w.heap.size, _, _, rfl, hbase, heap_alloc_new w.drew _, hge, hcm, ?_, ?_⟩⟩, ⟨((Mod.refl _ w).drew).alloc _, .inr fun k hk => by simp [Value.ownBlock] at hk; omega⟩⟩
    · simp only [Array.size_append, List.size_toArray, size_zeroCells, hzs, hlen, ← Nat.add_mul]
      congr 1
      omega
    · simp only [Array.toList_append]
      rw [← hlen]
      exact List.take_left
  rcases hown.2 with ⟨rfl, rfl⟩ | ⟨g, cap, cur, rfl, hbg, hg, hnc, hcm, hcs, htake⟩
  · have hx : xs = [] := List.eq_nil_of_length_eq_zero (by simpa using hown.1)
    subst hx
    by_cases hm : m = 0
    · subst hm
      have hn : news = [] := List.eq_nil_of_length_eq_zero (by simpa using hl)
      subst hn
      refine ⟨.slice none 0 0, w, ?_, World.ownsRow_nil w base e i.size, Grew.refl _ _⟩
      rcases hs.kind with ⟨e', hk⟩ | hk <;>
        simp [Builtin.append_, run_underlying ht, run_underlying hk, sizeOf, typeInfo, hi, hs.len, hs.cells, storeCells]
    · have hold : (Builtin.firstCells i.size 0 (.slice none 0 0)).run P w.drew = .ok (#[] : Array Value) w.drew := run_firstCells_none w.drew i.size 0 0 0
      have hr := run_append_grow_src (P := P) w t tx ty e i z ht hi hz none 0 0 [] (by simpa using hold) x m news hs (by omega) (by omega) (growslice_fits (by omega) (by simpa using hbytes))
      have hgr := grown 0 (by omega)
      simp only [Nat.zero_add, List.nil_append] at hgr hr ⊢
      exact ⟨_, _, hr, hgr.1, hgr.2⟩
  · by_cases hroom : n + m ≤ cap
    · have hfit : n * i.size + news.length ≤ cur.size := by rw [hl, hcs, ← Nat.add_mul]; exact Nat.mul_le_mul_right _ hroom
      have hth := there_blk hg (n * i.size) news.length hfit
      have hr := run_append_room_src (P := P) w t tx ty e i ht hi g 0 n cap x m news hs hroom (fun j hj => by rw [Nat.zero_add]; exact (hth j hj).1) (fun j hj => by rw [Nat.zero_add]; exact (hth j hj).2)
      have hcur : cur = (cur.toList.take (n * i.size) ++ ((cur.toList.drop (n * i.size)).take news.length ++ (cur.toList.drop (n * i.size)).drop news.length)).toArray := by
        rw [List.take_append_drop, List.take_append_drop]
      have hset := heap_setCells_blk g news (n * i.size) w hg
      have hmid := setRange_mid (cur.toList.take (n * i.size)) news ((cur.toList.drop (n * i.size)).take news.length) ((cur.toList.drop (n * i.size)).drop news.length) (by
        simp only [List.length_take, List.length_drop, Array.length_toList]
        omega)
      have hle : n * i.size ≤ cur.toList.length := by rw [Array.length_toList]; omega
      rw [List.length_take, Nat.min_eq_left hle, List.take_append_drop, List.take_append_drop] at hmid
      rw [hmid] at hset
      simp only [Nat.zero_add] at hr
      refine ⟨_, _, hr, ⟨hlen, .inr ⟨g, cap, _, rfl, hbg, hset, hroom, hcm, ?_, ?_⟩⟩, ⟨(Mod.refl _ w).setCells (by simp [blk, Value.ownBlock]) _ _, .inl rfl⟩⟩
      · simp only [List.size_toArray, List.length_append, List.length_take, List.length_drop, Array.length_toList]
        omega
      · rw [htake, ← hlen, ← List.append_assoc]
        exact List.take_left
    · have holds : ∀ j u, xs[j]? = some u → w.cell? ((⟨g, 0, none⟩ : Addr).add j) = some u := hown.cells (g := g) rfl
      have hold := run_firstCells_some (P := P) w.drew i.size n ⟨g, 0, none⟩ n cap xs hown.1 (by simpa using holds)
      have hr := run_append_grow_src (P := P) w t tx ty e i z ht hi hz (some ⟨g, 0, none⟩) n cap xs hold x m news hs (by omega) (by omega) (growslice_fits (by omega) hbytes)
      have hgr := grown cap (by omega)
      exact ⟨_, _, hr, hgr.1, hgr.2⟩
end
end Go.Proofs.YtngglpekdjhbdaaGreat
namespace Go.Proofs.YtngglpekdjhbdaaGreat
open Go.RowKit
set_option linter.unusedSimpArgs false
set_option linter.unusedVariables false

section
variable {α : Type} (enc : α → List Value)
def flat (l : List α) : List Value := l.flatMap enc
/-- A slice that reads as a list. -/
inductive RowAt (w : World) : Value → List α → Prop
  | nil (a : Option Addr) (cap : Nat) : RowAt w (.slice a 0 cap) []
  | at_ (b o cap : Nat) (l : List α) : l.length ≤ cap → w.rangeAt b o (flat enc l) → RowAt w (.slice (some ⟨b, o, none⟩) l.length cap) l
/-- A slice of the call's own. -/
def OwnR (k : Nat) (E : TypeId) (w : World) (base : Nat) (v : Value) (l : List α) : Prop := w.ownsRow base E k v l.length (flat enc l)
end
section
variable {α : Type} {enc : α → List Value} {k : Nat} {w w' : World} {v : Value} {l : List α}
theorem flat_nil : flat enc [] = [] := rfl
theorem flat_cons (x : α) (l : List α) : flat enc (x :: l) = enc x ++ flat enc l := rfl
theorem flat_append (a b : List α) : flat enc (a ++ b) = flat enc a ++ flat enc b := by simp [flat]
theorem flat_one (x : α) : flat enc [x] = enc x := by simp [flat]
theorem flat_length (hk : ∀ x, (enc x).length = k) (l : List α) : (flat enc l).length = l.length * k := by
  induction l with
  | nil => simp [flat]
  | cons x l ih => rw [flat_cons, List.length_append, ih, hk, List.length_cons, Nat.add_mul]; omega
theorem flat_get (hk : ∀ x, (enc x).length = k) : ∀ (l : List α) (i j : Nat) (hi : i < l.length) (hj : j < k), (flat enc l)[i * k + j]? = (enc l[i])[j]?
  | x :: l, 0, j, _, hj => by
    rw [flat_cons, Nat.zero_mul, Nat.zero_add, List.getElem?_append_left (by rw [hk]; exact hj)]
    rfl
  | x :: l, i + 1, j, hi, hj => by
    rw [flat_cons, List.getElem?_append_right (by rw [hk, Nat.add_mul]; omega), hk, show (i + 1) * k + j - k = i * k + j by rw [Nat.add_mul]; omega, flat_get hk l i j (by simpa using hi) hj]
    rfl
theorem flat_take (hk : ∀ x, (enc x).length = k) : ∀ (l : List α) (n : Nat), flat enc (l.take n) = (flat enc l).take (n * k)
  | [], n => by simp [flat]
  | x :: l, 0 => by simp [flat]
  | x :: l, n + 1 => by
    have e : ((flat enc (x :: l)).take ((n + 1) * k)) = enc x ++ (flat enc l).take (n * k) := by
      rw [flat_cons, show (n + 1) * k = (enc x).length + n * k by rw [hk, Nat.add_mul]; omega, List.take_length_add_append]
    rw [List.take_succ_cons, flat_cons, flat_take hk l n, e]
theorem flat_drop (hk : ∀ x, (enc x).length = k) : ∀ (l : List α) (n : Nat), flat enc (l.drop n) = (flat enc l).drop (n * k)
  | [], n => by simp [flat]
  | x :: l, 0 => by simp
  | x :: l, n + 1 => by
    have e : ((flat enc (x :: l)).drop ((n + 1) * k)) = (flat enc l).drop (n * k) := by
      rw [flat_cons, show (n + 1) * k = (enc x).length + n * k by rw [hk, Nat.add_mul]; omega, List.drop_length_add_append]
    rw [List.drop_succ_cons, flat_drop hk l n, e]
theorem flat_set (hk : ∀ x, (enc x).length = k) : ∀ (l : List α) (i j : Nat) (hi : i < l.length) (hj : j < k) (u : Value) (y : α), enc y = (enc l[i]).set j u → (flat enc l).set (i * k + j) u = flat enc (l.set i y)
  | x :: l, 0, j, _, hj, u, y, hy => by
    rw [flat_cons, Nat.zero_mul, Nat.zero_add, List.set_append_left _ _ (by rw [hk]; exact hj), List.set_cons_zero, flat_cons, hy]
    rfl
  | x :: l, i + 1, j, hi, hj, u, y, hy => by
    rw [flat_cons, List.set_append_right _ _ (by rw [hk, Nat.add_mul]; omega), hk, show (i + 1) * k + j - k = i * k + j by rw [Nat.add_mul]; omega, List.set_cons_succ, flat_cons, flat_set hk l i j (by simpa using hi) hj u y (by simpa using hy)]
theorem RowAt.form (h : RowAt enc w v l) : ∃ a cap, v = .slice a l.length cap := by
  cases h with
  | nil a cap => exact ⟨a, cap, rfl⟩
  | at_ b o cap l hc h => exact ⟨_, cap, rfl⟩
theorem rangeAt_kept {b o : Nat} {xs : List Value} (h : w.rangeAt b o xs) {ks : List Nat} (hm : Mod ks w w') (hn : b ∉ ks) : w'.rangeAt b o xs := by
  intro j v hj
  have hc := h j v hj
  have hb : b < w.heap.size := by
    apply Classical.byContradiction
    intro hge
    simp only [World.cell?] at hc
    rw [Array.getElem?_eq_none (by omega)] at hc
    cases hc
  rw [← hc]
  exact World.cell?_of_block (hm.block b hb hn)
theorem RowAt.kept {ks : List Nat} (h : RowAt enc w v l) (hm : Mod ks w w') (hn : ∀ b ∈ ks, v.ownBlock ≠ some b) : RowAt enc w' v l := by
  cases h with
  | nil a cap => exact .nil a cap
  | at_ b o cap l hc h => exact .at_ b o cap l hc (rangeAt_kept h hm fun hb => hn b hb rfl)
theorem RowAt.kept0 (h : RowAt enc w v l) (hm : Mod [] w w') : RowAt enc w' v l := h.kept hm (by simp)
theorem RowAt.get (hk : ∀ x, (enc x).length = k) {a : Option Addr} {c : Nat} (h : RowAt enc w (.slice a l.length c) l) {i : Nat} (hi : i < l.length) :
    ∃ b o, a = some ⟨b, o, none⟩ ∧ l.length ≤ c ∧ ∀ j u, j < k → (enc l[i])[j]? = some u → w.cell? ⟨b, o + (i * k + j), none⟩ = some u := by
  generalize hv : Value.slice a l.length c = v at h
  cases h with
  | nil a cap => simp at hi
  | at_ b o cap l hc h =>
    simp only [Value.slice.injEq, true_and] at hv
    obtain ⟨rfl, rfl⟩ := hv
    exact ⟨b, o, rfl, hc, fun j u hj hu => h _ u (by rw [flat_get hk l i j hi hj]; exact hu)⟩
theorem RowAt.range {a : Option Addr} {c : Nat} (h : RowAt enc w (.slice a l.length c) l) (h0 : l ≠ []) : ∃ b o, a = some ⟨b, o, none⟩ ∧ l.length ≤ c ∧ w.rangeAt b o (flat enc l) := by
  generalize hv : Value.slice a l.length c = v at h
  cases h with
  | nil a cap => exact absurd rfl h0
  | at_ b o cap l hc h =>
    simp only [Value.slice.injEq, true_and] at hv
    obtain ⟨rfl, rfl⟩ := hv
    exact ⟨b, o, rfl, hc, h⟩
theorem rangeAt_take {b o : Nat} {xs : List Value} (h : w.rangeAt b o xs) (n : Nat) : w.rangeAt b o (xs.take n) := fun j v hj => h j v (by
  rw [List.getElem?_take] at hj
  split at hj
  · exact hj
  · cases hj)
theorem rangeAt_drop {b o : Nat} {xs : List Value} (h : w.rangeAt b o xs) (n : Nat) : w.rangeAt b (o + n) (xs.drop n) := fun j v hj => by
  rw [List.getElem?_drop] at hj
  have := h (n + j) v hj
  rwa [← Nat.add_assoc] at this
theorem RowAt.take (hk : ∀ x, (enc x).length = k) {a : Option Addr} {c : Nat} (h : RowAt enc w (.slice a l.length c) l) (n : Nat) (hn : n ≤ l.length) : RowAt enc w (.slice a n c) (l.take n) := by
  by_cases h0 : n = 0
  · subst h0; exact .nil a c
  · obtain ⟨b, o, rfl, hc, hr⟩ := h.range (by intro e; subst e; simp at hn; omega)
    have := RowAt.at_ (enc := enc) (w := w) b o c (l.take n) (by rw [List.length_take]; omega) (by rw [flat_take hk]; exact rangeAt_take hr _)
    rwa [List.length_take, Nat.min_eq_left hn] at this
/-- s[n:], where something is left -/
theorem RowAt.drop (hk : ∀ x, (enc x).length = k) {b o : Nat} {c : Nat} (h : RowAt enc w (.slice (some ⟨b, o, none⟩) l.length c) l) (n : Nat) (hn : n < l.length) : RowAt enc w (.slice (some ⟨b, o + n * k, none⟩) (l.length - n) (c - n)) (l.drop n) := by
  obtain ⟨b', o', e, hc, hr⟩ := h.range (by intro e; subst e; simp at hn)
  simp only [Option.some.injEq, Addr.mk.injEq, and_true] at e
  obtain ⟨rfl, rfl⟩ := e
  have := RowAt.at_ (enc := enc) (w := w) b (o + n * k) (c - n) (l.drop n) (by rw [List.length_drop]; omega) (by rw [flat_drop hk]; exact rangeAt_drop hr _)
  rwa [List.length_drop] at this
theorem RowAt.nil' {v : Value} (h : RowAt enc w v l) (h0 : l.length = 0) (w2 : World) : RowAt enc w2 v l := by
  have : l = [] := List.eq_nil_of_length_eq_zero h0
  subst this
  cases h with
  | nil a cap => exact .nil a cap
  | at_ b o cap _ hc h => exact .at_ b o cap [] hc (by intro j v hj; simp [flat] at hj)
/-! ### the call's own -/
variable {E : TypeId} {base : Nat}
theorem OwnR.nil_ (w : World) (base : Nat) : OwnR enc k E w base (.slice none 0 0) [] := World.ownsRow_nil _ _ _ _
theorem OwnR.row (h : OwnR enc k E w base v l) : RowAt enc w v l := by
  rcases h.2 with ⟨rfl, h0⟩ | ⟨g, cap, cur, rfl, hb, hg, hn, hcm, hcs, htake⟩
  · have : l = [] := List.eq_nil_of_length_eq_zero h0
    subst this
    exact .nil _ _
  · refine .at_ g 0 cap l hn fun j v hj => ?_
    rw [Nat.zero_add, cell_blk hg]
    rw [← htake, List.getElem?_take] at hj
    split at hj
    · rw [← hj]; simp
    · cases hj
theorem OwnR.form (h : OwnR enc k E w base v l) : v = .slice none 0 0 ∧ l = [] ∨ ∃ g cap, v = .slice (some ⟨g, 0, none⟩) l.length cap ∧ base ≤ g ∧ g < w.heap.size ∧ l.length ≤ cap := by
  rcases h.2 with ⟨rfl, h0⟩ | ⟨g, cap, cur, rfl, hb, hg, hn, hcm, hcs, htake⟩
  · exact .inl ⟨rfl, List.eq_nil_of_length_eq_zero h0⟩
  · exact .inr ⟨g, cap, rfl, hb, lt_of_heap hg, hn⟩
theorem OwnR.kept {ks : List Nat} (h : OwnR enc k E w base v l) (hm : Mod ks w w') (hn : ∀ b, v.ownBlock = some b → b ∉ ks) : OwnR enc k E w' base v l := ownsRow_kept h hm hn
theorem OwnR.kept0 (h : OwnR enc k E w base v l) (hm : Mod [] w w') : OwnR enc k E w' base v l := ownsRow_kept0 h hm
theorem OwnR.mono {base' : Nat} (h : OwnR enc k E w base v l) (hb : base' ≤ base) : OwnR enc k E w base' v l := by
  obtain ⟨h1, h2⟩ := h
  refine ⟨h1, h2.imp id ?_⟩
  rintro ⟨g, cap, cur, rfl, hb', rest⟩
  exact ⟨g, cap, cur, rfl, Nat.le_trans hb hb', rest⟩
/-- A cell of it is written. -/
theorem ownsRow_set {e : TypeId} {size n : Nat} {xs : List Value} {g cap : Nat} (h : w.ownsRow base e size (.slice (some ⟨g, 0, none⟩) n cap) n xs) (q : Nat) (u : Value) : (w.setCell ⟨g, q, none⟩ u).ownsRow base e size (.slice (some ⟨g, 0, none⟩) n cap) n (xs.set q u) := by
  obtain ⟨h1, h2⟩ := h
  refine ⟨by rw [List.length_set]; exact h1, .inr ?_⟩
  rcases h2 with ⟨h2, _⟩ | ⟨g', cap', cur, e, hb, hg, hn, hcm, hcs, htake⟩
  · cases h2
  · simp only [Value.slice.injEq, Option.some.injEq, Addr.mk.injEq, and_true, true_and] at e
    obtain ⟨rfl, rfl⟩ := e
    refine ⟨g, cap, _, rfl, hb, heap_setCell_blk hg q u, hn, hcm, by simpa using hcs, ?_⟩
    rw [Array.toList_setIfInBounds, List.take_set, htake]
theorem OwnR.set (hk : ∀ x, (enc x).length = k) {g cap : Nat} (h : OwnR enc k E w base (.slice (some ⟨g, 0, none⟩) l.length cap) l) {i j : Nat} (hi : i < l.length) (hj : j < k) {u : Value} {y : α} (hy : enc y = (enc l[i]).set j u) :
    OwnR enc k E (w.setCell ⟨g, i * k + j, none⟩ u) base (.slice (some ⟨g, 0, none⟩) l.length cap) (l.set i y) := by
  have := ownsRow_set h (i * k + j) u
  rw [flat_set hk l i j hi hj u y hy] at this
  unfold OwnR
  rwa [List.length_set]
theorem OwnR.cell (hk : ∀ x, (enc x).length = k) {g cap : Nat} (h : OwnR enc k E w base (.slice (some ⟨g, 0, none⟩) l.length cap) l) {i j : Nat} (hi : i < l.length) (hj : j < k) {u : Value} (hu : (enc l[i])[j]? = some u) :
    w.cell? ⟨g, i * k + j, none⟩ = some u ∧ w.frozen? ⟨g, i * k + j, none⟩ = false := by
  obtain ⟨b, o, e, _, hc⟩ := h.row.get hk hi
  simp only [Option.some.injEq, Addr.mk.injEq, and_true] at e
  obtain ⟨rfl, rfl⟩ := e
  refine ⟨by have := hc j u hj hu; rwa [Nat.zero_add] at this, ?_⟩
  rcases h.2 with ⟨h2, _⟩ | ⟨g', cap', cur, e, hb, hg, _⟩
  · cases h2
  · simp only [Value.slice.injEq, Option.some.injEq, Addr.mk.injEq, and_true, true_and] at e
    obtain ⟨rfl, rfl⟩ := e
    exact frozen_blk hg _
end
/-! ### grown by append -/
/-- An element type of k cells, of a slice type. -/
structure ElemOk (P : Program) (t E : TypeId) (k bytes : Nat) : Prop where
  und : P.underlying t = some (.slice E)
  pos : 0 < k
  info : ∃ i z, P.info? E = some i ∧ i.zero = some z ∧ i.size = k ∧ i.bytes = bytes ∧ z.cells.size = k
theorem ElemOk.mk' {P : Program} {t E : TypeId} {k bytes : Nat} (und : P.underlying t = some (.slice E)) (pos : 0 < k) (h : (P.info? E).map (fun i => (i.zero.map (·.cells.size), i.size, i.bytes)) = some (some k, k, bytes)) : ElemOk P t E k bytes := by
  refine ⟨und, pos, ?_⟩
  cases hi : P.info? E with
  | none => rw [hi] at h; cases h
  | some i =>
    rw [hi] at h
    simp only [Option.map_some, Option.some.injEq, Prod.mk.injEq] at h
    obtain ⟨h1, h2, h3⟩ := h
    cases hz : i.zero with
    | none => rw [hz] at h1; cases h1
    | some z => rw [hz] at h1; exact ⟨i, z, rfl, hz, h2, h3, by simpa using h1⟩
section
variable {α : Type} {enc : α → List Value} {k : Nat} {w w' : World} {v : Value} {l : List α} {E : TypeId} {base : Nat} {P : Program}
theorem own_append {t bytes : Nat} (hE : ElemOk P t E k bytes) (hk : ∀ x, (enc x).length = k) (h : OwnR enc k E w base v l) (hb : base ≤ w.heap.size) {tx ty : TypeId} {x : Value} {l2 : List α} (hs : Src P k tx x l2.length (flat enc l2) w) (hlen : l.length + l2.length ≤ 1073741824) (hby : bytes ≤ 65536) :
    ∃ v' w', (Builtin.append_ #[t, tx] ty #[v, x]).run P w = .ok v' w' ∧ OwnR enc k E w' base v' (l ++ l2) ∧ Grew w v w' v' := by
  obtain ⟨i, z, hi, hz, hs1, hbb, hzs⟩ := hE.info
  obtain ⟨v', w', h1, h2, h3⟩ := append_own (P := P) base t tx ty E i z k bytes hE.und hi hz hs1 hbb hzs hE.pos h hs (by unfold maxLen; omega) (by
    have : (l.length + l2.length) * bytes ≤ 1073741824 * 65536 := Nat.mul_le_mul hlen hby
    omega) hb
  refine ⟨v', w', h1, ?_, h3⟩
  unfold OwnR
  rw [List.length_append, flat_append]
  exact h2
/-- append(v, x): x lies in a block of its own first. -/
theorem own_append1 {t bytes : Nat} (hE : ElemOk P t E k bytes) (hk : ∀ x, (enc x).length = k) (h1c : ∀ x, ∀ v ∈ enc x, v.oneCell' = true) (h : OwnR enc k E w base v l) (hb : base ≤ w.heap.size) {ty : TypeId} (x : α) (hlen : l.length < 1073741824) (hby : bytes ≤ 65536) :
    ∃ v' w', (Builtin.append_ #[t, t] ty #[v, .slice (some ⟨w.heap.size, 0, none⟩) 1 1]).run P (w.alloc (.cells (enc x).toArray E)) = .ok v' w' ∧ OwnR enc k E w' base v' (l ++ [x]) ∧ Grew w v w' v' := by
  have hm := (Mod.refl [] w).alloc (.cells (enc x).toArray E)
  obtain ⟨v', w', h1, h2, h3⟩ := own_append hE hk (h.kept0 hm) (Nat.le_trans hb hm.size) (ty := ty) (l2 := [x]) (Src.ofSlice (P := P) (w.alloc (.cells (enc x).toArray E)) hE.und ⟨w.heap.size, 0, none⟩ 1 1 (flat enc [x]) (by rw [flat_one, hk, Nat.one_mul]) (fun j u hu => by
    rw [flat_one] at hu
    rw [Addr.add_mid, Nat.zero_add, cell_blk (heap_alloc_new w _), ← hu]
    simp) (by intro u hu; rw [flat_one] at hu; exact h1c x u hu)) (by simp; omega) hby
  exact ⟨v', w', h1, h2, (Grew.of v hm).trans h3⟩
end
end Go.Proofs.YtngglpekdjhbdaaGreat
namespace Go.Proofs.YtngglpekdjhbdaaGreat
open Go.ChangeShapes Go.WideShapes Go.ChangeAt Go.RowKit Go.Deep
set_option linter.unusedSimpArgs false
set_option linter.unusedVariables false
section
variable {H : Type} {henc : TypeId × Value → H} {P : Program} {w : World}
/-- A slice reads as a row, if each element does. -/
theorem rows_cells {α : Type} [Inhabited α] {enc : α → List Value} {Q : α → Prop} {t e : TypeId} (ht : P.underlying t = some (.slice e)) (hc : 0 < P.cellsOf e) (hk : ∀ x, (enc x).length = P.cellsOf e)
    (hdec : ∀ n xs d pl, DataW.trod henc P w 0 (fun _ => true) true n e xs = some (d, pl) → Lite P e d → xs.length = P.cellsOf e → ∃ x, xs = enc x ∧ Q x)
    {fuel : Nat} {cs : List Value} {d : DataW H} {ps : List MemPlace} (h : DataW.trod henc P w 0 (fun _ => true) true fuel t cs = some (d, ps)) (hw : Lite P t d) :
    ∃ v l, cs = [v] ∧ RowAt enc w v l ∧ (∀ x ∈ l, Q x) ∧ l.length * P.bytesOf e ≤ reachBytes := by
  obtain ⟨a, len, cap, n, rfl, hl, hm, hb, h0, hi⟩ := slice_cells ht hc h hw
  have each : ∀ i, i < len → ∃ x : α, Q x ∧ ∃ b o, a = some ⟨b, o, none⟩ ∧ w.rangeAt b (o + i * P.cellsOf e) (enc x) := fun i hlt => by
    obtain ⟨b, o, xs, di, pl, ha, hr, hlen, htr, hli⟩ := hi i (by omega)
    obtain ⟨x, rfl, hq⟩ := hdec n xs di pl htr (hli hlt) hlen
    exact ⟨x, hq, b, o, ha, hr⟩
  obtain ⟨X, hX⟩ := choose_lt each
  refine ⟨_, (List.range len).map X, rfl, ?_, ?_, ?_⟩
  · by_cases hn : len = 0
    · subst hn; exact .nil a cap
    · obtain ⟨_, b, o, ha, _⟩ := hX 0 (by omega)
      subst ha
      have hlen : ((List.range len).map X).length = len := by simp
      have : RowAt enc w (.slice (some ⟨b, o, none⟩) ((List.range len).map X).length cap) ((List.range len).map X) := .at_ b o cap _ (by rw [hlen]; exact hl) (fun j u hj => by
        have hjl : j < len * P.cellsOf e := by
          have := (List.getElem?_eq_some_iff.1 hj).1
          rw [flat_length hk, hlen] at this
          exact this
        have hdm : j / P.cellsOf e < len := Nat.div_lt_of_lt_mul (by rw [Nat.mul_comm]; exact hjl)
        have hmm : j % P.cellsOf e < P.cellsOf e := Nat.mod_lt _ hc
        have e1 := flat_get hk ((List.range len).map X) (j / P.cellsOf e) (j % P.cellsOf e) (by rw [hlen]; exact hdm) hmm
        have e2 : j / P.cellsOf e * P.cellsOf e + j % P.cellsOf e = j := by rw [Nat.mul_comm]; exact Nat.div_add_mod j _
        rw [e2] at e1
        rw [e1] at hj
        obtain ⟨_, b', o', ha', hr⟩ := hX (j / P.cellsOf e) hdm
        simp only [Option.some.injEq, Addr.mk.injEq, and_true] at ha'
        obtain ⟨rfl, rfl⟩ := ha'
        have := hr (j % P.cellsOf e) u (by simpa using hj)
        rwa [Nat.add_assoc, e2] at this)
      rwa [hlen] at this
  · intro x hx
    obtain ⟨i, hi, rfl⟩ := List.mem_map.1 hx
    exact (hX i (List.mem_range.1 hi)).1
  · simp only [List.length_map, List.length_range]
    exact Nat.le_trans (Nat.mul_le_mul_right _ hl) hb
end
end Go.Proofs.YtngglpekdjhbdaaGreat
