/- Layer 8: an item goes: Delete. -/
import Derived.Test.YtngglpekdjhbdaaBzK
import Derived.Test.YtngglpekdjhbdaaBzB
namespace Go.Proofs.Ytngglpekdjhbdaa
open Go.RowKit Go.ChangeMaps Go.Deep Tr
set_option linter.unusedSimpArgs false
set_option linter.unusedVariables false
set_option maxRecDepth 20000

def knC : Tr → List Value
  | .nil => []
  | .node _ l x r => [.int .i64 x.f, .int .i64 x.t, .int .i64 x.i, .int .i64 l.at_, .int .i64 r.at_, .int .i64 (Tr.node 0 l x r).ht, .int .i64 (Tr.node 0 l x r).top]
/-- the cells of a walker; st: the stack, the last one pushed ahead -/
structure Wk (C : Array Value) (tb : Nat) (a z : Int) (st : List Tr) : Prop where
  size : C.size = 284
  c0 : C[0]? = some (.pointer (some ⟨tb, 0, none⟩))
  c1 : C[1]? = some (.int .i64 a)
  c2 : C[2]? = some (.int .i64 z)
  n : C[283]? = some (.int .i64 st.length)
  ent : ∀ i T, st.reverse[i]? = some T → ∀ j u, (knC T)[j]? = some u → C[3 + i * 7 + j]? = some u
theorem splice_get {a x z y : List Value} (h : x.length = y.length) (k : Nat) : (a ++ (y ++ z))[k]? = if k < a.length then (a ++ (x ++ z))[k]? else if k < a.length + y.length then y[k - a.length]? else (a ++ (x ++ z))[k]? := by
  by_cases h1 : k < a.length
  · rw [if_pos h1, List.getElem?_append_left h1, List.getElem?_append_left h1]
  · rw [if_neg h1]
    rw [List.getElem?_append_right (by omega)]
    by_cases h2 : k < a.length + y.length
    · rw [if_pos h2, List.getElem?_append_left (by omega)]
    · rw [if_neg h2, List.getElem?_append_right (by omega), List.getElem?_append_right (by omega), List.getElem?_append_right (by omega), h]
theorem knC_len {p : Nat} {l r : Tr} {x : It} : (knC (.node p l x r)).length = 7 := rfl
theorem wk_push {w : World} {wb tb : Nat} {a z : Int} {st : List Tr} {C : Array Value} {t : TypeId} (hb : w.heap[wb]? = some (.cells C t (0, 0))) (h : Wk C tb a z st) (hl : st.length < 40) {p : Nat} {l r : Tr} {x : It} :
    ∃ w' C', (Instr.storeAt 133 (.pointer (some ⟨wb, 3 + st.length * 7, none⟩)) (.agg (knC (.node p l x r)).toArray)).run Try.prog w = .ok () w' ∧ Mod [wb] w w' ∧ w'.heap[wb]? = some (.cells C' t (0, 0)) ∧ C'[283]? = some (.int .i64 st.length) ∧ C'[0]? = some (.pointer (some ⟨tb, 0, none⟩)) ∧ C'[1]? = some (.int .i64 a) ∧
      Wk (C'.setIfInBounds 283 (.int .i64 ((st.length : Int) + 1))) tb a z (.node p l x r :: st) := by
  have hcl : C.toList.length = 284 := by simpa using h.size
  have hsplit0 : ∀ N, C.toList = C.toList.take N ++ ((C.toList.drop N).take 7 ++ C.toList.drop (N + 7)) := fun N => by
    rw [← List.drop_drop, List.take_append_drop, List.take_append_drop]
  have hsplit := hsplit0 (3 + st.length * 7)
  have hpl : (C.toList.take (3 + st.length * 7)).length = 3 + st.length * 7 := by rw [List.length_take]; omega
  have hml : ((C.toList.drop (3 + st.length * 7)).take 7).length = (knC (.node p l x r)).length := by rw [knC_len, List.length_take, List.length_drop]; omega
  obtain ⟨w', r', m, hh⟩ := store_at2 (P := Try.prog) 133 _ _ _ (knC (.node p l x r)) (show w.heap[wb]? = some (.cells (C.toList.take (3 + st.length * 7) ++ ((C.toList.drop (3 + st.length * 7)).take 7 ++ C.toList.drop (3 + st.length * 7 + 7))).toArray t (0, 0)) by rw [← hsplit]; simpa using hb) hml (by rw [knC_len]; exact sizeKnot) (by simp [knC, Value.oneCell'])
  rw [hpl] at r'
  have hget : ∀ k, ((C.toList.take (3 + st.length * 7) ++ (knC (.node p l x r) ++ C.toList.drop (3 + st.length * 7 + 7))).toArray)[k]? = if k < 3 + st.length * 7 then C[k]? else if k < 3 + st.length * 7 + 7 then (knC (.node p l x r))[k - (3 + st.length * 7)]? else C[k]? := fun k => by
    rw [List.getElem?_toArray, splice_get hml k, hpl, knC_len, ← hsplit, Array.getElem?_toList]
  refine ⟨w', _, r', m, hh, ?_, ?_, ?_, ?_⟩
  · rw [hget, if_neg (by omega), if_neg (by omega)]; exact h.n
  · rw [hget, if_pos (by omega)]; exact h.c0
  · rw [hget, if_pos (by omega)]; exact h.c1
  have hsz : ((C.toList.take (3 + st.length * 7) ++ (knC (.node p l x r) ++ C.toList.drop (3 + st.length * 7 + 7))).toArray).size = 284 := by
    simp only [List.size_toArray, List.length_append, hpl, knC_len, List.length_drop]
    omega
  refine ⟨by rw [Array.size_setIfInBounds]; exact hsz, ?_, ?_, ?_, ?_, fun i T hT j u hu => ?_⟩
  · rw [Array.getElem?_setIfInBounds, if_neg (by omega), hget, if_pos (by omega)]; exact h.c0
  · rw [Array.getElem?_setIfInBounds, if_neg (by omega), hget, if_pos (by omega)]; exact h.c1
  · rw [Array.getElem?_setIfInBounds, if_neg (by omega), hget, if_pos (by omega)]; exact h.c2
  · rw [Array.getElem?_setIfInBounds, if_pos rfl, if_pos (by omega)]
    simp
  · have hj : j < 7 := by
      have := (List.getElem?_eq_some_iff.1 hu).1
      cases T with
      | nil => simp [knC] at this
      | node => rw [knC_len] at this; exact this
    have hi := (List.getElem?_eq_some_iff.1 hT).1
    simp only [List.length_reverse, List.length_cons] at hi
    rw [Array.getElem?_setIfInBounds, if_neg (by omega), hget]
    rw [List.reverse_cons] at hT
    by_cases hip : i < st.length
    · rw [List.getElem?_append_left (by simpa using hip)] at hT
      rw [if_pos (by omega)]
      exact h.ent i T hT j u hu
    · have e : i = st.length := by omega
      subst e
      rw [List.getElem?_append_right (by simp)] at hT
      simp at hT
      subst hT
      rw [if_neg (by omega), if_pos (by omega), show 3 + st.length * 7 + j - (3 + st.length * 7) = j by omega]
      exact hu
end Go.Proofs.Ytngglpekdjhbdaa
namespace Go.Proofs.Ytngglpekdjhbdaa
open Go.RowKit Go.ChangeMaps Go.Deep Tr
set_option linter.unusedSimpArgs false
set_option linter.unusedVariables false
set_option maxRecDepth 20000

namespace Tr
/-- what stands where an item stood, and the place that is free then -/
def delTop (p : Nat) : Tr → Tr → Nat × Tr
  | nil, r => (p, r)
  | node p1 l1 y1 r1, nil => (p, node p1 l1 y1 r1)
  | node p1 l1 y1 r1, node q a z b => ((delMin q a z b).1, mend p (node p1 l1 y1 r1) (delMin q a z b).2.1 (delMin q a z b).2.2)
theorem del_found {x y : It} {p : Nat} {l r : Tr} (h : ordI x y = 0) : del x (node p l y r) = some (delTop p l r) := by
  unfold del
  rw [if_neg (by omega), if_neg (by omega)]
  cases l <;> cases r <;> rfl
theorem downT_del (x : It) : ∀ (T : Tr) (fs : List Fr) (p : Nat) (l : Tr) (y : It) (r : Tr), (downT x T fs).2 = node p l y r → ∃ T', del x T = some ((delTop p l r).1, T') ∧ plugM (delTop p l r).2 (downT x T fs).1 = plugM T' fs
  | nil, fs, p, l, y, r, h => by simp [downT] at h
  | node p0 l0 y0 r0, fs, p, l, y, r, h => by
    unfold downT at h ⊢
    by_cases hc : ordI x y0 = 0
    · rw [if_pos hc] at h ⊢
      simp only [node.injEq] at h
      obtain ⟨rfl, rfl, rfl, rfl⟩ := h
      exact ⟨_, del_found hc, rfl⟩
    · rw [if_neg hc] at h ⊢
      by_cases hd : 0 < ordI x y0
      · rw [if_pos hd] at h ⊢
        obtain ⟨T', e1, e2⟩ := downT_del x r0 _ p l y r h
        refine ⟨mend p0 l0 y0 T', ?_, ?_⟩
        · unfold del
          rw [if_neg (by omega), if_pos hd, e1]
          rfl
        · rw [e2]; rfl
      · rw [if_neg hd] at h ⊢
        obtain ⟨T', e1, e2⟩ := downT_del x l0 _ p l y r h
        refine ⟨mend p0 T' y0 r0, ?_, ?_⟩
        · unfold del
          rw [if_pos (by omega), e1]
          rfl
        · rw [e2]; rfl
theorem downT_found (x : It) : ∀ (T : Tr) (fs : List Fr), srt T → x ∈ T.items → ∃ p l r, (downT x T fs).2 = node p l x r
  | nil, fs, _, hx => by simp [items] at hx
  | node p l y r, fs, hS, hx => by
    obtain ⟨s1, s2, s3, s4⟩ := srt_node hS
    unfold downT
    by_cases hc : ordI x y = 0
    · rw [if_pos hc]
      have := ordI_zero.1 hc
      subst this
      exact ⟨p, l, r, rfl⟩
    · rw [if_neg hc]
      simp only [items, List.mem_append, List.mem_cons] at hx
      by_cases hd : 0 < ordI x y
      · rw [if_pos hd]
        refine downT_found x r _ s2 ?_
        rcases hx with h | h | h
        · have := s3 x h; unfold Lt at this; omega
        · exact absurd (ordI_zero.2 h) hc
        · exact h
      · rw [if_neg hd]
        refine downT_found x l _ s1 ?_
        rcases hx with h | h | h
        · exact h
        · exact absurd (ordI_zero.2 h) hc
        · have := ordI_flip.1 (s4 x h); omega
/-- what balancing asks, where a place has been left -/
structure DelOk (ns : List Nd) (q : Nat) (c : Tr) (F : List Fr) (T T' : Tr) : Prop where
  rep : c.rep ns
  rest : RestOk ns F
  nodup : (q :: (c.places ++ F.flatMap Fr.places)).Nodup
  plug : plugM c F = T'
  high : ∀ f ∈ F, f.o.ht ≤ T.ht
  hc : c.ht ≤ T.ht
  len : (F.length : Int) ≤ T.ht
  node : ∃ x li ri h t, ns[q]? = some ⟨x, li, ri, h, t, true⟩ ∧ max li ri = c.at_
theorem hang_set {ns : List Nd} {root : Int} {F : List Fr} {below : Int} {q : Nat} (z : Nd) (h : q ∉ F.flatMap Fr.places) : (hangTop ns root (pth F) below).1.set q z = (hangTop (ns.set q z) root (pth F) below).1 ∧ (hangTop ns root (pth F) below).2 = (hangTop (ns.set q z) root (pth F) below).2 := by
  cases F with
  | nil => exact ⟨rfl, rfl⟩
  | cons f fs =>
    have hq : f.p ≠ q := fun e => h (by simp [Fr.places, e])
    refine ⟨?_, rfl⟩
    simp only [hangTop, pth, List.map_cons, hangN]
    have e : nodeN (ns.set q z) f.p = nodeN ns f.p := by
      unfold nodeN List.getD
      rw [set_other hq]
    rw [e, List.set_comm _ _ hq]
theorem DelOk.clear {ns : List Nd} {q : Nat} {c : Tr} {F : List Fr} {T T' : Tr} (h : DelOk ns q c F T T') (z : Nd) : c.rep (ns.set q z) ∧ RestOk (ns.set q z) F := by
  obtain ⟨h1, h2⟩ := List.nodup_cons.1 h.nodup
  exact ⟨rep_set h.rep (fun e => h1 (List.mem_append_left _ e)) z, h.rest.congr fun i hi => set_other (fun e => h1 (List.mem_append_right _ (e ▸ hi)))⟩
/-- one side is none -/
theorem del_one {ns : List Nd} {x : It} {T : Tr} (hrep : T.rep ns) (hnd : T.places.Nodup) {p : Nat} {l r : Tr} (hf : (downT x T []).2 = node p l x r) (ho : l = nil ∨ r = nil) :
    ∃ T', del x T = some (p, T') ∧ DelOk ns p (delTop p l r).2 (downT x T []).1 T T' := by
  obtain ⟨T', e1, e2⟩ := downT_del x T [] p l x r hf
  obtain ⟨r1, r2⟩ := downT_rest x T [] hrep (fun f hf => by cases hf)
  have hp := downT_places x T []
  have hl := downT_len x T []
  rw [hf] at r2 hp hl
  simp only [List.flatMap_nil, List.append_nil, List.length_nil] at hp hl
  obtain ⟨q1, q2, q3⟩ := r2
  have hn := hp.nodup_iff.2 hnd
  have hoht := fun f hf => (downT_oht x T [] f hf).resolve_left (by simp)
  have h0 := ht_nonneg l
  have h1 := ht_nonneg r
  simp only [ht] at hl
  have hfst : (delTop p l r).1 = p := by
    rcases ho with rfl | rfl
    · rfl
    · cases l <;> rfl
  rw [hfst] at e1
  refine ⟨T', e1, ?_⟩
  rcases ho with rfl | rfl
  · refine ⟨q3, r1, ?_, e2, hoht, by simp only [delTop]; omega, by omega, _, _, _, _, _, q1, ?_⟩
    · simpa [places, delTop] using hn
    · cases r <;> simp [at_, delTop] <;> omega
  · cases l with
    | nil =>
      refine ⟨trivial, r1, ?_, e2, hoht, by simp only [delTop]; omega, by omega, _, _, _, _, _, q1, rfl⟩
      simpa [places, delTop] using hn
    | node p1 l1 y1 r1' =>
      refine ⟨q2, r1, ?_, e2, hoht, by simp only [delTop]; omega, by omega, _, _, _, _, _, q1, ?_⟩
      · simpa [places, delTop] using hn
      · simp [at_, delTop]; omega
theorem minF_oht : ∀ (a : Tr) (q : Nat) (z : It) (b : Tr) (fs : List Fr), (∀ f ∈ (minF q a z b fs).2.2.2, f ∈ fs ∨ f.o.ht ≤ (node q a z b).ht) ∧ (minF q a z b fs).2.2.1.ht ≤ (node q a z b).ht
  | nil, q, z, b, fs => by
    have := ht_nonneg b
    simp only [minF, ht]
    exact ⟨fun f hf => .inl hf, by omega⟩
  | node s c u d, q, z, b, fs => by
    obtain ⟨h1, h2⟩ := minF_oht c s u d (⟨q, false, z, b⟩ :: fs)
    have e1 := ht_nonneg b
    have e2 := ht_nonneg (node s c u d)
    simp only [minF]
    refine ⟨fun f hf => ?_, by simp only [ht] at *; omega⟩
    rcases h1 f hf with h | h
    · rcases List.mem_cons.1 h with rfl | h
      · right; simp only [ht]; omega
      · exact .inl h
    · right; simp only [ht] at *; omega
def ndx (l : Tr) (x : It) (r : Tr) (y : It) : Nd := ⟨y, l.at_, r.at_, (nd l x r).h, (nd l x r).t, true⟩
/-- both sides are there: the least item on the right takes the place -/
theorem del_two {ns : List Nd} {x : It} {T : Tr} (hrep : T.rep ns) (hnd : T.places.Nodup) {p : Nat} {p1 : Nat} {l1 : Tr} {y1 : It} {r1 : Tr} {q : Nat} {a : Tr} {z : It} {b : Tr} (hf : (downT x T []).2 = node p (node p1 l1 y1 r1) x (node q a z b)) {m : Nat × It × Tr × List Fr} (hm : m = minF q a z b (⟨p, true, (delMin q a z b).2.1, node p1 l1 y1 r1⟩ :: (downT x T []).1)) :
    ∃ T', del x T = some (m.1, T') ∧ m.2.1 = (delMin q a z b).2.1 ∧ ns[m.1]? = some (nd nil m.2.1 m.2.2.1) ∧ m.1 ≠ p ∧ DelOk (ns.set p (ndx (node p1 l1 y1 r1) x (node q a z b) m.2.1)) m.1 m.2.2.1 m.2.2.2 T T' := by
  obtain ⟨T', e1, e2⟩ := downT_del x T [] p _ x _ hf
  obtain ⟨r1', r2⟩ := downT_rest x T [] hrep (fun f hf => by cases hf)
  have hp := downT_places x T []
  have hl := downT_len x T []
  rw [hf] at r2 hp hl
  simp only [List.flatMap_nil, List.append_nil, List.length_nil] at hp hl
  obtain ⟨q1, q2, q3⟩ := r2
  have hn := hp.nodup_iff.2 hnd
  have hoht := fun f hf => (downT_oht x T [] f hf).resolve_left (by simp)
  obtain ⟨d1, d2, d3⟩ := minF_del a q z b (⟨p, true, (delMin q a z b).2.1, node p1 l1 y1 r1⟩ :: (downT x T []).1)
  obtain ⟨o1, o2⟩ := minF_oht a q z b (⟨p, true, (delMin q a z b).2.1, node p1 l1 y1 r1⟩ :: (downT x T []).1)
  have ml := minF_len a q z b (⟨p, true, (delMin q a z b).2.1, node p1 l1 y1 r1⟩ :: (downT x T []).1)
  have mp := minF_places a q z b (⟨p, true, (delMin q a z b).2.1, node p1 l1 y1 r1⟩ :: (downT x T []).1)
  rw [← hm] at d1 d2 d3 o1 o2 ml mp
  simp only [List.length_cons] at ml
  have e0 := ht_nonneg (node p1 l1 y1 r1)
  have e3 := ht_nonneg (node q a z b)
  have hl' : ((downT x T []).1.length : Int) + (1 + max (node p1 l1 y1 r1).ht (node q a z b).ht) ≤ T.ht := by
    have : (node p (node p1 l1 y1 r1) x (node q a z b)).ht = 1 + max (node p1 l1 y1 r1).ht (node q a z b).ht := rfl
    omega
  -- places
  have hperm : (m.1 :: (m.2.2.1.places ++ m.2.2.2.flatMap Fr.places)).Perm ((node p (node p1 l1 y1 r1) x (node q a z b)).places ++ (downT x T []).1.flatMap Fr.places) := by
    refine mp.trans ?_
    simp only [List.flatMap_cons, Fr.places]
    rw [show (node p (node p1 l1 y1 r1) x (node q a z b)).places = p :: ((node p1 l1 y1 r1).places ++ (node q a z b).places) from rfl]
    rw [List.cons_append, List.cons_append]
    refine List.perm_middle.trans (List.Perm.cons p ?_)
    rw [← List.append_assoc]
    exact List.Perm.append_right _ List.perm_append_comm
  have hn2 := hperm.nodup_iff.2 hn
  have hrestp : ∀ i, i ∈ (node p1 l1 y1 r1).places ++ (node q a z b).places → i ≠ p := fun i hi e => by
    rw [show (node p (node p1 l1 y1 r1) x (node q a z b)).places = p :: ((node p1 l1 y1 r1).places ++ (node q a z b).places) from rfl] at hn
    have h2 := (List.nodup_append.1 hn).1
    exact (List.nodup_cons.1 h2).1 (e ▸ hi)
  have hpF : p ∉ (downT x T []).1.flatMap Fr.places := fun e => by
    obtain ⟨_, _, h3⟩ := List.nodup_append.1 hn
    exact h3 p (by simp [places]) p e rfl
  have hset := set_self (m := ndx (node p1 l1 y1 r1) x (node q a z b) m.2.1) q1
  have hrepR : (node q a z b).rep (ns.set p (ndx (node p1 l1 y1 r1) x (node q a z b) m.2.1)) := rep_congr (fun i hi => set_other (hrestp i (List.mem_append_right _ hi))) q3
  have hrepL : (node p1 l1 y1 r1).rep (ns.set p (ndx (node p1 l1 y1 r1) x (node q a z b) m.2.1)) := rep_congr (fun i hi => set_other (hrestp i (List.mem_append_left _ hi))) q2
  have hR0 : RestOk (ns.set p (ndx (node p1 l1 y1 r1) x (node q a z b) m.2.1)) (⟨p, true, (delMin q a z b).2.1, node p1 l1 y1 r1⟩ :: (downT x T []).1) := fun f hf => by
    rcases List.mem_cons.1 hf with rfl | hf
    · refine ⟨⟨(node q a z b).at_, (nd (node p1 l1 y1 r1) x (node q a z b)).h, (nd (node p1 l1 y1 r1) x (node q a z b)).t, ?_⟩, hrepL⟩
      dsimp only
      rw [if_pos rfl, hset, d2]
      rfl
    · exact (r1'.congr fun i hi => set_other (show i ≠ p from fun e => hpF (by rw [← e]; exact hi))) f hf
  obtain ⟨g1, g2, g3⟩ := minF_rest a q z b _ hrepR hR0
  rw [← hm] at g1 g2 g3
  have hmp : m.1 ≠ p := fun e => by
    have h1 : p ∈ m.2.2.2.flatMap Fr.places ∨ p ∈ m.2.2.1.places ∨ p = m.1 := by
      have : p ∈ (node q a z b).places ++ (⟨p, true, (delMin q a z b).2.1, node p1 l1 y1 r1⟩ :: (downT x T []).1 : List Fr).flatMap Fr.places := by simp [Fr.places]
      have := mp.mem_iff.2 this
      simp only [List.mem_cons, List.mem_append] at this
      rcases this with h | h | h
      · exact .inr (.inr h)
      · exact .inr (.inl h)
      · exact .inl h
    have h2 : ns[m.1]? = some (nd nil m.2.1 m.2.2.1) ∨ True := .inr trivial
    have h3 : m.1 ∈ (node q a z b).places := by
      rw [d1]
      have := (delMin_places a q z b).mem_iff.1 (List.mem_cons_self)
      exact this
    exact hrestp m.1 (List.mem_append_right _ h3) e
  rw [set_other hmp] at g3
  refine ⟨T', ?_, d2, g3, hmp, g2, g1, hn2, ?_, fun f hf => ?_, by omega, by omega, ?_⟩
  · rw [e1, d1]; rfl
  · rw [d3, show plugM (delMin q a z b).2.2 (⟨p, true, (delMin q a z b).2.1, node p1 l1 y1 r1⟩ :: (downT x T []).1) = plugM (mend p (node p1 l1 y1 r1) (delMin q a z b).2.1 (delMin q a z b).2.2) (downT x T []).1 from rfl]
    exact e2
  · rcases o1 f hf with h | h
    · rcases List.mem_cons.1 h with rfl | h
      · dsimp only; omega
      · exact hoht f h
    · omega
  · refine ⟨_, _, _, _, _, by rw [set_other hmp]; exact g3, ?_⟩
    cases m.2.2.1 <;> simp [at_] <;> omega
end Tr
/-- a free place more -/
theorem tree_free {w : World} {b : Nat} {nv fv : Value} {ns : List Nd} {fr : List Int} {root many : Int} (h : TreeAt w b nv fv ns fr root many) (q : Int) (hlen : fr.length < 1073741824) :
    ∃ fv' w1 w2, (Builtin.append_ #[25, 25] 25 #[fv, .slice (some ⟨w.heap.size, 0, none⟩) 1 1]).run Try.prog (w.alloc (.cells #[.int .i64 q] 3)) = .ok fv' w1 ∧
      (Instr.storeAt 25 (.pointer (some ⟨b, 2, none⟩)) fv').run Try.prog w1 = .ok () w2 ∧ TreeAt w2 b nv fv' ns (fr ++ [q]) root many ∧ Mod (b :: blk fv) w w2 ∧ (fv'.ownBlock = fv.ownBlock ∨ ∀ k, fv'.ownBlock = some k → w.heap.size ≤ k) := by
  obtain ⟨fv', w1, r1, o1, g1⟩ := own_append1 (P := Try.prog) elemInt encI_len encI_one h.free (by omega) (ty := 25) q hlen (by omega)
  have hbf : b ∉ blk fv := fun e => h.bf (mem_blk.1 e)
  have hb1 := g1.mod.heap h.blk hbf
  have hrow := h.row.kept g1.mod (fun k hk hm => h.nf k hk (mem_blk.1 hm))
  have hblt := lt_of_heap h.blk
  have hnew : ∀ k, fv'.ownBlock = some k → k ≠ b ∧ nv.ownBlock ≠ some k := fun k hk => by
    rcases g1.heir with e | e
    · rw [e] at hk
      exact ⟨fun e => h.bf (e ▸ hk), fun hn => h.nf k hn hk⟩
    · have := e k hk
      refine ⟨by omega, fun hf => ?_⟩
      have := (World.ownsRow.lt h.row k hf).2
      omega
  have h1c : (#[fv'] : Array Value).all (·.oneCell') = true ∧ fv'.cells = #[fv'] := by
    rcases o1.2 with ⟨rfl, _⟩ | ⟨g, cap, cur, rfl, _⟩ <;> simp [Value.oneCell', Value.cells]
  refine ⟨fv', w1, w1.setCell ⟨b, 2, none⟩ fv', r1, run_storeAt_blk hb1 (by simp) 25 (by kernel_rfl) h1c.2 (by simpa using h1c.1), ?_, ?_, g1.heir⟩
  · have hm : Mod [b] w1 (w1.setCell ⟨b, 2, none⟩ fv') := (Mod.refl _ _).setCell (by simp) _
    refine ⟨?_, hrow.kept hm (fun k hk hb => h.bn (by rw [List.mem_singleton] at hb; rw [← hb]; exact hk)), o1.kept hm (fun k hk hb => (hnew k hk).1 (by simpa using hb)), h.bn, fun e => (hnew b e).1 rfl, fun k hk he => (hnew k he).2 hk⟩
    rw [heap_setCell_blk hb1]
    simp
  · exact Mod.into' (Mod.into' (Mod.refl _ w) g1.mod (fun k hk => .inr (by simp [hk]))) ((Mod.refl [b] w1).setCell (by simp) _) (fun k hk => .inr (by simp at hk; simp [hk]))
end Go.Proofs.Ytngglpekdjhbdaa
namespace Go.Proofs.Ytngglpekdjhbdaa
open Go.RowKit Go.ChangeMaps Go.Deep Tr
set_option linter.unusedSimpArgs false
set_option linter.unusedVariables false
set_option maxRecDepth 20000

theorem TreeAt.off {w w' : World} {b : Nat} {nv fv : Value} {ns : List Nd} {fr : List Int} {root many : Int} (h : TreeAt w b nv fv ns fr root many) {k : Nat} (hm : Mod [k] w w') (h1 : b ≠ k) (h2 : nv.ownBlock ≠ some k) (h3 : fv.ownBlock ≠ some k) : TreeAt w' b nv fv ns fr root many :=
  ⟨hm.heap h.blk (by simpa using h1), h.row.kept hm (fun j hj hk => h2 (by rw [List.mem_singleton] at hk; rw [← hk]; exact hj)), h.free.kept hm (fun j hj hk => h3 (by rw [List.mem_singleton] at hk; rw [← hk]; exact hj)), h.bn, h.bf, h.nf⟩
theorem PathAt.drop {w : World} {pb : Nat} {ps : List (Nat × Bool)} {e : Nat × Bool} (h : PathAt w pb (ps ++ [e])) : PathAt (w.setCell ⟨pb, 80, none⟩ (.int .i64 ps.length)) pb ps ∧ Mod [pb] w (w.setCell ⟨pb, 80, none⟩ (.int .i64 ps.length)) ∧ w.cell? ⟨pb, 80, none⟩ = some (.int .i64 ((ps.length : Int) + 1)) ∧ w.frozen? ⟨pb, 80, none⟩ = false := by
  obtain ⟨C, h1, h2, h3, h4⟩ := h.ex
  have hl := h.len
  simp only [List.length_append, List.length_singleton] at hl h4
  refine ⟨⟨by omega, _, heap_setCell_blk h1 80 _, by simp [h2], fun i q hq => ?_, by simp [Array.getElem?_setIfInBounds, h2]⟩, (Mod.refl _ _).setCell (by simp) _, ?_, frozen_blk h1 80⟩
  · have hi := (List.getElem?_eq_some_iff.1 hq).1
    obtain ⟨g1, g2⟩ := h3 i q (by rw [List.getElem?_append_left hi]; exact hq)
    simp only [Array.getElem?_setIfInBounds]
    rw [if_neg (by omega), if_neg (by omega)]
    exact ⟨g1, g2⟩
  · rw [cell_blk h1, h4]
    congr 2
theorem hangTop_len (ns : List Nd) (root : Int) (F : List Fr) (below : Int) : (hangTop ns root (pth F) below).1.length = ns.length := by
  cases F <;> simp [hangTop, pth, hangN]
/-- what Delete leaves -/
def DelPost (w : World) (b : Nat) (nv fv : Value) (ns : List Nd) (fr : List Int) (x : It) (T : Tr) (w' : World) : Prop :=
  ∃ q T' fv' ns', del x T = some (q, T') ∧ AvlSt w' b nv fv' ns' (fr ++ [(q : Int)]) T' ∧ ns'.length = ns.length ∧ Mod (b :: (blk nv ++ blk fv)) w w' ∧ (fv'.ownBlock = fv.ownBlock ∨ ∀ k, fv'.ownBlock = some k → w.heap.size ≤ k)
theorem del_end {w w' : World} {b : Nat} {nv fv fv' : Value} {ns ns' : List Nd} {fr : List Int} {x : It} {T T' : Tr} {q : Nat} (S : AvlSt w b nv fv ns fr T) (hx : x ∈ T.items) (hd : del x T = some (q, T')) (ht : TreeAt w' b nv fv' ns' (fr ++ [(q : Int)]) T'.at_ ((T.size : Int) - 1)) (hr : T'.rep ns') (hlen : ns'.length = ns.length)
    (hm : Mod (b :: (blk nv ++ blk fv)) w w') (hf : fv'.ownBlock = fv.ownBlock ∨ ∀ k, fv'.ownBlock = some k → w.heap.size ≤ k) : DelPost w b nv fv ns fr x T w' := by
  obtain ⟨q', T'', e, D⟩ := del_some x T S.srt hx
  rw [hd] at e
  obtain ⟨rfl, rfl⟩ : q = q' ∧ T' = T'' := by simpa using e
  have hp := D.places
  have hs : T.size = T'.size + 1 := by rw [← places_len, ← hp.length_eq, List.length_cons, places_len]
  have hn := hp.nodup_iff.2 S.nodup
  obtain ⟨n1, n2⟩ := List.nodup_cons.1 hn
  have hqT : q ∈ T.places := hp.mem_iff.1 (by simp)
  refine ⟨q, T', fv', ns', hd, ⟨?_, hr, (D.avl S.avl).1, ?_, n2, fun i hi => ?_, ?_, ?_⟩, hlen, hm, hf⟩
  · have e2 : (T'.size : Int) = (T.size : Int) - 1 := by omega
    rw [e2]
    exact ht
  · unfold srt
    rw [D.items]
    exact List.Pairwise.filter _ S.srt
  · rcases List.mem_append.1 hi with hi | hi
    · obtain ⟨k, rfl, k1, k2⟩ := S.free i hi
      exact ⟨k, rfl, by omega, fun h => k2 (hp.mem_iff.1 (by simp [h]))⟩
    · rw [List.mem_singleton] at hi
      exact ⟨q, hi, by have := rep_lt S.rep q hqT; omega, n1⟩
  · refine List.nodup_append.2 ⟨S.fnd, by simp, fun a ha c hc e => ?_⟩
    rw [List.mem_singleton] at hc
    subst hc e
    obtain ⟨k, e3, k1, k2⟩ := S.free _ ha
    have : q = k := by omega
    exact k2 (this ▸ hqT)
  · rw [List.length_append, List.length_singleton, hlen, S.full]
    omega
set_option maxHeartbeats 8000000 in
theorem delete_l {w : World} {b : Nat} {nv fv : Value} {ns : List Nd} {fr : List Int} {T : Tr} (S : AvlSt w b nv fv ns fr T) (x : It) (hx : x ∈ T.items) (hsz : T.size ≤ 100000) (hns : ns.length ≤ 100000) {p : Nat} {r : Tr} (hf : (downT x T []).2 = .node p .nil x r) :
    Calls Try.prog 74 #[.pointer (some ⟨b, 0, none⟩), itV x] w fun e w' => e = .returned (.int .i64 0) ∧ DelPost w b nv fv ns fr x T w' := by
  have HS := Lib.hid S
  have HX := Lib.hid hx
  have hT34 := ht_small S.avl (by omega)
  have hT0 := ht_nonneg T
  have m0 := (Mod.refl [] w).alloc (.cells #[.int .i64 x.f, .int .i64 x.t, .int .i64 x.i] 92)
  have C1 := Lib.hid (none_at (S.tree.kept0 m0))
  have C2 := Lib.hid (down_at (S.tree.kept0 m0) rfl S.rep (by omega) x)
  have M0 := Lib.hid m0
  unfold itV at C2 ⊢
  clear S hx m0
  go_enter Try.func74, Try.ntmps74
  go_wp2_with fail
  refine C1.out.mono ?_
  rintro e w1 ⟨rfl, rfl⟩
  go_wp2_with fail
  refine C2.out.mono ?_
  rintro e w2 ⟨m2, C, hC⟩
  rw [hf] at hC
  obtain ⟨rfl, hP⟩ := hC
  have ma := (Mod.refl [] w2).alloc (.cells Try.zeroCells131 131)
  obtain ⟨w3, hst, mst, gst⟩ := store_blk2 (P := Try.prog) 131 (heap_alloc_new w2 (.cells Try.zeroCells131 131)) (by rw [hP.size]; rfl) (by rw [sizePath, hP.size]) hP.one
  have m3 : Mod [] w w3 := Mod.into' ((M0.out.trans m2).trans ma) mst (fun k hk => .inl (by
    simp only [List.mem_singleton] at hk
    subst hk
    have := (M0.out.trans m2).size
    exact this))
  have T3 := HS.out.tree.kept0 m3
  have HPC := Lib.hid hP
  have HGST := Lib.hid gst
  have HST := Lib.hid hst
  have HM3 := Lib.hid m3
  have HT3 := Lib.hid T3
  have hszw : w.heap.size < w2.heap.size := by
    have := m2.size
    simp only [World.size_alloc] at this
    omega
  obtain ⟨q1, q2, q3⟩ := (downT_rest x T [] HS.out.rep (fun f hf => by cases hf)).2 |> (fun h => by rw [hf] at h; exact h)
  obtain ⟨g, cap, hnv, _, hcap⟩ := T3.row.at_ q1
  have hplt := (List.getElem?_eq_some_iff.1 q1).1
  obtain ⟨fa, fc, hfv⟩ := T3.free.lens
  subst hnv hfv
  have hpi : ((p : Nat) : Int) < (ns.length : Int) := by omega
  have hfl : fr.length ≤ 100000 := by have := HS.out.full; omega
  have c1 := cell_blk T3.blk 1
  simp only [List.getElem?_toArray, List.getElem?_cons_succ, List.getElem?_cons_zero] at c1
  have hn80 := cell_blk gst 80
  rw [hP.n] at hn80
  simp only [List.length_append, List.length_singleton, pth_len] at hn80
  have hFl := downT_len x T []
  rw [hf] at hFl
  simp only [List.length_nil] at hFl
  have hnn := ht_nonneg (Tr.node p .nil x r)
  have hl0 := ht_nonneg .nil
  have hr0 := ht_nonneg r
  have hF40 : (downT x T []).1.length < 40 := by omega
  have hat := (hP.get (downT x T []).1.length (p, false) (by rw [List.getElem?_append_right (by rw [pth_len]; exact Nat.le_refl _), pth_len]; simp)).1
  have hcat := cell_blk gst (downT x T []).1.length
  rw [hat] at hcat
  dsimp only at hcat
  have hy : w3.rangeAt g (p * 8) (encNd (nd .nil x r)) := fun j u hu => (nd_cells T3.row q1 j u hu).1
  have HLN := Lib.hid (run_loadAt_mid (P := Try.prog) _ g (p * 8) 135 (encNd (nd .nil x r)) _ hy Try.underlying135 rfl (by kernel_rfl))
  simp only [encNd, nd, show Tr.nil.at_ = (-1 : Int) from rfl] at HLN
  have HPN : Hid (w2.heap.size ≠ b ∧ (Value.slice (some ⟨g, 0, none⟩) ns.length cap).ownBlock ≠ some w2.heap.size ∧ (Value.slice fa fr.length fc).ownBlock ≠ some w2.heap.size) := Lib.hid (by
    have h1 := lt_of_heap HS.out.tree.blk
    refine ⟨by omega, fun e => ?_, fun e => ?_⟩
    · have := (World.ownsRow.lt HS.out.tree.row _ e).2; omega
    · have := (World.ownsRow.lt HS.out.tree.free _ e).2; omega)
  have HSZW := Lib.hid hszw
  clear m3 mst hst ma m2 hszw C1 C2 hat hy hFl gst
  obtain ⟨T', hdel, OK⟩ := del_one HS.out.rep HS.out.nodup hf (.inl rfl)
  go_upto_region 18 with (first | ((with_reducible refine xStoreAt rfl HST.out ?_ ?_ ?_ ?_); exact rfl; exact rfl; exact rfl) | ((with_reducible refine xLoadAt rfl HLN.out ?_ ?_ ?_); exact rfl; exact rfl))
  generalize hw4 : w3.alloc _ = wq
  have mq : Mod [] w3 wq := by rw [← hw4]; exact (Mod.refl [] w3).alloc _
  have TP := HT3.out.kept0 mq
  have HMQ := Lib.hid (((HM3.out).trans mq).nil (l := b :: (blk (.slice (some ⟨g, 0, none⟩) ns.length cap) ++ blk (.slice fa fr.length fc))))
  have HNL : Hid (ns.length = ns.length) := Lib.hid rfl
  have HPAQ : Hid (PathAt wq w2.heap.size ((pth (downT x T []).1).reverse ++ [(p, false)])) := Lib.hid ⟨HPC.out.len, C, mq.heap HGST.out (by simp), HPC.out.size, HPC.out.get, HPC.out.n⟩
  simp only [delTop] at OK
  have hdn := Lib.hid hdel
  have hqn := OK.node
  obtain ⟨xq, li, ri, hh, tt, hq, hmx⟩ := hqn
  obtain ⟨P1, mP, z80, f80⟩ := HPAQ.out.drop
  rw [pth_len] at P1 mP z80
  have TP1 := (TP.off mP (Ne.symm HPN.out.1) HPN.out.2.1 HPN.out.2.2).kept0 ((Mod.refl [] _).drew)
  have CA := Lib.hid (above_any TP1 (P1.kept ((Mod.refl [] _).drew) (by simp)) OK.rest r.at_)
  have HP1 := Lib.hid (P1.kept ((Mod.refl [] _).drew) (by simp))
  have MP1 := Lib.hid (mP.drew)
  have a1 := cell_blk TP1.blk 1
  simp only [List.getElem?_toArray, List.getElem?_cons_succ, List.getElem?_cons_zero] at a1
  have hlx : (ns).length = ns.length := by first | rfl | exact List.length_set
  have hrowx : OwnR encNd 8 135 ((wq.setCell ⟨w2.heap.size, 80, none⟩ (.int .i64 ((downT x T []).1.length : Int))).drew) 0 (.slice (some ⟨g, 0, none⟩) (ns).length cap) ns := by rw [hlx]; exact TP1.row
  have a3 := (nd_cells hrowx hq 3 _ rfl).1
  have a4 := (nd_cells hrowx hq 4 _ rfl).1
  have a80 := P1.n
  rw [pth_len] at a80
  have hqlt := (List.getElem?_eq_some_iff.1 hq).1
  have hqi : ((p : Nat) : Int) < (ns.length : Int) := by first | omega | (have := hqlt; simp only [List.length_set] at this; omega)
  have HOK := Lib.hid OK
  have hFlen := OK.len
  unfold RPost at CA
  rw [← hmx] at CA
  dsimp only at a3 a4
  have hmxc : (li < ri ∧ max li ri = ri) ∨ (ri ≤ li ∧ max li ri = li) := by omega
  have HMX := Lib.hid hmx
  clear TP TP1 P1 OK hq hmx hrowx hlx
  generalize hM : max li ri = M at *
  rcases hmxc with ⟨hlr, hM2⟩ | ⟨hlr, hM2⟩
  all_goals
    subst hM2
    go_wp2_with fail
    refine wp_plan [([0, 1, 3, 7, 12, 16, 2, 4, 13, 5, 14, 6, 15, 8, 17, 9, 18, 10, 19, 11, 20], 21, [1, 2]), ([], 22, [])] [] (by kernel_rfl) (by kernel_rfl) ?_
    simp only [wpSegs, opsOf, List.map_cons, List.map_nil, opN, List.getD_cons_zero, List.getD_cons_succ]
    go_wp2_with fail
    refine ⟨by first | trivial | rfl, ?_⟩
    go_wp2_with fail
    refine ⟨?agX, ?_⟩
    case agX =>
      intro i hi hw
      simp only [List.mem_cons, List.not_mem_nil, or_false] at hi
      rcases hi with rfl | rfl
      all_goals (simp only [opN, List.getD_cons_zero, List.getD_cons_succ, slotOf]; go_simp)
    go_wp2_with fail
    refine ⟨by first | trivial | rfl, ?_⟩
    go_wp2_with fail
    refine CA.out.mono ?_
    rintro e w5 ⟨rfl, T5, m5⟩
    have hqF : p ∉ (downT x T []).1.flatMap Fr.places := fun e => (List.nodup_cons.1 HOK.out.nodup).1 (List.mem_append_right _ e)
    have hz := hang_set (ns := ns) (root := T.at_) (F := (downT x T []).1) (below := M) Nd.zero hqF
    have hhl := hangTop_len ns T.at_ (downT x T []).1 M
    have c51 := cell_blk T5.blk 1
    have T5' : TreeAt w5 b (.slice (some ⟨g, 0, none⟩) (hangTop ns T.at_ (pth (downT x T []).1) M).1.length cap) (.slice fa fr.length fc) (hangTop ns T.at_ (pth (downT x T []).1) M).1 fr (hangTop ns T.at_ (pth (downT x T []).1) M).2 T.size := by first | (rw [hhl]; exact T5) | (rw [hhl, List.length_set]; exact T5)
    obtain ⟨w6, rput, mput, T6⟩ := T5'.put (by rw [hhl]; exact hqlt) Nd.zero
    rw [hz.1, hz.2] at T6
    simp only [hangTop_len, List.length_set] at T6
    obtain ⟨fv', wa, wb, ra, rs, T7, m7, hheir⟩ := tree_free T6 (p : Int) (by omega)
    obtain ⟨T8, m8⟩ := T7.many ((T.size : Int) - 1)
    have c62 := cell_blk T6.blk 2
    have c74 := cell_blk T7.blk 4
    have f74 := frozen_blk T7.blk 4
    simp only [List.getElem?_toArray, List.getElem?_cons_succ, List.getElem?_cons_zero] at c51 c62 c74
    have hgn : w2.heap.size ≠ g := fun e => HPN.out.2.1 (by simp [Value.ownBlock, e])
    have hpA : w2.heap.size ∉ b :: blk (.slice (some ⟨g, 0, none⟩) ns.length cap) := by
      simp only [List.mem_cons, not_or]
      exact ⟨HPN.out.1, fun e => HPN.out.2.1 (mem_blk.1 e)⟩
    have hpB : w2.heap.size ∉ b :: blk (.slice fa fr.length fc) := by
      simp only [List.mem_cons, not_or]
      exact ⟨HPN.out.1, fun e => HPN.out.2.2 (mem_blk.1 e)⟩
    have HP8 := Lib.hid ((((HP1.out.kept m5 hpA).kept mput (by simpa using hgn)).kept m7 hpB).kept m8 (by simpa using HPN.out.1))
    have hcl := HOK.out.clear Nd.zero
    have hnd2 := (List.nodup_cons.1 HOK.out.nodup).2
    rw [HMX.out] at T8
    have HW8 := Lib.hid (Mod.into' (Mod.into' (Mod.into' (Mod.into' (Mod.into' (HMQ.out) (MP1.out) (fun k hk => .inl (by simp at hk; subst hk; exact Nat.le_of_lt HSZW.out))) m5 (fun k hk => .inr (by simp only [List.mem_cons, List.mem_append] at hk ⊢; rcases hk with h | h; exact .inl h; exact .inr (.inl h)))) mput (fun k hk => .inr (by simp at hk; simp [hk, blk, Value.ownBlock]))) m7 (fun k hk => .inr (by simp only [List.mem_cons, List.mem_append] at hk ⊢; rcases hk with h | h; exact .inl h; exact .inr (.inr h)))) m8 (fun k hk => .inr (by simp at hk; simp [hk])))
    have CM := Lib.hid (mend_at (T := r) (ns := ns.set p Nd.zero) (root := T.at_) T8 HP8.out HPN.out.1 HPN.out.2.1 hcl.1 hcl.2 hnd2 (by have := HOK.out.hc; omega) (fun f hf => by have := HOK.out.high f hf; omega) (by omega))
    have HHEIR := Lib.hid (show fv'.ownBlock = (Value.slice fa fr.length fc).ownBlock ∨ ∀ k, fv'.ownBlock = some k → w.heap.size ≤ k from hheir.imp id (fun h k hk => by
      have h1 := h k hk
      have h2 := m5.size
      have h3 := mput.size
      have h4 := MP1.out.size
      have h5 := HMQ.out.size
      omega))
    have RPUT := Lib.hid rput
    have RA := Lib.hid ra
    have RS := Lib.hid rs
    simp only [encNd, Nd.zero] at RPUT
    clear T5 T5' T6 T7 T8 m5 mput m7 m8 rput ra rs hz hhl hcl hnd2 hheir CA
    go_wp2_with fail
    refine ⟨again_nil, ?_⟩
    go_wp2_with fail
    refine ⟨by first | trivial | rfl, ?_⟩
    go_wp2_with (first | ((with_reducible refine xStoreAt rfl RPUT.out ?_ ?_ ?_ ?_); exact rfl; exact rfl; exact rfl) | ((with_reducible refine xAppendAt RA.out rfl rfl ?_ ?_ ?_ ?_); exact rfl; exact rfl; exact rfl) | ((with_reducible refine xStoreAt rfl RS.out ?_ ?_ ?_ ?_); exact rfl; exact rfl; exact rfl))
    refine CM.out.mono ?_
    rintro e w8 ⟨rfl, ns8, T9, r9, l9, _, m9⟩
    rw [HOK.out.plug] at T9 r9
    have HE := Lib.hid (del_end HS.out HX.out hdn.out T9 r9 (by rw [l9]; simp) (Mod.into' HW8.out m9 (fun k hk => .inr (by simp only [List.mem_cons, List.mem_append] at hk ⊢; rcases hk with h | h; exact .inl h; exact .inr (.inl h)))) HHEIR.out)
    clear T9 r9 m9 CM
    go_wp2_with fail
    go_ret
    exact ⟨rfl, HE.out⟩
set_option maxHeartbeats 8000000 in
theorem delete_r {w : World} {b : Nat} {nv fv : Value} {ns : List Nd} {fr : List Int} {T : Tr} (S : AvlSt w b nv fv ns fr T) (x : It) (hx : x ∈ T.items) (hsz : T.size ≤ 100000) (hns : ns.length ≤ 100000) {p : Nat} {p1 : Nat} {l1 : Tr} {y1 : It} {r1 : Tr} (hf : (downT x T []).2 = .node p (.node p1 l1 y1 r1) x .nil) :
    Calls Try.prog 74 #[.pointer (some ⟨b, 0, none⟩), itV x] w fun e w' => e = .returned (.int .i64 0) ∧ DelPost w b nv fv ns fr x T w' := by
  have HS := Lib.hid S
  have HX := Lib.hid hx
  have hT34 := ht_small S.avl (by omega)
  have hT0 := ht_nonneg T
  have m0 := (Mod.refl [] w).alloc (.cells #[.int .i64 x.f, .int .i64 x.t, .int .i64 x.i] 92)
  have C1 := Lib.hid (none_at (S.tree.kept0 m0))
  have C2 := Lib.hid (down_at (S.tree.kept0 m0) rfl S.rep (by omega) x)
  have M0 := Lib.hid m0
  unfold itV at C2 ⊢
  clear S hx m0
  go_enter Try.func74, Try.ntmps74
  go_wp2_with fail
  refine C1.out.mono ?_
  rintro e w1 ⟨rfl, rfl⟩
  go_wp2_with fail
  refine C2.out.mono ?_
  rintro e w2 ⟨m2, C, hC⟩
  rw [hf] at hC
  obtain ⟨rfl, hP⟩ := hC
  have ma := (Mod.refl [] w2).alloc (.cells Try.zeroCells131 131)
  obtain ⟨w3, hst, mst, gst⟩ := store_blk2 (P := Try.prog) 131 (heap_alloc_new w2 (.cells Try.zeroCells131 131)) (by rw [hP.size]; rfl) (by rw [sizePath, hP.size]) hP.one
  have m3 : Mod [] w w3 := Mod.into' ((M0.out.trans m2).trans ma) mst (fun k hk => .inl (by
    simp only [List.mem_singleton] at hk
    subst hk
    have := (M0.out.trans m2).size
    exact this))
  have T3 := HS.out.tree.kept0 m3
  have HPC := Lib.hid hP
  have HGST := Lib.hid gst
  have HST := Lib.hid hst
  have HM3 := Lib.hid m3
  have HT3 := Lib.hid T3
  have hszw : w.heap.size < w2.heap.size := by
    have := m2.size
    simp only [World.size_alloc] at this
    omega
  obtain ⟨q1, q2, q3⟩ := (downT_rest x T [] HS.out.rep (fun f hf => by cases hf)).2 |> (fun h => by rw [hf] at h; exact h)
  obtain ⟨g, cap, hnv, _, hcap⟩ := T3.row.at_ q1
  have hplt := (List.getElem?_eq_some_iff.1 q1).1
  obtain ⟨fa, fc, hfv⟩ := T3.free.lens
  subst hnv hfv
  have hpi : ((p : Nat) : Int) < (ns.length : Int) := by omega
  have hfl : fr.length ≤ 100000 := by have := HS.out.full; omega
  have c1 := cell_blk T3.blk 1
  simp only [List.getElem?_toArray, List.getElem?_cons_succ, List.getElem?_cons_zero] at c1
  have hn80 := cell_blk gst 80
  rw [hP.n] at hn80
  simp only [List.length_append, List.length_singleton, pth_len] at hn80
  have hFl := downT_len x T []
  rw [hf] at hFl
  simp only [List.length_nil] at hFl
  have hnn := ht_nonneg (Tr.node p (.node p1 l1 y1 r1) x .nil)
  have hl0 := ht_nonneg (.node p1 l1 y1 r1)
  have hr0 := ht_nonneg .nil
  have hF40 : (downT x T []).1.length < 40 := by omega
  have hat := (hP.get (downT x T []).1.length (p, false) (by rw [List.getElem?_append_right (by rw [pth_len]; exact Nat.le_refl _), pth_len]; simp)).1
  have hcat := cell_blk gst (downT x T []).1.length
  rw [hat] at hcat
  dsimp only at hcat
  have hy : w3.rangeAt g (p * 8) (encNd (nd (.node p1 l1 y1 r1) x .nil)) := fun j u hu => (nd_cells T3.row q1 j u hu).1
  have HLN := Lib.hid (run_loadAt_mid (P := Try.prog) _ g (p * 8) 135 (encNd (nd (.node p1 l1 y1 r1) x .nil)) _ hy Try.underlying135 rfl (by kernel_rfl))
  simp only [encNd, nd, at_] at HLN
  have HPN : Hid (w2.heap.size ≠ b ∧ (Value.slice (some ⟨g, 0, none⟩) ns.length cap).ownBlock ≠ some w2.heap.size ∧ (Value.slice fa fr.length fc).ownBlock ≠ some w2.heap.size) := Lib.hid (by
    have h1 := lt_of_heap HS.out.tree.blk
    refine ⟨by omega, fun e => ?_, fun e => ?_⟩
    · have := (World.ownsRow.lt HS.out.tree.row _ e).2; omega
    · have := (World.ownsRow.lt HS.out.tree.free _ e).2; omega)
  have HSZW := Lib.hid hszw
  clear m3 mst hst ma m2 hszw C1 C2 hat hy hFl gst
  obtain ⟨T', hdel, OK⟩ := del_one HS.out.rep HS.out.nodup hf (.inr rfl)
  go_upto_region 18 with (first | ((with_reducible refine xStoreAt rfl HST.out ?_ ?_ ?_ ?_); exact rfl; exact rfl; exact rfl) | ((with_reducible refine xLoadAt rfl HLN.out ?_ ?_ ?_); exact rfl; exact rfl))
  generalize hw4 : w3.alloc _ = wq
  have mq : Mod [] w3 wq := by rw [← hw4]; exact (Mod.refl [] w3).alloc _
  have TP := HT3.out.kept0 mq
  have HMQ := Lib.hid (((HM3.out).trans mq).nil (l := b :: (blk (.slice (some ⟨g, 0, none⟩) ns.length cap) ++ blk (.slice fa fr.length fc))))
  have HNL : Hid (ns.length = ns.length) := Lib.hid rfl
  have HPAQ : Hid (PathAt wq w2.heap.size ((pth (downT x T []).1).reverse ++ [(p, false)])) := Lib.hid ⟨HPC.out.len, C, mq.heap HGST.out (by simp), HPC.out.size, HPC.out.get, HPC.out.n⟩
  simp only [delTop] at OK
  have hdn := Lib.hid hdel
  have hqn := OK.node
  obtain ⟨xq, li, ri, hh, tt, hq, hmx⟩ := hqn
  obtain ⟨P1, mP, z80, f80⟩ := HPAQ.out.drop
  rw [pth_len] at P1 mP z80
  have TP1 := (TP.off mP (Ne.symm HPN.out.1) HPN.out.2.1 HPN.out.2.2).kept0 ((Mod.refl [] _).drew)
  have CA := Lib.hid (above_any TP1 (P1.kept ((Mod.refl [] _).drew) (by simp)) OK.rest (Tr.node p1 l1 y1 r1).at_)
  have HP1 := Lib.hid (P1.kept ((Mod.refl [] _).drew) (by simp))
  have MP1 := Lib.hid (mP.drew)
  have a1 := cell_blk TP1.blk 1
  simp only [List.getElem?_toArray, List.getElem?_cons_succ, List.getElem?_cons_zero] at a1
  have hlx : (ns).length = ns.length := by first | rfl | exact List.length_set
  have hrowx : OwnR encNd 8 135 ((wq.setCell ⟨w2.heap.size, 80, none⟩ (.int .i64 ((downT x T []).1.length : Int))).drew) 0 (.slice (some ⟨g, 0, none⟩) (ns).length cap) ns := by rw [hlx]; exact TP1.row
  have a3 := (nd_cells hrowx hq 3 _ rfl).1
  have a4 := (nd_cells hrowx hq 4 _ rfl).1
  have a80 := P1.n
  rw [pth_len] at a80
  have hqlt := (List.getElem?_eq_some_iff.1 hq).1
  have hqi : ((p : Nat) : Int) < (ns.length : Int) := by first | omega | (have := hqlt; simp only [List.length_set] at this; omega)
  have HOK := Lib.hid OK
  have hFlen := OK.len
  unfold RPost at CA
  rw [← hmx] at CA
  dsimp only at a3 a4
  have hmxc : (li < ri ∧ max li ri = ri) ∨ (ri ≤ li ∧ max li ri = li) := by omega
  have HMX := Lib.hid hmx
  clear TP TP1 P1 OK hq hmx hrowx hlx
  generalize hM : max li ri = M at *
  rcases hmxc with ⟨hlr, hM2⟩ | ⟨hlr, hM2⟩
  all_goals
    subst hM2
    go_wp2_with fail
    refine wp_plan [([0, 1, 3, 7, 12, 16, 2, 4, 13, 5, 14, 6, 15, 8, 17, 9, 18, 10, 19, 11, 20], 21, [1, 2]), ([], 22, [])] [] (by kernel_rfl) (by kernel_rfl) ?_
    simp only [wpSegs, opsOf, List.map_cons, List.map_nil, opN, List.getD_cons_zero, List.getD_cons_succ]
    go_wp2_with fail
    refine ⟨by first | trivial | rfl, ?_⟩
    go_wp2_with fail
    refine ⟨?agX, ?_⟩
    case agX =>
      intro i hi hw
      simp only [List.mem_cons, List.not_mem_nil, or_false] at hi
      rcases hi with rfl | rfl
      all_goals (simp only [opN, List.getD_cons_zero, List.getD_cons_succ, slotOf]; go_simp)
    go_wp2_with fail
    refine ⟨by first | trivial | rfl, ?_⟩
    go_wp2_with fail
    refine CA.out.mono ?_
    rintro e w5 ⟨rfl, T5, m5⟩
    have hqF : p ∉ (downT x T []).1.flatMap Fr.places := fun e => (List.nodup_cons.1 HOK.out.nodup).1 (List.mem_append_right _ e)
    have hz := hang_set (ns := ns) (root := T.at_) (F := (downT x T []).1) (below := M) Nd.zero hqF
    have hhl := hangTop_len ns T.at_ (downT x T []).1 M
    have c51 := cell_blk T5.blk 1
    have T5' : TreeAt w5 b (.slice (some ⟨g, 0, none⟩) (hangTop ns T.at_ (pth (downT x T []).1) M).1.length cap) (.slice fa fr.length fc) (hangTop ns T.at_ (pth (downT x T []).1) M).1 fr (hangTop ns T.at_ (pth (downT x T []).1) M).2 T.size := by first | (rw [hhl]; exact T5) | (rw [hhl, List.length_set]; exact T5)
    obtain ⟨w6, rput, mput, T6⟩ := T5'.put (by rw [hhl]; exact hqlt) Nd.zero
    rw [hz.1, hz.2] at T6
    simp only [hangTop_len, List.length_set] at T6
    obtain ⟨fv', wa, wb, ra, rs, T7, m7, hheir⟩ := tree_free T6 (p : Int) (by omega)
    obtain ⟨T8, m8⟩ := T7.many ((T.size : Int) - 1)
    have c62 := cell_blk T6.blk 2
    have c74 := cell_blk T7.blk 4
    have f74 := frozen_blk T7.blk 4
    simp only [List.getElem?_toArray, List.getElem?_cons_succ, List.getElem?_cons_zero] at c51 c62 c74
    have hgn : w2.heap.size ≠ g := fun e => HPN.out.2.1 (by simp [Value.ownBlock, e])
    have hpA : w2.heap.size ∉ b :: blk (.slice (some ⟨g, 0, none⟩) ns.length cap) := by
      simp only [List.mem_cons, not_or]
      exact ⟨HPN.out.1, fun e => HPN.out.2.1 (mem_blk.1 e)⟩
    have hpB : w2.heap.size ∉ b :: blk (.slice fa fr.length fc) := by
      simp only [List.mem_cons, not_or]
      exact ⟨HPN.out.1, fun e => HPN.out.2.2 (mem_blk.1 e)⟩
    have HP8 := Lib.hid ((((HP1.out.kept m5 hpA).kept mput (by simpa using hgn)).kept m7 hpB).kept m8 (by simpa using HPN.out.1))
    have hcl := HOK.out.clear Nd.zero
    have hnd2 := (List.nodup_cons.1 HOK.out.nodup).2
    rw [HMX.out] at T8
    have HW8 := Lib.hid (Mod.into' (Mod.into' (Mod.into' (Mod.into' (Mod.into' (HMQ.out) (MP1.out) (fun k hk => .inl (by simp at hk; subst hk; exact Nat.le_of_lt HSZW.out))) m5 (fun k hk => .inr (by simp only [List.mem_cons, List.mem_append] at hk ⊢; rcases hk with h | h; exact .inl h; exact .inr (.inl h)))) mput (fun k hk => .inr (by simp at hk; simp [hk, blk, Value.ownBlock]))) m7 (fun k hk => .inr (by simp only [List.mem_cons, List.mem_append] at hk ⊢; rcases hk with h | h; exact .inl h; exact .inr (.inr h)))) m8 (fun k hk => .inr (by simp at hk; simp [hk])))
    have CM := Lib.hid (mend_at (T := (.node p1 l1 y1 r1)) (ns := ns.set p Nd.zero) (root := T.at_) T8 HP8.out HPN.out.1 HPN.out.2.1 hcl.1 hcl.2 hnd2 (by have := HOK.out.hc; omega) (fun f hf => by have := HOK.out.high f hf; omega) (by omega))
    have HHEIR := Lib.hid (show fv'.ownBlock = (Value.slice fa fr.length fc).ownBlock ∨ ∀ k, fv'.ownBlock = some k → w.heap.size ≤ k from hheir.imp id (fun h k hk => by
      have h1 := h k hk
      have h2 := m5.size
      have h3 := mput.size
      have h4 := MP1.out.size
      have h5 := HMQ.out.size
      omega))
    have RPUT := Lib.hid rput
    have RA := Lib.hid ra
    have RS := Lib.hid rs
    simp only [encNd, Nd.zero] at RPUT
    clear T5 T5' T6 T7 T8 m5 mput m7 m8 rput ra rs hz hhl hcl hnd2 hheir CA
    go_wp2_with fail
    refine ⟨again_nil, ?_⟩
    go_wp2_with fail
    refine ⟨by first | trivial | rfl, ?_⟩
    go_wp2_with (first | ((with_reducible refine xStoreAt rfl RPUT.out ?_ ?_ ?_ ?_); exact rfl; exact rfl; exact rfl) | ((with_reducible refine xAppendAt RA.out rfl rfl ?_ ?_ ?_ ?_); exact rfl; exact rfl; exact rfl) | ((with_reducible refine xStoreAt rfl RS.out ?_ ?_ ?_ ?_); exact rfl; exact rfl; exact rfl))
    refine CM.out.mono ?_
    rintro e w8 ⟨rfl, ns8, T9, r9, l9, _, m9⟩
    rw [HOK.out.plug] at T9 r9
    have HE := Lib.hid (del_end HS.out HX.out hdn.out T9 r9 (by rw [l9]; simp) (Mod.into' HW8.out m9 (fun k hk => .inr (by simp only [List.mem_cons, List.mem_append] at hk ⊢; rcases hk with h | h; exact .inl h; exact .inr (.inl h)))) HHEIR.out)
    clear T9 r9 m9 CM
    go_wp2_with fail
    go_ret
    exact ⟨rfl, HE.out⟩
end Go.Proofs.Ytngglpekdjhbdaa
