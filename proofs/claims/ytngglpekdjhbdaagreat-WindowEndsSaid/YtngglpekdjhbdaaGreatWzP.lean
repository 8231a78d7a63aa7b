/- Layer 8: an item goes: in plain, and what is laid ahead of the walk. -/
import Derived.Test.YtngglpekdjhbdaaGreatWzF
import Derived.Test.YtngglpekdjhbdaaGreatWzO
namespace Go.Proofs.YtngglpekdjhbdaaGreat
set_option linter.unusedSimpArgs false
set_option linter.unusedVariables false
namespace Tr
/-- what the walk comes by -/
def vis (a : Int) : Tr → List It
  | nil => []
  | node p l x r => if (node p l x r).top ≤ a then [] else vis a l ++ x :: vis a r
/-- the stack behind a push -/
def pushS (a : Int) : Tr → List Tr → List Tr
  | nil, st => st
  | node p l x r, st => if (node p l x r).top ≤ a then st else pushS a l (node p l x r :: st)
/-- what is still to come of one node of the stack -/
def due (a : Int) : Tr → List It
  | nil => []
  | node _ _ x r => x :: vis a r
def dues (a : Int) (st : List Tr) : List It := st.flatMap (due a)
theorem dues_push (a : Int) : ∀ (T : Tr) (st : List Tr), dues a (pushS a T st) = vis a T ++ dues a st
  | nil, st => rfl
  | node p l x r, st => by
    unfold pushS vis
    split
    · rfl
    · rw [dues_push a l]
      simp [dues, due]
/-- no entry of the stack, with those below it, is higher than this -/
def lowS (H : Int) : List Tr → Prop
  | [] => True
  | T :: st => (st.length : Int) + T.ht ≤ H ∧ lowS H st
theorem lowS_push (a H : Int) : ∀ (T : Tr) (st : List Tr), lowS H st → (st.length : Int) + T.ht ≤ H → lowS H (pushS a T st)
  | nil, st, h, _ => h
  | node p l x r, st, h, hT => by
    unfold pushS
    split
    · exact h
    · have hl := ht_nonneg l
      have hr := ht_nonneg r
      refine lowS_push a H l _ ⟨hT, h⟩ ?_
      simp only [List.length_cons, ht] at hT ⊢
      omega
theorem lowS_len {H : Int} : ∀ {st : List Tr}, lowS H st → (∀ T ∈ st, T ≠ nil) → (st.length : Int) ≤ max H 0
  | [], _, _ => by simp; omega
  | T :: st, ⟨h1, h2⟩, hn => by
    cases T with
    | nil => exact absurd rfl (hn nil (by simp))
    | node p l x r =>
      have hl := ht_nonneg l
      have hr := ht_nonneg r
      simp only [List.length_cons, ht] at h1 ⊢
      omega
/-- what a node's top says of its items -/
theorem top_ge : ∀ {T : Tr} {y : It}, y ∈ T.items → y.t ≤ T.top
  | nil, y, h => by simp [items] at h
  | node p l x r, y, h => by
    simp only [items, List.mem_append, List.mem_cons] at h
    rcases h with h | h | h
    · have := top_ge h
      cases l with
      | nil => simp [items] at h
      | node p1 l1 y1 r1 =>
        have e : (node p (node p1 l1 y1 r1) x r).top = max (max x.t (node p1 l1 y1 r1).top) (match r with | nil => x.t | node .. => r.top) := rfl
        rw [e]
        omega
    · subst h
      have e : (node p l y r).top = max (max y.t (match l with | nil => y.t | node .. => l.top)) (match r with | nil => y.t | node .. => r.top) := rfl
      rw [e]
      omega
    · have := top_ge h
      cases r with
      | nil => simp [items] at h
      | node p1 l1 y1 r1 =>
        have e : (node p l x (node p1 l1 y1 r1)).top = max (max x.t (match l with | nil => x.t | node .. => l.top)) (node p1 l1 y1 r1).top := rfl
        rw [e]
        omega
theorem vis_filter (a : Int) : ∀ T : Tr, (vis a T).filter (fun x => decide (a < x.t)) = T.items.filter (fun x => decide (a < x.t))
  | nil => rfl
  | node p l x r => by
    unfold vis
    split
    · rename_i h
      symm
      rw [List.filter_nil]
      exact List.filter_eq_nil_iff.2 fun y hy => by
        have := top_ge hy
        simp; omega
    · simp only [items, List.filter_append, List.filter_cons, vis_filter a l, vis_filter a r]
theorem vis_sub (a : Int) : ∀ T : Tr, (vis a T).Sublist T.items
  | nil => List.Sublist.refl _
  | node p l x r => by
    unfold vis
    split
    · exact List.nil_sublist _
    · exact List.Sublist.append (vis_sub a l) ((vis_sub a r).cons_cons x)
theorem takeWhile_sorted (b : Int) : ∀ {l : List It}, l.Pairwise Lt → l.takeWhile (fun x => decide (x.f < b)) = l.filter (fun x => decide (x.f < b))
  | [], _ => rfl
  | x :: l, h => by
    obtain ⟨h1, h2⟩ := List.pairwise_cons.1 h
    rw [List.takeWhile_cons, List.filter_cons]
    by_cases hx : x.f < b
    · rw [if_pos (by simpa using hx), if_pos (by simpa using hx), takeWhile_sorted b h2]
    · rw [if_neg (by simpa using hx), if_neg (by simpa using hx)]
      symm
      exact List.filter_eq_nil_iff.2 fun y hy => by
        have := ordI_neg.1 (h1 y hy)
        simp
        omega
/-- the items that end above a and begin below b -/
def over (a b : Int) (T : Tr) : List It := T.items.filter fun x => decide (a < x.t) && decide (x.f < b)
/-- what a walk tells -/
theorem vis_over (a b : Int) {T : Tr} (h : srt T) : ((vis a T).takeWhile (fun x => decide (x.f < b))).filter (fun x => decide (a < x.t)) = over a b T := by
  rw [takeWhile_sorted b (List.Pairwise.sublist (vis_sub a T) h), List.filter_filter]
  unfold over
  rw [show (fun x : It => decide (a < x.t) && decide (x.f < b)) = (fun x => decide (x.f < b) && decide (a < x.t)) from funext fun x => Bool.and_comm _ _, ← List.filter_filter, vis_filter, List.filter_filter]
end Tr
end Go.Proofs.YtngglpekdjhbdaaGreat
namespace Go.Proofs.YtngglpekdjhbdaaGreat
open Go.RowKit Go.ChangeMaps Go.Deep Tr
set_option linter.unusedSimpArgs false
set_option linter.unusedVariables false
set_option maxRecDepth 20000

def knC : Tr → List Value
  | .nil => []
  | .node _ l x r => [.int .i64 x.f, .int .i64 x.t, .int .i64 x.i, .int .i64 l.at_, .int .i64 r.at_, .int .i64 (Tr.node 0 l x r).ht, .int .i64 (Tr.node 0 l x r).top]
/-- the cells of a walker; st: the stack, the last one pushed ahead -/
structure Wk (C : Array Value) (tb : Nat) (a z : Int) (st : List Tr) : Prop where
  size : C.size = 284
  c0 : C[0]? = some (.pointer (some ⟨tb, 0, none⟩))
  c1 : C[1]? = some (.int .i64 a)
  c2 : C[2]? = some (.int .i64 z)
  n : C[283]? = some (.int .i64 st.length)
  ent : ∀ i T, st.reverse[i]? = some T → ∀ j u, (knC T)[j]? = some u → C[3 + i * 7 + j]? = some u
theorem splice_get {a x z y : List Value} (h : x.length = y.length) (k : Nat) : (a ++ (y ++ z))[k]? = if k < a.length then (a ++ (x ++ z))[k]? else if k < a.length + y.length then y[k - a.length]? else (a ++ (x ++ z))[k]? := by
  by_cases h1 : k < a.length
  · rw [if_pos h1, List.getElem?_append_left h1, List.getElem?_append_left h1]
  · rw [if_neg h1]
    rw [List.getElem?_append_right (by omega)]
    by_cases h2 : k < a.length + y.length
    · rw [if_pos h2, List.getElem?_append_left (by omega)]
    · rw [if_neg h2, List.getElem?_append_right (by omega), List.getElem?_append_right (by omega), List.getElem?_append_right (by omega), h]
theorem knC_len {p : Nat} {l r : Tr} {x : It} : (knC (.node p l x r)).length = 7 := rfl
theorem wk_push {w : World} {wb tb : Nat} {a z : Int} {st : List Tr} {C : Array Value} {t : TypeId} (hb : w.heap[wb]? = some (.cells C t (0, 0))) (h : Wk C tb a z st) (hl : st.length < 40) {p : Nat} {l r : Tr} {x : It} :
    ∃ w' C', (Instr.storeAt 113 (.pointer (some ⟨wb, 3 + st.length * 7, none⟩)) (.agg (knC (.node p l x r)).toArray)).run Tryz.prog w = .ok () w' ∧ Mod [wb] w w' ∧ w'.heap[wb]? = some (.cells C' t (0, 0)) ∧ C'[283]? = some (.int .i64 st.length) ∧ C'[0]? = some (.pointer (some ⟨tb, 0, none⟩)) ∧ C'[1]? = some (.int .i64 a) ∧
      Wk (C'.setIfInBounds 283 (.int .i64 ((st.length : Int) + 1))) tb a z (.node p l x r :: st) := by
  have hcl : C.toList.length = 284 := by simpa using h.size
  have hsplit0 : ∀ N, C.toList = C.toList.take N ++ ((C.toList.drop N).take 7 ++ C.toList.drop (N + 7)) := fun N => by
    rw [← List.drop_drop, List.take_append_drop, List.take_append_drop]
  have hsplit := hsplit0 (3 + st.length * 7)
  have hpl : (C.toList.take (3 + st.length * 7)).length = 3 + st.length * 7 := by rw [List.length_take]; omega
  have hml : ((C.toList.drop (3 + st.length * 7)).take 7).length = (knC (.node p l x r)).length := by rw [knC_len, List.length_take, List.length_drop]; omega
  obtain ⟨w', r', m, hh⟩ := store_at2 (P := Tryz.prog) 113 _ _ _ (knC (.node p l x r)) (show w.heap[wb]? = some (.cells (C.toList.take (3 + st.length * 7) ++ ((C.toList.drop (3 + st.length * 7)).take 7 ++ C.toList.drop (3 + st.length * 7 + 7))).toArray t (0, 0)) by rw [← hsplit]; simpa using hb) hml (by rw [knC_len]; exact sizeKnot) (by simp [knC, Value.oneCell'])
  rw [hpl] at r'
  have hget : ∀ k, ((C.toList.take (3 + st.length * 7) ++ (knC (.node p l x r) ++ C.toList.drop (3 + st.length * 7 + 7))).toArray)[k]? = if k < 3 + st.length * 7 then C[k]? else if k < 3 + st.length * 7 + 7 then (knC (.node p l x r))[k - (3 + st.length * 7)]? else C[k]? := fun k => by
    rw [List.getElem?_toArray, splice_get hml k, hpl, knC_len, ← hsplit, Array.getElem?_toList]
  refine ⟨w', _, r', m, hh, ?_, ?_, ?_, ?_⟩
  · rw [hget, if_neg (by omega), if_neg (by omega)]; exact h.n
  · rw [hget, if_pos (by omega)]; exact h.c0
  · rw [hget, if_pos (by omega)]; exact h.c1
  have hsz : ((C.toList.take (3 + st.length * 7) ++ (knC (.node p l x r) ++ C.toList.drop (3 + st.length * 7 + 7))).toArray).size = 284 := by
    simp only [List.size_toArray, List.length_append, hpl, knC_len, List.length_drop]
    omega
  refine ⟨by rw [Array.size_setIfInBounds]; exact hsz, ?_, ?_, ?_, ?_, fun i T hT j u hu => ?_⟩
  · rw [Array.getElem?_setIfInBounds, if_neg (by omega), hget, if_pos (by omega)]; exact h.c0
  · rw [Array.getElem?_setIfInBounds, if_neg (by omega), hget, if_pos (by omega)]; exact h.c1
  · rw [Array.getElem?_setIfInBounds, if_neg (by omega), hget, if_pos (by omega)]; exact h.c2
  · rw [Array.getElem?_setIfInBounds, if_pos rfl, if_pos (by omega)]
    simp
  · have hj : j < 7 := by
      have := (List.getElem?_eq_some_iff.1 hu).1
      cases T with
      | nil => simp [knC] at this
      | node => rw [knC_len] at this; exact this
    have hi := (List.getElem?_eq_some_iff.1 hT).1
    simp only [List.length_reverse, List.length_cons] at hi
    rw [Array.getElem?_setIfInBounds, if_neg (by omega), hget]
    rw [List.reverse_cons] at hT
    by_cases hip : i < st.length
    · rw [List.getElem?_append_left (by simpa using hip)] at hT
      rw [if_pos (by omega)]
      exact h.ent i T hT j u hu
    · have e : i = st.length := by omega
      subst e
      rw [List.getElem?_append_right (by simp)] at hT
      simp at hT
      subst hT
      rw [if_neg (by omega), if_pos (by omega), show 3 + st.length * 7 + j - (3 + st.length * 7) = j by omega]
      exact hu
end Go.Proofs.YtngglpekdjhbdaaGreat
namespace Go.Proofs.YtngglpekdjhbdaaGreat
open Go.RowKit Go.ChangeMaps Go.Deep Tr
set_option linter.unusedSimpArgs false
set_option linter.unusedVariables false
set_option maxRecDepth 20000

namespace Tr
/-- what stands where an item stood, and the place that is free then -/
def delTop (p : Nat) : Tr → Tr → Nat × Tr
  | nil, r => (p, r)
  | node p1 l1 y1 r1, nil => (p, node p1 l1 y1 r1)
  | node p1 l1 y1 r1, node q a z b => ((delMin q a z b).1, mend p (node p1 l1 y1 r1) (delMin q a z b).2.1 (delMin q a z b).2.2)
theorem del_found {x y : It} {p : Nat} {l r : Tr} (h : ordI x y = 0) : del x (node p l y r) = some (delTop p l r) := by
  unfold del
  rw [if_neg (by omega), if_neg (by omega)]
  cases l <;> cases r <;> rfl
theorem downT_del (x : It) : ∀ (T : Tr) (fs : List Fr) (p : Nat) (l : Tr) (y : It) (r : Tr), (downT x T fs).2 = node p l y r → ∃ T', del x T = some ((delTop p l r).1, T') ∧ plugM (delTop p l r).2 (downT x T fs).1 = plugM T' fs
  | nil, fs, p, l, y, r, h => by simp [downT] at h
  | node p0 l0 y0 r0, fs, p, l, y, r, h => by
    unfold downT at h ⊢
    by_cases hc : ordI x y0 = 0
    · rw [if_pos hc] at h ⊢
      simp only [node.injEq] at h
      obtain ⟨rfl, rfl, rfl, rfl⟩ := h
      exact ⟨_, del_found hc, rfl⟩
    · rw [if_neg hc] at h ⊢
      by_cases hd : 0 < ordI x y0
      · rw [if_pos hd] at h ⊢
        obtain ⟨T', e1, e2⟩ := downT_del x r0 _ p l y r h
        refine ⟨mend p0 l0 y0 T', ?_, ?_⟩
        · unfold del
          rw [if_neg (by omega), if_pos hd, e1]
          rfl
        · rw [e2]; rfl
      · rw [if_neg hd] at h ⊢
        obtain ⟨T', e1, e2⟩ := downT_del x l0 _ p l y r h
        refine ⟨mend p0 T' y0 r0, ?_, ?_⟩
        · unfold del
          rw [if_pos (by omega), e1]
          rfl
        · rw [e2]; rfl
theorem downT_found (x : It) : ∀ (T : Tr) (fs : List Fr), srt T → x ∈ T.items → ∃ p l r, (downT x T fs).2 = node p l x r
  | nil, fs, _, hx => by simp [items] at hx
  | node p l y r, fs, hS, hx => by
    obtain ⟨s1, s2, s3, s4⟩ := srt_node hS
    unfold downT
    by_cases hc : ordI x y = 0
    · rw [if_pos hc]
      have := ordI_zero.1 hc
      subst this
      exact ⟨p, l, r, rfl⟩
    · rw [if_neg hc]
      simp only [items, List.mem_append, List.mem_cons] at hx
      by_cases hd : 0 < ordI x y
      · rw [if_pos hd]
        refine downT_found x r _ s2 ?_
        rcases hx with h | h | h
        · have := s3 x h; unfold Lt at this; omega
        · exact absurd (ordI_zero.2 h) hc
        · exact h
      · rw [if_neg hd]
        refine downT_found x l _ s1 ?_
        rcases hx with h | h | h
        · exact h
        · exact absurd (ordI_zero.2 h) hc
        · have := ordI_flip.1 (s4 x h); omega
/-- what balancing asks, where a place has been left -/
structure DelOk (ns : List Nd) (q : Nat) (c : Tr) (F : List Fr) (T T' : Tr) : Prop where
  rep : c.rep ns
  rest : RestOk ns F
  nodup : (q :: (c.places ++ F.flatMap Fr.places)).Nodup
  plug : plugM c F = T'
  high : ∀ f ∈ F, f.o.ht ≤ T.ht
  hc : c.ht ≤ T.ht
  len : (F.length : Int) ≤ T.ht
  node : ∃ x li ri h t, ns[q]? = some ⟨x, li, ri, h, t, true⟩ ∧ max li ri = c.at_
theorem hang_set {ns : List Nd} {root : Int} {F : List Fr} {below : Int} {q : Nat} (z : Nd) (h : q ∉ F.flatMap Fr.places) : (hangTop ns root (pth F) below).1.set q z = (hangTop (ns.set q z) root (pth F) below).1 ∧ (hangTop ns root (pth F) below).2 = (hangTop (ns.set q z) root (pth F) below).2 := by
  cases F with
  | nil => exact ⟨rfl, rfl⟩
  | cons f fs =>
    have hq : f.p ≠ q := fun e => h (by simp [Fr.places, e])
    refine ⟨?_, rfl⟩
    simp only [hangTop, pth, List.map_cons, hangN]
    have e : nodeN (ns.set q z) f.p = nodeN ns f.p := by
      unfold nodeN List.getD
      rw [set_other hq]
    rw [e, List.set_comm _ _ hq]
theorem DelOk.clear {ns : List Nd} {q : Nat} {c : Tr} {F : List Fr} {T T' : Tr} (h : DelOk ns q c F T T') (z : Nd) : c.rep (ns.set q z) ∧ RestOk (ns.set q z) F := by
  obtain ⟨h1, h2⟩ := List.nodup_cons.1 h.nodup
  exact ⟨rep_set h.rep (fun e => h1 (List.mem_append_left _ e)) z, h.rest.congr fun i hi => set_other (fun e => h1 (List.mem_append_right _ (e ▸ hi)))⟩
/-- one side is none -/
theorem del_one {ns : List Nd} {x : It} {T : Tr} (hrep : T.rep ns) (hnd : T.places.Nodup) {p : Nat} {l r : Tr} (hf : (downT x T []).2 = node p l x r) (ho : l = nil ∨ r = nil) :
    ∃ T', del x T = some (p, T') ∧ DelOk ns p (delTop p l r).2 (downT x T []).1 T T' := by
  obtain ⟨T', e1, e2⟩ := downT_del x T [] p l x r hf
  obtain ⟨r1, r2⟩ := downT_rest x T [] hrep (fun f hf => by cases hf)
  have hp := downT_places x T []
  have hl := downT_len x T []
  rw [hf] at r2 hp hl
  simp only [List.flatMap_nil, List.append_nil, List.length_nil] at hp hl
  obtain ⟨q1, q2, q3⟩ := r2
  have hn := hp.nodup_iff.2 hnd
  have hoht := fun f hf => (downT_oht x T [] f hf).resolve_left (by simp)
  have h0 := ht_nonneg l
  have h1 := ht_nonneg r
  simp only [ht] at hl
  have hfst : (delTop p l r).1 = p := by
    rcases ho with rfl | rfl
    · rfl
    · cases l <;> rfl
  rw [hfst] at e1
  refine ⟨T', e1, ?_⟩
  rcases ho with rfl | rfl
  · refine ⟨q3, r1, ?_, e2, hoht, by simp only [delTop]; omega, by omega, _, _, _, _, _, q1, ?_⟩
    · simpa [places, delTop] using hn
    · cases r <;> simp [at_, delTop] <;> omega
  · cases l with
    | nil =>
      refine ⟨trivial, r1, ?_, e2, hoht, by simp only [delTop]; omega, by omega, _, _, _, _, _, q1, rfl⟩
      simpa [places, delTop] using hn
    | node p1 l1 y1 r1' =>
      refine ⟨q2, r1, ?_, e2, hoht, by simp only [delTop]; omega, by omega, _, _, _, _, _, q1, ?_⟩
      · simpa [places, delTop] using hn
      · simp [at_, delTop]; omega
theorem minF_oht : ∀ (a : Tr) (q : Nat) (z : It) (b : Tr) (fs : List Fr), (∀ f ∈ (minF q a z b fs).2.2.2, f ∈ fs ∨ f.o.ht ≤ (node q a z b).ht) ∧ (minF q a z b fs).2.2.1.ht ≤ (node q a z b).ht
  | nil, q, z, b, fs => by
    have := ht_nonneg b
    simp only [minF, ht]
    exact ⟨fun f hf => .inl hf, by omega⟩
  | node s c u d, q, z, b, fs => by
    obtain ⟨h1, h2⟩ := minF_oht c s u d (⟨q, false, z, b⟩ :: fs)
    have e1 := ht_nonneg b
    have e2 := ht_nonneg (node s c u d)
    simp only [minF]
    refine ⟨fun f hf => ?_, by simp only [ht] at *; omega⟩
    rcases h1 f hf with h | h
    · rcases List.mem_cons.1 h with rfl | h
      · right; simp only [ht]; omega
      · exact .inl h
    · right; simp only [ht] at *; omega
def ndx (l : Tr) (x : It) (r : Tr) (y : It) : Nd := ⟨y, l.at_, r.at_, (nd l x r).h, (nd l x r).t, true⟩
/-- both sides are there: the least item on the right takes the place -/
theorem del_two {ns : List Nd} {x : It} {T : Tr} (hrep : T.rep ns) (hnd : T.places.Nodup) {p : Nat} {p1 : Nat} {l1 : Tr} {y1 : It} {r1 : Tr} {q : Nat} {a : Tr} {z : It} {b : Tr} (hf : (downT x T []).2 = node p (node p1 l1 y1 r1) x (node q a z b)) {m : Nat × It × Tr × List Fr} (hm : m = minF q a z b (⟨p, true, (delMin q a z b).2.1, node p1 l1 y1 r1⟩ :: (downT x T []).1)) :
    ∃ T', del x T = some (m.1, T') ∧ m.2.1 = (delMin q a z b).2.1 ∧ ns[m.1]? = some (nd nil m.2.1 m.2.2.1) ∧ m.1 ≠ p ∧ DelOk (ns.set p (ndx (node p1 l1 y1 r1) x (node q a z b) m.2.1)) m.1 m.2.2.1 m.2.2.2 T T' := by
  obtain ⟨T', e1, e2⟩ := downT_del x T [] p _ x _ hf
  obtain ⟨r1', r2⟩ := downT_rest x T [] hrep (fun f hf => by cases hf)
  have hp := downT_places x T []
  have hl := downT_len x T []
  rw [hf] at r2 hp hl
  simp only [List.flatMap_nil, List.append_nil, List.length_nil] at hp hl
  obtain ⟨q1, q2, q3⟩ := r2
  have hn := hp.nodup_iff.2 hnd
  have hoht := fun f hf => (downT_oht x T [] f hf).resolve_left (by simp)
  obtain ⟨d1, d2, d3⟩ := minF_del a q z b (⟨p, true, (delMin q a z b).2.1, node p1 l1 y1 r1⟩ :: (downT x T []).1)
  obtain ⟨o1, o2⟩ := minF_oht a q z b (⟨p, true, (delMin q a z b).2.1, node p1 l1 y1 r1⟩ :: (downT x T []).1)
  have ml := minF_len a q z b (⟨p, true, (delMin q a z b).2.1, node p1 l1 y1 r1⟩ :: (downT x T []).1)
  have mp := minF_places a q z b (⟨p, true, (delMin q a z b).2.1, node p1 l1 y1 r1⟩ :: (downT x T []).1)
  rw [← hm] at d1 d2 d3 o1 o2 ml mp
  simp only [List.length_cons] at ml
  have e0 := ht_nonneg (node p1 l1 y1 r1)
  have e3 := ht_nonneg (node q a z b)
  have hl' : ((downT x T []).1.length : Int) + (1 + max (node p1 l1 y1 r1).ht (node q a z b).ht) ≤ T.ht := by
    have : (node p (node p1 l1 y1 r1) x (node q a z b)).ht = 1 + max (node p1 l1 y1 r1).ht (node q a z b).ht := rfl
    omega
  -- places
  have hperm : (m.1 :: (m.2.2.1.places ++ m.2.2.2.flatMap Fr.places)).Perm ((node p (node p1 l1 y1 r1) x (node q a z b)).places ++ (downT x T []).1.flatMap Fr.places) := by
    refine mp.trans ?_
    simp only [List.flatMap_cons, Fr.places]
    rw [show (node p (node p1 l1 y1 r1) x (node q a z b)).places = p :: ((node p1 l1 y1 r1).places ++ (node q a z b).places) from rfl]
    rw [List.cons_append, List.cons_append]
    refine List.perm_middle.trans (List.Perm.cons p ?_)
    rw [← List.append_assoc]
    exact List.Perm.append_right _ List.perm_append_comm
  have hn2 := hperm.nodup_iff.2 hn
  have hrestp : ∀ i, i ∈ (node p1 l1 y1 r1).places ++ (node q a z b).places → i ≠ p := fun i hi e => by
    rw [show (node p (node p1 l1 y1 r1) x (node q a z b)).places = p :: ((node p1 l1 y1 r1).places ++ (node q a z b).places) from rfl] at hn
    have h2 := (List.nodup_append.1 hn).1
    exact (List.nodup_cons.1 h2).1 (e ▸ hi)
  have hpF : p ∉ (downT x T []).1.flatMap Fr.places := fun e => by
    obtain ⟨_, _, h3⟩ := List.nodup_append.1 hn
    exact h3 p (by simp [places]) p e rfl
  have hset := set_self (m := ndx (node p1 l1 y1 r1) x (node q a z b) m.2.1) q1
  have hrepR : (node q a z b).rep (ns.set p (ndx (node p1 l1 y1 r1) x (node q a z b) m.2.1)) := rep_congr (fun i hi => set_other (hrestp i (List.mem_append_right _ hi))) q3
  have hrepL : (node p1 l1 y1 r1).rep (ns.set p (ndx (node p1 l1 y1 r1) x (node q a z b) m.2.1)) := rep_congr (fun i hi => set_other (hrestp i (List.mem_append_left _ hi))) q2
  have hR0 : RestOk (ns.set p (ndx (node p1 l1 y1 r1) x (node q a z b) m.2.1)) (⟨p, true, (delMin q a z b).2.1, node p1 l1 y1 r1⟩ :: (downT x T []).1) := fun f hf => by
    rcases List.mem_cons.1 hf with rfl | hf
    · refine ⟨⟨(node q a z b).at_, (nd (node p1 l1 y1 r1) x (node q a z b)).h, (nd (node p1 l1 y1 r1) x (node q a z b)).t, ?_⟩, hrepL⟩
      dsimp only
      rw [if_pos rfl, hset, d2]
      rfl
    · exact (r1'.congr fun i hi => set_other (show i ≠ p from fun e => hpF (by rw [← e]; exact hi))) f hf
  obtain ⟨g1, g2, g3⟩ := minF_rest a q z b _ hrepR hR0
  rw [← hm] at g1 g2 g3
  have hmp : m.1 ≠ p := fun e => by
    have h1 : p ∈ m.2.2.2.flatMap Fr.places ∨ p ∈ m.2.2.1.places ∨ p = m.1 := by
      have : p ∈ (node q a z b).places ++ (⟨p, true, (delMin q a z b).2.1, node p1 l1 y1 r1⟩ :: (downT x T []).1 : List Fr).flatMap Fr.places := by simp [Fr.places]
      have := mp.mem_iff.2 this
      simp only [List.mem_cons, List.mem_append] at this
      rcases this with h | h | h
      · exact .inr (.inr h)
      · exact .inr (.inl h)
      · exact .inl h
    have h2 : ns[m.1]? = some (nd nil m.2.1 m.2.2.1) ∨ True := .inr trivial
    have h3 : m.1 ∈ (node q a z b).places := by
      rw [d1]
      have := (delMin_places a q z b).mem_iff.1 (List.mem_cons_self)
      exact this
    exact hrestp m.1 (List.mem_append_right _ h3) e
  rw [set_other hmp] at g3
  refine ⟨T', ?_, d2, g3, hmp, g2, g1, hn2, ?_, fun f hf => ?_, by omega, by omega, ?_⟩
  · rw [e1, d1]; rfl
  · rw [d3, show plugM (delMin q a z b).2.2 (⟨p, true, (delMin q a z b).2.1, node p1 l1 y1 r1⟩ :: (downT x T []).1) = plugM (mend p (node p1 l1 y1 r1) (delMin q a z b).2.1 (delMin q a z b).2.2) (downT x T []).1 from rfl]
    exact e2
  · rcases o1 f hf with h | h
    · rcases List.mem_cons.1 h with rfl | h
      · dsimp only; omega
      · exact hoht f h
    · omega
  · refine ⟨_, _, _, _, _, by rw [set_other hmp]; exact g3, ?_⟩
    cases m.2.2.1 <;> simp [at_] <;> omega
end Tr
/-- a free place more -/
theorem tree_free {w : World} {b : Nat} {nv fv : Value} {ns : List Nd} {fr : List Int} {root many : Int} (h : TreeAt w b nv fv ns fr root many) (q : Int) (hlen : fr.length < 1073741824) :
    ∃ fv' w1 w2, (Builtin.append_ #[41, 41] 41 #[fv, .slice (some ⟨w.heap.size, 0, none⟩) 1 1]).run Tryz.prog (w.alloc (.cells #[.int .i64 q] 3)) = .ok fv' w1 ∧
      (Instr.storeAt 41 (.pointer (some ⟨b, 2, none⟩)) fv').run Tryz.prog w1 = .ok () w2 ∧ TreeAt w2 b nv fv' ns (fr ++ [q]) root many ∧ Mod (b :: blk fv) w w2 ∧ (fv'.ownBlock = fv.ownBlock ∨ ∀ k, fv'.ownBlock = some k → w.heap.size ≤ k) := by
  obtain ⟨fv', w1, r1, o1, g1⟩ := own_append1 (P := Tryz.prog) elemInt encI_len encI_one h.free (by omega) (ty := 41) q hlen (by omega)
  have hbf : b ∉ blk fv := fun e => h.bf (mem_blk.1 e)
  have hb1 := g1.mod.heap h.blk hbf
  have hrow := h.row.kept g1.mod (fun k hk hm => h.nf k hk (mem_blk.1 hm))
  have hblt := lt_of_heap h.blk
  have hnew : ∀ k, fv'.ownBlock = some k → k ≠ b ∧ nv.ownBlock ≠ some k := fun k hk => by
    rcases g1.heir with e | e
    · rw [e] at hk
      exact ⟨fun e => h.bf (e ▸ hk), fun hn => h.nf k hn hk⟩
    · have := e k hk
      refine ⟨by omega, fun hf => ?_⟩
      have := (World.ownsRow.lt h.row k hf).2
      omega
  have h1c : (#[fv'] : Array Value).all (·.oneCell') = true ∧ fv'.cells = #[fv'] := by
    rcases o1.2 with ⟨rfl, _⟩ | ⟨g, cap, cur, rfl, _⟩ <;> simp [Value.oneCell', Value.cells]
  refine ⟨fv', w1, w1.setCell ⟨b, 2, none⟩ fv', r1, run_storeAt_blk hb1 (by simp) 41 (by kernel_rfl) h1c.2 (by simpa using h1c.1), ?_, ?_, g1.heir⟩
  · have hm : Mod [b] w1 (w1.setCell ⟨b, 2, none⟩ fv') := (Mod.refl _ _).setCell (by simp) _
    refine ⟨?_, hrow.kept hm (fun k hk hb => h.bn (by rw [List.mem_singleton] at hb; rw [← hb]; exact hk)), o1.kept hm (fun k hk hb => (hnew k hk).1 (by simpa using hb)), h.bn, fun e => (hnew b e).1 rfl, fun k hk he => (hnew k he).2 hk⟩
    rw [heap_setCell_blk hb1]
    simp
  · exact Mod.into' (Mod.into' (Mod.refl _ w) g1.mod (fun k hk => .inr (by simp [hk]))) ((Mod.refl [b] w1).setCell (by simp) _) (fun k hk => .inr (by simp at hk; simp [hk]))
end Go.Proofs.YtngglpekdjhbdaaGreat
