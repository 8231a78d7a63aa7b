/- The library's stable sort in plain: swapped ranges, rotation, blocks that are sorted. No program is named here. -/
import Derived.Test.YtngglpekdjhbdaaBzF
import Derived.WalkKit
namespace Go.Proofs.Ytngglpekdjhbdaa
open Go.RowKit Go.ChangeMaps Go.Deep Tr
set_option linter.unusedSimpArgs false
set_option linter.unusedVariables false
set_option maxRecDepth 20000

theorem store_at2 {P : Program} {w : World} {b : Nat} {t : TypeId} (T : TypeId) (a x z y : List Value) (h : w.heap[b]? = some (.cells (a ++ (x ++ z)).toArray t (0, 0))) (hxy : x.length = y.length) (hi : (P.info? T).map (·.size) = some y.length) (h1 : (y.toArray : Array Value).all (·.oneCell') = true) :
    ∃ w', (Instr.storeAt T (.pointer (some ⟨b, a.length, none⟩)) (.agg y.toArray)).run P w = .ok () w' ∧ Mod [b] w w' ∧ w'.heap[b]? = some (.cells (a ++ (y ++ z)).toArray t (0, 0)) := by
  refine ⟨_, run_storeAt_mid w b a.length T y.toArray (there_blk h a.length y.length (by simp; omega)) (by simpa using hi) h1, (Mod.refl _ _).setCells (by simp) _ _, ?_⟩
  rw [heap_setCells_blk b y.toArray.toList a.length w h]
  have e := setRange_mid a y x z hxy
  simp only [e]
theorem take_three (a y z : List Value) (N : Nat) (h : a.length + y.length ≤ N) : (a ++ (y ++ z)).take N = a ++ (y ++ z.take (N - (a.length + y.length))) := by
  rw [List.take_append, List.take_of_length_le (show a.length ≤ N by omega), List.take_append, List.take_of_length_le (show y.length ≤ N - a.length by omega)]
  rw [show N - a.length - y.length = N - (a.length + y.length) by omega]
theorem OwnR.setAll {α : Type} {enc : α → List Value} {k : Nat} {P : Program} {E : TypeId} {w : World} {base : Nat} {l : List α} (hk : ∀ x, (enc x).length = k) (h1 : ∀ x, ∀ v ∈ enc x, v.oneCell' = true) {g cap : Nat} (h : OwnR enc k E w base (.slice (some ⟨g, 0, none⟩) l.length cap) l) {i : Nat} (hi : i < l.length) (y : α) (hs : (P.info? E).map (·.size) = some k) :
    ∃ w', (Instr.storeAt E (.pointer (some ⟨g, i * k, none⟩)) (.agg (enc y).toArray)).run P w = .ok () w' ∧ Mod [g] w w' ∧ OwnR enc k E w' base (.slice (some ⟨g, 0, none⟩) l.length cap) (l.set i y) := by
  rcases h.2 with ⟨e, _⟩ | ⟨g', cap', cur, e, hb, hg, hn, hcm, hcs, htake⟩
  · cases e
  · simp only [Value.slice.injEq, Option.some.injEq, Addr.mk.injEq, and_true, true_and] at e
    obtain ⟨rfl, rfl⟩ := e
    have hik : i * k + k ≤ l.length * k := by
      have := Nat.mul_le_mul_right k (show i + 1 ≤ l.length from hi)
      rwa [Nat.add_mul, Nat.one_mul] at this
    have hlk : l.length * k ≤ cap * k := Nat.mul_le_mul_right k hn
    have hcl : cur.toList.length = cap * k := by simpa using hcs
    have hsplit : cur.toList = cur.toList.take (i * k) ++ ((cur.toList.drop (i * k)).take k ++ cur.toList.drop (i * k + k)) := by
      rw [← List.drop_drop, List.take_append_drop, List.take_append_drop]
    have hpl : (cur.toList.take (i * k)).length = i * k := by rw [List.length_take]; omega
    have hml : ((cur.toList.drop (i * k)).take k).length = (enc y).length := by rw [hk, List.length_take, List.length_drop]; omega
    have hg' : w.heap[g]? = some (.cells (cur.toList.take (i * k) ++ ((cur.toList.drop (i * k)).take k ++ cur.toList.drop (i * k + k))).toArray E (0, 0)) := by
      rw [← hsplit]; simpa using hg
    obtain ⟨w', r, m, hh⟩ := store_at2 (P := P) E _ _ _ (enc y) hg' hml (by rw [hk]; exact hs) (by
      rw [Array.all_eq_true']
      intro v hv
      exact h1 y v (by simpa using hv))
    rw [hpl] at r
    have e1 : cur.toList.take (i * k) = flat enc (l.take i) := by
      rw [flat_take hk, ← htake, List.take_take, Nat.min_eq_left (by omega)]
    have e2 : (cur.toList.drop (i * k + k)).take (l.length * k - (i * k + k)) = flat enc (l.drop (i + 1)) := by
      rw [flat_drop hk, ← htake, List.drop_take, Nat.add_mul, Nat.one_mul]
    refine ⟨w', r, m, by rw [flat_length hk, List.length_set], .inr ⟨g, cap, _, by rw [List.length_set], hb, hh, by rw [List.length_set]; exact hn, hcm, ?_, ?_⟩⟩
    · simp only [List.size_toArray, List.length_append, hpl, hk, List.length_drop]
      omega
    · rw [List.length_set, List.toList_toArray, List.set_eq_take_append_cons_drop, if_pos hi, flat_append, flat_cons, ← e1, ← e2]
      rw [take_three _ _ _ _ (by rw [hpl, hk]; exact hik), hpl, hk]
/-- a tree with all that is said of it -/
structure AvlSt (w : World) (b : Nat) (nv fv : Value) (ns : List Nd) (fr : List Int) (T : Tr) : Prop where
  tree : TreeAt w b nv fv ns fr T.at_ T.size
  rep : T.rep ns
  avl : T.avl
  srt : T.srt
  nodup : T.places.Nodup
  free : ∀ i ∈ fr, ∃ k : Nat, i = k ∧ k < ns.length ∧ k ∉ T.places
  fnd : fr.Nodup
  full : ns.length = T.size + fr.length
theorem rep_lt {ns : List Nd} : ∀ {T : Tr}, T.rep ns → ∀ p ∈ T.places, p < ns.length
  | .nil, _, p, hp => by simp [places] at hp
  | .node q l x r, ⟨h1, h2, h3⟩, p, hp => by
    simp only [places, List.mem_cons, List.mem_append] at hp
    rcases hp with rfl | hp | hp
    · exact (List.getElem?_eq_some_iff.1 h1).1
    · exact rep_lt h2 p hp
    · exact rep_lt h3 p hp
/-- a node is written whole -/
theorem TreeAt.put {w : World} {b g cap : Nat} {fv : Value} {ns : List Nd} {fr : List Int} {root many : Int} (h : TreeAt w b (.slice (some ⟨g, 0, none⟩) ns.length cap) fv ns fr root many) {p : Nat} (hp : p < ns.length) (m : Nd) :
    ∃ w', (Instr.storeAt 135 (.pointer (some ⟨g, p * 8, none⟩)) (.agg (encNd m).toArray)).run Try.prog w = .ok () w' ∧ Mod [g] w w' ∧ TreeAt w' b (.slice (some ⟨g, 0, none⟩) (ns.set p m).length cap) fv (ns.set p m) fr root many := by
  obtain ⟨w', r, hm, ho⟩ := h.row.setAll (P := Try.prog) encNd_len encNd_one hp m (by kernel_rfl)
  have hbg : b ≠ g := fun e => h.bn (by simp [Value.ownBlock, e])
  refine ⟨w', r, hm, ?_, by rw [List.length_set]; exact ho, h.free.kept hm (fun k hk hm => ?_), by simpa [Value.ownBlock] using Ne.symm hbg, h.bf, fun k hk => h.nf k (by simpa [Value.ownBlock] using hk)⟩
  · rw [List.length_set]
    exact hm.heap h.blk (by simpa using hbg)
  · rw [List.mem_singleton] at hm
    subst hm
    exact h.nf k (by simp [Value.ownBlock]) hk
/-- a cell of the tree's own is written: how many items there are -/
theorem TreeAt.many {w : World} {b : Nat} {nv fv : Value} {ns : List Nd} {fr : List Int} {root many : Int} (h : TreeAt w b nv fv ns fr root many) (r : Int) : TreeAt (w.setCell ⟨b, 4, none⟩ (.int .i64 r)) b nv fv ns fr root r ∧ Mod [b] w (w.setCell ⟨b, 4, none⟩ (.int .i64 r)) := by
  have hm : Mod [b] w (w.setCell ⟨b, 4, none⟩ (.int .i64 r)) := (Mod.refl _ _).setCell (by simp) _
  refine ⟨⟨?_, h.row.kept hm (fun k hk hb => h.bn (by rw [List.mem_singleton] at hb; rw [← hb]; exact hk)), h.free.kept hm (fun k hk hb => h.bf (by rw [List.mem_singleton] at hb; rw [← hb]; exact hk)), h.bn, h.bf, h.nf⟩, hm⟩
  rw [heap_setCell_blk h.blk]
  simp
theorem OwnR.take {α : Type} {enc : α → List Value} {k : Nat} {E : TypeId} {w : World} {base : Nat} {l : List α} {g cap : Nat} (hk : ∀ x, (enc x).length = k) (h : OwnR enc k E w base (.slice (some ⟨g, 0, none⟩) l.length cap) l) (n : Nat) (hn : n ≤ l.length) :
    OwnR enc k E w base (.slice (some ⟨g, 0, none⟩) n cap) (l.take n) := by
  rcases h.2 with ⟨e, _⟩ | ⟨g', cap', cur, e, hb, hg, hc, hcm, hcs, htake⟩
  · cases e
  · simp only [Value.slice.injEq, Option.some.injEq, Addr.mk.injEq, and_true, true_and] at e
    obtain ⟨rfl, rfl⟩ := e
    have hl : (l.take n).length = n := by rw [List.length_take]; omega
    refine ⟨flat_length hk _, .inr ⟨g, cap, cur, by rw [hl], hb, hg, by omega, hcm, hcs, ?_⟩⟩
    rw [hl, flat_take hk, ← htake, List.take_take, Nat.min_eq_left (Nat.mul_le_mul_right _ hn)]
/-- the last free place is taken off -/
theorem TreeAt.pop {w : World} {b f cap : Nat} {nv : Value} {ns : List Nd} {fr : List Int} {root many : Int} (h : TreeAt w b nv (.slice (some ⟨f, 0, none⟩) fr.length cap) ns fr root many) (n : Nat) (hn : n ≤ fr.length) :
    TreeAt (w.setCell ⟨b, 2, none⟩ (.slice (some ⟨f, 0, none⟩) n cap)) b nv (.slice (some ⟨f, 0, none⟩) n cap) ns (fr.take n) root many ∧ Mod [b] w (w.setCell ⟨b, 2, none⟩ (.slice (some ⟨f, 0, none⟩) n cap)) := by
  have hm : Mod [b] w (w.setCell ⟨b, 2, none⟩ (.slice (some ⟨f, 0, none⟩) n cap)) := (Mod.refl _ _).setCell (by simp) _
  have hbf : b ≠ f := fun e => h.bf (by simp [Value.ownBlock, e])
  refine ⟨⟨?_, h.row.kept hm (fun k hk hb => h.bn (by rw [List.mem_singleton] at hb; rw [← hb]; exact hk)), (h.free.take encI_len n hn).kept hm (fun k hk hb => ?_), h.bn, by simpa [Value.ownBlock] using Ne.symm hbf, fun k hk => by simpa [Value.ownBlock] using h.nf k hk⟩, hm⟩
  · rw [heap_setCell_blk h.blk]
    simp
  · rw [List.mem_singleton] at hb
    subst hb
    simp [Value.ownBlock] at hk
    exact hbf hk.symm
end Go.Proofs.Ytngglpekdjhbdaa
namespace Go.Proofs.Ytngglpekdjhbdaa
set_option linter.unusedVariables false

/-- an order with equals: lt, as a Bool -/
structure Ord3 {α : Type} (lt : α → α → Bool) : Prop where
  asymm : ∀ x y, lt x y = true → lt y x = false
  ntrans : ∀ x y z, lt y x = false → lt z y = false → lt z x = false
def Srt {α : Type} (lt : α → α → Bool) (l : List α) : Prop := l.Pairwise (fun x y => lt y x = false)
theorem Srt.left {α : Type} {lt : α → α → Bool} {A B : List α} (h : Srt lt (A ++ B)) : Srt lt A := (List.pairwise_append.1 h).1
theorem Srt.right {α : Type} {lt : α → α → Bool} {A B : List α} (h : Srt lt (A ++ B)) : Srt lt B := (List.pairwise_append.1 h).2.1
theorem Srt.cross {α : Type} {lt : α → α → Bool} {A B : List α} (h : Srt lt (A ++ B)) : ∀ x ∈ A, ∀ y ∈ B, lt y x = false := (List.pairwise_append.1 h).2.2
theorem srt_one {α : Type} (lt : α → α → Bool) (x : α) : Srt lt [x] := List.pairwise_singleton _ _
theorem srt_nil {α : Type} (lt : α → α → Bool) : Srt lt [] := List.Pairwise.nil
/-- all of the one are at most all of the other -/
def AllLe {α : Type} (lt : α → α → Bool) (A B : List α) : Prop := ∀ x ∈ A, ∀ y ∈ B, lt y x = false
/-- the one's last is at most the other's first -/
def EndLe {α : Type} (lt : α → α → Bool) (A B : List α) : Prop := A = [] ∨ B = [] ∨ ∃ x y, A.getLast? = some x ∧ B.head? = some y ∧ lt y x = false
theorem last_max {α : Type} {lt : α → α → Bool} (O : Ord3 lt) {A : List α} (hA : Srt lt A) {l : α} (hl : A.getLast? = some l) : ∀ x ∈ A, x = l ∨ lt l x = false := by
  obtain ⟨K, rfl⟩ := List.getLast?_eq_some_iff.1 hl
  intro x hx
  rcases List.mem_append.1 hx with hx | hx
  · exact .inr (hA.cross x hx l (by simp))
  · exact .inl (by simpa using hx)
theorem first_min {α : Type} {lt : α → α → Bool} {B : List α} (hB : Srt lt B) {f : α} (hf : B.head? = some f) : ∀ y ∈ B, y = f ∨ lt y f = false := by
  obtain ⟨K, rfl⟩ := List.head?_eq_some_iff.1 hf
  intro y hy
  rcases List.mem_cons.1 hy with hy | hy
  · exact .inl hy
  · exact .inr ((List.pairwise_cons.1 hB).1 y hy)
theorem EndLe.all {α : Type} {lt : α → α → Bool} (O : Ord3 lt) {A B : List α} (hA : Srt lt A) (hB : Srt lt B) (h : EndLe lt A B) : AllLe lt A B := by
  intro x hx y hy
  rcases h with rfl | rfl | ⟨l, f, hl, hf, hlf⟩
  · cases hx
  · cases hy
  · rcases last_max O hA hl x hx with rfl | h1
    · rcases first_min hB hf y hy with rfl | h2
      · exact hlf
      · exact O.ntrans _ _ _ hlf h2
    · rcases first_min hB hf y hy with rfl | h2
      · exact O.ntrans _ _ _ h1 hlf
      · exact O.ntrans _ _ _ h1 (O.ntrans _ _ _ hlf h2)
theorem srt_append {α : Type} {lt : α → α → Bool} {A B : List α} (hA : Srt lt A) (hB : Srt lt B) (h : AllLe lt A B) : Srt lt (A ++ B) := List.pairwise_append.2 ⟨hA, hB, h⟩
/-- a row's two sorted halves, and a cut of each: what lies ahead of the cuts is at most what lies behind them -/
theorem cut_le {α : Type} {lt : α → α → Bool} (O : Ord3 lt) {U1 U2 V1 V2 : List α} (hU : Srt lt (U1 ++ U2)) (hV : Srt lt (V1 ++ V2)) (h1 : EndLe lt U1 V2) (h2 : EndLe lt V1 U2) : AllLe lt (U1 ++ V1) (U2 ++ V2) := by
  intro x hx y hy
  rcases List.mem_append.1 hx with hx | hx <;> rcases List.mem_append.1 hy with hy | hy
  · exact hU.cross x hx y hy
  · exact h1.all O hU.left hV.right x hx y hy
  · exact h2.all O hV.left hU.right x hx y hy
  · exact hV.cross x hx y hy
/-- merged: sorted, and the same elements -/
def Merged {α : Type} (lt : α → α → Bool) (A W : List α) : Prop := A.Perm W ∧ Srt lt W
theorem Merged.len {α : Type} {lt : α → α → Bool} {A W : List α} (h : Merged lt A W) : W.length = A.length := h.1.length_eq.symm
theorem merged_two {α : Type} {lt : α → α → Bool} {A B W1 W2 : List α} (h1 : Merged lt A W1) (h2 : Merged lt B W2) (h : AllLe lt A B) : Merged lt (A ++ B) (W1 ++ W2) := by
  refine ⟨h1.1.append h2.1, srt_append h1.2 h2.2 fun x hx y hy => h x (h1.1.mem_iff.2 hx) y (h2.1.mem_iff.2 hy)⟩
theorem perm_four {α : Type} (A B C D : List α) : (A ++ (B ++ (C ++ D))).Perm (A ++ (C ++ (B ++ D))) := by
  refine List.Perm.append_left A ?_
  rw [← List.append_assoc, ← List.append_assoc]
  exact List.Perm.append_right D List.perm_append_comm
/-- one half alone is there: nothing is to be merged -/
theorem merged_nil_l {α : Type} {lt : α → α → Bool} {A : List α} (h : Srt lt A) : Merged lt ([] ++ A) A := ⟨.refl _, h⟩
theorem merged_nil_r {α : Type} {lt : α → α → Bool} {A : List α} (h : Srt lt A) : Merged lt (A ++ []) A := ⟨by rw [List.append_nil], h⟩
/-- an element goes to its place among a sorted row -/
theorem merged_one {α : Type} {lt : α → α → Bool} (O : Ord3 lt) {A B : List α} {x : α} (h : Srt lt (A ++ B)) (h1 : EndLe lt A [x]) (h2 : EndLe lt [x] B) : Merged lt (x :: (A ++ B)) (A ++ x :: B) := by
  refine ⟨List.perm_middle.symm, ?_⟩
  have hA := h1.all O h.left (srt_one lt x)
  have hB := h2.all O (srt_one lt x) h.right
  refine srt_append h.left (List.pairwise_cons.2 ⟨fun y hy => hB x (by simp) y hy, h.right⟩) fun a ha y hy => ?_
  rcases List.mem_cons.1 hy with rfl | hy
  · exact hA a ha _ (by simp)
  · exact h.cross a ha y hy
/-- two elements are exchanged -/
theorem swap_mid {α : Type} (P Q R : List α) (a b : α) : ((P ++ a :: (Q ++ b :: R)).set P.length b).set (P.length + (Q.length + 1)) a = P ++ b :: (Q ++ a :: R) := by
  rw [List.set_append_right _ _ (Nat.le_refl _), Nat.sub_self, List.set_cons_zero, List.set_append_right _ _ (by omega), show P.length + (Q.length + 1) - P.length = Q.length + 1 by omega, List.set_cons_succ, List.set_append_right _ _ (Nat.le_refl _), Nat.sub_self, List.set_cons_zero]
theorem get_mid {α : Type} (P R : List α) (a : α) : (P ++ a :: R)[P.length]? = some a := by
  rw [List.getElem?_append_right (Nat.le_refl _), Nat.sub_self]; rfl
/-- a sorted row by its places -/
theorem srt_get {α : Type} {lt : α → α → Bool} {l : List α} (h : Srt lt l) {i j : Nat} {x y : α} (hx : l[i]? = some x) (hy : l[j]? = some y) (hij : i < j) : lt y x = false := by
  obtain ⟨h1, e1⟩ := List.getElem?_eq_some_iff.1 hx
  obtain ⟨h2, e2⟩ := List.getElem?_eq_some_iff.1 hy
  have := List.pairwise_iff_getElem.1 h i j h1 h2 hij
  rw [e1, e2] at this
  exact this
theorem srt_of_get {α : Type} {lt : α → α → Bool} {l : List α} (h : ∀ (i j : Nat) (x y : α), i < j → l[i]? = some x → l[j]? = some y → lt y x = false) : Srt lt l :=
  List.pairwise_iff_getElem.2 fun i j h1 h2 hij => h i j _ _ hij (List.getElem?_eq_getElem h1) (List.getElem?_eq_getElem h2)
end Go.Proofs.Ytngglpekdjhbdaa
namespace Go.Proofs.Ytngglpekdjhbdaa
set_option linter.unusedVariables false

/-- where swapRange stands behind i rounds -/
def swrAt {α : Type} (P A Q B R : List α) (i : Nat) : List α := (P ++ (B.take i ++ A.drop i)) ++ (Q ++ ((A.take i ++ B.drop i) ++ R))
theorem swr_zero {α : Type} (P A Q B R : List α) : swrAt P A Q B R 0 = (P ++ A) ++ (Q ++ (B ++ R)) := by simp [swrAt]
theorem swr_all {α : Type} (P A Q B R : List α) (h : A.length = B.length) : swrAt P A Q B R A.length = (P ++ B) ++ (Q ++ (A ++ R)) := by
  unfold swrAt
  rw [List.take_length, List.drop_length]
  conv => lhs; rw [h]
  rw [List.take_length, List.drop_length]
  simp
theorem swr_form {α : Type} (P A Q B R : List α) (i : Nat) (x y : α) (hx : A[i]? = some x) (hy : B[i]? = some y) : swrAt P A Q B R i = (P ++ B.take i) ++ x :: ((A.drop (i + 1) ++ (Q ++ A.take i)) ++ y :: (B.drop (i + 1) ++ R)) := by
  obtain ⟨h1, e1⟩ := List.getElem?_eq_some_iff.1 hx
  obtain ⟨h2, e2⟩ := List.getElem?_eq_some_iff.1 hy
  unfold swrAt
  rw [List.drop_eq_getElem_cons h1, List.drop_eq_getElem_cons h2, e1, e2]
  simp
theorem swr_step {α : Type} (P A Q B R : List α) (i : Nat) (x y : α) (hx : A[i]? = some x) (hy : B[i]? = some y) :
    (swrAt P A Q B R i)[P.length + i]? = some x ∧ (swrAt P A Q B R i)[P.length + (A.length + Q.length) + i]? = some y ∧
    ((swrAt P A Q B R i).set (P.length + i) y).set (P.length + (A.length + Q.length) + i) x = swrAt P A Q B R (i + 1) := by
  obtain ⟨h1, e1⟩ := List.getElem?_eq_some_iff.1 hx
  obtain ⟨h2, e2⟩ := List.getElem?_eq_some_iff.1 hy
  have hP : (P ++ B.take i).length = P.length + i := by rw [List.length_append, List.length_take]; omega
  have hQ : (A.drop (i + 1) ++ (Q ++ A.take i)).length + 1 = A.length + Q.length := by
    simp only [List.length_append, List.length_drop, List.length_take]; omega
  have hk : P.length + (A.length + Q.length) + i = (P ++ B.take i).length + ((A.drop (i + 1) ++ (Q ++ A.take i)).length + 1) := by rw [hP, hQ]; omega
  rw [swr_form P A Q B R i x y hx hy]
  refine ⟨by rw [← hP]; exact get_mid _ _ _, ?_, ?_⟩
  · rw [hk, List.getElem?_append_right (by omega), show (P ++ B.take i).length + ((A.drop (i + 1) ++ (Q ++ A.take i)).length + 1) - (P ++ B.take i).length = (A.drop (i + 1) ++ (Q ++ A.take i)).length + 1 by omega, List.getElem?_cons_succ]
    exact get_mid _ _ _
  · rw [hk, ← hP, swap_mid]
    unfold swrAt
    have e3 : B.take (i + 1) = B.take i ++ [y] := by rw [List.take_succ_eq_append_getElem h2, e2]
    have e4 : A.take (i + 1) = A.take i ++ [x] := by rw [List.take_succ_eq_append_getElem h1, e1]
    rw [e3, e4]
    simp
/-- where rotate stands: what is still to be rotated, and what comes of it -/
def RotAt {α : Type} (T : List α) (m i j : Nat) (l : List α) : Prop := ∃ P U V R, l = P ++ (U ++ (V ++ R)) ∧ T = P ++ (V ++ (U ++ R)) ∧ P.length + i = m ∧ U.length = i ∧ V.length = j
theorem RotAt.more {α : Type} {T l : List α} {m i j : Nat} (h : RotAt T m i j l) (hij : j < i) :
    ∃ P A Q B R, l = swrAt P A Q B R 0 ∧ A.length = j ∧ B.length = j ∧ P.length = m - i ∧ P.length + (A.length + Q.length) = m ∧ i ≤ m ∧ RotAt T m (i - j) j (swrAt P A Q B R j) := by
  obtain ⟨P, U, V, R, rfl, rfl, h1, h2, h3⟩ := h
  refine ⟨P, U.take j, U.drop j, V, R, ?_, by rw [List.length_take]; omega, h3, by omega, by rw [List.length_take, List.length_drop]; omega, by omega, ?_⟩
  · rw [swr_zero, List.append_assoc, ← List.append_assoc (U.take j), List.take_append_drop]
  · have e := swr_all P (U.take j) (U.drop j) V R (by rw [List.length_take]; omega)
    rw [List.length_take, Nat.min_eq_left (by omega)] at e
    refine ⟨P ++ V, U.drop j, U.take j, R, e, ?_, by rw [List.length_append]; omega, by rw [List.length_drop]; omega, by rw [List.length_take]; omega⟩
    rw [List.append_assoc]
    congr 2
    rw [← List.append_assoc, List.take_append_drop]
theorem RotAt.less {α : Type} {T l : List α} {m i j : Nat} (h : RotAt T m i j l) (hij : i < j) :
    ∃ P A Q B R, l = swrAt P A Q B R 0 ∧ A.length = i ∧ B.length = i ∧ P.length = m - i ∧ P.length + (A.length + Q.length) = m + j - i ∧ i ≤ m ∧ RotAt T m i (j - i) (swrAt P A Q B R i) := by
  obtain ⟨P, U, V, R, rfl, rfl, h1, h2, h3⟩ := h
  refine ⟨P, U, V.take (j - i), V.drop (j - i), R, ?_, h2, by rw [List.length_drop]; omega, by omega, by rw [List.length_take]; omega, by omega, ?_⟩
  · rw [swr_zero, List.append_assoc, ← List.append_assoc (V.take (j - i)), List.take_append_drop]
  · have e := swr_all P U (V.take (j - i)) (V.drop (j - i)) R (by rw [List.length_drop]; omega)
    rw [h2] at e
    refine ⟨P, V.drop (j - i), V.take (j - i), U ++ R, by rw [e, List.append_assoc], ?_, h1, by rw [List.length_drop]; omega, by rw [List.length_take]; omega⟩
    congr 1
    rw [← List.append_assoc, ← List.append_assoc, List.take_append_drop, List.append_assoc]
theorem RotAt.last {α : Type} {T l : List α} {m i : Nat} (h : RotAt T m i i l) : ∃ P A Q B R, l = swrAt P A Q B R 0 ∧ A.length = i ∧ B.length = i ∧ P.length = m - i ∧ P.length + (A.length + Q.length) = m ∧ i ≤ m ∧ swrAt P A Q B R i = T := by
  obtain ⟨P, U, V, R, rfl, rfl, h1, h2, h3⟩ := h
  refine ⟨P, U, [], V, R, by rw [swr_zero]; simp, h2, h3, by omega, by simp; omega, by omega, ?_⟩
  have e := swr_all P U [] V R (by omega)
  rw [h2] at e
  rw [e]
  simp
/-- blocks of B, each sorted -/
def Blk {α : Type} (lt : α → α → Bool) (B : Nat) (l : List α) : Prop := ∀ (i j : Nat) (x y : α), i < j → i / B = j / B → l[i]? = some x → l[j]? = some y → lt y x = false
theorem Blk.nil {α : Type} (lt : α → α → Bool) (B : Nat) : Blk lt B [] := fun i j x y _ _ hx => by simp at hx
theorem blk_srt {α : Type} {lt : α → α → Bool} {B : Nat} {l : List α} (hl : l.length ≤ B) : Blk lt B l ↔ Srt lt l := by
  constructor
  · intro h
    refine srt_of_get fun i j x y hij hx hy => h i j x y hij ?_ hx hy
    have h1 := (List.getElem?_eq_some_iff.1 hx).1
    have h2 := (List.getElem?_eq_some_iff.1 hy).1
    rw [Nat.div_eq_of_lt (by omega), Nat.div_eq_of_lt (by omega)]
  · intro h i j x y hij _ hx hy
    exact srt_get h hx hy hij
theorem blk_append {α : Type} {lt : α → α → Bool} {B q : Nat} (hB : 0 < B) {X Y : List α} (hX : X.length = q * B) : Blk lt B (X ++ Y) ↔ Blk lt B X ∧ Blk lt B Y := by
  constructor
  · intro h
    refine ⟨fun i j x y hij he hx hy => ?_, fun i j x y hij he hx hy => ?_⟩
    · have h1 := (List.getElem?_eq_some_iff.1 hx).1
      have h2 := (List.getElem?_eq_some_iff.1 hy).1
      exact h i j x y hij he (by rw [List.getElem?_append_left h1]; exact hx) (by rw [List.getElem?_append_left h2]; exact hy)
    · refine h (X.length + i) (X.length + j) x y (by omega) ?_ (by rw [List.getElem?_append_right (by omega)]; simpa using hx) (by rw [List.getElem?_append_right (by omega)]; simpa using hy)
      rw [hX, Nat.add_comm (q * B) i, Nat.add_comm (q * B) j, Nat.add_mul_div_right _ _ hB, Nat.add_mul_div_right _ _ hB, he]
  · rintro ⟨h1, h2⟩ i j x y hij he hx hy
    by_cases hi : i < X.length
    · by_cases hj : j < X.length
      · rw [List.getElem?_append_left hi] at hx
        rw [List.getElem?_append_left hj] at hy
        exact h1 i j x y hij he hx hy
      · exfalso
        have a1 : i / B < q := by rw [Nat.div_lt_iff_lt_mul hB]; omega
        have a2 : q ≤ j / B := by rw [Nat.le_div_iff_mul_le hB]; omega
        omega
    · have hj : ¬ j < X.length := by omega
      rw [List.getElem?_append_right (by omega)] at hx hy
      refine h2 (i - X.length) (j - X.length) x y (by omega) ?_ hx hy
      have ei : i = i - X.length + q * B := by omega
      have ej : j = j - X.length + q * B := by omega
      rw [ei, ej, Nat.add_mul_div_right _ _ hB, Nat.add_mul_div_right _ _ hB] at he
      omega
/-- where the sort by blocks stands: blocks of B behind place a, of C ahead of it; the same elements as at first -/
structure StbAt {α : Type} (lt : α → α → Bool) (L0 : List α) (C B a : Nat) (l : List α) : Prop where
  perm : L0.Perm l
  le : a ≤ l.length
  mul : ∃ q, a = q * C
  done : Blk lt C (l.take a)
  rest : Blk lt B (l.drop a)
theorem StbAt.len {α : Type} {lt : α → α → Bool} {L0 : List α} {C B a : Nat} {l : List α} (h : StbAt lt L0 C B a l) : l.length = L0.length := h.perm.length_eq.symm
theorem stb_first {α : Type} {lt : α → α → Bool} {L0 l : List α} {C B : Nat} (h : L0.Perm l) (hb : Blk lt B l) : StbAt lt L0 C B 0 l :=
  ⟨h, Nat.zero_le _, ⟨0, by omega⟩, by simpa using Blk.nil lt C, by simpa using hb⟩
/-- one block more (whole, or the last) -/
theorem StbAt.step {α : Type} {lt : α → α → Bool} {L0 : List α} {C B a : Nat} {P A R W : List α} (hC : 0 < C) (hB : 0 < B) (hCB : ∃ q, C = q * B) (h : StbAt lt L0 C B a (P ++ (A ++ R))) (hP : P.length = a) (hA : A.length = C ∨ R = []) (hA2 : A.length ≤ C) (hW : Merged lt A W) :
    (A.length = C → StbAt lt L0 C B (a + C) (P ++ (W ++ R))) ∧ (R = [] → L0.Perm (P ++ W) ∧ Blk lt C (P ++ W)) := by
  obtain ⟨q, hq⟩ := h.mul
  have hd : (P ++ (A ++ R)).take a = P := by rw [← hP]; simp
  have hr : (P ++ (A ++ R)).drop a = A ++ R := by rw [← hP]; simp
  have h1 := h.done
  have h2 := h.rest
  rw [hd] at h1
  rw [hr] at h2
  have hp : L0.Perm (P ++ (W ++ R)) := h.perm.trans (List.Perm.append_left P (List.Perm.append_right R hW.1))
  have hWC : Blk lt C W := (blk_srt (by rw [hW.len]; exact hA2)).2 hW.2
  have hPW : Blk lt C (P ++ W) := (blk_append hC (by rw [hP, hq])).2 ⟨h1, hWC⟩
  refine ⟨fun hAC => ?_, fun hR => ?_⟩
  · have hPl : (P ++ W).length = a + C := by rw [List.length_append, hW.len, hP, hAC]
    refine ⟨hp, ?_, ⟨q + 1, by rw [Nat.add_mul, Nat.one_mul, hq]⟩, ?_, ?_⟩
    · rw [← List.append_assoc, List.length_append, hPl]; omega
    · rw [← List.append_assoc, ← hPl, List.take_left']
      · exact hPW
      · rfl
    · rw [← List.append_assoc, ← hPl, List.drop_left']
      · obtain ⟨z, hz⟩ := hCB
        exact ((blk_append hB (by rw [hAC, hz])).1 h2).2
      · rfl
  · subst hR
    rw [List.append_nil] at hp
    exact ⟨hp, hPW⟩
/-- the last, where it is one sorted block already -/
theorem StbAt.rest_one {α : Type} {lt : α → α → Bool} {L0 : List α} {C B a : Nat} {l : List α} (hC : 0 < C) (hBC : B ≤ C) (h : StbAt lt L0 C B a l) (hl : l.length ≤ a + B) : L0.Perm l ∧ Blk lt C l := by
  obtain ⟨q, hq⟩ := h.mul
  have e : l = l.take a ++ l.drop a := (List.take_append_drop a l).symm
  refine ⟨h.perm, ?_⟩
  rw [e]
  refine (blk_append (q := q) hC (by rw [List.length_take]; have := h.le; omega)).2 ⟨h.done, ?_⟩
  have hd : (l.drop a).length ≤ B := by rw [List.length_drop]; omega
  exact (blk_srt (by omega)).2 ((blk_srt hd).1 h.rest)
/-- two blocks that are to be merged -/
theorem StbAt.two {α : Type} {lt : α → α → Bool} {L0 : List α} {B a : Nat} {l : List α} (hB : 0 < B) (h : StbAt lt L0 (2 * B) B a l) (hl : a + B < l.length) : ∃ P U V R, l = P ++ ((U ++ V) ++ R) ∧ P.length = a ∧ U.length = B ∧ V.length = min (l.length - (a + B)) B ∧ (R = [] ∨ V.length = B) ∧ Srt lt U ∧ Srt lt V ∧ (l.length ≤ a + 2 * B → R = []) := by
  have h2 := h.rest
  have e : l = l.take a ++ (((l.drop a).take B ++ ((l.drop a).drop B).take B) ++ ((l.drop a).drop B).drop B) := by
    rw [List.append_assoc, List.take_append_drop, List.take_append_drop, List.take_append_drop]
  have hu : ((l.drop a).take B).length = B := by rw [List.length_take, List.length_drop]; omega
  have hv : (((l.drop a).drop B).take B).length = min (l.length - (a + B)) B := by rw [List.length_take, List.length_drop, List.length_drop]; omega
  have h3 : Blk lt B ((l.drop a).take B ++ (l.drop a).drop B) := by rw [List.take_append_drop]; exact h2
  obtain ⟨k1, k2⟩ := (blk_append (q := 1) hB (by omega)).1 h3
  have hS1 := (blk_srt (by omega)).1 k1
  refine ⟨_, _, _, _, e, by rw [List.length_take]; have := h.le; omega, hu, hv, ?_, hS1, ?_, fun hle => ?_⟩
  · by_cases hc : l.length ≤ a + 2 * B
    · left
      apply List.eq_nil_of_length_eq_zero
      rw [List.length_drop, List.length_drop, List.length_drop]; omega
    · right; omega
  · have h4 : Blk lt B (((l.drop a).drop B).take B ++ ((l.drop a).drop B).drop B) := by rw [List.take_append_drop]; exact k2
    by_cases hc : l.length ≤ a + 2 * B
    · have : ((l.drop a).drop B).drop B = [] := by
        apply List.eq_nil_of_length_eq_zero
        rw [List.length_drop, List.length_drop, List.length_drop]; omega
      rw [this, List.append_nil] at h4
      exact (blk_srt (by omega)).1 h4
    · exact (blk_srt (by omega)).1 ((blk_append (q := 1) hB (by omega)).1 h4).1
  · apply List.eq_nil_of_length_eq_zero
    rw [List.length_drop, List.length_drop, List.length_drop]; omega
end Go.Proofs.Ytngglpekdjhbdaa
