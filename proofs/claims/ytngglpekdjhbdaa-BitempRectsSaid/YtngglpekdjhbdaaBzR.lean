/- Layer 13: a rectangle is opened. -/
import Derived.Test.YtngglpekdjhbdaaBzC
import Derived.Test.YtngglpekdjhbdaaBzJ
import Derived.Test.YtngglpekdjhbdaaBzQ
namespace Go.Proofs.Ytngglpekdjhbdaa
open Go.RowKit Go.ChangeMaps Go.Deep Tr
set_option linter.unusedSimpArgs false
set_option linter.unusedVariables false
set_option maxRecDepth 20000

/-- the blocks of a store but for its timeline's -/
def biX (s tb : Nat) (rv nv fv : Value) : List Nat := s :: tb :: (blk rv ++ (blk nv ++ blk fv))
section
variable {s tb : Nat} {rv nv fv : Value}
theorem biX_R : (biX s tb rv nv fv).Perm (blk rv ++ (s :: tb :: (blk nv ++ blk fv))) := List.perm_iff_count.2 fun a => by simp only [biX, List.count_append, List.count_cons]; omega
theorem biX_N : (biX s tb rv nv fv).Perm (blk nv ++ (s :: tb :: (blk rv ++ blk fv))) := List.perm_iff_count.2 fun a => by simp only [biX, List.count_append, List.count_cons]; omega
theorem biX_F : (biX s tb rv nv fv).Perm (blk fv ++ (s :: tb :: (blk rv ++ blk nv))) := List.perm_iff_count.2 fun a => by simp only [biX, List.count_append, List.count_cons]; omega
theorem biX_T : (biX s tb rv nv fv).Perm ((tb :: (blk nv ++ blk fv)) ++ (s :: blk rv)) := List.perm_iff_count.2 fun a => by simp only [biX, List.count_append, List.count_cons]; omega
end
/-- a store at block s: its timeline of open numbers at g, of the blocks BL; its tree T at tb; its rectangles S -/
structure BiSt (w : World) (s g tb : Nat) (rv nv fv : Value) (ns : List Nd) (fr : List Int) (T : Tr) (BL : List Nat) (n : Nat) (last : Int) (S : Bs) : Prop where
  blk : w.heap[s]? = some (.cells #[.int .i64 last, .pointer (some ⟨g, 0, none⟩), .pointer (some ⟨tb, 0, none⟩), rv] 102 (0, 0))
  rows : OwnR encRc 5 61 w 0 rv S.rs
  tree : AvlSt w tb nv fv ns fr T
  line : LineAt w g BL n S.g
  apart : (biX s tb rv nv fv).Nodup
  apartL : ∀ k ∈ biX s tb rv nv fv, k ∉ BL
  items : ∀ x, x ∈ T.items ↔ ∃ i r, S.lv i ∧ S.rs[i]? = some r ∧ x = ⟨r.f, r.t, (i : Int) + 1⟩
  size : T.size ≤ S.rs.length
  nsl : ns.length ≤ S.rs.length
section
variable {w w' : World} {s g tb : Nat} {rv nv fv : Value} {ns : List Nd} {fr : List Int} {T : Tr} {BL : List Nat} {n : Nat} {last : Int} {S : Bs}
theorem AvlSt.keptL {l : List Nat} {b : Nat} (h : AvlSt w b nv fv ns fr T) (m : Mod l w w') (hb : b ∉ l) (h1 : ∀ k, nv.ownBlock = some k → k ∉ l) (h2 : ∀ k, fv.ownBlock = some k → k ∉ l) : AvlSt w' b nv fv ns fr T :=
  ⟨h.tree.keptL m hb h1 h2, h.rep, h.avl, h.srt, h.nodup, h.free, h.fnd, h.full⟩
theorem AvlSt.kept0 {b : Nat} (h : AvlSt w b nv fv ns fr T) (m : Mod [] w w') : AvlSt w' b nv fv ns fr T := h.keptL m (by simp) (by simp) (by simp)
theorem BiSt.kept {l : List Nat} (h : BiSt w s g tb rv nv fv ns fr T BL n last S) (m : Mod l w w') (h1 : ∀ k ∈ biX s tb rv nv fv, k ∉ l) (h2 : ∀ k ∈ BL, k ∉ l) : BiSt w' s g tb rv nv fv ns fr T BL n last S := by
  have hr : ∀ k, rv.ownBlock = some k → k ∉ l := fun k hk => h1 k (by simp [biX, mem_blk, hk])
  have hn : ∀ k, nv.ownBlock = some k → k ∉ l := fun k hk => h1 k (by simp [biX, mem_blk, hk])
  have hf : ∀ k, fv.ownBlock = some k → k ∉ l := fun k hk => h1 k (by simp [biX, mem_blk, hk])
  exact ⟨m.heap h.blk (h1 s (by simp [biX])), h.rows.kept m hr, h.tree.keptL m (h1 tb (by simp [biX])) hn hf, h.line.kept m h2, h.apart, h.apartL, h.items, h.size, h.nsl⟩
theorem BiSt.kept0 (h : BiSt w s g tb rv nv fv ns fr T BL n last S) (m : Mod [] w w') : BiSt w' s g tb rv nv fv ns fr T BL n last S := h.kept m (by simp) (by simp)
theorem BiSt.lt (h : BiSt w s g tb rv nv fv ns fr T BL n last S) : ∀ k ∈ biX s tb rv nv fv, k < w.heap.size := by
  intro k hk
  simp only [biX, List.mem_cons, List.mem_append, mem_blk] at hk
  rcases hk with rfl | rfl | hk | hk | hk
  · exact lt_of_heap h.blk
  · exact lt_of_heap h.tree.tree.blk
  · exact (World.ownsRow.lt h.rows _ hk).2
  · exact (World.ownsRow.lt h.tree.tree.row _ hk).2
  · exact (World.ownsRow.lt h.tree.tree.free _ hk).2
/-- an item of the tree by its rectangle -/
theorem BiSt.new_item (h : BiSt w s g tb rv nv fv ns fr T BL n last S) (f t : Int) : (⟨f, t, (S.rs.length : Int) + 1⟩ : It) ∉ T.items := fun hm => by
  obtain ⟨i, r, h1, h2, h3⟩ := (h.items _).1 hm
  have := (List.getElem?_eq_some_iff.1 h2).1
  simp only [It.mk.injEq] at h3
  omega
end
/-- some store -/
def BiAt (w : World) (s : Nat) (BB : List Nat) (n : Nat) (last : Int) (S : Bs) : Prop := ∃ g tb rv nv fv ns fr T BL, BiSt w s g tb rv nv fv ns fr T BL n last S ∧ BB = biX s tb rv nv fv ++ BL
/-- what may have become of a store -/
def BiPost (w : World) (s : Nat) (BB : List Nat) (n : Nat) (last : Int) (S : Bs) (w' : World) : Prop := ∃ BB', BiAt w' s BB' n last S ∧ Mod BB w w' ∧ ∀ k ∈ BB', k ∈ BB ∨ w.heap.size ≤ k
section
variable {w w' : World} {s : Nat} {BB : List Nat} {n : Nat} {last : Int} {S : Bs}
theorem BiAt.lt (h : BiAt w s BB n last S) : ∀ k ∈ BB, k < w.heap.size := by
  obtain ⟨g, tb, rv, nv, fv, ns, fr, T, BL, h1, rfl⟩ := h
  intro k hk
  rcases List.mem_append.1 hk with hk | hk
  · exact h1.lt k hk
  · exact h1.line.lt k hk
theorem BiAt.kept {l : List Nat} (h : BiAt w s BB n last S) (m : Mod l w w') (hl : ∀ k ∈ BB, k ∉ l) : BiAt w' s BB n last S := by
  obtain ⟨g, tb, rv, nv, fv, ns, fr, T, BL, h1, rfl⟩ := h
  exact ⟨g, tb, rv, nv, fv, ns, fr, T, BL, h1.kept m (fun k hk => hl k (by simp [hk])) (fun k hk => hl k (by simp [hk])), rfl⟩
theorem BiAt.kept0 (h : BiAt w s BB n last S) (m : Mod [] w w') : BiAt w' s BB n last S := h.kept m (by simp)
theorem BiPost.refl (h : BiAt w s BB n last S) : BiPost w s BB n last S w := ⟨BB, h, Mod.refl _ _, fun k hk => .inl hk⟩
theorem BiPost.kept {W : World} (h : BiPost w s BB n last S W) (m : Mod [] W w') : BiPost w s BB n last S w' := by
  obtain ⟨BB', h1, h2, h3⟩ := h
  exact ⟨BB', h1.kept0 m, h2.trans m.nil, h3⟩
theorem BiPost.mod {W : World} (h : BiPost w s BB n last S W) : Mod BB w W := by
  obtain ⟨BB', h1, h2, h3⟩ := h
  exact h2
/-- a step, and one more -/
theorem BiPost.step {W : World} {BB1 : List Nat} {n' : Nat} {last' : Int} {S' : Bs} (m : Mod BB w W) (hB : ∀ k ∈ BB1, k ∈ BB ∨ w.heap.size ≤ k) (h : BiPost W s BB1 n' last' S' w') : BiPost w s BB n' last' S' w' := by
  obtain ⟨BB', h1, h2, h3⟩ := h
  refine ⟨BB', h1, Mod.into' m h2 (fun k hk => ?_), fun k hk => ?_⟩
  · rcases hB k hk with h | h
    · exact .inr h
    · exact .inl h
  · rcases h3 k hk with h | h
    · exact hB k h
    · exact .inr (Nat.le_trans m.size h)
end
/-- the last transaction alone turns -/
theorem biNone_at {w : World} {s : Nat} {BB : List Nat} {n : Nat} {last : Int} {S : Bs} (h : BiAt w s BB n last S) : Calls Try.prog 47 #[.pointer (some ⟨s, 0, none⟩)] w fun e w' => e = .returned (.bool false) ∧ w' = w := by
  obtain ⟨g, tb, rv, nv, fv, ns, fr, T, BL, h1, rfl⟩ := h
  have c2 := cell_blk h1.blk 2
  simp only [List.getElem?_toArray, List.getElem?_cons_succ, List.getElem?_cons_zero] at c2
  clear h1
  go_enter Try.func47, Try.ntmps47
  go_wp2_with fail
  go_ret
  exact ⟨rfl, rfl⟩
theorem biLast_at {w : World} {s : Nat} {BB : List Nat} {n : Nat} {last : Int} {S : Bs} (h : BiAt w s BB n last S) : Calls Try.prog 25 #[.pointer (some ⟨s, 0, none⟩)] w fun e w' => e = .returned (.int .i64 last) ∧ w' = w := by
  have CN := Lib.hid (biNone_at h)
  obtain ⟨g, tb, rv, nv, fv, ns, fr, T, BL, h1, rfl⟩ := h
  have c0 := cell_blk h1.blk 0
  simp only [List.getElem?_toArray, List.getElem?_cons_succ, List.getElem?_cons_zero] at c0
  clear h1
  go_enter Try.func25, Try.ntmps25
  go_wp2_with fail
  refine CN.out.mono ?_
  rintro e w1 ⟨rfl, rfl⟩
  go_wp2_with fail
  go_ret
  exact ⟨rfl, rfl⟩
end Go.Proofs.Ytngglpekdjhbdaa
namespace Go.Proofs.Ytngglpekdjhbdaa
open Go.RowKit Go.ChangeMaps Go.Deep Tr
set_option linter.unusedSimpArgs false
set_option linter.unusedVariables false
set_option maxRecDepth 20000

theorem elemRect : ElemOk Try.prog 58 61 5 40 := .mk' Try.underlying58 (by omega) (by kernel_rfl)
/-- a rectangle more, the open numbers as they are -/
def Bs.add (S : Bs) (r : Rc) : Bs := ⟨S.rs ++ [r], plusL S.lv S.rs.length, S.g⟩
/-- what laying leaves -/
def LayPost (w : World) (s g tb : Nat) (rv nv fv : Value) (BL : List Nat) (n : Nat) (last : Int) (S : Bs) (w' : World) : Prop :=
  ∃ rv' nv' fv' ns' fr' T', BiSt w' s g tb rv' nv' fv' ns' fr' T' BL n last S ∧ Mod (biX s tb rv nv fv) w w' ∧ ∀ k ∈ biX s tb rv' nv' fv', k ∈ biX s tb rv nv fv ∨ w.heap.size ≤ k
/-- the row has grown, the tree is still as it was: what Insert then leaves -/
theorem lay_st {w w4 : World} {s g tb : Nat} {rv nv fv : Value} {ns : List Nd} {fr : List Int} {T : Tr} {BL : List Nat} {n : Nat} {last : Int} {S : Bs} {r : Rc}
    (hb : w.heap[s]? = some (.cells #[.int .i64 last, .pointer (some ⟨g, 0, none⟩), .pointer (some ⟨tb, 0, none⟩), rv] 102 (0, 0))) (hr : OwnR encRc 5 61 w 0 rv (S.rs ++ [r])) (ht : AvlSt w tb nv fv ns fr T) (hl : LineAt w g BL n S.g)
    (ha : (biX s tb rv nv fv).Nodup) (haL : ∀ k ∈ biX s tb rv nv fv, k ∉ BL) (hlt : ∀ k ∈ biX s tb rv nv fv, k < w.heap.size)
    (hi : ∀ x, x ∈ T.items ↔ ∃ i r, S.lv i ∧ S.rs[i]? = some r ∧ x = ⟨r.f, r.t, (i : Int) + 1⟩) (hlv : ∀ x ∈ T.items, x.i ≠ (S.rs.length : Int) + 1) (hz : T.size ≤ S.rs.length) (hn : ns.length ≤ S.rs.length)
    (hI : InsPost w tb nv fv ns ⟨r.f, r.t, (S.rs.length : Int) + 1⟩ T w4) : LayPost w s g tb rv nv fv BL n last (S.add r) w4 := by
  obtain ⟨q, nv', fv', ns', fr', S', hns, mm, hnv, hfv⟩ := hI
  have hTX := apart_of (biX_N (s := s) (tb := tb) (rv := rv) (nv := nv) (fv := fv)) ha
  have htb : tb ∉ s :: (blk rv ++ (blk nv ++ blk fv)) := by
    have := ha
    unfold biX at this
    have p : (s :: tb :: (blk rv ++ (blk nv ++ blk fv))).Perm (tb :: s :: (blk rv ++ (blk nv ++ blk fv))) := List.Perm.swap _ _ _
    exact (List.nodup_cons.1 (p.nodup_iff.1 this)).1
  have hnm : ∀ k, k ∈ s :: (blk rv ++ blk fv) → k ∉ tb :: blk nv := fun k hk hm => by
    rcases List.mem_cons.1 hm with rfl | hm
    · refine htb ?_
      simp only [List.mem_cons, List.mem_append] at hk ⊢
      rcases hk with h | h | h
      · exact .inl h
      · exact .inr (.inl h)
      · exact .inr (.inr (.inr h))
    · refine hTX k ?_ hm
      simp only [List.mem_cons, List.mem_append] at hk ⊢
      rcases hk with h | h | h
      · exact .inl h
      · exact .inr (.inr (.inl h))
      · exact .inr (.inr (.inr h))
  have hBLm : ∀ k ∈ BL, k ∉ tb :: blk nv := fun k hk hm => haL k (by
    rcases List.mem_cons.1 hm with rfl | hm
    · simp [biX]
    · simp [biX, hm]) hk
  obtain ⟨nd1, mb1⟩ := swap_both (biX_N (s := s) (tb := tb) (rv := rv) (nv := nv) (fv := fv)) (biX_N (s := s) (tb := tb) (rv := rv) (nv := nv') (fv := fv)) ha hlt hnv
  have hbf : blk fv' = blk fv := by unfold blk; rw [hfv]
  have hX : biX s tb rv nv' fv' = biX s tb rv nv' fv := by unfold biX; rw [hbf]
  have hxT : (⟨r.f, r.t, (S.rs.length : Int) + 1⟩ : It) ∉ T.items := fun hm => hlv _ hm rfl
  refine ⟨rv, nv', fv', ns', fr', _, ⟨mm.heap hb (hnm s (by simp)), hr.kept mm (fun k hk => hnm k (by simp [mem_blk, hk])), S', hl.kept mm hBLm, by rw [hX]; exact nd1, ?_, fun x => ?_, ?_, ?_⟩, ?_, ?_⟩
  · rw [hX]
    intro k hk
    rcases mb1 k hk with h | h
    · exact haL k h
    · intro hb
      have := hl.lt k hb
      omega
  · rw [(ins_perm ht.srt hxT).mem_iff, List.mem_cons, hi]
    constructor
    · rintro (rfl | ⟨i, y, h1, h2, rfl⟩)
      · exact ⟨S.rs.length, r, .inr rfl, by show (S.rs ++ [r])[S.rs.length]? = _; simp, rfl⟩
      · have := (List.getElem?_eq_some_iff.1 h2).1
        exact ⟨i, y, .inl h1, by show (S.rs ++ [r])[i]? = _; rw [List.getElem?_append_left this]; exact h2, rfl⟩
    · rintro ⟨i, y, h1, h2, rfl⟩
      rcases get_push h2 with h3 | ⟨rfl, rfl⟩
      · rcases h1 with h1 | h1
        · exact .inr ⟨i, y, h1, h3, rfl⟩
        · have := (List.getElem?_eq_some_iff.1 h3).1
          omega
      · exact .inl rfl
  · rw [ins_size]
    show T.size + 1 ≤ (S.rs ++ [r]).length
    rw [List.length_append, List.length_singleton]
    omega
  · show ns'.length ≤ (S.rs ++ [r]).length
    rw [List.length_append, List.length_singleton]
    omega
  · exact mm.mono fun k hk => by
      rcases List.mem_cons.1 hk with rfl | hk
      · simp [biX]
      · simp [biX, hk]
  · rw [hX]
    exact mb1
set_option maxHeartbeats 4000000 in
theorem biLay_st {w : World} {s g tb : Nat} {rv nv fv : Value} {ns : List Nd} {fr : List Int} {T : Tr} {BL : List Nat} {n : Nat} {last : Int} {S : Bs} (h : BiSt w s g tb rv nv fv ns fr T BL n last S) (r : Rc) (hft : r.f < r.t) (hl : S.rs.length < 90000) :
    Calls Try.prog 76 #[.pointer (some ⟨s, 0, none⟩), rcV r] w fun e w' => e = .returned (.tuple #[]) ∧ LayPost w s g tb rv nv fv BL n last (S.add r) w' := by
  have HSZ0 := Lib.hid h.size
  have m0 := (Mod.refl [] w).alloc (.cells #[.int .i64 r.f, .int .i64 r.t, .int .i64 r.s, .int .i64 r.u, .int .i64 r.v] 61)
  have b0 := heap_alloc_new w (.cells #[.int .i64 r.f, .int .i64 r.t, .int .i64 r.s, .int .i64 r.u, .int .i64 r.v] 61)
  obtain ⟨w1, hw1⟩ : ∃ w1, w.alloc (.cells #[.int .i64 r.f, .int .i64 r.t, .int .i64 r.s, .int .i64 r.u, .int .i64 r.v] 61) = w1 := ⟨_, rfl⟩
  have hs1 : w1.heap.size = w.heap.size + 1 := by rw [← hw1]; simp
  rw [hw1] at m0 b0
  have h1 := h.kept0 m0
  have hob : ∀ k, rv.ownBlock = some k → k < w.heap.size := fun k hk => h.lt k (by simp [biX, mem_blk, hk])
  have c3 := cell_blk h1.blk 3
  have ca := cell_blk (((Mod.refl [] w1).alloc (.cells #[.int .i64 r.f, .int .i64 r.t, .int .i64 r.s, .int .i64 r.u, .int .i64 r.v] 61)).heap h1.blk (by simp)) 3
  have e0 := cell_blk b0 0
  have e1 := cell_blk b0 1
  have e2 := cell_blk b0 2
  have e3 := cell_blk b0 3
  have e4 := cell_blk b0 4
  simp only [List.getElem?_toArray, List.getElem?_cons_succ, List.getElem?_cons_zero] at c3 e0 e1 e2 e3 e4 ca
  obtain ⟨v', w2, ra, ho, gr⟩ := own_append1 (P := Try.prog) (ty := 58) elemRect encRc_len encRc_one (h1.rows.kept0 ((Mod.refl [] w1).drew)) (Nat.zero_le _) r (by omega) (by omega)
  dsimp only [encRc] at ra
  obtain ⟨va, vc, rfl⟩ := ho.lens
  obtain ⟨N1, hN1⟩ : ∃ N1, (S.rs ++ [r]).length = N1 := ⟨_, rfl⟩
  rw [hN1] at ra ho gr
  have hN2 : N1 = S.rs.length + 1 := by rw [← hN1]; simp
  have hRX := apart_of (biX_R (s := s) (tb := tb) (rv := rv) (nv := nv) (fv := fv)) h.apart
  have hd1 : w1.drew.heap.size = w1.heap.size := rfl
  have mA : Mod (blk rv) w1 w2 := ((Mod.refl [] w1).drew.nil).trans gr.mod
  have bs2 := mA.heap h1.blk (hRX s (by simp))
  have c23 := cell_blk bs2 3
  have f23 := frozen_blk bs2 3
  have bx3 := heap_setCell_blk bs2 3 (.slice va N1 vc)
  simp only [List.getElem?_toArray, List.getElem?_cons_succ, List.getElem?_cons_zero] at c23
  obtain ⟨w3, hw3⟩ : ∃ w3, w2.setCell ⟨s, 3, none⟩ (.slice va N1 vc) = w3 := ⟨_, rfl⟩
  have m3 : Mod [s] w2 w3 := by rw [← hw3]; exact (Mod.refl _ _).setCell (by simp) _
  rw [hw3] at bx3
  have hv' : (Value.slice va N1 vc).ownBlock = rv.ownBlock ∨ ∀ k, (Value.slice va N1 vc).ownBlock = some k → w1.heap.size ≤ k := gr.heir
  obtain ⟨nd1, mb1⟩ := swap_both (biX_R (s := s) (tb := tb) (rv := rv) (nv := nv) (fv := fv)) (biX_R (s := s) (tb := tb) (rv := .slice va N1 vc) (nv := nv) (fv := fv)) h.apart h1.lt hv'
  have hs0 : s ∉ tb :: (blk (.slice va N1 vc) ++ (blk nv ++ blk fv)) := (List.nodup_cons.1 nd1).1
  have hs1' : ∀ k ∈ tb :: (blk (.slice va N1 vc) ++ (blk nv ++ blk fv)), k ∉ [s] := fun k hk hm => by
    rw [List.mem_singleton] at hm
    subst hm
    exact hs0 hk
  have hBLr : ∀ k ∈ BL, k ∉ blk rv := fun k hk hm => h.apartL k (by simp [biX, hm]) hk
  have hBLs : ∀ k ∈ BL, k ∉ [s] := fun k hk hm => by
    rw [List.mem_singleton] at hm
    subst hm
    exact h.apartL k (by simp [biX]) hk
  have hb3 := m3.heap (mA.heap b0 (fun hm => by rw [mem_blk] at hm; have := hob _ hm; omega)) (fun hm => by rw [List.mem_singleton] at hm; have := h.lt s (by simp [biX]); omega)
  have hr3 := ho.kept m3 (fun k hk => hs1' k (by simp [mem_blk, hk]))
  have ht3 := (h1.tree.keptL mA (hRX tb (by simp)) (fun k hk => hRX k (by simp [mem_blk, hk])) (fun k hk => hRX k (by simp [mem_blk, hk]))).keptL m3 (hs1' tb (by simp)) (fun k hk => hs1' k (by simp [mem_blk, hk])) (fun k hk => hs1' k (by simp [mem_blk, hk]))
  have hl3 := (h1.line.kept mA hBLr).kept m3 hBLs
  have hlt3 : ∀ k ∈ biX s tb (.slice va N1 vc) nv fv, k < w3.heap.size := fun k hk => by
    rcases mb1 k hk with hh | hh
    · have := h1.lt k hh
      have := mA.size
      have := m3.size
      omega
    · rw [biX_R.mem_iff, List.mem_append, mem_blk] at hk
      rcases hk with hk | hk
      · exact Nat.lt_of_lt_of_le (World.ownsRow.lt ho k hk).2 m3.size
      · have := h1.lt k (by rw [biX_R.mem_iff, List.mem_append]; exact .inr hk)
        omega
  have hapL : ∀ k ∈ biX s tb (.slice va N1 vc) nv fv, k ∉ BL := fun k hk hm => by
    rcases mb1 k hk with hh | hh
    · exact h.apartL k hh hm
    · have := h1.line.lt k hm
      omega
  have hnew : ∀ x ∈ T.items, x.i ≠ (S.rs.length : Int) + 1 := fun x hx e => by
    obtain ⟨i, y, k1, k2, k3⟩ := (h.items x).1 hx
    have := (List.getElem?_eq_some_iff.1 k2).1
    rw [k3] at e
    dsimp only at e
    omega
  have CI := Lib.hid (insert_at (ht3.kept0 ((Mod.refl [] w3).drew)) ⟨r.f, r.t, (S.rs.length : Int) + 1⟩ (fun hm => hnew _ hm rfl) hft (by have := h.size; omega) (by have := h.nsl; omega))
  have HF := Lib.hid (fun w4 (hI : InsPost w3.drew tb nv fv ns ⟨r.f, r.t, (S.rs.length : Int) + 1⟩ T w4) => lay_st (w := w3.drew) (r := r) (by show w3.heap[s]? = _; simpa using bx3) hr3 (ht3.kept0 ((Mod.refl [] w3).drew)) (hl3.kept0 ((Mod.refl [] w3).drew)) nd1 hapL hlt3 h.items hnew h.size h.nsl hI)
  have HM3 := Lib.hid (show Mod (biX s tb rv nv fv) w w3 from ((m0.nil.trans (mA.mono fun k hk => by simp [biX, hk])).trans (m3.mono fun k hk => by rw [List.mem_singleton] at hk; subst hk; simp [biX])))
  have HMB := Lib.hid mb1
  have HS1 := Lib.hid hs1
  have g2 := cell_blk bx3 2
  have g3 := cell_blk bx3 3
  have j0 := cell_blk hb3 0
  have j1 := cell_blk hb3 1
  simp at g2 g3 j0 j1
  have RA := Lib.hid ra
  have HNN := Lib.hid hN2
  have HW3 := Lib.hid hw3
  rw [show (S.rs.length : Int) + 1 = ((N1 : Nat) : Int) from by omega] at CI
  simp only [itV] at CI
  unfold rcV
  clear hnew hapL hlt3 hl3 ht3 hr3 hb3 hBLs hBLr hs1' hs0 nd1 mb1 hv' m3 bx3 bs2 mA hRX hN2 hN1 gr ho hob b0 m0 h1 h hs1 hw3 ra hd1
  go_enter Try.func76, Try.ntmps76
  go_wp2_with fail
  clear hw1
  refine wp_plan [([0, 1, 5, 2, 3, 4], 6, [2, 3, 4]), ([], 7, []), ([8, 9], 10, [])] [] (by kernel_rfl) (by kernel_rfl) ?_
  simp only [wpSegs, opsOf, List.map_cons, List.map_nil, opN, List.getD_cons_zero, List.getD_cons_succ]
  go_wp2_with fail
  refine ⟨by first | trivial | rfl, ?_⟩
  go_wp2_with fail
  refine ⟨?ag1, ?_⟩
  case ag1 =>
    intro i hi hw
    simp only [List.mem_cons, List.not_mem_nil, or_false] at hi
    rcases hi with rfl | rfl | rfl
    all_goals (simp only [opN, List.getD_cons_zero, List.getD_cons_succ, slotOf]; go_simp)
  go_wp2_with fail
  refine ⟨by first | trivial | rfl, ?_⟩
  go_wp2_with ((with_reducible refine xAppendAt RA.out rfl rfl ?_ ?_ ?_ ?_); exact rfl; exact rfl; exact rfl)
  refine ⟨again_nil, ?_⟩
  go_wp2_with fail
  refine ⟨by first | trivial | rfl, ?_⟩
  go_wp2_with fail
  simp only [HW3.out]
  refine ⟨again_nil, ?_⟩
  go_wp2_with fail
  refine ⟨by first | trivial | rfl, ?_⟩
  go_wp2_with fail
  clear c3 ca e0 e1 e2 e3 e4 c23 f23
  refine wp_plan [([0, 4, 6, 8, 1, 5, 7, 9, 2, 10, 3, 11, 12], 13, [1, 2, 3]), ([], 14, [])] [] (by kernel_rfl) (by kernel_rfl) ?_
  simp only [wpSegs, opsOf, List.map_cons, List.map_nil, opN, List.getD_cons_zero, List.getD_cons_succ]
  go_wp2_with fail
  refine ⟨by first | trivial | rfl, ?_⟩
  go_wp2_with fail
  refine ⟨?ag2, ?_⟩
  case ag2 =>
    intro i hi hw
    simp only [List.mem_cons, List.not_mem_nil, or_false] at hi
    rcases hi with rfl | rfl | rfl
    all_goals (simp only [opN, List.getD_cons_zero, List.getD_cons_succ, slotOf]; go_simp)
  go_wp2_with fail
  refine ⟨by first | trivial | rfl, ?_⟩
  go_wp2_with fail
  refine CI.out.mono ?_
  rintro e w4 ⟨rfl, hI⟩
  rw [show ((N1 : Nat) : Int) = (S.rs.length : Int) + 1 from by have := HNN.out; omega] at hI
  have HP := Lib.hid (show LayPost w s g tb rv nv fv BL n last (S.add r) w4 from by
    obtain ⟨rv', nv', fv', ns', fr', T', q1, q2, q3⟩ := HF.out w4 hI
    have hsz := HM3.out.size
    have hd : w3.drew.heap.size = w3.heap.size := rfl
    have hmb : ∀ k ∈ biX s tb (.slice va N1 vc) nv fv, k ∈ biX s tb rv nv fv ∨ w.heap.size ≤ k := fun k hk => by
      rcases HMB.out k hk with h | h
      · exact .inl h
      · have := HS1.out
        exact .inr (by omega)
    refine ⟨rv', nv', fv', ns', fr', T', q1, Mod.into' (HM3.out.trans ((Mod.refl [] w3).drew).nil) q2 (fun k hk => (hmb k hk).symm), fun k hk => ?_⟩
    rcases q3 k hk with h | h
    · exact hmb k h
    · exact .inr (by omega))
  clear hI CI HF
  go_wp2_with fail
  refine ⟨again_nil, ?_⟩
  go_wp2_with fail
  refine ⟨by first | trivial | rfl, ?_⟩
  go_wp2_with fail
  first | go_ret | go_end0
  exact ⟨rfl, HP.out⟩
end Go.Proofs.Ytngglpekdjhbdaa
namespace Go.Proofs.Ytngglpekdjhbdaa
open Go.RowKit Go.ChangeMaps Go.Deep Tr
set_option linter.unusedSimpArgs false
set_option linter.unusedVariables false
set_option maxRecDepth 20000

theorem lay_open {S : Bs} {r : Rc} (hu : r.u = 0) : S.lay r = ⟨(S.add r).rs, (S.add r).lv, upd S.g r.f r.t ((S.rs.length : Int) + 1)⟩ := by
  unfold Bs.lay Bs.add upd
  simp only [hu, true_and]
theorem lay_shut {S : Bs} {r : Rc} (hu : r.u ≠ 0) : S.lay r = S.add r := by
  unfold Bs.lay Bs.add
  simp only [hu, false_and, if_false]
/-- the timeline of a store alone has turned -/
theorem BiSt.relined {w w' : World} {s g tb : Nat} {rv nv fv : Value} {ns : List Nd} {fr : List Int} {T : Tr} {BL : List Nat} {n n' : Nat} {last : Int} {S : Bs} {gf : Int → Int} (h : BiSt w s g tb rv nv fv ns fr T BL n last S) (hP : LinePost w g BL n' gf w') :
    BiPost w s (biX s tb rv nv fv ++ BL) n' last ⟨S.rs, S.lv, gf⟩ w' := by
  obtain ⟨B', q1, q2, q3⟩ := hP
  have hm : ∀ k ∈ biX s tb rv nv fv, k ∉ BL := h.apartL
  refine ⟨biX s tb rv nv fv ++ B', ⟨g, tb, rv, nv, fv, ns, fr, T, B', ⟨q2.heap h.blk (hm s (by simp [biX])), h.rows.kept q2 (fun k hk => hm k (by simp [biX, mem_blk, hk])), h.tree.keptL q2 (hm tb (by simp [biX])) (fun k hk => hm k (by simp [biX, mem_blk, hk])) (fun k hk => hm k (by simp [biX, mem_blk, hk])), q1, h.apart, fun k hk hb => ?_, h.items, h.size, h.nsl⟩, rfl⟩, q2.mono fun k hk => by simp [hk], fun k hk => ?_⟩
  · rcases q3 k hb with hh | hh
    · exact hm k hk hh
    · have := h.lt k hk
      omega
  · rcases List.mem_append.1 hk with hk | hk
    · exact .inl (by simp [hk])
    · rcases q3 k hk with hh | hh
      · exact .inl (by simp [hh])
      · exact .inr hh
theorem LayPost.post {w w' : World} {s g tb : Nat} {rv nv fv : Value} {BL : List Nat} {n : Nat} {last : Int} {S : Bs} (h : LayPost w s g tb rv nv fv BL n last S w') : BiPost w s (biX s tb rv nv fv ++ BL) n last S w' := by
  obtain ⟨rv', nv', fv', ns', fr', T', q1, q2, q3⟩ := h
  refine ⟨_, ⟨g, tb, rv', nv', fv', ns', fr', T', BL, q1, rfl⟩, q2.mono fun k hk => by simp [hk], fun k hk => ?_⟩
  rcases List.mem_append.1 hk with hk | hk
  · rcases q3 k hk with hh | hh
    · exact .inl (by simp [hh])
    · exact .inr hh
  · exact .inl (by simp [hk])
set_option maxHeartbeats 4000000 in
theorem begin_at {w : World} {s : Nat} {BB : List Nat} {n : Nat} {last : Int} {S : Bs} (h : BiAt w s BB n last S) (r : Rc) (hu : r.u = 0) (hm : mayS r.f r.t) (hl : S.rs.length < 90000) (hn : n ≤ 40000) :
    Calls Try.prog 50 #[.pointer (some ⟨s, 0, none⟩), rcV r] w fun e w' => e = .returned (.tuple #[]) ∧ BiPost w s BB (n + 1) last (S.lay r) w' := by
  obtain ⟨g, tb, rv, nv, fv, ns, fr, T, BL, H, rfl⟩ := h
  have HLT := Lib.hid H.lt
  have HLL := Lib.hid H.line.lt
  obtain ⟨w1, hw1, b0, hs1, m0⟩ := alloc_named2 w (.cells #[.int .i64 r.f, .int .i64 r.t, .int .i64 r.s, .int .i64 r.u, .int .i64 r.v] 61)
  have H1 := H.kept0 m0
  have CL := Lib.hid (biLay_st H1 r hm.2.1 hl)
  have e0 := cell_blk b0 0
  have e1 := cell_blk b0 1
  have e2 := cell_blk b0 2
  have e3 := cell_blk b0 3
  have e4 := cell_blk b0 4
  simp only [List.getElem?_toArray, List.getElem?_cons_succ, List.getElem?_cons_zero] at e0 e1 e2 e3 e4
  have HB0 := Lib.hid b0
  have HS1 := Lib.hid hs1
  have HM0 := Lib.hid m0
  have HU := Lib.hid hu
  unfold rcV at CL ⊢
  clear H H1 b0 m0 hs1 hu
  go_enter Try.func50, Try.ntmps50
  go_wp2_with fail
  refine CL.out.mono ?_
  rintro e w2 ⟨rfl, rv', nv', fv', ns', fr', T', Q, M2, F2⟩
  have hb2 := M2.heap HB0.out (fun hk => by have := HLT.out _ hk; omega)
  have c1 := cell_blk Q.blk 1
  have c3 := cell_blk Q.blk 3
  have k0 := cell_blk hb2 0
  have k1 := cell_blk hb2 1
  simp only [List.getElem?_toArray, List.getElem?_cons_succ, List.getElem?_cons_zero] at c1 c3 k0 k1
  obtain ⟨N1, hN1⟩ : ∃ N1, (S.rs ++ [r]).length = N1 := ⟨_, rfl⟩
  have hrow : OwnR encRc 5 61 w2 0 rv' (S.rs ++ [r]) := Q.rows
  obtain ⟨va, vc, rfl⟩ := hrow.lens
  rw [hN1] at c3
  have CP := Lib.hid (put_line (v := (N1 : Int)) (Q.line.kept0 ((Mod.refl [] w2).drew)) hn hm)
  have HQ := Lib.hid (Q.kept0 ((Mod.refl [] w2).drew))
  have HPR := Lib.hid (fun w3 (hP : LinePost w2.drew g BL (n + 1) (upd S.g r.f r.t (N1 : Int)) w3) => (show BiPost w s (biX s tb rv nv fv ++ BL) (n + 1) last (S.lay r) w3 from by
    have hL : BiPost w s (biX s tb rv nv fv ++ BL) n last (S.add r) w2 := by
      refine BiPost.step HM0.out.nil (fun k hk => .inl hk) (LayPost.post ⟨_, nv', fv', ns', fr', T', Q, M2, F2⟩)
    obtain ⟨BB1, z1, z2, z3⟩ := hL
    have hR := (Q.kept0 ((Mod.refl [] w2).drew)).relined hP
    have e : (⟨(S.add r).rs, (S.add r).lv, upd S.g r.f r.t (N1 : Int)⟩ : Bs) = S.lay r := by
      rw [lay_open HU.out, show ((N1 : Nat) : Int) = (S.rs.length : Int) + 1 from by rw [← hN1]; simp]
    rw [e] at hR
    have hsz := HM0.out.size
    have hs2 := HS1.out
    refine BiPost.step (BB1 := biX s tb (.slice va N1 vc) nv' fv' ++ BL) ((HM0.out.nil.trans (M2.mono fun k hk => by simp [hk])).trans ((Mod.refl [] w2).drew).nil) (fun k hk => ?_) (by rw [← hN1]; exact hR)
    rcases List.mem_append.1 hk with hk | hk
    · rcases F2 k (by rw [hN1]; exact hk) with h | h
      · exact .inl (by simp [h])
      · exact .inr (by omega)
    · exact .inl (by simp [hk])))
  clear Q hrow M2 F2 hb2 hN1
  go_wp2_with fail
  refine wp_plan [([0, 4, 6, 9, 1, 5, 7, 10, 2, 11, 3, 12, 13], 8, [1, 10, 2, 11, 3, 12, 13]), ([], 14, [])] [] (by kernel_rfl) (by kernel_rfl) ?_
  simp only [wpSegs, opsOf, List.map_cons, List.map_nil, opN, List.getD_cons_zero, List.getD_cons_succ]
  go_wp2_with fail
  refine ⟨by first | trivial | rfl, ?_⟩
  go_wp2_with fail
  refine ⟨?ag1, ?_⟩
  case ag1 =>
    intro i hi hw
    simp only [List.mem_cons, List.not_mem_nil, or_false] at hi
    rcases hi with rfl | rfl | rfl | rfl | rfl | rfl | rfl
    all_goals (simp only [opN, List.getD_cons_zero, List.getD_cons_succ, slotOf]; go_simp)
  go_wp2_with fail
  refine ⟨by first | trivial | rfl, ?_⟩
  go_wp2_with fail
  refine CP.out.mono ?_
  rintro e w3 ⟨rfl, hP⟩
  have HE := Lib.hid (HPR.out w3 hP)
  clear hP CP HPR
  go_wp2_with fail
  refine ⟨again_nil, ?_⟩
  go_wp2_with fail
  refine ⟨by first | trivial | rfl, ?_⟩
  go_wp2_with fail
  first | go_ret | go_end0
  exact ⟨rfl, HE.out⟩
end Go.Proofs.Ytngglpekdjhbdaa
