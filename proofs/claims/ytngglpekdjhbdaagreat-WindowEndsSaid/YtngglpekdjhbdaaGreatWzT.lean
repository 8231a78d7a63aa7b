/- Layer 11: a segment is taken off. -/
import Derived.Test.YtngglpekdjhbdaaGreatWzD
import Derived.Test.YtngglpekdjhbdaaGreatWzS
import Derived.Test.YtngglpekdjhbdaaGreatWzJ
namespace Go.Proofs.YtngglpekdjhbdaaGreat
open Go.RowKit Go.ChangeMaps Go.Deep Tr
set_option linter.unusedSimpArgs false
set_option linter.unusedVariables false
set_option maxRecDepth 20000
attribute [local go_sem] Oper.semAt_some

def encIt (x : It) : List Value := [.int .i64 x.f, .int .i64 x.t, .int .i64 x.i]
theorem encIt_len (x : It) : (encIt x).length = 3 := rfl
theorem encIt_one (x : It) : ∀ v ∈ encIt x, v.oneCell' = true := by intro v hv; simp [encIt] at hv; rcases hv with rfl | rfl | rfl <;> rfl
theorem elemItem : ElemOk Tryz.prog 63 70 3 24 := .mk' Tryz.underlying63 (by omega) (by kernel_rfl)
/-- the world behind All -/
def allW (w : World) (tb : Nat) (a b : Int) : World := (w.alloc (.cells #[.pointer (some ⟨tb, 0, none⟩)] 65)).alloc (.cells #[.int .i64 a, .int .i64 b] 39)
theorem itAll_at (w : World) (tb : Nat) (a b : Int) : Calls Tryz.prog 36 #[.pointer (some ⟨tb, 0, none⟩), .agg #[.int .i64 a, .int .i64 b]] w fun e w' =>
    e = .returned (.func (.func 58) #[] #[.pointer (some ⟨w.heap.size + 1, 0, none⟩), .pointer (some ⟨w.heap.size, 0, none⟩)]) ∧ w' = allW w tb a b := by
  go_enter Tryz.func36, Tryz.ntmps36
  go_wp2
  go_ret
  exact ⟨rfl, rfl⟩
theorem allW_facts (w : World) (tb : Nat) (a b : Int) : Mod [] w (allW w tb a b) ∧ (allW w tb a b).heap[w.heap.size]? = some (.cells #[.pointer (some ⟨tb, 0, none⟩)] 65 (0, 0)) ∧ (allW w tb a b).heap[w.heap.size + 1]? = some (.cells #[.int .i64 a, .int .i64 b] 39 (0, 0)) ∧ (allW w tb a b).heap.size = w.heap.size + 2 := by
  have m1 := (Mod.refl [] w).alloc (.cells #[.pointer (some ⟨tb, 0, none⟩)] 65)
  have m2 := (Mod.refl [] (w.alloc (.cells #[.pointer (some ⟨tb, 0, none⟩)] 65))).alloc (.cells #[.int .i64 a, .int .i64 b] 39)
  refine ⟨m1.trans m2, m2.heap (heap_alloc_new w _) (by simp), ?_, by simp [allW]⟩
  have := heap_alloc_new (w.alloc (.cells #[.pointer (some ⟨tb, 0, none⟩)] 65)) (.cells #[.int .i64 a, .int .i64 b] 39)
  rw [World.size_alloc] at this
  exact this
/-- where AppendSeq stands in its loop -/
def SqSt (Bo N : Nat) (wS : World) (pre : List It) (W : World) : Prop := ∃ v, W.heap[Bo]? = some (.cells #[v] 63 (0, 0)) ∧ OwnR encIt 3 70 W (N + 3) v pre ∧ Mod [Bo] wS W
theorem SqSt.kept {Bo N : Nat} {wS : World} {pre : List It} {A B : World} (h : SqSt Bo N wS pre A) (hN : wS.heap.size = N) (hBo : Bo < N) (m : Mod [N, N + 1, N + 2] A B) : SqSt Bo N wS pre B := by
  obtain ⟨v, h1, h2, h3⟩ := h
  refine ⟨v, m.heap h1 (by simp; omega), h2.kept m (fun k hk => ?_), Mod.into' h3 m (fun k hk => .inl (by simp at hk; omega))⟩
  have := (World.ownsRow.lt h2 k hk).1
  simp; omega
set_option maxHeartbeats 4000000 in
theorem appendSeq_at {Bs Bt : Nat} {p : Nat → Prop} {S : List It} {w : World} (hseq : ∀ n, 1 ≤ n → SeqM Fence.wide n Tryz.prog 58 #[.pointer (some ⟨Bs, 0, none⟩), .pointer (some ⟨Bt, 0, none⟩)] (fun x => #[itV x]) p S w) (hp : ∀ k, p k → k < w.heap.size) (hS : S.length ≤ 1000000) :
    Calls Tryz.prog 62 #[.slice none 0 0, .func (.func 58) #[] #[.pointer (some ⟨Bs, 0, none⟩), .pointer (some ⟨Bt, 0, none⟩)]] w fun e w' => ∃ v, e = .returned v ∧ OwnR encIt 3 70 w' w.heap.size v S ∧ Mod [] w w' := by
  have HSQ := Lib.hid hseq
  clear hseq
  refine (callsIn_wide (n := 5)).1 ?_
  refine callsIn_of_wp_marks Tryz.func62 rfl trivial ?_ rfl
  simp only [Tryz.ntmps62, List.size_toArray, List.length_cons, List.length_nil, Nat.reduceAdd, Nat.reduceSub, Array.replicate_succ, Array.replicate_zero, List.push_toArray, List.append_toArray, List.nil_append, List.cons_append]
  gi_wp2_with fail
  obtain ⟨wS, hwS, nS, sS, mS⟩ := alloc_named2 w (.cells #[.slice none 0 0] 63)
  rw [hwS]
  clear hwS
  have HW := Lib.hid mS
  have hN : wS.heap.size = w.heap.size + 1 := sS
  have hpS : ∀ k, p k → k < w.heap.size := hp
  have HP := Lib.hid hp
  refine wpIn_rangeFunc_M rfl (by omega) (gf := 58) (lb := #[.pointer (some ⟨Bs, 0, none⟩), .pointer (some ⟨Bt, 0, none⟩)]) rfl trivial (enters_of Tryz.func58 (by kernel_rfl) rfl) (HSQ.out 4 (by omega)) (ModP.of mS (by simp)) (fun k hk => by have := hp k hk; omega) (fun _ => rfl)
    (fun pre W => SqSt w.heap.size (w.heap.size + 1) wS pre W)
    (fun pre x a' W => SqSt w.heap.size (w.heap.size + 1) wS pre W ∧ ∃ Bx, w.heap.size + 3 < Bx ∧ W.heap[Bx]? = some (.cells #[.int .i64 x.f, .int .i64 x.t, .int .i64 x.i] 70 (0, 0)) ∧ a' = { tmps := #[.slice none 0 0, .func (.func 58) #[] #[.pointer (some ⟨Bs, 0, none⟩), .pointer (some ⟨Bt, 0, none⟩)], .pointer (some ⟨w.heap.size, 0, none⟩), undef, .slice none 0 0, .pointer (some ⟨Bx, 0, none⟩), .func (.func 58) #[] #[.pointer (some ⟨Bs, 0, none⟩), .pointer (some ⟨Bt, 0, none⟩)], itV x, undef, undef, undef, undef, undef], defers := [] })
    (fun s A B h m => by rw [hN] at m; exact h.kept hN (by omega) m)
    (fun s x a' A B h m => by
      rw [hN] at m
      obtain ⟨h1, Bx, h2, h3, h4⟩ := h
      exact ⟨h1.kept hN (by omega) m, Bx, h2, m.heap h3 (by simp; omega), h4⟩)
    ⟨_, nS, OwnR.nil_ _ _, Mod.refl _ _⟩ ?assign ?body ?done
  case assign =>
    intro l pre x post W K hSS hI hgt hK
    dsimp only [itV]
    have hma := (Mod.refl [] W).alloc (.cells #[.int .i64 x.f, .int .i64 x.t, .int .i64 x.i] 70)
    have HI2 := Lib.hid (hI.kept hN (by omega) hma.nil)
    have HB2 := Lib.hid (heap_alloc_new W (.cells #[.int .i64 x.f, .int .i64 x.t, .int .i64 x.i] 70))
    have HM2 := Lib.hid hma
    have HG2 := Lib.hid (show w.heap.size + 3 < W.heap.size by omega)
    clear hma hI hN nS sS mS hgt hp hpS
    gi_wp2
    exact hK _ _ (ModP.of HM2.out (by simp)) ⟨HI2.out, W.heap.size, HG2.out, HB2.out, rfl⟩
  case body =>
    rintro l pre x post a' W hSS ⟨⟨v, hv, ho, hm⟩, Bx, hBx, hx, rfl⟩ hgt
    have b0 := cell_blk hv 0
    have e0 := cell_blk hx 0
    have e1 := cell_blk hx 1
    have e2 := cell_blk hx 2
    simp only [List.getElem?_toArray, List.getElem?_cons_succ, List.getElem?_cons_zero] at b0 e0 e1 e2
    have hl1 : pre.length < 1073741824 := by
      have := congrArg List.length hSS
      simp at this; omega
    obtain ⟨v', w', ra, ho', gr⟩ := own_append1 (P := Tryz.prog) (ty := 63) elemItem encIt_len encIt_one ho (by omega) x hl1 (by omega)
    dsimp only [encIt] at ra
    obtain ⟨a', n', c', rfl⟩ : ∃ a n c, v' = .slice a n c := by obtain ⟨a, c, e⟩ := ho'.lens; exact ⟨a, _, c, e⟩
    have hob : ∀ k, v.ownBlock = some k → w.heap.size + 4 ≤ k := fun k hk => by have := (World.ownsRow.lt ho k hk).1; omega
    have hv' := gr.mod.heap hv (by rw [mem_blk]; intro h; have := hob _ h; omega)
    have g0 := cell_blk hv' 0
    have g1 := frozen_blk hv' 0
    simp only [List.getElem?_toArray, List.getElem?_cons_zero] at g0
    have hob' : ∀ k, (Value.slice a' n' c').ownBlock = some k → w.heap.size + 4 ≤ k := fun k hk => by have := (World.ownsRow.lt ho' k hk).1; omega
    have hm1 : Mod [w.heap.size] w' (w'.setCell ⟨w.heap.size, 0, none⟩ (.slice a' n' c')) := (Mod.refl _ _).setCell (by simp) _
    have ho2 := ho'.kept hm1 (fun k hk => by have := hob' k hk; simp; omega)
    have hv2 := heap_setCell_blk hv' 0 (.slice a' n' c')
    have HE := Lib.hid (show SqSt w.heap.size (w.heap.size + 1) wS (pre ++ [x]) (w'.setCell ⟨w.heap.size, 0, none⟩ (.slice a' n' c')) from ⟨.slice a' n' c', by simpa using hv2, ho2, Mod.into' (Mod.into' hm gr.mod (fun k hk => .inl (by rw [mem_blk] at hk; have := hob k hk; omega))) hm1 (fun k hk => .inr hk)⟩)
    have HPP := Lib.hid (show ModP (fun k => p k ∨ k = wS.heap.size ∨ k = wS.heap.size + 1 ∨ k = wS.heap.size + 2) W (w'.setCell ⟨w.heap.size, 0, none⟩ (.slice a' n' c')) from (ModP.of gr.mod (fun k hk h => by
      rw [mem_blk] at hk
      have := hob k hk
      rcases h with h | h | h | h
      · have := HP.out k h; omega
      all_goals omega)).trans (ModP.of hm1 (fun k hk h => by
      rw [List.mem_singleton] at hk
      subst hk
      rcases h with h | h | h | h
      · have := HP.out _ h; omega
      all_goals omega)))
    have RA := Lib.hid ra
    clear ra ho' gr hob hv' hob' hm1 ho2 hv2 hm ho hv hx hp hpS hN sS nS mS hgt hSS
    gi_wp2_with ((with_reducible refine xAppendR RA.out rfl rfl ?_ ?_ ?_ ?_); exact rfl; exact rfl; exact rfl)
    exact ⟨HPP.out, HE.out⟩
  case done =>
    rintro D W hD ⟨v, hv, ho, hm⟩ hK
    have b0 := cell_blk hv 0
    simp only [List.getElem?_toArray, List.getElem?_cons_zero] at b0
    have hmp := Mod.into' (Mod.into' HW.out hm (fun k hk => .inl (by simp at hk; omega))) (Mod.putObj W D (.deferred none)) (fun k hk => .inl (by simp at hk; omega))
    have hmo : Mod [D] W (W.putObj D (.deferred none)) := Mod.putObj _ _ _
    have hDW := lt_of_heap hK
    have HO := Lib.hid (show OwnR encIt 3 70 (W.putObj D (.deferred none)) w.heap.size v S from (ho.kept hmo (fun k hk => by
      obtain ⟨o, h1⟩ := ownsRow_cells ho hk
      rw [List.mem_singleton]
      intro e
      subst e
      rw [hK] at h1
      cases h1)).mono (by omega))
    have HMP := Lib.hid hmp
    have HD := Lib.hid hK
    clear hmp hmo hDW hv ho hm hK hp hpS hN sS nS mS
    gi_wp2_with fail
    refine ⟨by simp, .inl ⟨_, _, rfl, run_takeDeferred HD.out, ?_⟩⟩
    exact ⟨v, by simp [results, Tryz.results62, go_sem], v, rfl, HO.out, HMP.out⟩
end Go.Proofs.YtngglpekdjhbdaaGreat
namespace Go.Proofs.YtngglpekdjhbdaaGreat
open Go.RowKit Go.ChangeMaps Go.Deep Tr
set_option linter.unusedSimpArgs false
set_option linter.unusedVariables false
set_option maxRecDepth 20000

theorem collect_at {Bs Bt : Nat} {p : Nat → Prop} {S : List It} {w : World} (hseq : ∀ n, 1 ≤ n → SeqM Fence.wide n Tryz.prog 58 #[.pointer (some ⟨Bs, 0, none⟩), .pointer (some ⟨Bt, 0, none⟩)] (fun x => #[itV x]) p S w) (hp : ∀ k, p k → k < w.heap.size) (hS : S.length ≤ 1000000) :
    Calls Tryz.prog 38 #[.func (.func 58) #[] #[.pointer (some ⟨Bs, 0, none⟩), .pointer (some ⟨Bt, 0, none⟩)]] w fun e w' => ∃ v, e = .returned v ∧ OwnR encIt 3 70 w' w.heap.size v S ∧ Mod [] w w' := by
  have HC := Lib.hid (appendSeq_at hseq hp hS)
  clear hseq hp hS
  go_enter Tryz.func38, Tryz.ntmps38
  go_wp2_with fail
  refine HC.out.mono ?_
  rintro e w1 ⟨v, rfl, o1, m1⟩
  have HO := Lib.hid o1
  have HM := Lib.hid m1
  clear HC o1 m1
  go_wp2_with fail
  go_ret
  exact ⟨v, rfl, HO.out, HM.out⟩
/-- what All yields -/
def overI (a b : Int) (T : Tr) : List It := if a < b then over a b T else []
/-- what the contract of All asks -/
theorem AvlSt.seq {w : World} {tb : Nat} {nv fv : Value} {ns : List Nd} {fr : List Int} {T : Tr} (S : AvlSt w tb nv fv ns fr T) (hsz : T.size ≤ 100000) (a b : Int) {w' : World} {Bs Bt : Nat} (m : Mod [] w w') (hBt : w'.heap[Bt]? = some (.cells #[.pointer (some ⟨tb, 0, none⟩)] 65 (0, 0))) (hBs : w'.heap[Bs]? = some (.cells #[.int .i64 a, .int .i64 b] 39 (0, 0))) :
    (∀ n, 1 ≤ n → SeqM Fence.wide n Tryz.prog 58 #[.pointer (some ⟨Bs, 0, none⟩), .pointer (some ⟨Bt, 0, none⟩)] (fun x => #[itV x]) (allP tb nv fv Bs Bt) (overI a b T) w') ∧ (∀ k, allP tb nv fv Bs Bt k → k < w'.heap.size) := by
  have T0 := S.tree.kept0 m
  refine ⟨fun n hn => all_seq n hn Bs Bt tb a b nv fv ns fr _ _ T w' T0 S.rep rfl (by have := ht_small S.avl hsz; omega) S.srt hBt hBs, ?_⟩
  rintro k ((rfl | hk | hk) | rfl | rfl)
  · exact lt_of_heap T0.blk
  · exact (World.ownsRow.lt T0.row _ hk).2
  · exact (World.ownsRow.lt T0.free _ hk).2
  · exact lt_of_heap hBs
  · exact lt_of_heap hBt
theorem over_len (a b : Int) (T : Tr) : (over a b T).length ≤ T.size := by
  have h1 : ∀ T : Tr, T.items.length = T.size := fun T => by
    induction T with
    | nil => rfl
    | node p l x r h1 h2 => simp only [items, List.length_append, List.length_cons, Tr.size, h1, h2]; omega
  rw [← h1 T]
  exact List.length_filter_le _ _
theorem overlap_at {w : World} {tb : Nat} {nv fv : Value} {ns : List Nd} {fr : List Int} {T : Tr} (S : AvlSt w tb nv fv ns fr T) (hsz : T.size ≤ 100000) (a b : Int) :
    Calls Tryz.prog 27 #[.pointer (some ⟨tb, 0, none⟩), .agg #[.int .i64 a, .int .i64 b]] w fun e w' => ∃ v, e = .returned v ∧ OwnR encIt 3 70 w' w.heap.size v (overI a b T) ∧ Mod [] w w' := by
  have m0 := (Mod.refl [] w).alloc (.cells #[.int .i64 a, .int .i64 b] 39)
  have b0 := heap_alloc_new w (.cells #[.int .i64 a, .int .i64 b] 39)
  have c0 := cell_blk b0 0
  have c1 := cell_blk b0 1
  simp only [List.getElem?_toArray, List.getElem?_cons_succ, List.getElem?_cons_zero] at c0 c1
  have HA := Lib.hid (itAll_at (w.alloc (.cells #[.int .i64 a, .int .i64 b] 39)) tb a b)
  obtain ⟨f1, f2, f3, f4⟩ := allW_facts (w.alloc (.cells #[.int .i64 a, .int .i64 b] 39)) tb a b
  obtain ⟨q1, q2⟩ := S.seq hsz a b (m0.trans f1) f2 f3
  have HC := Lib.hid (collect_at q1 q2 (by
    have := over_len a b T
    unfold overI
    split
    · omega
    · simp))
  have HM := Lib.hid (m0.trans f1)
  clear f1 f2 f3 f4 q1 q2 m0 b0 S
  go_enter Tryz.func27, Tryz.ntmps27
  go_wp2_with fail
  refine HA.out.mono ?_
  rintro e w1 ⟨rfl, rfl⟩
  simp only [World.size_alloc] at HC ⊢
  generalize allW (w.alloc (.cells #[.int .i64 a, .int .i64 b] 39)) tb a b = wA at *
  go_wp2_with fail
  refine HC.out.mono ?_
  rintro e w1 ⟨v, rfl, o1, m1⟩
  have HO := Lib.hid (o1.mono HM.out.size)
  have HM1 := Lib.hid (HM.out.trans m1)
  clear HC HA o1 m1 HM
  go_wp2_with fail
  go_ret
  exact ⟨v, rfl, HO.out, HM1.out⟩
end Go.Proofs.YtngglpekdjhbdaaGreat
namespace Go.Proofs.YtngglpekdjhbdaaGreat
open Go.RowKit Go.ChangeMaps Go.Deep Tr
set_option linter.unusedSimpArgs false
set_option linter.unusedVariables false
set_option maxRecDepth 20000

theorem perm_nodup {α : Type} [DecidableEq α] : ∀ {a b : List α}, a.Nodup → b.Nodup → (∀ x, x ∈ a ↔ x ∈ b) → a.Perm b
  | [], b, _, _, h => by
    have : b = [] := List.eq_nil_iff_forall_not_mem.2 fun x hx => by simpa using (h x).2 hx
    rw [this]
  | x :: a, b, ha, hb, h => by
    have hx : x ∈ b := (h x).1 (by simp)
    have h1 := List.perm_cons_erase hx
    refine (List.Perm.cons x ?_).trans h1.symm
    obtain ⟨n1, n2⟩ := List.nodup_cons.1 ha
    refine perm_nodup n2 (hb.erase x) fun y => ?_
    rw [hb.mem_erase_iff]
    constructor
    · intro hy
      exact ⟨fun e => n1 (e ▸ hy), (h y).1 (by simp [hy])⟩
    · rintro ⟨hne, hy⟩
      rcases List.mem_cons.1 ((h y).2 hy) with e | e
      · exact absurd e hne
      · exact e
theorem srt_nodup {T : Tr} (h : T.srt) : T.items.Nodup := by
  refine List.Pairwise.imp (fun {a b} hab => ?_) h
  intro e
  subst e
  have := (ordI_zero (a := a) (b := a)).2 rfl
  unfold Lt at hab
  omega
theorem del_perm {x : It} {T T' : Tr} {q : Nat} (h : T.srt) (hx : x ∈ T.items) (hd : del x T = some (q, T')) : T.items.Perm (x :: T'.items) := by
  obtain ⟨q', T'', e, D⟩ := del_some x T h hx
  rw [hd] at e
  cases e
  have hn := srt_nodup h
  have hmem : ∀ y, y ∈ T'.items ↔ y ∈ T.items ∧ y ≠ x := fun y => by
    rw [D.items, List.mem_filter]
    simp [ordI_zero]
  refine perm_nodup hn (List.nodup_cons.2 ⟨fun hm => ((hmem x).1 hm).2 rfl, ?_⟩) fun y => ?_
  · rw [D.items]; exact hn.filter _
  · rw [List.mem_cons, hmem]
    by_cases e : y = x
    · subst e; simp [hx]
    · simp [e]
theorem ins_perm {x : It} {T : Tr} {q : Nat} (h : T.srt) (hx : x ∉ T.items) : (ins q x T).items.Perm (x :: T.items) := by
  have hn := srt_nodup h
  have hs := srt_nodup (ins_srt q x T h hx)
  refine perm_nodup hs (List.nodup_cons.2 ⟨hx, hn⟩) fun y => ?_
  rw [ins_items q x T h hx]
  simp only [List.mem_append, List.mem_cons, List.mem_filter, decide_eq_true_eq]
  constructor
  · rintro (h | h | h)
    · exact .inr h.1
    · exact .inl h
    · exact .inr h.1
  · rintro (h | h)
    · exact .inr (.inl h)
    · have : ordI y x ≠ 0 := fun e => hx (ordI_zero.1 e ▸ h)
      rcases Int.lt_or_gt_of_ne this with h1 | h1
      · exact .inl ⟨h, h1⟩
      · exact .inr (.inr ⟨h, h1⟩)
/-- the blocks of a timeline -/
def lnB (g b : Nat) (vv gv nv fv : Value) : List Nat := g :: b :: (blk vv ++ (blk gv ++ (blk nv ++ blk fv)))
def valOf (vs : List Int) (x : It) : It × Int := (x, vs.getD x.i.toNat 0)
theorem items_len : ∀ T : Tr, T.items.length = T.size
  | .nil => rfl
  | .node p l x r => by simp only [items, List.length_append, List.length_cons, Tr.size, items_len l, items_len r]; omega
end Go.Proofs.YtngglpekdjhbdaaGreat
namespace Go.Proofs.YtngglpekdjhbdaaGreat
open Go.RowKit Go.ChangeMaps Go.Deep Tr
set_option linter.unusedSimpArgs false
set_option linter.unusedVariables false
set_option maxRecDepth 20000

theorem mod_app {l : List Nat} {w w' : World} (h : Mod l w w') (l' : List Nat) (hl : ∀ k ∈ l, k ∈ l') : Mod l' w w' := h.mono hl
section
variable {g b N : Nat} {vv gv nv fv x : Value}
theorem lnB_V : (lnB g b vv gv nv fv).Perm (blk vv ++ (g :: b :: (blk gv ++ (blk nv ++ blk fv)))) := List.perm_iff_count.2 fun a => by simp only [lnB, List.count_append, List.count_cons]; omega
theorem lnB_G : (lnB g b vv gv nv fv).Perm (blk gv ++ (g :: b :: (blk vv ++ (blk nv ++ blk fv)))) := List.perm_iff_count.2 fun a => by simp only [lnB, List.count_append, List.count_cons]; omega
theorem lnB_N : (lnB g b vv gv nv fv).Perm (blk nv ++ (g :: b :: (blk vv ++ (blk gv ++ blk fv)))) := List.perm_iff_count.2 fun a => by simp only [lnB, List.count_append, List.count_cons]; omega
theorem lnB_F : (lnB g b vv gv nv fv).Perm (blk fv ++ (g :: b :: (blk vv ++ (blk gv ++ blk nv)))) := List.perm_iff_count.2 fun a => by simp only [lnB, List.count_append, List.count_cons]; omega
theorem lnB_T : (lnB g b vv gv nv fv).Perm ((b :: (blk nv ++ blk fv)) ++ (g :: (blk vv ++ blk gv))) := List.perm_iff_count.2 fun a => by simp only [lnB, List.count_append, List.count_cons]; omega
theorem nodup_swap {R : List Nat} (h : (blk vv ++ R).Nodup) (hv : x.ownBlock = vv.ownBlock ∨ ∀ k, x.ownBlock = some k → k ∉ R) : (blk x ++ R).Nodup := by
  rcases hv with e | e
  · unfold blk at *; rw [e]; exact h
  · have hR := (List.nodup_append.1 h).2.1
    unfold blk
    cases hx : x.ownBlock with
    | none => simpa using hR
    | some k => simpa using ⟨e k hx, hR⟩
theorem mem_swap {R L L' : List Nat} (hL : L.Perm (blk vv ++ R)) (hL' : L'.Perm (blk x ++ R)) (hv : x.ownBlock = vv.ownBlock ∨ ∀ k, x.ownBlock = some k → N ≤ k) : ∀ k ∈ L', k ∈ L ∨ N ≤ k := fun k hk => by
  rw [hL'.mem_iff, List.mem_append, mem_blk] at hk
  rw [hL.mem_iff, List.mem_append, mem_blk]
  rcases hk with h | h
  · rcases hv with e | e
    · exact .inl (.inl (e ▸ h))
    · exact .inr (e k h)
  · exact .inl (.inr h)
theorem swap_both {R L L' : List Nat} (hL : L.Perm (blk vv ++ R)) (hL' : L'.Perm (blk x ++ R)) (h : L.Nodup) (hB : ∀ k ∈ L, k < N) (hv : x.ownBlock = vv.ownBlock ∨ ∀ k, x.ownBlock = some k → N ≤ k) : L'.Nodup ∧ ∀ k ∈ L', k ∈ L ∨ N ≤ k := by
  refine ⟨hL'.nodup_iff.2 (nodup_swap (hL.nodup_iff.1 h) ?_), mem_swap hL hL' hv⟩
  rcases hv with e | e
  · exact .inl e
  · refine .inr fun k hk hm => ?_
    have := hB k (hL.mem_iff.2 (List.mem_append.2 (.inr hm)))
    have := e k hk
    omega
/-- the blocks of the one part are not those of the rest -/
theorem apart_of {L a c : List Nat} (hL : L.Perm (a ++ c)) (h : L.Nodup) : ∀ k ∈ c, k ∉ a := fun k hk hm => (List.nodup_append.1 (hL.nodup_iff.1 h)).2.2 k hm k hk rfl
end
end Go.Proofs.YtngglpekdjhbdaaGreat
