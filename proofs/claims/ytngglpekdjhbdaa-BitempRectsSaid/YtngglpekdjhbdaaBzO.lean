/- Layer 11: lay, at a place that was free. -/
import Derived.Test.YtngglpekdjhbdaaRowH
import Derived.Test.YtngglpekdjhbdaaBzN
import Derived.Test.YtngglpekdjhbdaaOpsR
import Derived.Test.YtngglpekdjhbdaaRowI
import Derived.Test.YtngglpekdjhbdaaBzK
namespace Go.Proofs.Ytngglpekdjhbdaa
open Go.RowKit Go.ChangeMaps Go.Deep Tr
set_option linter.unusedSimpArgs false
set_option linter.unusedVariables false
set_option maxRecDepth 20000
attribute [local go_sem] Oper.semAt_some

def encIt (x : It) : List Value := [.int .i64 x.f, .int .i64 x.t, .int .i64 x.i]
theorem encIt_len (x : It) : (encIt x).length = 3 := rfl
theorem encIt_one (x : It) : ∀ v ∈ encIt x, v.oneCell' = true := by intro v hv; simp [encIt] at hv; rcases hv with rfl | rfl | rfl <;> rfl
theorem elemItem : ElemOk Try.prog 86 92 3 24 := .mk' Try.underlying86 (by omega) (by kernel_rfl)
/-- the world behind All -/
def allW (w : World) (tb : Nat) (a b : Int) : World := (w.alloc (.cells #[.pointer (some ⟨tb, 0, none⟩)] 88)).alloc (.cells #[.int .i64 a, .int .i64 b] 24)
theorem itAll_at (w : World) (tb : Nat) (a b : Int) : Calls Try.prog 63 #[.pointer (some ⟨tb, 0, none⟩), .agg #[.int .i64 a, .int .i64 b]] w fun e w' =>
    e = .returned (.func (.func 82) #[] #[.pointer (some ⟨w.heap.size + 1, 0, none⟩), .pointer (some ⟨w.heap.size, 0, none⟩)]) ∧ w' = allW w tb a b := by
  go_enter Try.func63, Try.ntmps63
  go_wp2
  go_ret
  exact ⟨rfl, rfl⟩
theorem allW_facts (w : World) (tb : Nat) (a b : Int) : Mod [] w (allW w tb a b) ∧ (allW w tb a b).heap[w.heap.size]? = some (.cells #[.pointer (some ⟨tb, 0, none⟩)] 88 (0, 0)) ∧ (allW w tb a b).heap[w.heap.size + 1]? = some (.cells #[.int .i64 a, .int .i64 b] 24 (0, 0)) ∧ (allW w tb a b).heap.size = w.heap.size + 2 := by
  have m1 := (Mod.refl [] w).alloc (.cells #[.pointer (some ⟨tb, 0, none⟩)] 88)
  have m2 := (Mod.refl [] (w.alloc (.cells #[.pointer (some ⟨tb, 0, none⟩)] 88))).alloc (.cells #[.int .i64 a, .int .i64 b] 24)
  refine ⟨m1.trans m2, m2.heap (heap_alloc_new w _) (by simp), ?_, by simp [allW]⟩
  have := heap_alloc_new (w.alloc (.cells #[.pointer (some ⟨tb, 0, none⟩)] 88)) (.cells #[.int .i64 a, .int .i64 b] 24)
  rw [World.size_alloc] at this
  exact this
/-- where AppendSeq stands in its loop -/
def SqSt (Bo N : Nat) (wS : World) (pre : List It) (W : World) : Prop := ∃ v, W.heap[Bo]? = some (.cells #[v] 86 (0, 0)) ∧ OwnR encIt 3 92 W (N + 3) v pre ∧ Mod [Bo] wS W
theorem SqSt.kept {Bo N : Nat} {wS : World} {pre : List It} {A B : World} (h : SqSt Bo N wS pre A) (hN : wS.heap.size = N) (hBo : Bo < N) (m : Mod [N, N + 1, N + 2] A B) : SqSt Bo N wS pre B := by
  obtain ⟨v, h1, h2, h3⟩ := h
  refine ⟨v, m.heap h1 (by simp; omega), h2.kept m (fun k hk => ?_), Mod.into' h3 m (fun k hk => .inl (by simp at hk; omega))⟩
  have := (World.ownsRow.lt h2 k hk).1
  simp; omega
set_option maxHeartbeats 4000000 in
theorem appendSeq_at {Bs Bt : Nat} {p : Nat → Prop} {S : List It} {w : World} (hseq : ∀ n, 1 ≤ n → SeqM Fence.wide n Try.prog 82 #[.pointer (some ⟨Bs, 0, none⟩), .pointer (some ⟨Bt, 0, none⟩)] (fun x => #[itV x]) p S w) (hp : ∀ k, p k → k < w.heap.size) (hS : S.length ≤ 1000000) :
    Calls Try.prog 103 #[.slice none 0 0, .func (.func 82) #[] #[.pointer (some ⟨Bs, 0, none⟩), .pointer (some ⟨Bt, 0, none⟩)]] w fun e w' => ∃ v, e = .returned v ∧ OwnR encIt 3 92 w' w.heap.size v S ∧ Mod [] w w' := by
  have HSQ := Lib.hid hseq
  clear hseq
  refine (callsIn_wide (n := 5)).1 ?_
  refine callsIn_of_wp_marks Try.func103 rfl trivial ?_ rfl
  simp only [Try.ntmps103, List.size_toArray, List.length_cons, List.length_nil, Nat.reduceAdd, Nat.reduceSub, Array.replicate_succ, Array.replicate_zero, List.push_toArray, List.append_toArray, List.nil_append, List.cons_append]
  gi_wp2_with fail
  obtain ⟨wS, hwS, nS, sS, mS⟩ := alloc_named2 w (.cells #[.slice none 0 0] 86)
  rw [hwS]
  clear hwS
  have HW := Lib.hid mS
  have hN : wS.heap.size = w.heap.size + 1 := sS
  have hpS : ∀ k, p k → k < w.heap.size := hp
  have HP := Lib.hid hp
  refine wpIn_rangeFunc_M rfl (by omega) (gf := 82) (lb := #[.pointer (some ⟨Bs, 0, none⟩), .pointer (some ⟨Bt, 0, none⟩)]) rfl trivial (enters_of Try.func82 (by kernel_rfl) rfl) (HSQ.out 4 (by omega)) (ModP.of mS (by simp)) (fun k hk => by have := hp k hk; omega) (fun _ => rfl)
    (fun pre W => SqSt w.heap.size (w.heap.size + 1) wS pre W)
    (fun pre x a' W => SqSt w.heap.size (w.heap.size + 1) wS pre W ∧ ∃ Bx, w.heap.size + 3 < Bx ∧ W.heap[Bx]? = some (.cells #[.int .i64 x.f, .int .i64 x.t, .int .i64 x.i] 92 (0, 0)) ∧ a' = { tmps := #[.slice none 0 0, .func (.func 82) #[] #[.pointer (some ⟨Bs, 0, none⟩), .pointer (some ⟨Bt, 0, none⟩)], .pointer (some ⟨w.heap.size, 0, none⟩), undef, .slice none 0 0, .pointer (some ⟨Bx, 0, none⟩), .func (.func 82) #[] #[.pointer (some ⟨Bs, 0, none⟩), .pointer (some ⟨Bt, 0, none⟩)], itV x, undef, undef, undef, undef, undef], defers := [] })
    (fun s A B h m => by rw [hN] at m; exact h.kept hN (by omega) m)
    (fun s x a' A B h m => by
      rw [hN] at m
      obtain ⟨h1, Bx, h2, h3, h4⟩ := h
      exact ⟨h1.kept hN (by omega) m, Bx, h2, m.heap h3 (by simp; omega), h4⟩)
    ⟨_, nS, OwnR.nil_ _ _, Mod.refl _ _⟩ ?assign ?body ?done
  case assign =>
    intro l pre x post W K hSS hI hgt hK
    dsimp only [itV]
    have hma := (Mod.refl [] W).alloc (.cells #[.int .i64 x.f, .int .i64 x.t, .int .i64 x.i] 92)
    have HI2 := Lib.hid (hI.kept hN (by omega) hma.nil)
    have HB2 := Lib.hid (heap_alloc_new W (.cells #[.int .i64 x.f, .int .i64 x.t, .int .i64 x.i] 92))
    have HM2 := Lib.hid hma
    have HG2 := Lib.hid (show w.heap.size + 3 < W.heap.size by omega)
    clear hma hI hN nS sS mS hgt hp hpS
    gi_wp2
    exact hK _ _ (ModP.of HM2.out (by simp)) ⟨HI2.out, W.heap.size, HG2.out, HB2.out, rfl⟩
  case body =>
    rintro l pre x post a' W hSS ⟨⟨v, hv, ho, hm⟩, Bx, hBx, hx, rfl⟩ hgt
    have b0 := cell_blk hv 0
    have e0 := cell_blk hx 0
    have e1 := cell_blk hx 1
    have e2 := cell_blk hx 2
    simp only [List.getElem?_toArray, List.getElem?_cons_succ, List.getElem?_cons_zero] at b0 e0 e1 e2
    have hl1 : pre.length < 1073741824 := by
      have := congrArg List.length hSS
      simp at this; omega
    obtain ⟨v', w', ra, ho', gr⟩ := own_append1 (P := Try.prog) (ty := 86) elemItem encIt_len encIt_one ho (by omega) x hl1 (by omega)
    dsimp only [encIt] at ra
    obtain ⟨a', n', c', rfl⟩ : ∃ a n c, v' = .slice a n c := by obtain ⟨a, c, e⟩ := ho'.lens; exact ⟨a, _, c, e⟩
    have hob : ∀ k, v.ownBlock = some k → w.heap.size + 4 ≤ k := fun k hk => by have := (World.ownsRow.lt ho k hk).1; omega
    have hv' := gr.mod.heap hv (by rw [mem_blk]; intro h; have := hob _ h; omega)
    have g0 := cell_blk hv' 0
    have g1 := frozen_blk hv' 0
    simp only [List.getElem?_toArray, List.getElem?_cons_zero] at g0
    have hob' : ∀ k, (Value.slice a' n' c').ownBlock = some k → w.heap.size + 4 ≤ k := fun k hk => by have := (World.ownsRow.lt ho' k hk).1; omega
    have hm1 : Mod [w.heap.size] w' (w'.setCell ⟨w.heap.size, 0, none⟩ (.slice a' n' c')) := (Mod.refl _ _).setCell (by simp) _
    have ho2 := ho'.kept hm1 (fun k hk => by have := hob' k hk; simp; omega)
    have hv2 := heap_setCell_blk hv' 0 (.slice a' n' c')
    have HE := Lib.hid (show SqSt w.heap.size (w.heap.size + 1) wS (pre ++ [x]) (w'.setCell ⟨w.heap.size, 0, none⟩ (.slice a' n' c')) from ⟨.slice a' n' c', by simpa using hv2, ho2, Mod.into' (Mod.into' hm gr.mod (fun k hk => .inl (by rw [mem_blk] at hk; have := hob k hk; omega))) hm1 (fun k hk => .inr hk)⟩)
    have HPP := Lib.hid (show ModP (fun k => p k ∨ k = wS.heap.size ∨ k = wS.heap.size + 1 ∨ k = wS.heap.size + 2) W (w'.setCell ⟨w.heap.size, 0, none⟩ (.slice a' n' c')) from (ModP.of gr.mod (fun k hk h => by
      rw [mem_blk] at hk
      have := hob k hk
      rcases h with h | h | h | h
      · have := HP.out k h; omega
      all_goals omega)).trans (ModP.of hm1 (fun k hk h => by
      rw [List.mem_singleton] at hk
      subst hk
      rcases h with h | h | h | h
      · have := HP.out _ h; omega
      all_goals omega)))
    have RA := Lib.hid ra
    clear ra ho' gr hob hv' hob' hm1 ho2 hv2 hm ho hv hx hp hpS hN sS nS mS hgt hSS
    gi_wp2_with ((with_reducible refine xAppendR RA.out rfl rfl ?_ ?_ ?_ ?_); exact rfl; exact rfl; exact rfl)
    exact ⟨HPP.out, HE.out⟩
  case done =>
    rintro D W hD ⟨v, hv, ho, hm⟩ hK
    have b0 := cell_blk hv 0
    simp only [List.getElem?_toArray, List.getElem?_cons_zero] at b0
    have hmp := Mod.into' (Mod.into' HW.out hm (fun k hk => .inl (by simp at hk; omega))) (Mod.putObj W D (.deferred none)) (fun k hk => .inl (by simp at hk; omega))
    have hmo : Mod [D] W (W.putObj D (.deferred none)) := Mod.putObj _ _ _
    have hDW := lt_of_heap hK
    have HO := Lib.hid (show OwnR encIt 3 92 (W.putObj D (.deferred none)) w.heap.size v S from (ho.kept hmo (fun k hk => by
      obtain ⟨o, h1⟩ := ownsRow_cells ho hk
      rw [List.mem_singleton]
      intro e
      subst e
      rw [hK] at h1
      cases h1)).mono (by omega))
    have HMP := Lib.hid hmp
    have HD := Lib.hid hK
    clear hmp hmo hDW hv ho hm hK hp hpS hN sS nS mS
    gi_wp2_with fail
    refine ⟨by simp, .inl ⟨_, _, rfl, run_takeDeferred HD.out, ?_⟩⟩
    exact ⟨v, by simp [results, Try.results103, go_sem], v, rfl, HO.out, HMP.out⟩
end Go.Proofs.Ytngglpekdjhbdaa
namespace Go.Proofs.Ytngglpekdjhbdaa
open Go.RowKit Go.ChangeMaps Go.Deep Tr
set_option linter.unusedSimpArgs false
set_option linter.unusedVariables false
set_option maxRecDepth 20000

theorem collect_at {Bs Bt : Nat} {p : Nat → Prop} {S : List It} {w : World} (hseq : ∀ n, 1 ≤ n → SeqM Fence.wide n Try.prog 82 #[.pointer (some ⟨Bs, 0, none⟩), .pointer (some ⟨Bt, 0, none⟩)] (fun x => #[itV x]) p S w) (hp : ∀ k, p k → k < w.heap.size) (hS : S.length ≤ 1000000) :
    Calls Try.prog 80 #[.func (.func 82) #[] #[.pointer (some ⟨Bs, 0, none⟩), .pointer (some ⟨Bt, 0, none⟩)]] w fun e w' => ∃ v, e = .returned v ∧ OwnR encIt 3 92 w' w.heap.size v S ∧ Mod [] w w' := by
  have HC := Lib.hid (appendSeq_at hseq hp hS)
  clear hseq hp hS
  go_enter Try.func80, Try.ntmps80
  go_wp2_with fail
  refine HC.out.mono ?_
  rintro e w1 ⟨v, rfl, o1, m1⟩
  have HO := Lib.hid o1
  have HM := Lib.hid m1
  clear HC o1 m1
  go_wp2_with fail
  go_ret
  exact ⟨v, rfl, HO.out, HM.out⟩
/-- what All yields -/
def overI (a b : Int) (T : Tr) : List It := if a < b then over a b T else []
/-- what the contract of All asks -/
theorem AvlSt.seq {w : World} {tb : Nat} {nv fv : Value} {ns : List Nd} {fr : List Int} {T : Tr} (S : AvlSt w tb nv fv ns fr T) (hsz : T.size ≤ 100000) (a b : Int) {w' : World} {Bs Bt : Nat} (m : Mod [] w w') (hBt : w'.heap[Bt]? = some (.cells #[.pointer (some ⟨tb, 0, none⟩)] 88 (0, 0))) (hBs : w'.heap[Bs]? = some (.cells #[.int .i64 a, .int .i64 b] 24 (0, 0))) :
    (∀ n, 1 ≤ n → SeqM Fence.wide n Try.prog 82 #[.pointer (some ⟨Bs, 0, none⟩), .pointer (some ⟨Bt, 0, none⟩)] (fun x => #[itV x]) (allP tb nv fv Bs Bt) (overI a b T) w') ∧ (∀ k, allP tb nv fv Bs Bt k → k < w'.heap.size) := by
  have T0 := S.tree.kept0 m
  refine ⟨fun n hn => all_seq n hn Bs Bt tb a b nv fv ns fr _ _ T w' T0 S.rep rfl (by have := ht_small S.avl hsz; omega) S.srt hBt hBs, ?_⟩
  rintro k ((rfl | hk | hk) | rfl | rfl)
  · exact lt_of_heap T0.blk
  · exact (World.ownsRow.lt T0.row _ hk).2
  · exact (World.ownsRow.lt T0.free _ hk).2
  · exact lt_of_heap hBs
  · exact lt_of_heap hBt
theorem over_len (a b : Int) (T : Tr) : (over a b T).length ≤ T.size := by
  have h1 : ∀ T : Tr, T.items.length = T.size := fun T => by
    induction T with
    | nil => rfl
    | node p l x r h1 h2 => simp only [items, List.length_append, List.length_cons, Tr.size, h1, h2]; omega
  rw [← h1 T]
  exact List.length_filter_le _ _
theorem overlap_at {w : World} {tb : Nat} {nv fv : Value} {ns : List Nd} {fr : List Int} {T : Tr} (S : AvlSt w tb nv fv ns fr T) (hsz : T.size ≤ 100000) (a b : Int) :
    Calls Try.prog 59 #[.pointer (some ⟨tb, 0, none⟩), .agg #[.int .i64 a, .int .i64 b]] w fun e w' => ∃ v, e = .returned v ∧ OwnR encIt 3 92 w' w.heap.size v (overI a b T) ∧ Mod [] w w' := by
  have m0 := (Mod.refl [] w).alloc (.cells #[.int .i64 a, .int .i64 b] 24)
  have b0 := heap_alloc_new w (.cells #[.int .i64 a, .int .i64 b] 24)
  have c0 := cell_blk b0 0
  have c1 := cell_blk b0 1
  simp only [List.getElem?_toArray, List.getElem?_cons_succ, List.getElem?_cons_zero] at c0 c1
  have HA := Lib.hid (itAll_at (w.alloc (.cells #[.int .i64 a, .int .i64 b] 24)) tb a b)
  obtain ⟨f1, f2, f3, f4⟩ := allW_facts (w.alloc (.cells #[.int .i64 a, .int .i64 b] 24)) tb a b
  obtain ⟨q1, q2⟩ := S.seq hsz a b (m0.trans f1) f2 f3
  have HC := Lib.hid (collect_at q1 q2 (by
    have := over_len a b T
    unfold overI
    split
    · omega
    · simp))
  have HM := Lib.hid (m0.trans f1)
  clear f1 f2 f3 f4 q1 q2 m0 b0 S
  go_enter Try.func59, Try.ntmps59
  go_wp2_with fail
  refine HA.out.mono ?_
  rintro e w1 ⟨rfl, rfl⟩
  simp only [World.size_alloc] at HC ⊢
  generalize allW (w.alloc (.cells #[.int .i64 a, .int .i64 b] 24)) tb a b = wA at *
  go_wp2_with fail
  refine HC.out.mono ?_
  rintro e w1 ⟨v, rfl, o1, m1⟩
  have HO := Lib.hid (o1.mono HM.out.size)
  have HM1 := Lib.hid (HM.out.trans m1)
  clear HC HA o1 m1 HM
  go_wp2_with fail
  go_ret
  exact ⟨v, rfl, HO.out, HM1.out⟩
end Go.Proofs.Ytngglpekdjhbdaa
namespace Go.Proofs.Ytngglpekdjhbdaa
open Go.RowKit Go.ChangeMaps Go.Deep Tr
set_option linter.unusedSimpArgs false
set_option linter.unusedVariables false
set_option maxRecDepth 20000

theorem perm_nodup {α : Type} [DecidableEq α] : ∀ {a b : List α}, a.Nodup → b.Nodup → (∀ x, x ∈ a ↔ x ∈ b) → a.Perm b
  | [], b, _, _, h => by
    have : b = [] := List.eq_nil_iff_forall_not_mem.2 fun x hx => by simpa using (h x).2 hx
    rw [this]
  | x :: a, b, ha, hb, h => by
    have hx : x ∈ b := (h x).1 (by simp)
    have h1 := List.perm_cons_erase hx
    refine (List.Perm.cons x ?_).trans h1.symm
    obtain ⟨n1, n2⟩ := List.nodup_cons.1 ha
    refine perm_nodup n2 (hb.erase x) fun y => ?_
    rw [hb.mem_erase_iff]
    constructor
    · intro hy
      exact ⟨fun e => n1 (e ▸ hy), (h y).1 (by simp [hy])⟩
    · rintro ⟨hne, hy⟩
      rcases List.mem_cons.1 ((h y).2 hy) with e | e
      · exact absurd e hne
      · exact e
theorem srt_nodup {T : Tr} (h : T.srt) : T.items.Nodup := by
  refine List.Pairwise.imp (fun {a b} hab => ?_) h
  intro e
  subst e
  have := (ordI_zero (a := a) (b := a)).2 rfl
  unfold Lt at hab
  omega
theorem del_perm {x : It} {T T' : Tr} {q : Nat} (h : T.srt) (hx : x ∈ T.items) (hd : del x T = some (q, T')) : T.items.Perm (x :: T'.items) := by
  obtain ⟨q', T'', e, D⟩ := del_some x T h hx
  rw [hd] at e
  cases e
  have hn := srt_nodup h
  have hmem : ∀ y, y ∈ T'.items ↔ y ∈ T.items ∧ y ≠ x := fun y => by
    rw [D.items, List.mem_filter]
    simp [ordI_zero]
  refine perm_nodup hn (List.nodup_cons.2 ⟨fun hm => ((hmem x).1 hm).2 rfl, ?_⟩) fun y => ?_
  · rw [D.items]; exact hn.filter _
  · rw [List.mem_cons, hmem]
    by_cases e : y = x
    · subst e; simp [hx]
    · simp [e]
theorem ins_perm {x : It} {T : Tr} {q : Nat} (h : T.srt) (hx : x ∉ T.items) : (ins q x T).items.Perm (x :: T.items) := by
  have hn := srt_nodup h
  have hs := srt_nodup (ins_srt q x T h hx)
  refine perm_nodup hs (List.nodup_cons.2 ⟨hx, hn⟩) fun y => ?_
  rw [ins_items q x T h hx]
  simp only [List.mem_append, List.mem_cons, List.mem_filter, decide_eq_true_eq]
  constructor
  · rintro (h | h | h)
    · exact .inr h.1
    · exact .inl h
    · exact .inr h.1
  · rintro (h | h)
    · exact .inr (.inl h)
    · have : ordI y x ≠ 0 := fun e => hx (ordI_zero.1 e ▸ h)
      rcases Int.lt_or_gt_of_ne this with h1 | h1
      · exact .inl ⟨h, h1⟩
      · exact .inr (.inr ⟨h, h1⟩)
/-- the blocks of a timeline -/
def lnB (g b : Nat) (vv gv nv fv : Value) : List Nat := g :: b :: (blk vv ++ (blk gv ++ (blk nv ++ blk fv)))
structure LnSt (w : World) (g b : Nat) (vv gv nv fv : Value) (ns : List Nd) (fr : List Int) (T : Tr) (vs fs : List Int) : Prop where
  blk : w.heap[g]? = some (.cells #[.pointer (some ⟨b, 0, none⟩), vv, gv] 90 (0, 0))
  vals : OwnR encI 1 3 w 0 vv vs
  free : OwnR encI 1 3 w 0 gv fs
  tree : AvlSt w b nv fv ns fr T
  apart : (lnB g b vv gv nv fv).Nodup
  ids : ∀ x ∈ T.items, ∃ k : Nat, x.i = k ∧ k < vs.length ∧ x.i ∉ fs
  inj : ∀ x ∈ T.items, ∀ y ∈ T.items, x.i = y.i → x = y
  frs : ∀ i ∈ fs, ∃ k : Nat, i = k ∧ k < vs.length
  fnd : fs.Nodup
  full : vs.length = T.size + fs.length
  pos : ∀ x ∈ T.items, x.f < x.t
theorem LnSt.kept {l : List Nat} {w w' : World} {g b : Nat} {vv gv nv fv : Value} {ns : List Nd} {fr : List Int} {T : Tr} {vs fs : List Int} (h : LnSt w g b vv gv nv fv ns fr T vs fs) (m : Mod l w w') (hl : ∀ k ∈ lnB g b vv gv nv fv, k ∉ l) : LnSt w' g b vv gv nv fv ns fr T vs fs := by
  have hv : ∀ k, vv.ownBlock = some k → k ∉ l := fun k hk => hl k (by simp [lnB, mem_blk, hk])
  have hg : ∀ k, gv.ownBlock = some k → k ∉ l := fun k hk => hl k (by simp [lnB, mem_blk, hk])
  have hn : ∀ k, nv.ownBlock = some k → k ∉ l := fun k hk => hl k (by simp [lnB, mem_blk, hk])
  have hf : ∀ k, fv.ownBlock = some k → k ∉ l := fun k hk => hl k (by simp [lnB, mem_blk, hk])
  exact ⟨m.heap h.blk (hl g (by simp [lnB])), h.vals.kept m hv, h.free.kept m hg, ⟨h.tree.tree.keptL m (hl b (by simp [lnB])) hn hf, h.tree.rep, h.tree.avl, h.tree.srt, h.tree.nodup, h.tree.free, h.tree.fnd, h.tree.full⟩, h.apart, h.ids, h.inj, h.frs, h.fnd, h.full, h.pos⟩
theorem LnSt.lt {w : World} {g b : Nat} {vv gv nv fv : Value} {ns : List Nd} {fr : List Int} {T : Tr} {vs fs : List Int} (h1 : LnSt w g b vv gv nv fv ns fr T vs fs) : ∀ k ∈ lnB g b vv gv nv fv, k < w.heap.size := by
  intro k hk
  simp only [lnB, List.mem_cons, List.mem_append, mem_blk] at hk
  rcases hk with rfl | rfl | hk | hk | hk | hk
  · exact lt_of_heap h1.blk
  · exact lt_of_heap h1.tree.tree.blk
  · exact (World.ownsRow.lt h1.vals _ hk).2
  · exact (World.ownsRow.lt h1.free _ hk).2
  · exact (World.ownsRow.lt h1.tree.tree.row _ hk).2
  · exact (World.ownsRow.lt h1.tree.tree.free _ hk).2
def valOf (vs : List Int) (x : It) : It × Int := (x, vs.getD x.i.toNat 0)
/-- a timeline at block g: its own blocks B, its segments E (in whatever order), M: as many as it has ever had -/
def Ln (w : World) (g : Nat) (B : List Nat) (M : Nat) (E : List (It × Int)) : Prop :=
  ∃ b vv gv nv fv ns fr T vs fs, LnSt w g b vv gv nv fv ns fr T vs fs ∧ B = lnB g b vv gv nv fv ∧ (T.items.map (valOf vs)).Perm E ∧ ns.length ≤ M ∧ vs.length ≤ M
theorem Ln.kept {l : List Nat} {w w' : World} {g : Nat} {B : List Nat} {M : Nat} {E : List (It × Int)} (h : Ln w g B M E) (m : Mod l w w') (hl : ∀ k ∈ B, k ∉ l) : Ln w' g B M E := by
  obtain ⟨b, vv, gv, nv, fv, ns, fr, T, vs, fs, h1, rfl, h3, h4, h5⟩ := h
  exact ⟨b, vv, gv, nv, fv, ns, fr, T, vs, fs, h1.kept m hl, rfl, h3, h4, h5⟩
theorem Ln.perm {w : World} {g : Nat} {B : List Nat} {M : Nat} {E E' : List (It × Int)} (h : Ln w g B M E) (he : E.Perm E') : Ln w g B M E' := by
  obtain ⟨b, vv, gv, nv, fv, ns, fr, T, vs, fs, h1, h2, h3, h4, h5⟩ := h
  exact ⟨b, vv, gv, nv, fv, ns, fr, T, vs, fs, h1, h2, h3.trans he, h4, h5⟩
theorem Ln.mono {w : World} {g : Nat} {B : List Nat} {M M' : Nat} {E : List (It × Int)} (h : Ln w g B M E) (he : M ≤ M') : Ln w g B M' E := by
  obtain ⟨b, vv, gv, nv, fv, ns, fr, T, vs, fs, h1, h2, h3, h4, h5⟩ := h
  exact ⟨b, vv, gv, nv, fv, ns, fr, T, vs, fs, h1, h2, h3, by omega, by omega⟩
theorem Ln.lt {w : World} {g : Nat} {B : List Nat} {M : Nat} {E : List (It × Int)} (h : Ln w g B M E) : ∀ k ∈ B, k < w.heap.size := by
  obtain ⟨b, vv, gv, nv, fv, ns, fr, T, vs, fs, h1, rfl, h3, h4, h5⟩ := h
  intro k hk
  simp only [lnB, List.mem_cons, List.mem_append, mem_blk] at hk
  rcases hk with rfl | rfl | hk | hk | hk | hk
  · exact lt_of_heap h1.blk
  · exact lt_of_heap h1.tree.tree.blk
  · exact (World.ownsRow.lt h1.vals _ hk).2
  · exact (World.ownsRow.lt h1.free _ hk).2
  · exact (World.ownsRow.lt h1.tree.tree.row _ hk).2
  · exact (World.ownsRow.lt h1.tree.tree.free _ hk).2
theorem Ln.kept0 {w w' : World} {g : Nat} {B : List Nat} {M : Nat} {E : List (It × Int)} (h : Ln w g B M E) (m : Mod [] w w') : Ln w' g B M E := h.kept m (by simp)
theorem Ln.mem {w : World} {g : Nat} {B : List Nat} {M : Nat} {E : List (It × Int)} (h : Ln w g B M E) : g ∈ B := by
  obtain ⟨b, vv, gv, nv, fv, ns, fr, T, vs, fs, h1, rfl, h3, h4, h5⟩ := h
  simp [lnB]
theorem items_len : ∀ T : Tr, T.items.length = T.size
  | .nil => rfl
  | .node p l x r => by simp only [items, List.length_append, List.length_cons, Tr.size, items_len l, items_len r]; omega
theorem Ln.len {w : World} {g : Nat} {B : List Nat} {M : Nat} {E : List (It × Int)} (h : Ln w g B M E) : E.length ≤ M := by
  obtain ⟨b, vv, gv, nv, fv, ns, fr, T, vs, fs, h1, rfl, h3, h4, h5⟩ := h
  rw [← h3.length_eq, List.length_map, items_len]
  have := h1.full
  omega
end Go.Proofs.Ytngglpekdjhbdaa
namespace Go.Proofs.Ytngglpekdjhbdaa
open Go.RowKit Go.ChangeMaps Go.Deep Tr
set_option linter.unusedSimpArgs false
set_option linter.unusedVariables false
set_option maxRecDepth 20000

/-- what may have become of a timeline's blocks -/
def LnPost (w : World) (g : Nat) (B : List Nat) (M : Nat) (E : List (It × Int)) (w' : World) : Prop :=
  ∃ B', Ln w' g B' M E ∧ Mod B w w' ∧ ∀ k ∈ B', k ∈ B ∨ w.heap.size ≤ k
theorem mod_app {l : List Nat} {w w' : World} (h : Mod l w w') (l' : List Nat) (hl : ∀ k ∈ l, k ∈ l') : Mod l' w w' := h.mono hl
section
variable {g b N : Nat} {vv gv nv fv x : Value}
theorem lnB_V : (lnB g b vv gv nv fv).Perm (blk vv ++ (g :: b :: (blk gv ++ (blk nv ++ blk fv)))) := List.perm_iff_count.2 fun a => by simp only [lnB, List.count_append, List.count_cons]; omega
theorem lnB_G : (lnB g b vv gv nv fv).Perm (blk gv ++ (g :: b :: (blk vv ++ (blk nv ++ blk fv)))) := List.perm_iff_count.2 fun a => by simp only [lnB, List.count_append, List.count_cons]; omega
theorem lnB_N : (lnB g b vv gv nv fv).Perm (blk nv ++ (g :: b :: (blk vv ++ (blk gv ++ blk fv)))) := List.perm_iff_count.2 fun a => by simp only [lnB, List.count_append, List.count_cons]; omega
theorem lnB_F : (lnB g b vv gv nv fv).Perm (blk fv ++ (g :: b :: (blk vv ++ (blk gv ++ blk nv)))) := List.perm_iff_count.2 fun a => by simp only [lnB, List.count_append, List.count_cons]; omega
theorem lnB_T : (lnB g b vv gv nv fv).Perm ((b :: (blk nv ++ blk fv)) ++ (g :: (blk vv ++ blk gv))) := List.perm_iff_count.2 fun a => by simp only [lnB, List.count_append, List.count_cons]; omega
theorem nodup_swap {R : List Nat} (h : (blk vv ++ R).Nodup) (hv : x.ownBlock = vv.ownBlock ∨ ∀ k, x.ownBlock = some k → k ∉ R) : (blk x ++ R).Nodup := by
  rcases hv with e | e
  · unfold blk at *; rw [e]; exact h
  · have hR := (List.nodup_append.1 h).2.1
    unfold blk
    cases hx : x.ownBlock with
    | none => simpa using hR
    | some k => simpa using ⟨e k hx, hR⟩
theorem mem_swap {R L L' : List Nat} (hL : L.Perm (blk vv ++ R)) (hL' : L'.Perm (blk x ++ R)) (hv : x.ownBlock = vv.ownBlock ∨ ∀ k, x.ownBlock = some k → N ≤ k) : ∀ k ∈ L', k ∈ L ∨ N ≤ k := fun k hk => by
  rw [hL'.mem_iff, List.mem_append, mem_blk] at hk
  rw [hL.mem_iff, List.mem_append, mem_blk]
  rcases hk with h | h
  · rcases hv with e | e
    · exact .inl (.inl (e ▸ h))
    · exact .inr (e k h)
  · exact .inl (.inr h)
theorem swap_both {R L L' : List Nat} (hL : L.Perm (blk vv ++ R)) (hL' : L'.Perm (blk x ++ R)) (h : L.Nodup) (hB : ∀ k ∈ L, k < N) (hv : x.ownBlock = vv.ownBlock ∨ ∀ k, x.ownBlock = some k → N ≤ k) : L'.Nodup ∧ ∀ k ∈ L', k ∈ L ∨ N ≤ k := by
  refine ⟨hL'.nodup_iff.2 (nodup_swap (hL.nodup_iff.1 h) ?_), mem_swap hL hL' hv⟩
  rcases hv with e | e
  · exact .inl e
  · refine .inr fun k hk hm => ?_
    have := hB k (hL.mem_iff.2 (List.mem_append.2 (.inr hm)))
    have := e k hk
    omega
/-- the blocks of the one part are not those of the rest -/
theorem apart_of {L a c : List Nat} (hL : L.Perm (a ++ c)) (h : L.Nodup) : ∀ k ∈ c, k ∉ a := fun k hk hm => (List.nodup_append.1 (hL.nodup_iff.1 h)).2.2 k hm k hk rfl
end
set_option maxHeartbeats 4000000 in
theorem drop_at {w : World} {g : Nat} {B : List Nat} {M : Nat} {x : It} {v : Int} {E : List (It × Int)} (h : Ln w g B M ((x, v) :: E)) (hM : M ≤ 100000) :
    Calls Try.prog 60 #[.pointer (some ⟨g, 0, none⟩), itV x] w fun e w' => e = .returned (.int .i64 v) ∧ LnPost w g B M E w' := by
  obtain ⟨b, vv, gv, nv, fv, ns, fr, T, vs, fs, S, rfl, hp, hn, hv⟩ := h
  have hm : (x, v) ∈ T.items.map (valOf vs) := hp.mem_iff.2 (by simp)
  obtain ⟨y, hy, e⟩ := List.mem_map.1 hm
  obtain ⟨rfl, e2⟩ : y = x ∧ vs.getD y.i.toNat 0 = v := by simpa [valOf] using e
  obtain ⟨k, hk, hkl, hkf⟩ := S.ids y hy
  obtain ⟨f, t, i⟩ := y
  dsimp only at hk hkf e2
  subst hk
  have hvk : vs[k] = v := by rw [← e2]; simp [hkl]
  have HE2 := Lib.hid e
  obtain ⟨q, cap, rfl, hq, hcap⟩ := S.vals.at_ (show vs[k]? = some v by rw [List.getElem?_eq_getElem hkl, hvk])
  have hap := S.apart
  simp only [lnB, blk, Value.ownBlock, Option.toList] at hap
  have m0 := (Mod.refl [] w).alloc (.cells #[.int .i64 f, .int .i64 t, .int .i64 k] 92)
  have bA := heap_alloc_new w (.cells #[.int .i64 f, .int .i64 t, .int .i64 k] 92)
  have SA := S.kept m0 (by simp)
  have c0 := cell_blk SA.blk 0
  have c1 := cell_blk SA.blk 1
  have i0 := cell_blk bA 0
  have i1 := cell_blk bA 1
  have i2 := cell_blk bA 2
  have vk := (SA.vals.cell encI_len hkl (j := 0) (by omega) (u := .int .i64 v) (by rw [hvk]; rfl)).1
  simp only [Nat.mul_one, Nat.add_zero] at vk
  simp only [List.getElem?_toArray, List.getElem?_cons_succ, List.getElem?_cons_zero] at c0 c1 i0 i1 i2
  have hk0 : decide ((k : Int) < 0) = false := decide_eq_false (by omega)
  have hk1 : decide ((vs.length : Int) ≤ (k : Int)) = false := decide_eq_false (by omega)
  have hsz : T.size ≤ 100000 := by have := S.full; omega
  have SD := S.kept ((m0.drew).drew) (by simp)
  have CD := Lib.hid (delete_at SD.tree ⟨f, t, k⟩ hy hsz (by omega))
  have HS := Lib.hid S
  have HSD := Lib.hid SD
  have HM0 := Lib.hid (m0.drew).drew
  have HBA := Lib.hid (((Mod.refl [] _).drew).drew.heap bA (by simp))
  have HP := Lib.hid hp
  have HV := Lib.hid hv
  have HSI := Lib.hid hsz
  clear S SA m0 bA SD hap hp hm e hv
  simp only [itV] at CD ⊢
  go_enter Try.func60, Try.ntmps60
  go_wp2_with fail
  refine wp_plan [] [0, 4, 1, 5, 2, 3, 6, 7, 8] (by kernel_rfl) (by kernel_rfl) ?_
  simp only [wpSegs, opsOf, List.map_cons, List.map_nil, opN, List.getD_cons_zero, List.getD_cons_succ]
  go_wp2_with fail
  refine ⟨by first | trivial | rfl, ?_⟩
  go_wp2_with fail
  refine wp_plan [([0, 4, 1, 2, 3], 5, [])] [] (by kernel_rfl) (by kernel_rfl) ?_
  simp only [wpSegs, opsOf, List.map_cons, List.map_nil, opN, List.getD_cons_zero, List.getD_cons_succ]
  go_wp2_with fail
  refine ⟨by first | trivial | rfl, ?_⟩
  go_wp2_with fail
  refine CD.out.mono ?_
  rintro e w3 ⟨rfl, p, T', fv', ns', hd, S', hl, mm, hf⟩
  have HT := apart_of lnB_T HSD.out.apart
  have b3 := mm.heap HSD.out.blk (HT g (by simp))
  have hi3 := mm.heap HBA.out (fun hm => by
    have := HS.out.lt w.heap.size (lnB_T.mem_iff.2 (List.mem_append.2 (.inl hm)))
    omega)
  have v3 := HSD.out.vals.kept mm (fun k hk => HT k (by simp [mem_blk, hk]))
  have g3 := HSD.out.free.kept mm (fun k hk => HT k (by simp [mem_blk, hk]))
  have hfl : fs.length < 1073741824 := by have := HS.out.full; have := HV.out; omega
  obtain ⟨gw, w5, ra, og, gr⟩ := own_append1 (P := Try.prog) (ty := 25) elemInt encI_len encI_one (g3.kept0 ((Mod.refl [] w3).drew)) (Nat.zero_le _) (k : Int) hfl (by omega)
  dsimp only [encI] at ra
  obtain ⟨a', n', c', rfl⟩ : ∃ a n c, gw = .slice a n c := by obtain ⟨a, c, e⟩ := og.lens; exact ⟨a, _, c, e⟩
  have c32 := cell_blk b3 2
  have j2 := cell_blk hi3 2
  have HGA := apart_of lnB_G HSD.out.apart
  have b5 := gr.mod.heap (((Mod.refl [] w3).drew).heap b3 (by simp)) (HGA g (by simp))
  have c52 := cell_blk b5 2
  have f52 := frozen_blk b5 2
  have ca := cell_blk (((Mod.refl [] w3).alloc (.cells #[.int .i64 (k : Int)] 3)).heap b3 (by simp)) 2
  simp only [List.getElem?_toArray, List.getElem?_cons_succ, List.getElem?_cons_zero] at c32 j2 c52 ca
  have b6 := heap_setCell_blk b5 2 (.slice a' n' c')
  have m6 : Mod [g] w5 (w5.setCell ⟨g, 2, none⟩ (.slice a' n' c')) := (Mod.refl _ _).setCell (by simp) _
  obtain ⟨nd1, mb1⟩ := swap_both (lnB_F (g := g) (b := b) (vv := .slice (some ⟨q, 0, none⟩) vs.length cap) (gv := gv) (nv := nv) (fv := fv)) (lnB_F (g := g) (b := b) (vv := .slice (some ⟨q, 0, none⟩) vs.length cap) (gv := gv) (nv := nv) (fv := fv')) HSD.out.apart HSD.out.lt hf
  have hw3 := mm.size
  have hl3 : ∀ k ∈ lnB g b (.slice (some ⟨q, 0, none⟩) vs.length cap) gv nv fv', k < w3.heap.size := fun k hk => by
    rw [lnB_F.mem_iff, List.mem_append, mem_blk] at hk
    rcases hk with hk | hk
    · exact (World.ownsRow.lt S'.tree.free _ hk).2
    · exact Nat.lt_of_lt_of_le (HSD.out.lt k (lnB_F.mem_iff.2 (List.mem_append.2 (.inr hk)))) hw3
  obtain ⟨nd2, mb2⟩ := swap_both (lnB_G (g := g) (b := b) (vv := .slice (some ⟨q, 0, none⟩) vs.length cap) (gv := gv) (nv := nv) (fv := fv')) (lnB_G (g := g) (b := b) (vv := .slice (some ⟨q, 0, none⟩) vs.length cap) (gv := .slice a' n' c') (nv := nv) (fv := fv')) nd1 hl3 gr.heir
  have hG1 := apart_of lnB_G nd1
  have hg2 := (List.nodup_cons.1 nd2).1
  have hg6 : ∀ k ∈ b :: (blk (.slice (some ⟨q, 0, none⟩) vs.length cap) ++ (blk (.slice a' n' c') ++ (blk nv ++ blk fv'))), k ∉ [g] := fun k hk hm => by
    rw [List.mem_singleton] at hm
    subst hm
    exact hg2 hk
  obtain ⟨p', T'', ed, D⟩ := del_some _ T HS.out.tree.srt hy
  rw [hd] at ed
  cases ed
  have hmem : ∀ y, y ∈ T'.items ↔ y ∈ T.items ∧ y ≠ ⟨f, t, k⟩ := fun y => by
    rw [D.items, List.mem_filter]
    simp [ordI_zero]
  have hdp := del_perm HS.out.tree.srt hy hd
  have hsz' : T.size = T'.size + 1 := by
    have := hdp.length_eq
    rw [List.length_cons, items_len, items_len] at this
    exact this
  have F6 : LnSt (w5.setCell ⟨g, 2, none⟩ (.slice a' n' c')) g b (.slice (some ⟨q, 0, none⟩) vs.length cap) (.slice a' n' c') nv fv' ns' (fr ++ [(p : Int)]) T' vs (fs ++ [(k : Int)]) := by
    refine ⟨by simpa using b6, ?_, ?_, ⟨?_, S'.rep, S'.avl, S'.srt, S'.nodup, S'.free, S'.fnd, S'.full⟩, nd2, fun y hy' => ?_, fun y hy1 z hz1 => HS.out.inj y ((hmem y).1 hy1).1 z ((hmem z).1 hz1).1, fun i hi => ?_, ?_, ?_, fun y hy' => HS.out.pos y ((hmem y).1 hy').1⟩
    · exact ((v3.kept0 ((Mod.refl [] w3).drew)).kept gr.mod (fun k hk => hG1 k (by simp [mem_blk, hk]))).kept m6 (fun k hk => hg6 k (by simp [mem_blk, hk]))
    · exact og.kept m6 (fun k hk => hg6 k (by simp [mem_blk, hk]))
    · exact ((S'.tree.kept0 ((Mod.refl [] w3).drew)).keptL gr.mod (hG1 b (by simp)) (fun k hk => hG1 k (by simp [mem_blk, hk])) (fun k hk => hG1 k (by simp [mem_blk, hk]))).keptL m6 (hg6 b (by simp)) (fun k hk => hg6 k (by simp [mem_blk, hk])) (fun k hk => hg6 k (by simp [mem_blk, hk]))
    · obtain ⟨h1, h2⟩ := (hmem y).1 hy'
      obtain ⟨j, e1, e2, e3⟩ := HS.out.ids y h1
      refine ⟨j, e1, e2, fun hm => ?_⟩
      rcases List.mem_append.1 hm with hm | hm
      · exact e3 hm
      · exact h2 (HS.out.inj y h1 _ hy (by simpa using hm))
    · rcases List.mem_append.1 hi with hi | hi
      · exact HS.out.frs i hi
      · exact ⟨k, by simpa using hi, hkl⟩
    · refine List.nodup_append.2 ⟨HS.out.fnd, by simp, fun a ha c hc => ?_⟩
      rw [List.mem_singleton] at hc
      subst hc
      intro e
      exact hkf (e ▸ ha)
    · rw [List.length_append, List.length_singleton, HS.out.full]
      omega
  have HPOST := Lib.hid (show LnPost w g (lnB g b (.slice (some ⟨q, 0, none⟩) vs.length cap) gv nv fv) M E (w5.setCell ⟨g, 2, none⟩ (.slice a' n' c')) from by
    refine ⟨_, ⟨_, _, _, _, _, _, _, _, _, _, F6, rfl, ?_, by omega, by have := HV.out; omega⟩, ?_, fun k hk => ?_⟩
    · have h1 := (hdp.map (valOf vs)).symm.trans HP.out
      rw [List.map_cons, HE2.out] at h1
      exact h1.cons_inv
    · refine (((HM0.out.nil.trans (mm.mono fun k hk => ?_)).trans ((Mod.refl _ w3).drew)).trans (gr.mod.mono fun k hk => ?_)).trans (m6.mono fun k hk => ?_)
      · exact lnB_T.mem_iff.2 (List.mem_append.2 (.inl hk))
      · exact lnB_G.mem_iff.2 (List.mem_append.2 (.inl hk))
      · rw [List.mem_singleton] at hk; subst hk; simp [lnB]
    · rcases mb2 k hk with h1 | h1
      · rcases mb1 k h1 with h2 | h2
        · exact .inl h2
        · exact .inr (Nat.le_trans HM0.out.size h2)
      · exact .inr (Nat.le_trans HM0.out.size (Nat.le_trans hw3 h1)))
  have RA := Lib.hid ra
  clear F6 hdp D hmem hg6 hg2 hG1 nd2 mb2 hl3 nd1 mb1 m6 b6 b5 og gr ra HGA g3 v3 hi3 b3 HT mm hf S' hd hl hy hkf hn
  go_wp2_with fail
  refine ⟨again_nil, ?_⟩
  go_wp2_with fail
  refine ⟨by first | trivial | rfl, ?_⟩
  go_wp2_with fail
  refine wp_plan [([0, 1, 5, 2, 6, 3, 4], 7, [2, 3, 4]), ([], 8, []), ([9, 10], 11, [])] [] (by kernel_rfl) (by kernel_rfl) ?_
  simp only [wpSegs, opsOf, List.map_cons, List.map_nil, opN, List.getD_cons_zero, List.getD_cons_succ]
  go_wp2_with fail
  refine ⟨by first | trivial | rfl, ?_⟩
  go_wp2_with fail
  refine ⟨?ag1, ?_⟩
  case ag1 =>
    intro i hi hw
    simp only [List.mem_cons, List.not_mem_nil, or_false] at hi
    rcases hi with rfl | rfl | rfl
    all_goals (simp only [opN, List.getD_cons_zero, List.getD_cons_succ, slotOf]; go_simp)
  go_wp2_with fail
  refine ⟨by first | trivial | rfl, ?_⟩
  go_wp2_with ((with_reducible refine xAppendAt RA.out rfl rfl ?_ ?_ ?_ ?_); exact rfl; exact rfl; exact rfl)
  refine ⟨again_nil, ?_⟩
  go_wp2_with fail
  refine ⟨by first | trivial | rfl, ?_⟩
  go_wp2_with fail
  refine ⟨again_nil, ?_⟩
  go_wp2_with fail
  refine ⟨by first | trivial | rfl, ?_⟩
  go_wp2_with fail
  go_ret
  exact ⟨rfl, HPOST.out⟩
end Go.Proofs.Ytngglpekdjhbdaa
namespace Go.Proofs.Ytngglpekdjhbdaa
open Go.RowKit Go.ChangeMaps Go.Deep Tr
set_option linter.unusedSimpArgs false
set_option linter.unusedVariables false
set_option maxRecDepth 20000

/-- the last step of lay: the tree has taken the item in -/
theorem lay_fin {w1 w2 : World} {g b k M : Nat} {vv gv nv fv : Value} {ns : List Nd} {fr : List Int} {T : Tr} {vs vs0 fs : List Int} {E : List (It × Int)} {f t v : Int}
    (hblk : w1.heap[g]? = some (.cells #[.pointer (some ⟨b, 0, none⟩), vv, gv] 90 (0, 0))) (hvals : OwnR encI 1 3 w1 0 vv vs) (hfree : OwnR encI 1 3 w1 0 gv fs) (S : AvlSt w1 b nv fv ns fr T) (hap : (lnB g b vv gv nv fv).Nodup)
    (hk : k < vs.length) (hkf : (k : Int) ∉ fs) (hkT : ∀ x ∈ T.items, x.i ≠ k) (hids : ∀ x ∈ T.items, ∃ j : Nat, x.i = j ∧ j < vs.length ∧ x.i ∉ fs) (hval : ∀ x ∈ T.items, valOf vs x = valOf vs0 x) (hinj : ∀ x ∈ T.items, ∀ y ∈ T.items, x.i = y.i → x = y)
    (hfrs : ∀ i ∈ fs, ∃ j : Nat, i = j ∧ j < vs.length) (hfnd : fs.Nodup) (hfull : vs.length = T.size + 1 + fs.length) (hpos : ∀ x ∈ T.items, x.f < x.t) (hft : f < t) (hv : vs.getD k 0 = v) (hE : (T.items.map (valOf vs0)).Perm E) (hns : ns.length ≤ M) (hvs : vs.length ≤ max M (E.length + 1))
    (hI : InsPost w1 b nv fv ns ⟨f, t, k⟩ T w2) : LnPost w1 g (lnB g b vv gv nv fv) (max M (E.length + 1)) ((⟨f, t, k⟩, v) :: E) w2 := by
  obtain ⟨q, nv', fv', ns', fr', S', hn', mm, hnv, hfv⟩ := hI
  have hlt : ∀ j ∈ lnB g b vv gv nv fv, j < w1.heap.size := fun j hj => by
    simp only [lnB, List.mem_cons, List.mem_append, mem_blk] at hj
    rcases hj with rfl | rfl | hj | hj | hj | hj
    · exact lt_of_heap hblk
    · exact lt_of_heap S.tree.blk
    · exact (World.ownsRow.lt hvals _ hj).2
    · exact (World.ownsRow.lt hfree _ hj).2
    · exact (World.ownsRow.lt S.tree.row _ hj).2
    · exact (World.ownsRow.lt S.tree.free _ hj).2
  obtain ⟨nd1, mb1⟩ := swap_both (lnB_N (g := g) (b := b) (vv := vv) (gv := gv) (nv := nv) (fv := fv)) (lnB_N (g := g) (b := b) (vv := vv) (gv := gv) (nv := nv') (fv := fv)) hap hlt hnv
  have heq : lnB g b vv gv nv' fv' = lnB g b vv gv nv' fv := by unfold lnB blk; rw [hfv]
  have hx : (⟨f, t, k⟩ : It) ∉ T.items := fun h => hkT _ h rfl
  have hp := ins_perm (q := q) S.srt hx
  have hsz := ins_size q ⟨f, t, k⟩ T
  have hT := apart_of lnB_N hap
  have hB : ∀ j ∈ g :: (blk vv ++ blk gv), j ∉ b :: blk nv := fun j hj hm => by
    rcases List.mem_cons.1 hm with rfl | hm
    · have h1 := apart_of (a := [j]) (c := g :: (blk vv ++ (blk gv ++ (blk nv ++ blk fv)))) (List.perm_iff_count.2 fun a => by simp only [lnB, List.count_append, List.count_cons, List.count_nil]; omega) hap j (by
        simp only [List.mem_cons, List.mem_append] at hj ⊢
        rcases hj with h | h | h
        · exact .inl h
        · exact .inr (.inl h)
        · exact .inr (.inr (.inl h)))
      exact h1 (by simp)
    · refine hT j ?_ hm
      simp only [List.mem_cons, List.mem_append] at hj ⊢
      rcases hj with h | h | h
      · exact .inl h
      · exact .inr (.inr (.inl h))
      · exact .inr (.inr (.inr (.inl h)))
  have hmem : ∀ y, y ∈ (ins q ⟨f, t, k⟩ T).items ↔ y = ⟨f, t, k⟩ ∨ y ∈ T.items := fun y => by rw [hp.mem_iff, List.mem_cons]
  have F : LnSt w2 g b vv gv nv' fv' ns' fr' (ins q ⟨f, t, k⟩ T) vs fs := by
    refine ⟨mm.heap hblk (hB g (by simp)), hvals.kept mm (fun j hj => hB j (by simp [mem_blk, hj])), hfree.kept mm (fun j hj => hB j (by simp [mem_blk, hj])), S', by rw [heq]; exact nd1, fun y hy => ?_, fun y hy z hz e => ?_, hfrs, hfnd, by rw [hsz]; exact hfull, fun y hy => ?_⟩
    · rcases (hmem y).1 hy with rfl | hy
      · exact ⟨k, rfl, hk, hkf⟩
      · exact hids y hy
    · rcases (hmem y).1 hy with rfl | hy <;> rcases (hmem z).1 hz with rfl | hz
      · rfl
      · exact absurd e.symm (hkT z hz)
      · exact absurd e (hkT y hy)
      · exact hinj y hy z hz e
    · rcases (hmem y).1 hy with rfl | hy
      · exact hft
      · exact hpos y hy
  have hTE : T.size = E.length := by rw [← hE.length_eq, List.length_map, items_len]
  refine ⟨_, ⟨_, _, _, _, _, _, _, _, _, _, F, rfl, ?_, by omega, hvs⟩, mm.mono fun j hj => ?_, fun j hj => ?_⟩
  · refine (hp.map (valOf vs)).trans ?_
    rw [List.map_cons]
    have e1 : valOf vs ⟨f, t, k⟩ = (⟨f, t, k⟩, v) := by unfold valOf; simp only [Int.toNat_natCast]; rw [hv]
    rw [e1, List.map_congr_left (g := valOf vs0) hval]
    exact hE.cons _
  · rcases List.mem_cons.1 hj with rfl | hj
    · simp [lnB]
    · exact lnB_N.mem_iff.2 (List.mem_append.2 (.inl hj))
  · rw [heq] at hj
    exact mb1 j hj
theorem lay_none {w : World} {g : Nat} {f t v : Int} (h : t ≤ f ∨ v = 0) : Calls Try.prog 61 #[.pointer (some ⟨g, 0, none⟩), .int .i64 f, .int .i64 t, .int .i64 v] w fun e w' => e = .returned (.tuple #[]) ∧ w' = w := by
  by_cases h1 : t ≤ f
  · have hd : decide (t ≤ f) = true := decide_eq_true h1
    clear h
    go_enter Try.func61, Try.ntmps61
    go_wp2_with fail
    refine bodyPost_ret (results_none rfl _ _ _) rfl ⟨rfl, rfl⟩
  · have hd : decide (t ≤ f) = false := decide_eq_false h1
    obtain rfl : v = 0 := by rcases h with h | h; exact absurd h h1; exact h
    go_enter Try.func61, Try.ntmps61
    go_wp2_with fail
    refine bodyPost_ret (results_none rfl _ _ _) rfl ⟨rfl, rfl⟩
end Go.Proofs.Ytngglpekdjhbdaa
namespace Go.Proofs.Ytngglpekdjhbdaa
open Go.RowKit Go.ChangeMaps Go.Deep Tr
set_option linter.unusedSimpArgs false
set_option linter.unusedVariables false
set_option maxRecDepth 20000

theorem LnPost.into {w w1 w2 : World} {g : Nat} {B B1 : List Nat} {M : Nat} {E : List (It × Int)} (h : LnPost w1 g B1 M E w2) (m : Mod B w w1) (hB : ∀ k ∈ B1, k ∈ B ∨ w.heap.size ≤ k) : LnPost w g B M E w2 := by
  obtain ⟨B', h1, h2, h3⟩ := h
  refine ⟨B', h1, Mod.into' m h2 (fun k hk => (hB k hk).symm), fun k hk => ?_⟩
  rcases h3 k hk with h4 | h4
  · exact hB k h4
  · exact .inr (Nat.le_trans m.size h4)
set_option maxHeartbeats 4000000 in
theorem lay_new {w : World} {g b M : Nat} {vv gv nv fv : Value} {ns : List Nd} {fr : List Int} {T : Tr} {vs : List Int} {E : List (It × Int)} {f t v : Int} (S : LnSt w g b vv gv nv fv ns fr T vs []) (hp : (T.items.map (valOf vs)).Perm E) (hn : ns.length ≤ M) (hvM : vs.length ≤ M) (hM : M ≤ 99999) (hft : f < t) (hv : v ≠ 0) :
    Calls Try.prog 61 #[.pointer (some ⟨g, 0, none⟩), .int .i64 f, .int .i64 t, .int .i64 v] w fun e w' => e = .returned (.tuple #[]) ∧ ∃ id, LnPost w g (lnB g b vv gv nv fv) (max M (E.length + 1)) ((⟨f, t, id⟩, v) :: E) w' := by
  obtain ⟨ga, gc, rfl⟩ := S.free.lens
  simp only [List.length_nil] at S ⊢
  obtain ⟨va, vc, rfl⟩ := S.vals.lens
  have hd : decide (t ≤ f) = false := decide_eq_false (by omega)
  have hdv : decide (v = 0) = false := decide_eq_false hv
  have hdv2 : (v == 0) = false := by simpa using hv
  have c0 := cell_blk S.blk 0
  have c1 := cell_blk S.blk 1
  have c2 := cell_blk S.blk 2
  simp only [List.getElem?_toArray, List.getElem?_cons_succ, List.getElem?_cons_zero, List.length_nil] at c0 c1 c2
  obtain ⟨gw, w5, ra, og, gr⟩ := own_append1 (P := Try.prog) (ty := 25) elemInt encI_len encI_one S.vals (Nat.zero_le _) v (by omega) (by omega)
  dsimp only [encI] at ra
  obtain ⟨a', n', c', rfl⟩ : ∃ a n c, gw = .slice a n c := by obtain ⟨a, c, e⟩ := og.lens; exact ⟨a, _, c, e⟩
  have ma := (Mod.refl [] w).alloc (.cells #[.int .i64 v] 3)
  have ca := cell_blk (ma.heap S.blk (by simp)) 1
  have HVA := apart_of lnB_V S.apart
  have b5 := gr.mod.heap S.blk (HVA g (by simp))
  have c51 := cell_blk b5 1
  have f51 := frozen_blk b5 1
  have b6 := heap_setCell_blk b5 1 (.slice a' n' c')
  have m6 : Mod [g] w5 (w5.setCell ⟨g, 1, none⟩ (.slice a' n' c')) := (Mod.refl _ _).setCell (by simp) _
  have c60 := cell_blk b6 0
  simp at c60
  simp only [List.getElem?_toArray, List.getElem?_cons_succ, List.getElem?_cons_zero] at ca c51
  obtain ⟨nd2, mb2⟩ := swap_both (lnB_V (g := g) (b := b) (vv := .slice va vs.length vc) (gv := .slice ga 0 gc) (nv := nv) (fv := fv)) (lnB_V (g := g) (b := b) (vv := .slice a' n' c') (gv := .slice ga 0 gc) (nv := nv) (fv := fv)) S.apart S.lt gr.heir
  have hg2 := (List.nodup_cons.1 nd2).1
  have hg6 : ∀ k ∈ b :: (blk (.slice a' n' c') ++ (blk (.slice ga 0 gc) ++ (blk nv ++ blk fv))), k ∉ [g] := fun k hk hm => by
    rw [List.mem_singleton] at hm
    subst hm
    exact hg2 hk
  have T6 : AvlSt (w5.setCell ⟨g, 1, none⟩ (.slice a' n' c')) b nv fv ns fr T := ⟨(S.tree.tree.keptL gr.mod (HVA b (by simp)) (fun k hk => HVA k (by simp [mem_blk, hk])) (fun k hk => HVA k (by simp [mem_blk, hk]))).keptL m6 (hg6 b (by simp)) (fun k hk => hg6 k (by simp [mem_blk, hk])) (fun k hk => hg6 k (by simp [mem_blk, hk])), S.tree.rep, S.tree.avl, S.tree.srt, S.tree.nodup, S.tree.free, S.tree.fnd, S.tree.full⟩
  have hkT : ∀ x ∈ T.items, x.i ≠ (vs.length : Int) := fun x hx e => by
    obtain ⟨j, e1, e2, _⟩ := S.ids x hx
    omega
  have hful := S.full
  simp only [List.length_nil, Nat.add_zero] at hful
  have CI := Lib.hid (insert_at T6 ⟨f, t, vs.length⟩ (fun h => hkT _ h rfl) hft (by omega) (by omega))
  have HF := Lib.hid (fun w2 (hI : InsPost (w5.setCell ⟨g, 1, none⟩ (.slice a' n' c')) b nv fv ns ⟨f, t, vs.length⟩ T w2) => lay_fin (g := g) (k := vs.length) (vv := .slice a' n' c') (gv := .slice ga 0 gc) (vs := vs ++ [v]) (vs0 := vs) (fs := []) (E := E) (v := v) (M := M)
    (by simpa using b6) (og.kept m6 (fun k hk => hg6 k (by simp [mem_blk, hk]))) ((S.free.kept gr.mod (fun k hk => HVA k (by simp [mem_blk, hk]))).kept m6 (fun k hk => hg6 k (by simp [mem_blk, hk]))) T6 nd2 (by simp) (by simp) hkT
    (fun x hx => by obtain ⟨j, e1, e2, e3⟩ := S.ids x hx; exact ⟨j, e1, by simp; omega, e3⟩)
    (fun x hx => by
      obtain ⟨j, e1, e2, e3⟩ := S.ids x hx
      unfold valOf
      rw [e1, Int.toNat_natCast, List.getD_eq_getElem?_getD, List.getD_eq_getElem?_getD, List.getElem?_append_left e2]) S.inj (by simp) (by simp) (by simp [hful]) S.pos hft (by simp) hp hn (by
      have : T.size = E.length := by rw [← hp.length_eq, List.length_map, items_len]
      simp; omega) hI)
  have HM := Lib.hid (show Mod (lnB g b (.slice va vs.length vc) (.slice ga 0 gc) nv fv) w (w5.setCell ⟨g, 1, none⟩ (.slice a' n' c')) from (gr.mod.mono fun k hk => lnB_V.mem_iff.2 (List.mem_append.2 (.inl hk))).trans (m6.mono fun k hk => by rw [List.mem_singleton] at hk; subst hk; simp [lnB]))
  have HMB := Lib.hid mb2
  have RA := Lib.hid ra
  simp only [itV] at CI
  clear T6 hg6 hg2 nd2 mb2 m6 b6 b5 HVA ma og gr ra S hkT hp hful
  go_enter Try.func61, Try.ntmps61
  go_wp2_with ((with_reducible refine xAppendAt RA.out rfl rfl ?_ ?_ ?_ ?_); exact rfl; exact rfl; exact rfl)
  refine CI.out.mono ?_
  rintro e w2 ⟨rfl, hI⟩
  have HP := Lib.hid ((HF.out w2 hI).into HM.out HMB.out)
  clear hI CI HF
  go_wp2_with fail
  go_end0
  exact ⟨rfl, _, HP.out⟩
end Go.Proofs.Ytngglpekdjhbdaa
namespace Go.Proofs.Ytngglpekdjhbdaa
open Go.RowKit Go.ChangeMaps Go.Deep Tr
set_option linter.unusedSimpArgs false
set_option linter.unusedVariables false
set_option maxRecDepth 20000

set_option maxHeartbeats 4000000 in
theorem lay_old {w : World} {g b M : Nat} {vv gv nv fv : Value} {ns : List Nd} {fr : List Int} {T : Tr} {vs fs : List Int} {k : Nat} {E : List (It × Int)} {f t v : Int} (S : LnSt w g b vv gv nv fv ns fr T vs (fs ++ [(k : Int)])) (hp : (T.items.map (valOf vs)).Perm E) (hn : ns.length ≤ M) (hvM : vs.length ≤ M) (hM : M ≤ 99999) (hft : f < t) (hv : v ≠ 0) :
    Calls Try.prog 61 #[.pointer (some ⟨g, 0, none⟩), .int .i64 f, .int .i64 t, .int .i64 v] w fun e w' => e = .returned (.tuple #[]) ∧ ∃ id, LnPost w g (lnB g b vv gv nv fv) (max M (E.length + 1)) ((⟨f, t, id⟩, v) :: E) w' := by
  have hlen : (fs ++ [(k : Int)]).length = fs.length + 1 := by simp
  have hkl : k < vs.length := by
    obtain ⟨j, e1, e2⟩ := S.frs (k : Int) (by simp)
    omega
  obtain ⟨q, gc, rfl, hq, hqc⟩ := S.free.at_ (show (fs ++ [(k : Int)])[fs.length]? = some (k : Int) by simp)
  obtain ⟨y, yc, rfl, hy, hyc⟩ := S.vals.at_ (show vs[k]? = some vs[k] from List.getElem?_eq_getElem hkl)
  have kq := (S.free.cell encI_len (i := fs.length) (by rw [hlen]; omega) (j := 0) (by omega) (u := .int .i64 (k : Int)) (by simp [encI])).1
  simp only [Nat.mul_one, Nat.add_zero] at kq
  have FT := S.free.take encI_len fs.length (by rw [hlen]; omega)
  rw [show (fs ++ [(k : Int)]).take fs.length = fs by simp] at FT
  have hd : decide (t ≤ f) = false := decide_eq_false (by omega)
  have hdv2 : (v == 0) = false := by simpa using hv
  have hn0 : decide ((0 : Int) < (fs.length : Int) + 1) = true := decide_eq_true (by omega)
  rw [hlen] at hqc
  have c0 := cell_blk S.blk 0
  have c1 := cell_blk S.blk 1
  have c2 := cell_blk S.blk 2
  simp only [List.getElem?_toArray, List.getElem?_cons_succ, List.getElem?_cons_zero, hlen] at c0 c1 c2
  have f2 := frozen_blk S.blk 2
  have hful := S.full
  rw [hlen] at hful
  have hfl : fs.length < 99999 := by omega
  have hi0 : decide ((fs.length : Int) < 0) = false := decide_eq_false (by omega)
  have hi1 : decide ((fs.length : Int) + 1 ≤ (fs.length : Int)) = false := decide_eq_false (by omega)
  have hi2 : decide ((gc : Int) < (fs.length : Int)) = false := decide_eq_false (by omega)
  have hk0 : decide ((k : Int) < 0) = false := decide_eq_false (by omega)
  have hk1 : decide ((vs.length : Int) ≤ (k : Int)) = false := decide_eq_false (by omega)
  have b1 := heap_setCell_blk S.blk 2 (.slice (some ⟨q, 0, none⟩) fs.length gc)
  have m1 : Mod [g] w (w.setCell ⟨g, 2, none⟩ (.slice (some ⟨q, 0, none⟩) fs.length gc)) := (Mod.refl _ w).setCell (by simp) _
  have hg0 := (List.nodup_cons.1 S.apart).1
  have hg1 : ∀ j ∈ b :: (blk (.slice (some ⟨y, 0, none⟩) vs.length yc) ++ (blk (.slice (some ⟨q, 0, none⟩) (fs ++ [(k : Int)]).length gc) ++ (blk nv ++ blk fv))), j ∉ [g] := fun j hk hm => by
    rw [List.mem_singleton] at hm
    subst hm
    exact hg0 hk
  have V1 := S.vals.kept m1 (fun k hk => hg1 k (by simp [mem_blk, hk]))
  have fy := (V1.cell encI_len hkl (j := 0) (by omega) (u := .int .i64 vs[k]) (by rfl))
  simp only [Nat.mul_one, Nat.add_zero] at fy
  obtain ⟨fy1, fy2⟩ := fy
  have d0 := cell_blk b1 0
  have d1 := cell_blk b1 1
  simp at d0 d1
  have V2 := V1.set encI_len hkl (j := 0) (by omega) (u := .int .i64 v) (y := v) rfl
  simp only [Nat.mul_one, Nat.add_zero] at V2
  replace V2 := V2.kept0 ((Mod.refl [] _).drew)
  have m2 : Mod [y] (w.setCell ⟨g, 2, none⟩ (.slice (some ⟨q, 0, none⟩) fs.length gc)) ((w.setCell ⟨g, 2, none⟩ (.slice (some ⟨q, 0, none⟩) fs.length gc)).setCell ⟨y, k, none⟩ (.int .i64 v)).drew := ((Mod.refl _ _).setCell (by simp) _).drew
  have hV := apart_of lnB_V S.apart
  have hy1 : ∀ j ∈ g :: b :: (blk (.slice (some ⟨q, 0, none⟩) (fs ++ [(k : Int)]).length gc) ++ (blk nv ++ blk fv)), j ∉ [y] := fun j hj hm => hV j hj (by rw [mem_blk]; simp at hm; simp [Value.ownBlock, hm])
  have b2 := m2.heap b1 (hy1 g (by simp))
  have g0 := cell_blk b2 0
  simp at g0
  have T2 : AvlSt ((w.setCell ⟨g, 2, none⟩ (.slice (some ⟨q, 0, none⟩) fs.length gc)).setCell ⟨y, k, none⟩ (.int .i64 v)).drew b nv fv ns fr T := ⟨(S.tree.tree.keptL m1 (hg1 b (by simp)) (fun k hk => hg1 k (by simp [mem_blk, hk])) (fun k hk => hg1 k (by simp [mem_blk, hk]))).keptL m2 (hy1 b (by simp)) (fun k hk => hy1 k (by simp [mem_blk, hk])) (fun k hk => hy1 k (by simp [mem_blk, hk])), S.tree.rep, S.tree.avl, S.tree.srt, S.tree.nodup, S.tree.free, S.tree.fnd, S.tree.full⟩
  have hqb : blk (.slice (some ⟨q, 0, none⟩) fs.length gc) = blk (.slice (some ⟨q, 0, none⟩) (fs ++ [(k : Int)]).length gc) := rfl
  have heqB : lnB g b (.slice (some ⟨y, 0, none⟩) vs.length yc) (.slice (some ⟨q, 0, none⟩) fs.length gc) nv fv = lnB g b (.slice (some ⟨y, 0, none⟩) vs.length yc) (.slice (some ⟨q, 0, none⟩) (fs ++ [(k : Int)]).length gc) nv fv := rfl
  have hkT : ∀ x ∈ T.items, x.i ≠ (k : Int) := fun x hx e => by
    obtain ⟨j, e1, e2, e3⟩ := S.ids x hx
    exact e3 (by simp [e])
  have hfnd := List.nodup_append.1 S.fnd
  have CI := Lib.hid (insert_at T2 ⟨f, t, k⟩ (fun h => hkT _ h rfl) hft (by omega) (by omega))
  have HF := Lib.hid (fun w3 (hI : InsPost ((w.setCell ⟨g, 2, none⟩ (.slice (some ⟨q, 0, none⟩) fs.length gc)).setCell ⟨y, k, none⟩ (.int .i64 v)).drew b nv fv ns ⟨f, t, k⟩ T w3) => lay_fin (g := g) (k := k) (vv := .slice (some ⟨y, 0, none⟩) vs.length yc) (gv := .slice (some ⟨q, 0, none⟩) fs.length gc) (vs := vs.set k v) (vs0 := vs) (fs := fs) (E := E) (v := v) (M := M)
    (by simpa using b2) V2 ((FT.kept m1 (fun k hk => hg1 k (by rw [← hqb]; simp [mem_blk, hk]))).kept m2 (fun k hk => hy1 k (by rw [← hqb]; simp [mem_blk, hk]))) T2 (by rw [heqB]; exact S.apart) (by simpa using hkl) (fun h => hfnd.2.2 _ h _ (List.mem_singleton.2 rfl) rfl) hkT
    (fun x hx => by obtain ⟨j, e1, e2, e3⟩ := S.ids x hx; exact ⟨j, e1, by simpa using e2, fun h => e3 (by simp [h])⟩)
    (fun x hx => by
      obtain ⟨j, e1, e2, e3⟩ := S.ids x hx
      have hne : k ≠ j := fun e => hkT x hx (by rw [e1, e])
      unfold valOf
      rw [e1, Int.toNat_natCast, List.getD_eq_getElem?_getD, List.getD_eq_getElem?_getD, List.getElem?_set_ne hne]) S.inj (fun i hi => by obtain ⟨j, e1, e2⟩ := S.frs i (by simp [hi]); exact ⟨j, e1, by simpa using e2⟩) hfnd.1 (by simp; omega) S.pos hft (by simp [hkl]) hp hn (by simp; omega) hI)
  have HM := Lib.hid (show Mod (lnB g b (.slice (some ⟨y, 0, none⟩) vs.length yc) (.slice (some ⟨q, 0, none⟩) (fs ++ [(k : Int)]).length gc) nv fv) w ((w.setCell ⟨g, 2, none⟩ (.slice (some ⟨q, 0, none⟩) fs.length gc)).setCell ⟨y, k, none⟩ (.int .i64 v)).drew from (m1.mono fun k hk => by rw [List.mem_singleton] at hk; subst hk; simp [lnB]).trans (m2.mono fun k hk => by rw [List.mem_singleton] at hk; subst hk; simp [lnB, mem_blk, Value.ownBlock]))
  rw [heqB] at HF
  simp only [itV] at CI
  clear T2 hy1 hV V2 V1 hg1 hg0 m1 m2 b1 b2 FT hfnd hkT S hp hqb heqB hful
  go_enter Try.func61, Try.ntmps61
  go_wp2_with fail
  refine wp_plan [([0, 1, 5, 9, 13, 2, 6, 10, 14, 3, 11, 4, 12, 7, 15, 8, 16, 17, 18], 19, [])] [] (by kernel_rfl) (by kernel_rfl) ?_
  simp only [wpSegs, opsOf, List.map_cons, List.map_nil, opN, List.getD_cons_zero, List.getD_cons_succ]
  go_wp2_with fail
  refine ⟨by first | trivial | rfl, ?_⟩
  go_wp2_with fail
  refine ⟨again_nil, ?_⟩
  go_wp2_with fail
  refine ⟨by first | trivial | rfl, ?_⟩
  go_wp2_with fail
  refine CI.out.mono ?_
  rintro e w2 ⟨rfl, hI⟩
  have HP := Lib.hid ((HF.out w2 hI).into HM.out (fun k hk => .inl hk))
  clear hI CI HF
  go_wp2_with fail
  go_end0
  exact ⟨rfl, _, HP.out⟩
theorem lay_some {w : World} {g : Nat} {B : List Nat} {M : Nat} {E : List (It × Int)} {f t v : Int} (h : Ln w g B M E) (hM : M ≤ 99999) (hft : f < t) (hv : v ≠ 0) :
    Calls Try.prog 61 #[.pointer (some ⟨g, 0, none⟩), .int .i64 f, .int .i64 t, .int .i64 v] w fun e w' => e = .returned (.tuple #[]) ∧ ∃ id, LnPost w g B (max M (E.length + 1)) ((⟨f, t, id⟩, v) :: E) w' := by
  obtain ⟨b, vv, gv, nv, fv, ns, fr, T, vs, fs, S, rfl, hp, hn, hvs⟩ := h
  rcases List.eq_nil_or_concat fs with rfl | ⟨fs', i, rfl⟩
  · exact lay_new S hp hn hvs hM hft hv
  · rw [List.concat_eq_append] at S
    obtain ⟨k, rfl, _⟩ := S.frs i (by simp)
    exact lay_old S hp hn hvs hM hft hv
/-- what lay does to the segments -/
def laidE (E : List (It × Int)) (f t v : Int) (E' : List (It × Int)) : Prop := (f < t ∧ v ≠ 0 ∧ ∃ id, E' = (⟨f, t, id⟩, v) :: E) ∨ (¬ (f < t ∧ v ≠ 0) ∧ E' = E)
theorem lay_any {w : World} {g : Nat} {B : List Nat} {M : Nat} {E : List (It × Int)} {f t v : Int} (h : Ln w g B M E) (hM : M ≤ 99999) :
    Calls Try.prog 61 #[.pointer (some ⟨g, 0, none⟩), .int .i64 f, .int .i64 t, .int .i64 v] w fun e w' => e = .returned (.tuple #[]) ∧ ∃ E', laidE E f t v E' ∧ LnPost w g B (max M E'.length) E' w' := by
  by_cases hc : f < t ∧ v ≠ 0
  · refine (lay_some h hM hc.1 hc.2).mono ?_
    rintro e w' ⟨rfl, id, hP⟩
    exact ⟨rfl, _, .inl ⟨hc.1, hc.2, id, rfl⟩, hP⟩
  · refine (lay_none (by omega)).mono ?_
    rintro e w' ⟨rfl, rfl⟩
    exact ⟨rfl, E, .inr ⟨hc, rfl⟩, B, h.mono (by omega), Mod.refl _ _, fun k hk => .inl hk⟩
end Go.Proofs.Ytngglpekdjhbdaa
