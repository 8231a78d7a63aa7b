/- Layer 9: Overlap. -/
import Derived.Test.YtngglpekdjhbdaaRmH
import Derived.Test.YtngglpekdjhbdaaRmV
import Derived.Test.YtngglpekdjhbdaaRowI
namespace Go.Proofs.Ytngglpekdjhbdaa
open Go.RowKit Go.ChangeMaps Go.Deep Tr
set_option linter.unusedSimpArgs false
set_option linter.unusedVariables false
set_option maxRecDepth 20000
attribute [local go_sem] Oper.semAt_some

def encIt (x : It) : List Value := [.int .i64 x.f, .int .i64 x.t, .int .i64 x.i]
theorem encIt_len (x : It) : (encIt x).length = 3 := rfl
theorem encIt_one (x : It) : ∀ v ∈ encIt x, v.oneCell' = true := by intro v hv; simp [encIt] at hv; rcases hv with rfl | rfl | rfl <;> rfl
theorem elemItem : ElemOk Try.prog 86 92 3 24 := .mk' Try.underlying86 (by omega) (by kernel_rfl)
/-- the world behind All -/
def allW (w : World) (tb : Nat) (a b : Int) : World := (w.alloc (.cells #[.pointer (some ⟨tb, 0, none⟩)] 88)).alloc (.cells #[.int .i64 a, .int .i64 b] 24)
theorem itAll_at (w : World) (tb : Nat) (a b : Int) : Calls Try.prog 63 #[.pointer (some ⟨tb, 0, none⟩), .agg #[.int .i64 a, .int .i64 b]] w fun e w' =>
    e = .returned (.func (.func 82) #[] #[.pointer (some ⟨w.heap.size + 1, 0, none⟩), .pointer (some ⟨w.heap.size, 0, none⟩)]) ∧ w' = allW w tb a b := by
  go_enter Try.func63, Try.ntmps63
  go_wp2
  go_ret
  exact ⟨rfl, rfl⟩
theorem allW_facts (w : World) (tb : Nat) (a b : Int) : Mod [] w (allW w tb a b) ∧ (allW w tb a b).heap[w.heap.size]? = some (.cells #[.pointer (some ⟨tb, 0, none⟩)] 88 (0, 0)) ∧ (allW w tb a b).heap[w.heap.size + 1]? = some (.cells #[.int .i64 a, .int .i64 b] 24 (0, 0)) ∧ (allW w tb a b).heap.size = w.heap.size + 2 := by
  have m1 := (Mod.refl [] w).alloc (.cells #[.pointer (some ⟨tb, 0, none⟩)] 88)
  have m2 := (Mod.refl [] (w.alloc (.cells #[.pointer (some ⟨tb, 0, none⟩)] 88))).alloc (.cells #[.int .i64 a, .int .i64 b] 24)
  refine ⟨m1.trans m2, m2.heap (heap_alloc_new w _) (by simp), ?_, by simp [allW]⟩
  have := heap_alloc_new (w.alloc (.cells #[.pointer (some ⟨tb, 0, none⟩)] 88)) (.cells #[.int .i64 a, .int .i64 b] 24)
  rw [World.size_alloc] at this
  exact this
theorem ownsRow_cells {α : Type} {enc : α → List Value} {k : Nat} {E : TypeId} {w : World} {base : Nat} {v : Value} {l : List α} (h : OwnR enc k E w base v l) {b : Nat} (hb : v.ownBlock = some b) : ∃ c, w.heap[b]? = some (.cells c E (0, 0)) := by
  rcases h.2 with ⟨e, _⟩ | ⟨g, cap, cur, e, _, hg, _⟩
  · rw [e] at hb; simp [Value.ownBlock] at hb
  · rw [e] at hb
    simp [Value.ownBlock] at hb
    subst hb
    exact ⟨_, hg⟩
/-- where AppendSeq stands in its loop -/
def SqSt (Bo N : Nat) (wS : World) (pre : List It) (W : World) : Prop := ∃ v, W.heap[Bo]? = some (.cells #[v] 86 (0, 0)) ∧ OwnR encIt 3 92 W (N + 3) v pre ∧ Mod [Bo] wS W
theorem SqSt.kept {Bo N : Nat} {wS : World} {pre : List It} {A B : World} (h : SqSt Bo N wS pre A) (hN : wS.heap.size = N) (hBo : Bo < N) (m : Mod [N, N + 1, N + 2] A B) : SqSt Bo N wS pre B := by
  obtain ⟨v, h1, h2, h3⟩ := h
  refine ⟨v, m.heap h1 (by simp; omega), h2.kept m (fun k hk => ?_), Mod.into' h3 m (fun k hk => .inl (by simp at hk; omega))⟩
  have := (World.ownsRow.lt h2 k hk).1
  simp; omega
set_option maxHeartbeats 4000000 in
theorem appendSeq_at {Bs Bt : Nat} {p : Nat → Prop} {S : List It} {w : World} (hseq : ∀ n, 1 ≤ n → SeqM Fence.wide n Try.prog 82 #[.pointer (some ⟨Bs, 0, none⟩), .pointer (some ⟨Bt, 0, none⟩)] (fun x => #[itV x]) p S w) (hp : ∀ k, p k → k < w.heap.size) (hS : S.length ≤ 1000000) :
    Calls Try.prog 103 #[.slice none 0 0, .func (.func 82) #[] #[.pointer (some ⟨Bs, 0, none⟩), .pointer (some ⟨Bt, 0, none⟩)]] w fun e w' => ∃ v, e = .returned v ∧ OwnR encIt 3 92 w' w.heap.size v S ∧ Mod [] w w' := by
  have HSQ := Lib.hid hseq
  clear hseq
  refine (callsIn_wide (n := 5)).1 ?_
  refine callsIn_of_wp_marks Try.func103 rfl trivial ?_ rfl
  simp only [Try.ntmps103, List.size_toArray, List.length_cons, List.length_nil, Nat.reduceAdd, Nat.reduceSub, Array.replicate_succ, Array.replicate_zero, List.push_toArray, List.append_toArray, List.nil_append, List.cons_append]
  gi_wp2_with fail
  obtain ⟨wS, hwS, nS, sS, mS⟩ := alloc_named2 w (.cells #[.slice none 0 0] 86)
  rw [hwS]
  clear hwS
  have HW := Lib.hid mS
  have hN : wS.heap.size = w.heap.size + 1 := sS
  have hpS : ∀ k, p k → k < w.heap.size := hp
  have HP := Lib.hid hp
  refine wpIn_rangeFunc_M rfl (by omega) (gf := 82) (lb := #[.pointer (some ⟨Bs, 0, none⟩), .pointer (some ⟨Bt, 0, none⟩)]) rfl trivial (enters_of Try.func82 (by kernel_rfl) rfl) (HSQ.out 4 (by omega)) (ModP.of mS (by simp)) (fun k hk => by have := hp k hk; omega) (fun _ => rfl)
    (fun pre W => SqSt w.heap.size (w.heap.size + 1) wS pre W)
    (fun pre x a' W => SqSt w.heap.size (w.heap.size + 1) wS pre W ∧ ∃ Bx, w.heap.size + 3 < Bx ∧ W.heap[Bx]? = some (.cells #[.int .i64 x.f, .int .i64 x.t, .int .i64 x.i] 92 (0, 0)) ∧ a' = { tmps := #[.slice none 0 0, .func (.func 82) #[] #[.pointer (some ⟨Bs, 0, none⟩), .pointer (some ⟨Bt, 0, none⟩)], .pointer (some ⟨w.heap.size, 0, none⟩), undef, .slice none 0 0, .pointer (some ⟨Bx, 0, none⟩), .func (.func 82) #[] #[.pointer (some ⟨Bs, 0, none⟩), .pointer (some ⟨Bt, 0, none⟩)], itV x, undef, undef, undef, undef, undef], defers := [] })
    (fun s A B h m => by rw [hN] at m; exact h.kept hN (by omega) m)
    (fun s x a' A B h m => by
      rw [hN] at m
      obtain ⟨h1, Bx, h2, h3, h4⟩ := h
      exact ⟨h1.kept hN (by omega) m, Bx, h2, m.heap h3 (by simp; omega), h4⟩)
    ⟨_, nS, OwnR.nil_ _ _, Mod.refl _ _⟩ ?assign ?body ?done
  case assign =>
    intro l pre x post W K hSS hI hgt hK
    dsimp only [itV]
    have hma := (Mod.refl [] W).alloc (.cells #[.int .i64 x.f, .int .i64 x.t, .int .i64 x.i] 92)
    have HI2 := Lib.hid (hI.kept hN (by omega) hma.nil)
    have HB2 := Lib.hid (heap_alloc_new W (.cells #[.int .i64 x.f, .int .i64 x.t, .int .i64 x.i] 92))
    have HM2 := Lib.hid hma
    have HG2 := Lib.hid (show w.heap.size + 3 < W.heap.size by omega)
    clear hma hI hN nS sS mS hgt hp hpS
    gi_wp2
    exact hK _ _ (ModP.of HM2.out (by simp)) ⟨HI2.out, W.heap.size, HG2.out, HB2.out, rfl⟩
  case body =>
    rintro l pre x post a' W hSS ⟨⟨v, hv, ho, hm⟩, Bx, hBx, hx, rfl⟩ hgt
    have b0 := cell_blk hv 0
    have e0 := cell_blk hx 0
    have e1 := cell_blk hx 1
    have e2 := cell_blk hx 2
    simp only [List.getElem?_toArray, List.getElem?_cons_succ, List.getElem?_cons_zero] at b0 e0 e1 e2
    have hl1 : pre.length < 1073741824 := by
      have := congrArg List.length hSS
      simp at this; omega
    obtain ⟨v', w', ra, ho', gr⟩ := own_append1 (P := Try.prog) (ty := 86) elemItem encIt_len encIt_one ho (by omega) x hl1 (by omega)
    dsimp only [encIt] at ra
    obtain ⟨a', n', c', rfl⟩ : ∃ a n c, v' = .slice a n c := by obtain ⟨a, c, e⟩ := ho'.lens; exact ⟨a, _, c, e⟩
    have hob : ∀ k, v.ownBlock = some k → w.heap.size + 4 ≤ k := fun k hk => by have := (World.ownsRow.lt ho k hk).1; omega
    have hv' := gr.mod.heap hv (by rw [mem_blk]; intro h; have := hob _ h; omega)
    have g0 := cell_blk hv' 0
    have g1 := frozen_blk hv' 0
    simp only [List.getElem?_toArray, List.getElem?_cons_zero] at g0
    have hob' : ∀ k, (Value.slice a' n' c').ownBlock = some k → w.heap.size + 4 ≤ k := fun k hk => by have := (World.ownsRow.lt ho' k hk).1; omega
    have hm1 : Mod [w.heap.size] w' (w'.setCell ⟨w.heap.size, 0, none⟩ (.slice a' n' c')) := (Mod.refl _ _).setCell (by simp) _
    have ho2 := ho'.kept hm1 (fun k hk => by have := hob' k hk; simp; omega)
    have hv2 := heap_setCell_blk hv' 0 (.slice a' n' c')
    have HE := Lib.hid (show SqSt w.heap.size (w.heap.size + 1) wS (pre ++ [x]) (w'.setCell ⟨w.heap.size, 0, none⟩ (.slice a' n' c')) from ⟨.slice a' n' c', by simpa using hv2, ho2, Mod.into' (Mod.into' hm gr.mod (fun k hk => .inl (by rw [mem_blk] at hk; have := hob k hk; omega))) hm1 (fun k hk => .inr hk)⟩)
    have HPP := Lib.hid (show ModP (fun k => p k ∨ k = wS.heap.size ∨ k = wS.heap.size + 1 ∨ k = wS.heap.size + 2) W (w'.setCell ⟨w.heap.size, 0, none⟩ (.slice a' n' c')) from (ModP.of gr.mod (fun k hk h => by
      rw [mem_blk] at hk
      have := hob k hk
      rcases h with h | h | h | h
      · have := HP.out k h; omega
      all_goals omega)).trans (ModP.of hm1 (fun k hk h => by
      rw [List.mem_singleton] at hk
      subst hk
      rcases h with h | h | h | h
      · have := HP.out _ h; omega
      all_goals omega)))
    have RA := Lib.hid ra
    clear ra ho' gr hob hv' hob' hm1 ho2 hv2 hm ho hv hx hp hpS hN sS nS mS hgt hSS
    gi_wp2_with ((with_reducible refine xAppendR RA.out rfl rfl ?_ ?_ ?_ ?_); exact rfl; exact rfl; exact rfl)
    exact ⟨HPP.out, HE.out⟩
  case done =>
    rintro D W hD ⟨v, hv, ho, hm⟩ hK
    have b0 := cell_blk hv 0
    simp only [List.getElem?_toArray, List.getElem?_cons_zero] at b0
    have hmp := Mod.into' (Mod.into' HW.out hm (fun k hk => .inl (by simp at hk; omega))) (Mod.putObj W D (.deferred none)) (fun k hk => .inl (by simp at hk; omega))
    have hmo : Mod [D] W (W.putObj D (.deferred none)) := Mod.putObj _ _ _
    have hDW := lt_of_heap hK
    have HO := Lib.hid (show OwnR encIt 3 92 (W.putObj D (.deferred none)) w.heap.size v S from (ho.kept hmo (fun k hk => by
      obtain ⟨o, h1⟩ := ownsRow_cells ho hk
      rw [List.mem_singleton]
      intro e
      subst e
      rw [hK] at h1
      cases h1)).mono (by omega))
    have HMP := Lib.hid hmp
    have HD := Lib.hid hK
    clear hmp hmo hDW hv ho hm hK hp hpS hN sS nS mS
    gi_wp2_with fail
    refine ⟨by simp, .inl ⟨_, _, rfl, run_takeDeferred HD.out, ?_⟩⟩
    exact ⟨v, by simp [results, Try.results103, go_sem], v, rfl, HO.out, HMP.out⟩
end Go.Proofs.Ytngglpekdjhbdaa
namespace Go.Proofs.Ytngglpekdjhbdaa
open Go.RowKit Go.ChangeMaps Go.Deep Tr
set_option linter.unusedSimpArgs false
set_option linter.unusedVariables false
set_option maxRecDepth 20000

theorem collect_at {Bs Bt : Nat} {p : Nat → Prop} {S : List It} {w : World} (hseq : ∀ n, 1 ≤ n → SeqM Fence.wide n Try.prog 82 #[.pointer (some ⟨Bs, 0, none⟩), .pointer (some ⟨Bt, 0, none⟩)] (fun x => #[itV x]) p S w) (hp : ∀ k, p k → k < w.heap.size) (hS : S.length ≤ 1000000) :
    Calls Try.prog 80 #[.func (.func 82) #[] #[.pointer (some ⟨Bs, 0, none⟩), .pointer (some ⟨Bt, 0, none⟩)]] w fun e w' => ∃ v, e = .returned v ∧ OwnR encIt 3 92 w' w.heap.size v S ∧ Mod [] w w' := by
  have HC := Lib.hid (appendSeq_at hseq hp hS)
  clear hseq hp hS
  go_enter Try.func80, Try.ntmps80
  go_wp2_with fail
  refine HC.out.mono ?_
  rintro e w1 ⟨v, rfl, o1, m1⟩
  have HO := Lib.hid o1
  have HM := Lib.hid m1
  clear HC o1 m1
  go_wp2_with fail
  go_ret
  exact ⟨v, rfl, HO.out, HM.out⟩
/-- what All yields -/
def overI (a b : Int) (T : Tr) : List It := if a < b then over a b T else []
/-- what the contract of All asks -/
theorem AvlSt.seq {w : World} {tb : Nat} {nv fv : Value} {ns : List Nd} {fr : List Int} {T : Tr} (S : AvlSt w tb nv fv ns fr T) (hsz : T.size ≤ 100000) (a b : Int) {w' : World} {Bs Bt : Nat} (m : Mod [] w w') (hBt : w'.heap[Bt]? = some (.cells #[.pointer (some ⟨tb, 0, none⟩)] 88 (0, 0))) (hBs : w'.heap[Bs]? = some (.cells #[.int .i64 a, .int .i64 b] 24 (0, 0))) :
    (∀ n, 1 ≤ n → SeqM Fence.wide n Try.prog 82 #[.pointer (some ⟨Bs, 0, none⟩), .pointer (some ⟨Bt, 0, none⟩)] (fun x => #[itV x]) (allP tb nv fv Bs Bt) (overI a b T) w') ∧ (∀ k, allP tb nv fv Bs Bt k → k < w'.heap.size) := by
  have T0 := S.tree.kept0 m
  refine ⟨fun n hn => all_seq n hn Bs Bt tb a b nv fv ns fr _ _ T w' T0 S.rep rfl (by have := ht_small S.avl hsz; omega) S.srt hBt hBs, ?_⟩
  rintro k ((rfl | hk | hk) | rfl | rfl)
  · exact lt_of_heap T0.blk
  · exact (World.ownsRow.lt T0.row _ hk).2
  · exact (World.ownsRow.lt T0.free _ hk).2
  · exact lt_of_heap hBs
  · exact lt_of_heap hBt
theorem over_len (a b : Int) (T : Tr) : (over a b T).length ≤ T.size := by
  have h1 : ∀ T : Tr, T.items.length = T.size := fun T => by
    induction T with
    | nil => rfl
    | node p l x r h1 h2 => simp only [items, List.length_append, List.length_cons, Tr.size, h1, h2]; omega
  rw [← h1 T]
  exact List.length_filter_le _ _
theorem overlap_at {w : World} {tb : Nat} {nv fv : Value} {ns : List Nd} {fr : List Int} {T : Tr} (S : AvlSt w tb nv fv ns fr T) (hsz : T.size ≤ 100000) (a b : Int) :
    Calls Try.prog 59 #[.pointer (some ⟨tb, 0, none⟩), .agg #[.int .i64 a, .int .i64 b]] w fun e w' => ∃ v, e = .returned v ∧ OwnR encIt 3 92 w' w.heap.size v (overI a b T) ∧ Mod [] w w' := by
  have m0 := (Mod.refl [] w).alloc (.cells #[.int .i64 a, .int .i64 b] 24)
  have b0 := heap_alloc_new w (.cells #[.int .i64 a, .int .i64 b] 24)
  have c0 := cell_blk b0 0
  have c1 := cell_blk b0 1
  simp only [List.getElem?_toArray, List.getElem?_cons_succ, List.getElem?_cons_zero] at c0 c1
  have HA := Lib.hid (itAll_at (w.alloc (.cells #[.int .i64 a, .int .i64 b] 24)) tb a b)
  obtain ⟨f1, f2, f3, f4⟩ := allW_facts (w.alloc (.cells #[.int .i64 a, .int .i64 b] 24)) tb a b
  obtain ⟨q1, q2⟩ := S.seq hsz a b (m0.trans f1) f2 f3
  have HC := Lib.hid (collect_at q1 q2 (by
    have := over_len a b T
    unfold overI
    split
    · omega
    · simp))
  have HM := Lib.hid (m0.trans f1)
  clear f1 f2 f3 f4 q1 q2 m0 b0 S
  go_enter Try.func59, Try.ntmps59
  go_wp2_with fail
  refine HA.out.mono ?_
  rintro e w1 ⟨rfl, rfl⟩
  simp only [World.size_alloc] at HC ⊢
  generalize allW (w.alloc (.cells #[.int .i64 a, .int .i64 b] 24)) tb a b = wA at *
  go_wp2_with fail
  refine HC.out.mono ?_
  rintro e w1 ⟨v, rfl, o1, m1⟩
  have HO := Lib.hid (o1.mono HM.out.size)
  have HM1 := Lib.hid (HM.out.trans m1)
  clear HC HA o1 m1 HM
  go_wp2_with fail
  go_ret
  exact ⟨v, rfl, HO.out, HM1.out⟩
end Go.Proofs.Ytngglpekdjhbdaa
