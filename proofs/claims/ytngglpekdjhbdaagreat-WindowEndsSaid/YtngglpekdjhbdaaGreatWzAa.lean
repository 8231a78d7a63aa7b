/- Windows: the wide numbers that the decimals are compared by. -/
import Derived.Test.YtngglpekdjhbdaaGreatWzT
import Derived.Test.YtngglpekdjhbdaaGreatWzZ
import Derived.Test.YtngglpekdjhbdaaGreatShelf3
import Derived.Laws.Externs
import Derived.Laws.Bits64
namespace Go.Proofs.YtngglpekdjhbdaaGreat
open Go.RowKit Go.ChangeMaps Go.Deep Tr
set_option linter.unusedSimpArgs false
set_option linter.unusedVariables false
set_option maxRecDepth 20000
attribute [local go_sem] Oper.semAt_some

/-- a variable that a closure appends items to -/
structure OutAt (W : World) (Bo base : Nat) (v : Value) (l : List It) : Prop where
  cell : W.heap[Bo]? = some (.cells #[v] 63 (0, 0))
  own : OwnR encIt 3 70 W base v l
  lt : Bo < base
theorem OutAt.kept {ks : List Nat} {W W' : World} {Bo base : Nat} {v : Value} {l : List It} (h : OutAt W Bo base v l) (m : Mod ks W W') (h1 : Bo ∉ ks) (h2 : ∀ k, v.ownBlock = some k → k ∉ ks) : OutAt W' Bo base v l :=
  ⟨m.heap h.cell h1, h.own.kept m h2, h.lt⟩
/-- what an append through the variable leaves -/
def OutPost (W : World) (Bo base : Nat) (v : Value) (l : List It) (W' : World) : Prop :=
  ∃ v', OutAt W' Bo base v' l ∧ Mod (Bo :: blk v) W W'
theorem stab1_at {W : World} {Bo base : Nat} {v : Value} {l : List It} (h : OutAt W Bo base v l) (x : It) (hl : l.length < 1073741824) (hbs : base ≤ W.heap.size) :
    Calls Tryz.prog 37 #[itV x, .pointer (some ⟨Bo, 0, none⟩)] W fun e W' => e = .returned (.tuple #[]) ∧ OutPost W Bo base v (l ++ [x]) W' := by
  have hob : ∀ k, v.ownBlock = some k → base ≤ k := fun k hk => (World.ownsRow.lt h.own k hk).1
  have m0 := (Mod.refl [] W).alloc (.cells #[.int .i64 x.f, .int .i64 x.t, .int .i64 x.i] 70)
  have b0 := heap_alloc_new W (.cells #[.int .i64 x.f, .int .i64 x.t, .int .i64 x.i] 70)
  have h0 := h.kept m0 (by simp) (by simp)
  have c0 := cell_blk h0.cell 0
  have e0 := cell_blk b0 0
  have e1 := cell_blk b0 1
  have e2 := cell_blk b0 2
  simp only [List.getElem?_toArray, List.getElem?_cons_succ, List.getElem?_cons_zero] at c0 e0 e1 e2
  obtain ⟨v', w', ra, ho', gr⟩ := own_append1 (P := Tryz.prog) (ty := 63) elemItem encIt_len encIt_one h0.own (Nat.le_trans hbs m0.size) x hl (by omega)
  dsimp only [encIt] at ra
  simp only [World.size_alloc] at ra
  obtain ⟨a', n', c', rfl⟩ : ∃ a n c, v' = .slice a n c := by obtain ⟨a, c, e⟩ := ho'.lens; exact ⟨a, _, c, e⟩
  have hv' := gr.mod.heap h0.cell (by rw [mem_blk]; intro hm; have := hob _ hm; have := h.lt; omega)
  have g0 := cell_blk hv' 0
  have g1 := frozen_blk hv' 0
  simp only [List.getElem?_toArray, List.getElem?_cons_zero] at g0
  have hob' : ∀ k, (Value.slice a' n' c').ownBlock = some k → base ≤ k := fun k hk => (World.ownsRow.lt ho' k hk).1
  have hm1 : Mod [Bo] w' (w'.setCell ⟨Bo, 0, none⟩ (.slice a' n' c')) := (Mod.refl _ _).setCell (by simp) _
  have hv2 := heap_setCell_blk hv' 0 (.slice a' n' c')
  have HE := Lib.hid (show OutPost W Bo base v (l ++ [x]) (w'.setCell ⟨Bo, 0, none⟩ (.slice a' n' c')) from ⟨_, ⟨by simpa using hv2, ho'.kept hm1 (fun k hk => by have := hob' k hk; have := h.lt; simp; omega), h.lt⟩, (m0.nil.trans (gr.mod.mono fun k hk => by simp [hk])).trans (hm1.mono fun k hk => by simp at hk; simp [hk])⟩)
  have RA := Lib.hid ra
  clear hm1 hv2 hob' hv' ho' gr ra h0 b0 m0 h hob
  simp only [itV]
  go_enter Tryz.func37, Tryz.ntmps37
  go_wp2_with ((with_reducible refine xAppendAt RA.out rfl rfl ?_ ?_ ?_ ?_); exact rfl; exact rfl; exact rfl)
  first | go_ret | go_end0
  exact ⟨rfl, HE.out⟩
/-- where Stab stands in its loop -/
def StSt (Bo N : Nat) (wS : World) (pre : List It) (W : World) : Prop := ∃ v, OutAt W Bo (N + 3) v pre ∧ Mod [Bo] wS W
theorem StSt.kept {Bo N : Nat} {wS : World} {pre : List It} {A B : World} (h : StSt Bo N wS pre A) (hN : wS.heap.size = N) (hBo : Bo < N) (m : Mod [N, N + 1, N + 2] A B) : StSt Bo N wS pre B := by
  obtain ⟨v, h1, h3⟩ := h
  refine ⟨v, h1.kept m (by simp; omega) (fun k hk => ?_), Mod.into' h3 m (fun k hk => .inl (by simp at hk; omega))⟩
  have := (World.ownsRow.lt h1.own k hk).1
  simp; omega
set_option maxHeartbeats 4000000 in
theorem stab_at {w : World} {tb : Nat} {nv fv : Value} {ns : List Nd} {fr : List Int} {T : Tr} (S : AvlSt w tb nv fv ns fr T) (hsz : T.size ≤ 100000) (day : Int) (hd : -9223372036854775808 ≤ day ∧ day < 9223372036854775807) :
    Calls Tryz.prog 24 #[.pointer (some ⟨tb, 0, none⟩), .int .i64 day] w fun e w' => ∃ v, e = .returned v ∧ OwnR encIt 3 70 w' w.heap.size v (over day (day + 1) T) ∧ Mod [] w w' := by
  have hd2 : (day == 9223372036854775807) = false := by simpa using (show ¬ day = 9223372036854775807 by omega)
  have hwr : wrap64 (day + 1) = day + 1 := by unfold wrap64; omega
  obtain ⟨w1, hw1, n1, s1, m1⟩ := alloc_named2 w (.cells #[.slice none 0 0] 63)
  obtain ⟨w2, hw2, n2, s2, m2⟩ := alloc_named2 w1 (.cells #[.func (.func 37) #[] #[.pointer (some ⟨w.heap.size, 0, none⟩)]] 85)
  have HA := Lib.hid (itAll_at w2 tb day (day + 1))
  have HW1 := Lib.hid hw1
  have HW2 := Lib.hid hw2
  refine (callsIn_wide (n := 5)).1 ?_
  refine callsIn_of_wp_marks Tryz.func24 rfl trivial ?_ rfl
  simp only [Tryz.ntmps24, List.size_toArray, List.length_cons, List.length_nil, Nat.reduceAdd, Nat.reduceSub, Array.replicate_succ, Array.replicate_zero, List.push_toArray, List.append_toArray, List.nil_append, List.cons_append]
  gi_wp2_with fail
  refine ⟨trivial, (callsIn_wide.2 HA.out).mono ?_⟩
  rintro e w3 ⟨rfl, rfl⟩
  obtain ⟨f1, f2, f3, f4⟩ := allW_facts w2 tb day (day + 1)
  generalize allW w2 tb day (day + 1) = w4 at f1 f2 f3 f4 ⊢
  rw [s2, s1] at f2 f3 f4 ⊢
  have hN : w4.heap.size = w.heap.size + 4 := f4
  obtain ⟨q1, q2⟩ := S.seq hsz day (day + 1) (m1.trans (m2.trans f1)) f2 f3
  have hov : overI day (day + 1) T = over day (day + 1) T := by unfold overI; rw [if_pos (by omega)]
  rw [hov] at q1
  have hSl : (over day (day + 1) T).length ≤ 100000 := Nat.le_trans (over_len _ _ T) hsz
  obtain ⟨SS, hSS0⟩ : ∃ SS, SS = over day (day + 1) T := ⟨_, rfl⟩
  rw [← hSS0] at q1 hSl
  have HSS := Lib.hid hSS0
  clear hSS0
  have hpT : ∀ k, treeP tb nv fv k → k < w.heap.size := fun k hk => by
    rcases hk with rfl | hk | hk
    · exact lt_of_heap S.tree.blk
    · exact (World.ownsRow.lt S.tree.row _ hk).2
    · exact (World.ownsRow.lt S.tree.free _ hk).2
  have hB0 : w4.heap[w.heap.size]? = some (.cells #[.slice none 0 0] 63 (0, 0)) := (m2.trans f1).heap n1 (by simp)
  have hB1 : w4.heap[w.heap.size + 1]? = some (.cells #[.func (.func 37) #[] #[.pointer (some ⟨w.heap.size, 0, none⟩)]] 85 (0, 0)) := by rw [← s1]; exact f1.heap n2 (by simp)
  have HB1 := Lib.hid hB1
  have HPT := Lib.hid hpT
  have HW := Lib.hid (m1.trans (m2.trans f1))
  have h0 : StSt w.heap.size (w.heap.size + 4) w4 [] w4 := ⟨_, ⟨hB0, OwnR.nil_ _ _, by omega⟩, Mod.refl _ _⟩
  clear n1 n2 m1 m2 f1 f2 f3 f4 hB0 hB1 hpT HA HW1 HW2 S s1 s2 hw1 hw2
  gi_wp2_with fail
  refine wpIn_rangeFunc_M rfl (by omega) (gf := 58) (lb := #[.pointer (some ⟨w.heap.size + 1 + 1 + 1, 0, none⟩), .pointer (some ⟨w.heap.size + 1 + 1, 0, none⟩)]) rfl trivial (enters_of Tryz.func58 (by kernel_rfl) rfl) (q1 4 (by omega)) (ModP.refl _ _) q2 (fun _ => rfl)
    (fun pre W => StSt w.heap.size (w.heap.size + 4) w4 pre W)
    (fun pre x a' W => StSt w.heap.size (w.heap.size + 4) w4 pre W ∧ ∃ Bx, w.heap.size + 6 < Bx ∧ W.heap[Bx]? = some (.cells #[.int .i64 x.f, .int .i64 x.t, .int .i64 x.i] 70 (0, 0)) ∧ a' = { tmps := #[.pointer (some ⟨tb, 0, none⟩), .int .i64 day, undef, undef, .pointer (some ⟨w.heap.size, 0, none⟩), .pointer (some ⟨w.heap.size + 1, 0, none⟩), .pointer (some ⟨Bx, 0, none⟩), .int .i64 day, .bool false, .func (.func 37) #[] #[.pointer (some ⟨w.heap.size, 0, none⟩)], .pointer (some ⟨tb, 0, none⟩), .int .i64 day, .int .i64 day, .int .i64 (day + 1), .agg #[.int .i64 day, .int .i64 (day + 1)], .func (.func 58) #[] #[.pointer (some ⟨w.heap.size + 1 + 1 + 1, 0, none⟩), .pointer (some ⟨w.heap.size + 1 + 1, 0, none⟩)], itV x, undef, undef, undef, undef], defers := [] })
    (fun s A B h m => by rw [hN] at m; exact h.kept hN (by omega) m)
    (fun s x a' A B h m => by
      rw [hN] at m
      obtain ⟨h1, Bx, h2, h3, h4⟩ := h
      exact ⟨h1.kept hN (by omega) m, Bx, h2, m.heap h3 (by simp; omega), h4⟩)
    h0 ?assign ?body ?done
  case assign =>
    intro l pre x post W K hSS hI hgt hK
    dsimp only [itV]
    have hma := (Mod.refl [] W).alloc (.cells #[.int .i64 x.f, .int .i64 x.t, .int .i64 x.i] 70)
    have HI2 := Lib.hid (hI.kept hN (by omega) hma.nil)
    have HB2 := Lib.hid (heap_alloc_new W (.cells #[.int .i64 x.f, .int .i64 x.t, .int .i64 x.i] 70))
    have HM2 := Lib.hid hma
    have HG2 := Lib.hid (show w.heap.size + 6 < W.heap.size by omega)
    clear hma hI hN hgt q1 q2 h0
    gi_wp2
    exact hK _ _ (ModP.of HM2.out (by simp)) ⟨HI2.out, W.heap.size, HG2.out, HB2.out, rfl⟩
  case body =>
    rintro l pre x post a' W hSS ⟨⟨v, hO, hm⟩, Bx, hBx, hx, rfl⟩ hgt
    have hc := hm.heap HB1.out (by simp)
    have b0 := cell_blk hc 0
    have e0 := cell_blk hx 0
    have e1 := cell_blk hx 1
    have e2 := cell_blk hx 2
    simp only [List.getElem?_toArray, List.getElem?_cons_succ, List.getElem?_cons_zero] at b0 e0 e1 e2
    have hl1 : pre.length < 1073741824 := by
      have := congrArg List.length hSS
      simp at this; omega
    have CS := Lib.hid (stab1_at hO x hl1 (by omega))
    simp only [itV] at CS
    have HOB := Lib.hid (show ∀ k, v.ownBlock = some k → w.heap.size + 7 ≤ k from fun k hk => (World.ownsRow.lt hO.own k hk).1)
    have HMM := Lib.hid hm
    clear hO hx hm hgt hSS q1 q2 h0 hc
    gi_wp2_with fail
    refine ⟨trivial, (CallsIn.inRound l (callsIn_wide.2 CS.out)).mono ?_⟩
    rintro e W' ⟨rfl, v', hO', hm'⟩
    have HE := Lib.hid (show StSt w.heap.size (w.heap.size + 4) w4 (pre ++ [x]) W' from ⟨v', hO', Mod.into' HMM.out hm' (fun k hk => by
      rcases List.mem_cons.1 hk with rfl | hk
      · exact .inr (by simp)
      · rw [mem_blk] at hk
        have := HOB.out k hk
        exact .inl (by omega))⟩)
    have HPP := Lib.hid (show ModP (fun k => allP tb nv fv (w.heap.size + 1 + 1 + 1) (w.heap.size + 1 + 1) k ∨ k = w4.heap.size ∨ k = w4.heap.size + 1 ∨ k = w4.heap.size + 2) W W' from ModP.of hm' (fun k hk h => by
      rcases List.mem_cons.1 hk with rfl | hk
      · rcases h with (h | h | h) | h | h | h
        · have := HPT.out _ h; omega
        all_goals omega
      · rw [mem_blk] at hk
        have := HOB.out k hk
        rcases h with (h | h | h) | h | h | h
        · have := HPT.out _ h; omega
        all_goals omega))
    clear hO' hm' CS
    gi_wp2_with fail
    exact ⟨HPP.out, HE.out⟩
  case done =>
    rintro D W hD ⟨v, hO, hm⟩ hK
    obtain ⟨va, vn, vc, rfl⟩ : ∃ a n c, v = .slice a n c := by obtain ⟨a, c, e⟩ := hO.own.lens; exact ⟨a, _, c, e⟩
    have b0 := cell_blk hO.cell 0
    have f0 := frozen_blk hO.cell 0
    have hDB : w.heap.size ≠ D := by omega
    have hc2 := heap_setCell_blk hO.cell 0 (.slice va vn vc)
    have hd : (W.setCell ⟨w.heap.size, 0, none⟩ (.slice va vn vc)).heap[D]? = some (.deferred (some [])) := by
      rw [heap_setCell_ne _ _ _ (by exact fun e => hDB e.symm)]; exact hK
    have hc3 : ((W.setCell ⟨w.heap.size, 0, none⟩ (.slice va vn vc)).putObj D (.deferred none)).heap[w.heap.size]? = some (.cells #[.slice va vn vc] 63 (0, 0)) := by
      rw [World.putObj_heap_other hDB]
      simpa using hc2
    have q0 := cell_blk hc3 0
    simp only [List.getElem?_toArray, List.getElem?_cons_zero] at b0 q0
    have ms : Mod [w.heap.size] W (W.setCell ⟨w.heap.size, 0, none⟩ (.slice va vn vc)) := (Mod.refl _ _).setCell (by simp) _
    have mp : Mod [D] (W.setCell ⟨w.heap.size, 0, none⟩ (.slice va vn vc)) ((W.setCell ⟨w.heap.size, 0, none⟩ (.slice va vn vc)).putObj D (.deferred none)) := Mod.putObj _ _ _
    have HO := Lib.hid (show OwnR encIt 3 70 ((W.setCell ⟨w.heap.size, 0, none⟩ (.slice va vn vc)).putObj D (.deferred none)) w.heap.size (.slice va vn vc) SS from ((hO.own.kept ms (fun k hk => by
      have := (World.ownsRow.lt hO.own k hk).1
      simp; omega)).kept mp (fun k hk => by
      obtain ⟨o, h1⟩ := ownsRow_cells hO.own hk
      rw [List.mem_singleton]
      intro e
      subst e
      rw [hK] at h1
      cases h1)).mono (by omega))
    have HMP := Lib.hid (show Mod [] w ((W.setCell ⟨w.heap.size, 0, none⟩ (.slice va vn vc)).putObj D (.deferred none)) from Mod.into' (Mod.into' (Mod.into' HW.out hm (fun k hk => .inl (by simp at hk; omega))) ms (fun k hk => .inl (by simp at hk; omega))) mp (fun k hk => .inl (by simp at hk; have := HW.out.size; omega)))
    have HD := Lib.hid hd
    clear hd hc2 hc3 ms mp hO hm hK q1 q2 h0 hN
    gi_wp2_with fail
    refine ⟨by simp, .inl ⟨_, _, rfl, run_takeDeferred HD.out, ?_⟩⟩
    exact ⟨.slice va vn vc, by simp [results, Tryz.results24, go_sem, q0], _, rfl, by rw [← HSS.out]; exact HO.out, HMP.out⟩
theorem stab_max {w : World} {tb : Nat} : Calls Tryz.prog 24 #[.pointer (some ⟨tb, 0, none⟩), .int .i64 9223372036854775807] w fun e w' => e = .returned (.slice none 0 0) ∧ Mod [] w w' := by
  have hd2 : ((9223372036854775807 : Int) == 9223372036854775807) = true := by decide
  have m1 := (Mod.refl [] w).alloc (.cells #[.slice none 0 0] 63)
  have n1 := heap_alloc_new w (.cells #[.slice none 0 0] 63)
  have q0 := cell_blk n1 0
  have f0 := frozen_blk n1 0
  simp only [List.getElem?_toArray, List.getElem?_cons_zero] at q0
  have HM := Lib.hid m1
  clear m1 n1
  go_enter Tryz.func24, Tryz.ntmps24
  go_wp2_with fail
  refine bodyPost_ret (v := .slice none 0 0) ?_ rfl ⟨rfl, HM.out⟩
  simp [results, Tryz.results24, go_sem, q0]
end Go.Proofs.YtngglpekdjhbdaaGreat
namespace Go.Proofs.YtngglpekdjhbdaaGreat
open Go.RowKit Go.ChangeMaps Go.Deep Tr
set_option linter.unusedSimpArgs false
set_option linter.unusedVariables false
set_option maxRecDepth 20000

/-- a timeline at block g, of the blocks B, behind at most n puts: gf: its value on each day -/
structure ValAt (w : World) (g : Nat) (B : List Nat) (n : Nat) (gf : Int → Int) : Prop where
  ex : ∃ M E, Lv w g B M E ∧ SgOk (E.map sg) ∧ Rep (E.map sg) gf ∧ E.length ≤ 2 * n ∧ M ≤ 2 * n + 1
theorem ValAt.kept {l : List Nat} {w w' : World} {g : Nat} {B : List Nat} {n : Nat} {gf : Int → Int} (h : ValAt w g B n gf) (m : Mod l w w') (hl : ∀ k ∈ B, k ∉ l) : ValAt w' g B n gf := by
  obtain ⟨M, E, h1, h2⟩ := h.ex
  exact ⟨M, E, h1.kept m hl, h2⟩
theorem ValAt.kept0 {w w' : World} {g : Nat} {B : List Nat} {n : Nat} {gf : Int → Int} (h : ValAt w g B n gf) (m : Mod [] w w') : ValAt w' g B n gf := h.kept m (by simp)
theorem ValAt.lt {w : World} {g : Nat} {B : List Nat} {n : Nat} {gf : Int → Int} (h : ValAt w g B n gf) : ∀ k ∈ B, k < w.heap.size := by
  obtain ⟨M, E, h1, h2⟩ := h.ex
  exact h1.lt
theorem ValAt.mem {w : World} {g : Nat} {B : List Nat} {n : Nat} {gf : Int → Int} (h : ValAt w g B n gf) : g ∈ B := by
  obtain ⟨M, E, h1, h2⟩ := h.ex
  exact h1.mem
/-- what may have become of a timeline -/
def ValPost (w : World) (g : Nat) (B : List Nat) (n : Nat) (gf : Int → Int) (w' : World) : Prop :=
  ∃ B', ValAt w' g B' n gf ∧ Mod B w w' ∧ ∀ k ∈ B', k ∈ B ∨ w.heap.size ≤ k
theorem tvNew_line (w : World) : Calls Tryz.prog 14 #[] w fun e w' => e = .returned (.pointer (some ⟨w.heap.size + 1, 0, none⟩)) ∧ ValAt w' (w.heap.size + 1) [w.heap.size + 1, w.heap.size] 0 (fun _ => 0) ∧ Mod [] w w' := by
  refine (tvNew_at w).mono ?_
  rintro e w' ⟨rfl, h1, h2⟩
  exact ⟨rfl, ⟨0, [], h1, ⟨by simp, by simp, by simp⟩, fun d => ⟨by simp, fun _ => rfl⟩, by simp, by omega⟩, h2⟩
theorem putZ_line {w : World} {g : Nat} {B : List Nat} {n : Nat} {gf : Int → Int} (h : ValAt w g B n gf) (hn : n ≤ 40000) {a b v : Int} (hab : mayS a b) :
    Calls Tryz.prog 15 #[.pointer (some ⟨g, 0, none⟩), .agg #[.int .i64 a, .int .i64 b], valZ v] w fun e w' => e = .returned (.int .i64 0) ∧ ValPost w g B (n + 1) (upd gf a b v) w' := by
  obtain ⟨M, E, h1, h2, h3, h4, h5⟩ := h.ex
  refine (putZ_may h1 h2 (by omega) hab).mono ?_
  rintro e w' ⟨rfl, E', ⟨B', q1, q2, q3⟩, X, Z, p1, p2, p3, p4⟩
  refine ⟨rfl, B', ⟨_, E', q1, (put_ok hab.1 hab.2.1 hab.2.2 (h2.perm p1) p2 p3).perm p4.symm, (put_rep hab.2.1 (h2.perm p1) (h3.perm p1) p2 p3).perm p4.symm, ?_, by omega⟩, q2, q3⟩
  have hl := p4.length_eq
  have hl1 := p1.length_eq
  simp only [List.length_map, List.length_append] at hl hl1
  have hm : (midC a b v X).length ≤ 1 := by unfold midC; split <;> simp
  have hpl : (X.flatMap (pieces a b v)).length ≤ X.length + 1 := by
    have h6 := pieces_len (v := v) p2 (List.pairwise_append.1 (h2.perm p1).pair).1
    cases X with
    | nil => simp
    | cons x X => simp only [List.length_cons] at h6 ⊢; omega
  omega
theorem putZ_not {w : World} {g : Nat} {B : List Nat} {n : Nat} {gf : Int → Int} (h : ValAt w g B n gf) {a b v : Int} (hab : ¬ mayS a b) :
    Calls Tryz.prog 15 #[.pointer (some ⟨g, 0, none⟩), .agg #[.int .i64 a, .int .i64 b], valZ v] w fun e w' => e = .returned (.int .i64 15) ∧ Mod [] w w' := by
  obtain ⟨M, E, h1, _⟩ := h.ex
  obtain ⟨kv, cv, sv, ev, hvl⟩ := valZ_form v
  rw [show valZ v = .agg #[.int .u8 kv, .int .i64 cv, .int .i64 sv, .int .i64 ev] by unfold valZ; rw [hvl]]
  clear hvl
  obtain ⟨A1, hA1, n1, z1, ma1⟩ := alloc_named2 w (.cells #[.int .i64 a, .int .i64 b] 39)
  obtain ⟨A2, hA2, n2, z2, ma2⟩ := alloc_named2 A1 (.cells #[.int .u8 kv, .int .i64 cv, .int .i64 sv, .int .i64 ev] 35)
  rw [z1] at n2
  have mA := ma1.trans ma2
  have bA := ma2.heap n1 (by simp)
  have CN := Lib.hid (tvNone_at (h1.kept0 mA))
  have CM := Lib.hid (tlMay_at A2 a b)
  rw [decide_eq_false hab] at CM
  have s0 := cell_blk bA 0
  have s1 := cell_blk bA 1
  simp only [List.getElem?_toArray, List.getElem?_cons_succ, List.getElem?_cons_zero] at s0 s1
  have HMA := Lib.hid mA
  clear h h1 mA bA ma1 ma2 n1 n2
  go_enter Tryz.func15, Tryz.ntmps15
  go_wp2_with fail
  refine CN.out.mono ?_
  rintro e w1 ⟨rfl, rfl⟩
  go_wp2_with fail
  refine CM.out.mono ?_
  rintro e w2 ⟨rfl, m2⟩
  have HM2 := Lib.hid (HMA.out.trans m2)
  go_wp2_with fail
  go_ret
  exact ⟨rfl, HM2.out⟩
end Go.Proofs.YtngglpekdjhbdaaGreat
namespace Go.Proofs.YtngglpekdjhbdaaGreat
open Go.RowKit Go.ChangeMaps Go.Deep Tr
set_option linter.unusedSimpArgs false
set_option linter.unusedVariables false
set_option maxRecDepth 20000

theorem set4 {w : World} {b : Nat} {t : TypeId} {a0 a1 a2 a3 : Value} (h : w.heap[b]? = some (.cells #[a0, a1, a2, a3] t (0, 0))) (x0 x1 x2 x3 : Value) : ∃ W, (((w.setCell ⟨b, 0, none⟩ x0).setCell ⟨b, 1, none⟩ x1).setCell ⟨b, 2, none⟩ x2).setCell ⟨b, 3, none⟩ x3 = W ∧ Mod [b] w W ∧ W.heap[b]? = some (.cells #[x0, x1, x2, x3] t (0, 0)) :=
  ⟨_, rfl, ((((Mod.refl _ _).setCell (by simp) _).setCell (by simp) _).setCell (by simp) _).setCell (by simp) _, by
    have a0 := heap_setCell_blk h 0 x0
    have a1 := heap_setCell_blk a0 1 x1
    have a2 := heap_setCell_blk a1 2 x2
    have a3 := heap_setCell_blk a2 3 x3
    simpa using a3⟩
set_option maxHeartbeats 4000000 in
theorem atZ_line {w : World} {g : Nat} {B : List Nat} {n : Nat} {gf : Int → Int} (h : ValAt w g B n gf) (hn : n ≤ 40000) {day : Int} (hd : -9223372036854775808 ≤ day ∧ day ≤ 9223372036854775807) :
    Calls Tryz.prog 11 #[.pointer (some ⟨g, 0, none⟩), .int .i64 day] w fun e w' => e = .returned (valZ (gf day)) ∧ Mod [] w w' := by
  obtain ⟨M, E, hL, hok, hrep, hE, hM⟩ := h.ex
  obtain ⟨A1, hA1, n1, z1, m1⟩ := alloc_named2 w (.cells #[.int .u8 0, .int .i64 0, .int .i64 0, .int .i64 0] 35)
  have CN := Lib.hid (tvNone_at (hL.kept0 m1))
  obtain ⟨tb, vv, gv, nv, fv, ns, fr, T, vs, fs, S, rfl, hp, hns, hvs⟩ := hL
  have hTs : T.size ≤ 100000 := by have := S.full; omega
  have S1 := S.kept m1 (by simp)
  have c0 := cell_blk S1.blk 0
  simp only [List.getElem?_toArray, List.getElem?_cons_zero] at c0
  have hcov : ∀ x ∈ T.items, x.f ≤ day → day < x.t → gf day = (valOf vs x).2 := fun x hx h1 h2 => (hrep day).1 (sg (valOf vs x)) (List.mem_map_of_mem (hp.mem_iff.1 (List.mem_map_of_mem hx))) h1 h2
  have hnone : (∀ x ∈ T.items, ¬ (x.f ≤ day ∧ day < x.t)) → gf day = 0 := fun hh => (hrep day).2 fun s hs => by
    obtain ⟨e, he, rfl⟩ := List.mem_map.1 hs
    obtain ⟨x, hx, rfl⟩ := List.mem_map.1 (hp.mem_iff.2 he)
    exact hh x hx
  obtain ⟨L, hL⟩ : ∃ L, L = (if day < 9223372036854775807 then over day (day + 1) T else []) := ⟨_, rfl⟩
  have CS : Calls Tryz.prog 24 #[.pointer (some ⟨tb, 0, none⟩), .int .i64 day] A1 fun e w' => ∃ v, e = .returned v ∧ OwnR encIt 3 70 w' A1.heap.size v L ∧ Mod [] A1 w' := by
    by_cases hmx : day < 9223372036854775807
    · rw [if_pos hmx] at hL
      subst hL
      exact stab_at S1.tree hTs day ⟨hd.1, hmx⟩
    · rw [if_neg hmx] at hL
      subst hL
      obtain rfl : day = 9223372036854775807 := by omega
      refine stab_max.mono ?_
      rintro e w' ⟨rfl, m⟩
      exact ⟨_, rfl, OwnR.nil_ _ _, m⟩
  have hmem : ∀ x ∈ T.items, x ∈ L ↔ x.f ≤ day ∧ day < x.t := fun x hx => by
    have hone := hok.one (sg (valOf vs x)) (List.mem_map_of_mem (hp.mem_iff.1 (List.mem_map_of_mem hx)))
    have hone' : x.t ≤ 3652060 := hone.2.2.1
    rw [hL]
    split
    · unfold over
      rw [List.mem_filter]
      simp only [hx, true_and, Bool.and_eq_true, decide_eq_true_eq]
      omega
    · simp only [List.not_mem_nil, false_iff]
      omega
  have hsub : ∀ x ∈ L, x ∈ T.items := fun x hx => by
    rw [hL] at hx
    split at hx
    · exact (List.mem_filter.1 hx).1
    · cases hx
  have hLl : L.length ≤ 100000 := by
    rw [hL]
    split
    · exact Nat.le_trans (over_len _ _ T) hTs
    · simp
  have HCS := Lib.hid CS
  have HS := Lib.hid S1
  have HA1 := Lib.hid n1
  have HM1 := Lib.hid m1
  clear CS S S1 n1 m1 hL hok hrep hp h hE
  go_enter Tryz.func11, Tryz.ntmps11
  go_wp2_with fail
  refine CN.out.mono ?_
  rintro e w1 ⟨rfl, rfl⟩
  go_wp2_with fail
  refine HCS.out.mono ?_
  rintro e w2 ⟨lv, rfl, oL, m2⟩
  obtain ⟨la, lc, rfl⟩ := oL.lens
  have S2 := HS.out.kept m2 (by simp)
  have HM2 := Lib.hid m2
  have hr2 := m2.heap HA1.out (by simp)
  have r0 := cell_blk hr2 0
  have r1 := cell_blk hr2 1
  have r2 := cell_blk hr2 2
  have r3 := cell_blk hr2 3
  have f0 := frozen_blk hr2 0
  have f1 := frozen_blk hr2 1
  have f2 := frozen_blk hr2 2
  have f3 := frozen_blk hr2 3
  simp only [List.getElem?_toArray, List.getElem?_cons_succ, List.getElem?_cons_zero] at r0 r1 r2 r3
  have HR2 := Lib.hid hr2
  clear hr2
  cases L with
  | nil =>
    have HG := Lib.hid (hnone fun x hx hc => by
      have := (hmem x hx).2 hc
      cases this)
    have hl0 : decide ((0 : Int) < ((([] : List It).length : Nat) : Int)) = false := by simp
    clear S2 oL m2 hmem hsub hcov hnone HCS HS
    go_wp2_with fail
    obtain ⟨W3, h3, m3, b3⟩ := set4 HR2.out (.int .u8 0) (.int .i64 0) (.int .i64 0) (.int .i64 0)
    simp only [h3]
    refine bodyPost_ret (results_cell_row (P := Tryz.prog) (t := 35) (cs := #[.int .u8 0, .int .i64 0, .int .i64 0, .int .i64 0]) (fr := (0, 0)) (g := w.heap.size) (h := rfl) (hp := rfl) (hg := b3) (hu := Tryz.underlying35) (hd := rfl) (hi := by rw [sizeVal]; rfl) ..) rfl ⟨by rw [HG.out]; unfold valZ; rw [vl_zero], mod_over (HM1.out.trans HM2.out) m3 (by simp)⟩
  | cons x L =>
    have hxi := hsub x (by simp)
    have hxd := (hmem x hxi).1 (by simp)
    have HG := Lib.hid (hcov x hxi hxd.1 hxd.2)
    obtain ⟨k, hk, hkl, hkf⟩ := S2.ids x hxi
    obtain ⟨f, t, id⟩ := x
    dsimp only at hk
    subst hk
    obtain ⟨q, cap, heq, hq, hcap⟩ := oL.at_ (show ((⟨f, t, (k : Int)⟩ : It) :: L)[0]? = some ⟨f, t, k⟩ from rfl)
    simp only [Value.slice.injEq] at heq
    obtain ⟨rfl, _, rfl⟩ := heq
    obtain ⟨y, yc, rfl, hy, hyc⟩ := S2.vals.at_ (show vs[k]? = some vs[k] from List.getElem?_eq_getElem hkl)
    have i2 := (oL.cell encIt_len (i := 0) (by simp) (j := 2) (by omega) (u := .int .i64 (k : Int)) (by simp [encIt])).1
    have vk : ∀ (j : Nat) (u : Value), (encZ vs[k])[j]? = some u → w2.cell? ⟨y, k * 4 + j, none⟩ = some u := fun j u hu => (S2.vals.cell encZ_len hkl (j := j) (by have := (List.getElem?_eq_some_iff.1 hu).1; rw [encZ_len] at this; exact this) hu).1
    obtain ⟨kv, cv, sv, ev, hvl⟩ := valZ_form vs[k]
    have hez : encZ vs[k] = [.int .u8 kv, .int .i64 cv, .int .i64 sv, .int .i64 ev] := by unfold encZ; rw [hvl]
    have hvz : valZ vs[k] = .agg #[.int .u8 kv, .int .i64 cv, .int .i64 sv, .int .i64 ev] := by unfold valZ; rw [hvl]
    rw [hez] at vk
    have vk0 := vk 0 _ rfl
    have vk1 := vk 1 _ rfl
    have vk2 := vk 2 _ rfl
    have vk3 := vk 3 _ rfl
    have c1 := cell_blk S2.blk 1
    simp only [Nat.add_zero] at vk0
    simp only [Nat.zero_mul, Nat.zero_add] at i2
    obtain ⟨W3, h3, m3, b3⟩ := set4 HR2.out (.int .u8 kv) (.int .i64 cv) (.int .i64 sv) (.int .i64 ev)
    have q0 := cell_blk b3 0
    have q1 := cell_blk b3 1
    have q2 := cell_blk b3 2
    have q3 := cell_blk b3 3
    have g0 := frozen_blk b3 0
    have g1 := frozen_blk b3 1
    have g2 := frozen_blk b3 2
    have g3 := frozen_blk b3 3
    simp only [List.getElem?_toArray, List.getElem?_cons_succ, List.getElem?_cons_zero] at q0 q1 q2 q3
    have HM3 := Lib.hid m3
    have HB3 := Lib.hid b3
    have H3 := Lib.hid h3
    simp only [List.getElem?_toArray, List.getElem?_cons_succ, List.getElem?_cons_zero] at c1
    have hl0 : decide ((0 : Int) < (((⟨f, t, (k : Int)⟩ : It) :: L).length : Int)) = true := by simp
    have hl1 : ((((⟨f, t, (k : Int)⟩ : It) :: L).length : Nat) : Int) = (L.length : Int) + 1 := by simp
    have hk0 : decide ((k : Int) < 0) = false := decide_eq_false (by omega)
    have hk1 : decide ((vs.length : Int) ≤ (k : Int)) = false := decide_eq_false (by omega)
    have hz : decide ((L.length : Int) + 1 ≤ 0) = false := decide_eq_false (by omega)
    have HV := Lib.hid (show (valOf vs ⟨f, t, k⟩).2 = vs[k] by simp [valOf, hkl])
    have HVZ := Lib.hid hvz
    clear m3 b3 h3 hvz hez vk S2 oL m2 hmem hsub hcov hnone HCS HS hxd hxi
    go_wp2_with fail
    refine wp_plan [([0, 4, 1, 5, 2, 6, 3, 7, 8, 9], 10, [])] [] (by kernel_rfl) (by kernel_rfl) ?_
    simp only [wpSegs, opsOf, List.map_cons, List.map_nil, opN, List.getD_cons_zero, List.getD_cons_succ]
    go_wp2_with fail
    refine ⟨by first | trivial | rfl, ?_⟩
    go_wp2_with fail
    refine ⟨again_nil, ?_⟩
    go_wp2_with fail
    refine ⟨by first | trivial | rfl, ?_⟩
    simp only [H3.out]
    go_wp2_with fail
    refine bodyPost_ret (results_cell_row (P := Tryz.prog) (t := 35) (cs := #[.int .u8 kv, .int .i64 cv, .int .i64 sv, .int .i64 ev]) (fr := (0, 0)) (g := w.heap.size) (h := rfl) (hp := rfl) (hg := (show W3.drew.heap[w.heap.size]? = _ from HB3.out)) (hu := Tryz.underlying35) (hd := rfl) (hi := by rw [sizeVal]; rfl) ..) rfl ⟨by rw [HG.out, HV.out, HVZ.out], mod_over (HM1.out.trans HM2.out) HM3.out.drew (by simp)⟩
end Go.Proofs.YtngglpekdjhbdaaGreat
namespace Go.Proofs.YtngglpekdjhbdaaGreat
open Go.RowKit Go.ChangeMaps Go.Deep
set_option linter.unusedSimpArgs false
set_option linter.unusedVariables false
set_option maxRecDepth 20000

/-- a window that may be -/
def winOk (k b : Int) : Prop := 1 ≤ k ∧ k ≤ 5 ∧ 0 ≤ b ∧ b ≤ 3660
instance (k b : Int) : Decidable (winOk k b) := by unfold winOk; exact inferInstance
theorem wnMay_at (w : World) (k b : Int) : Calls Tryz.prog 16 #[.agg #[.int .u8 k, .int .i64 b]] w fun e w' => e = .returned (.bool (decide (winOk k b))) ∧ Mod [] w w' := by
  have hm := Lib.hid ((Mod.refl [] w).alloc (.cells #[.int .u8 k, .int .i64 b] 24))
  by_cases h1 : 1 ≤ k
  · by_cases h2 : k ≤ 5
    · by_cases h3 : 0 ≤ b
      · by_cases h4 : b ≤ 3660
        · have HD := Lib.hid (show decide (winOk k b) = true from decide_eq_true ⟨h1, h2, h3, h4⟩)
          go_enter Tryz.func16, Tryz.ntmps16
          go_wp2_with fail
          go_ret
          exact ⟨by rw [HD.out]; rfl, hm.out⟩
        · have HD := Lib.hid (show decide (winOk k b) = false from decide_eq_false fun h => h4 h.2.2.2)
          go_enter Tryz.func16, Tryz.ntmps16
          go_wp2_with fail
          go_ret
          exact ⟨by rw [HD.out]; rfl, hm.out⟩
      · have HD := Lib.hid (show decide (winOk k b) = false from decide_eq_false fun h => h3 h.2.2.1)
        go_enter Tryz.func16, Tryz.ntmps16
        go_wp2_with fail
        go_ret
        exact ⟨by rw [HD.out]; rfl, hm.out⟩
    · have HD := Lib.hid (show decide (winOk k b) = false from decide_eq_false fun h => h2 h.2.1)
      go_enter Tryz.func16, Tryz.ntmps16
      go_wp2_with fail
      go_ret
      exact ⟨by rw [HD.out]; rfl, hm.out⟩
  · have HD := Lib.hid (show decide (winOk k b) = false from decide_eq_false fun h => h1 h.1)
    go_enter Tryz.func16, Tryz.ntmps16
    go_wp2_with fail
    go_ret
    exact ⟨by rw [HD.out]; rfl, hm.out⟩
theorem add64_run (x y : Nat) (w : World) : (callFunc 100 #[.int .u64 x, .int .u64 y, .int .u64 0]).run Tryz.prog w = .ok (.value (.tuple #[.int .u64 (((x : Int) + y + 0) % 18446744073709551616), .int .u64 (((x : Int) + y + 0) / 18446744073709551616)])) w := by
  rw [run_callFunc_extern Tryz.func100 (by kernel_rfl) (by kernel_rfl) (by kernel_rfl) (e := add64Entry) (by kernel_rfl), run_add64 x y 0 (by omega) (by omega) (by omega) (by omega)]
  rfl
/-- a number's size, as the code has it -/
def sizeN (c : Int) : Nat := (if c < 0 then (-(c % 18446744073709551616)) % 18446744073709551616 else c % 18446744073709551616).toNat
theorem sizeN_lt (c : Int) : sizeN c < 18446744073709551616 := by unfold sizeN; split <;> omega
theorem size_at (c : Int) (w : World) : Calls Tryz.prog 101 #[.int .i64 c] w fun e w' => e = .returned (.int .u64 (sizeN c)) ∧ w' = w := by
  by_cases h : c < 0
  · have hd : decide (c < 0) = true := decide_eq_true h
    have HE := Lib.hid (show ((sizeN c : Nat) : Int) = IntKind.u64.wrap (-IntKind.u64.wrap c) by unfold sizeN; rw [if_pos h, IntKind.wrap_u64, IntKind.wrap_u64]; omega)
    go_enter Tryz.func101, Tryz.ntmps101
    go_wp2_with fail
    go_ret
    exact ⟨by rw [HE.out]; rfl, rfl⟩
  · have hd : decide (c < 0) = false := decide_eq_false h
    have HE := Lib.hid (show ((sizeN c : Nat) : Int) = IntKind.u64.wrap c by unfold sizeN; rw [if_neg h, IntKind.wrap_u64]; omega)
    go_enter Tryz.func101, Tryz.ntmps101
    go_wp2_with fail
    go_ret
    exact ⟨by rw [HE.out]; rfl, rfl⟩
/-- a wide number -/
structure Wd where
  neg : Bool
  hi : Nat
  lo : Nat
def wdV (x : Wd) : Value := .agg #[.bool x.neg, .int .u64 x.hi, .int .u64 x.lo]
structure Wd.ok (x : Wd) : Prop where
  hi : x.hi < 18446744073709551616
  lo : x.lo < 18446744073709551616
def putN (neg : Bool) (hi lo : Nat) : Wd := ⟨neg && (bits .or .u64 (hi : Int) (lo : Int) != 0), hi, lo⟩
theorem sizeWide : (Tryz.prog.info? 150).map (·.size) = some 3 := by kernel_rfl
theorem set3 {w : World} {b : Nat} {t : TypeId} {a0 a1 a2 : Value} (h : w.heap[b]? = some (.cells #[a0, a1, a2] t (0, 0))) (x0 x1 x2 : Value) : ∃ W, ((w.setCell ⟨b, 0, none⟩ x0).setCell ⟨b, 1, none⟩ x1).setCell ⟨b, 2, none⟩ x2 = W ∧ Mod [b] w W ∧ W.heap[b]? = some (.cells #[x0, x1, x2] t (0, 0)) :=
  ⟨_, rfl, (((Mod.refl _ _).setCell (by simp) _).setCell (by simp) _).setCell (by simp) _, by
    have a0 := heap_setCell_blk h 0 x0
    have a1 := heap_setCell_blk a0 1 x1
    have a2 := heap_setCell_blk a1 2 x2
    simpa using a2⟩
theorem wdPut_at (neg : Bool) (hi lo : Nat) (w : World) : Calls Tryz.prog 92 #[.bool neg, .int .u64 hi, .int .u64 lo] w fun e w' => e = .returned (wdV (putN neg hi lo)) ∧ Mod [] w w' := by
  obtain ⟨A1, hA1, n1, z1, m1⟩ := alloc_named2 w (.cells #[.bool false, .int .u64 0, .int .u64 0] 150)
  have r0 := cell_blk n1 0
  have r1 := cell_blk n1 1
  have r2 := cell_blk n1 2
  have f0 := frozen_blk n1 0
  have f1 := frozen_blk n1 1
  have f2 := frozen_blk n1 2
  simp only [List.getElem?_toArray, List.getElem?_cons_succ, List.getElem?_cons_zero] at r0 r1 r2
  have HN := Lib.hid n1
  have HM := Lib.hid m1
  clear n1 m1
  cases neg with
  | false =>
    go_enter Tryz.func92, Tryz.ntmps92
    go_wp2_with fail
    obtain ⟨W2, h2, m2, b2⟩ := set3 HN.out (.bool false) (.int .u64 hi) (.int .u64 lo)
    simp only [h2]
    refine bodyPost_ret (results_cell_row (P := Tryz.prog) (t := 150) (cs := #[.bool false, .int .u64 hi, .int .u64 lo]) (fr := (0, 0)) (g := w.heap.size) (h := rfl) (hp := rfl) (hg := b2) (hu := Tryz.underlying150) (hd := rfl) (hi := by rw [sizeWide]; rfl) ..) rfl ⟨by simp [wdV, putN], mod_over HM.out m2 (by simp)⟩
  | true =>
    go_enter Tryz.func92, Tryz.ntmps92
    go_wp2_with fail
    obtain ⟨W2, h2, m2, b2⟩ := set3 HN.out (.bool (bits .or .u64 (hi : Int) (lo : Int) != 0)) (.int .u64 hi) (.int .u64 lo)
    simp only [h2]
    refine bodyPost_ret (results_cell_row (P := Tryz.prog) (t := 150) (cs := #[.bool (bits .or .u64 (hi : Int) (lo : Int) != 0), .int .u64 hi, .int .u64 lo]) (fr := (0, 0)) (g := w.heap.size) (h := rfl) (hp := rfl) (hg := b2) (hu := Tryz.underlying150) (hd := rfl) (hi := by rw [sizeWide]; rfl) ..) rfl ⟨by simp [wdV, putN], mod_over HM.out m2 (by simp)⟩
end Go.Proofs.YtngglpekdjhbdaaGreat
