/- Layer 13: versions of which no neighbours are equal stay as they are. -/
import Derived.Test.YtngglpekdjhbdaaBzU
import Derived.Test.YtngglpekdjhbdaaRow2
import Derived.Test.YtngglpekdjhbdaaShelf3
namespace Go.Proofs.Ytngglpekdjhbdaa
open Go.RowKit Go.ChangeMaps Go.Deep Go.Shelf Go.Sort Tr
set_option linter.unusedSimpArgs false
set_option linter.unusedVariables false
set_option maxRecDepth 20000

theorem history1_any (x y : Rc) (W : World) : Calls Try.prog 69 #[.agg (encRc x).toArray, .agg (encRc y).toArray] W fun e w' => e = .returned (.int .i64 (Lib.compareInt x.s y.s)) ∧ ∃ q os', w' = grow (W.drewN q) os' := by
  have hcon := fun W' => Try.cmp_Compare_int x.s y.s W'
  generalize Lib.compareInt x.s y.s = r at hcon ⊢
  simp only [encRc]
  go_enter Try.func69, Try.ntmps69
  go_wp2_with (go_at_call 55; refine (hcon _).mono ?_; rintro e w' ⟨rfl, rfl⟩)
  go_ret
  exact ⟨rfl, 0, _, by rw [alloc_eq_grow, alloc_eq_grow, grow_grow]; rfl⟩
instance : Inhabited Rc := ⟨⟨0, 0, 0, 0, 0⟩⟩
theorem cmpLays_rect (blk off size : Nat) (w : World) : CmpLays Try.prog 69 #[] encRc 5 (fun x y : Rc => Lib.compareInt x.s y.s) blk off size w :=
  fun _ _ _ _ x y => history1_any x y _
theorem lt_rect (x y : Rc) : ltOf (fun x y : Rc => Lib.compareInt x.s y.s) x y = decide (x.s < y.s) := by
  unfold ltOf Lib.compareInt
  by_cases h1 : x.s < y.s
  · simp [h1]
  · by_cases h2 : y.s < x.s <;> simp [h1, h2]
theorem swo_rect : SWO (ltOf fun x y : Rc => Lib.compareInt x.s y.s) where
  irrefl x := by rw [lt_rect]; simp
  trans x y z h1 h2 := by rw [lt_rect] at *; simp at *; omega
  ntrans x y z h1 h2 := by rw [lt_rect] at *; simp at *; omega
/-- sorted by the first transaction -/
def UpS (l : List Rc) : Prop := l.Pairwise fun x y => x.s ≤ y.s
theorem sortS_any (v : Value) (l : List Rc) (w : World) (base : Nat) (h : OwnR encRc 5 61 w base v l) (hl : l.length ≤ 1000000) :
    Calls Try.prog 68 #[v, .func (.func 69) #[] #[]] w fun e w' => e = .returned (.tuple #[]) ∧ ∃ l', l.Perm l' ∧ UpS l' ∧ OwnR encRc 5 61 w' base v l' ∧ Mod (blk v) w w' := by
  rcases h.form with ⟨rfl, rfl⟩ | ⟨g, cap, rfl, hb, hg, hc⟩
  · refine (AnyF.slices_SortFunc_none Try.sortRect none 0 (.func (.func 69) #[] #[]) w).mono ?_
    rintro e w' ⟨rfl, rfl⟩
    exact ⟨rfl, [], .refl _, by simp [UpS], h, Mod.refl _ _⟩
  · have eg : ∀ args w, (callFunc 69 args).run Try.prog w = .ok (.enter 69 args) w := enters_of Try.func69 (by kernel_rfl) rfl
    have hcon := AnyQ.slices_SortFunc Try.sortRect 5 Try.isAgg61 Try.sizeOf61 encRc encRc_len encRc_one (fun x y : Rc => Lib.compareInt x.s y.s) swo_rect 69 #[] g 0 cap l.toArray w eg (cmpLays_rect g 0 _ w) (h.holds encRc_len) hg (by simp; omega)
    refine Calls.mono (show Calls Try.prog 68 #[.slice (some ⟨g, 0, none⟩) l.length cap, .func (.func 69) #[] #[]] w _ from hcon) ?_
    rintro e w' ⟨rfl, d', n, os, hp, hs, rfl⟩
    obtain ⟨hp1, hp2⟩ := perm_of hp
    refine ⟨rfl, d'.toList, hp1, ?_, h.sorted encRc_len n d' os hp2, mod_sorted w g n d' os⟩
    have := pairwise_of (d := d') (lt := ltOf fun x y : Rc => Lib.compareInt x.s y.s) (by rw [hp2]; simpa using hs)
    exact this.imp fun {x y} h => by
      rw [lt_rect] at h
      simp at h
      exact h
end Go.Proofs.Ytngglpekdjhbdaa
namespace Go.Proofs.Ytngglpekdjhbdaa
open Go.RowKit Go.ChangeMaps Go.Deep Tr
set_option linter.unusedSimpArgs false
set_option linter.unusedVariables false
set_option maxRecDepth 20000

structure Vr where
  t : Int
  v : Int
def encVr (x : Vr) : List Value := [.int .i64 x.t, .int .i64 x.v]
theorem encVr_len (x : Vr) : (encVr x).length = 2 := rfl
theorem encVr_one (x : Vr) : ∀ v ∈ encVr x, v.oneCell' = true := by simp [encVr, Value.oneCell']
theorem elemVr : ElemOk Try.prog 94 97 2 16 := .mk' Try.underlying94 (by omega) (by kernel_rfl)
/-- a version more, or another value for the last one -/
def addV (l : List Vr) (t v : Int) : List Vr := match l.getLast? with
  | some x => if x.t = t then l.set (l.length - 1) ⟨t, v⟩ else l ++ [⟨t, v⟩]
  | none => [⟨t, v⟩]
theorem addV_len (l : List Vr) (t v : Int) : (addV l t v).length ≤ l.length + 1 := by
  unfold addV
  split
  · split <;> simp
  · simp
structure VerAt (W : World) (Bo base : Nat) (v : Value) (l : List Vr) : Prop where
  cell : W.heap[Bo]? = some (.cells #[v] 94 (0, 0))
  own : OwnR encVr 2 97 W base v l
  lt : Bo < base
theorem VerAt.kept {ks : List Nat} {W W' : World} {Bo base : Nat} {v : Value} {l : List Vr} (h : VerAt W Bo base v l) (m : Mod ks W W') (h1 : Bo ∉ ks) (h2 : ∀ k, v.ownBlock = some k → k ∉ ks) : VerAt W' Bo base v l :=
  ⟨m.heap h.cell h1, h.own.kept m h2, h.lt⟩
def VerPost (W : World) (Bo base : Nat) (v : Value) (l : List Vr) (W' : World) : Prop := ∃ v', VerAt W' Bo base v' l ∧ Mod (Bo :: blk v) W W'
set_option maxHeartbeats 4000000 in
theorem history2_at {W : World} {Bo base : Nat} {v : Value} {l : List Vr} (h : VerAt W Bo base v l) (t x : Int) (hl : l.length < 1000000) (hbs : base ≤ W.heap.size) :
    Calls Try.prog 70 #[.int .i64 t, .int .i64 x, .pointer (some ⟨Bo, 0, none⟩)] W fun e W' => e = .returned (.tuple #[]) ∧ VerPost W Bo base v (addV l t x) W' := by
  have hob : ∀ k, v.ownBlock = some k → base ≤ k := fun k hk => (World.ownsRow.lt h.own k hk).1
  obtain ⟨va, vc, rfl⟩ := h.own.lens
  have c0 := cell_blk h.cell 0
  simp only [List.getElem?_toArray, List.getElem?_cons_succ, List.getElem?_cons_zero] at c0
  have happ : (∀ y, l.getLast? = some y → y.t ≠ t) → addV l t x = l ++ [⟨t, x⟩] := fun hne => by
    unfold addV
    cases hg : l.getLast? with
    | none => rw [List.getLast?_eq_none_iff] at hg; rw [hg]; rfl
    | some y =>
      dsimp only
      rw [if_neg (hne y hg)]
  obtain ⟨N, hN⟩ : ∃ N, l.length = N := ⟨_, rfl⟩
  -- the append
  obtain ⟨v', w', ra, ho', gr⟩ := own_append1 (P := Try.prog) (ty := 94) elemVr encVr_len encVr_one h.own hbs (⟨t, x⟩ : Vr) (by omega) (by omega)
  dsimp only [encVr] at ra
  obtain ⟨a', c', rfl⟩ := ho'.lens
  have hnl : (l ++ [(⟨t, x⟩ : Vr)]).length = N + 1 := by rw [List.length_append, List.length_singleton, hN]
  have hv' := gr.mod.heap h.cell (by rw [mem_blk]; intro hm; have := hob _ hm; have := h.lt; omega)
  have g0 := cell_blk hv' 0
  have g1 := frozen_blk hv' 0
  simp only [List.getElem?_toArray, List.getElem?_cons_zero] at g0
  have hob' : ∀ k, (Value.slice a' (l ++ [(⟨t, x⟩ : Vr)]).length c').ownBlock = some k → base ≤ k := fun k hk => (World.ownsRow.lt ho' k hk).1
  have hm1 : Mod [Bo] w' (w'.setCell ⟨Bo, 0, none⟩ (.slice a' (l ++ [(⟨t, x⟩ : Vr)]).length c')) := (Mod.refl _ _).setCell (by simp) _
  have hv2 := heap_setCell_blk hv' 0 (.slice a' (l ++ [(⟨t, x⟩ : Vr)]).length c')
  have HE := Lib.hid (fun (hne : ∀ y, l.getLast? = some y → y.t ≠ t) => (show VerPost W Bo base (.slice va l.length vc) (addV l t x) (w'.setCell ⟨Bo, 0, none⟩ (.slice a' (N + 1) c')) from by
    rw [happ hne, ← hnl]
    exact ⟨_, ⟨by simpa using hv2, ho'.kept hm1 (fun k hk => by have := hob' k hk; have := h.lt; simp; omega), h.lt⟩, (gr.mod.mono fun k hk => by simp [hk]).trans (hm1.mono fun k hk => by simp at hk; simp [hk])⟩))
  have RA := Lib.hid ra
  rw [hnl, hN] at RA
  rw [hN] at c0 g0
  have HH := Lib.hid h
  have HN := Lib.hid hN
  have HOB := Lib.hid hob
  rw [hN] at HOB
  clear hm1 hv2 hob' hv' ho' gr ra hob happ hnl
  rcases List.eq_nil_or_concat l with rfl | ⟨l0, y, rfl⟩
  · have HE2 := Lib.hid (HE.out (fun y hy => by simp at hy))
    obtain rfl : N = 0 := by rw [← hN]; rfl
    clear HE h hN
    go_enter Try.func70, Try.ntmps70
    go_wp2_with ((with_reducible refine xAppendAt RA.out rfl rfl ?_ ?_ ?_ ?_); exact rfl; exact rfl; exact rfl)
    first | go_ret | go_end0
    exact ⟨rfl, HE2.out⟩
  · rw [List.concat_eq_append] at *
    obtain ⟨p, hp⟩ : ∃ p, l0.length = p := ⟨_, rfl⟩
    obtain rfl : N = p + 1 := by rw [← hN, List.length_append, List.length_singleton, hp]
    have hy : (l0 ++ [y])[p]? = some y := by rw [← hp]; exact get_mid l0 [] y
    have hgl : (l0 ++ [y]).getLast? = some y := by simp
    obtain ⟨q, cap, heq, hq, hcap⟩ := h.own.at_ hy
    simp only [Value.slice.injEq] at heq
    obtain ⟨rfl, _, rfl⟩ := heq
    have hpl : p < (l0 ++ [y]).length := by rw [hN]; omega
    have hyg : (l0 ++ [y])[p] = y := by have := (List.getElem?_eq_some_iff.1 hy).2; exact this
    have y0 := (h.own.cell encVr_len hpl (j := 0) (by omega) (u := .int .i64 y.t) (by rw [hyg]; rfl)).1
    have y1 := h.own.cell encVr_len hpl (j := 1) (by omega) (u := .int .i64 y.v) (by rw [hyg]; rfl)
    obtain ⟨y1, y1f⟩ := y1
    have hS := h.own.set encVr_len hpl (j := 1) (by omega) (u := .int .i64 x) (y := ⟨y.t, x⟩) (by rw [hyg]; rfl)
    rw [hN] at hS
    simp only [Nat.add_zero] at y0
    have hpb : p < 1000000 := by rw [hN] at hl; omega
    have dn : decide ((0 : Int) < ((p + 1 : Nat) : Int)) = true := decide_eq_true (by omega)
    have dp0 : decide ((p : Int) < 0) = false := decide_eq_false (by omega)
    have dp1 : decide (((p + 1 : Nat) : Int) ≤ (p : Int)) = false := decide_eq_false (by omega)
    by_cases hyt : y.t = t
    · have dq : (y.t == t) = true := by simp [hyt]
      have hBq : q ≠ Bo := by
        have := HOB.out q (by simp [Value.ownBlock])
        have := h.lt
        omega
      have mS : Mod [q] W (W.setCell ⟨q, p * 2 + 1, none⟩ (.int .i64 x)) := (Mod.refl _ _).setCell (by simp) _
      have HE2 := Lib.hid (show VerPost W Bo base (.slice (some ⟨q, 0, none⟩) (l0 ++ [y]).length vc) (addV (l0 ++ [y]) t x) (W.setCell ⟨q, p * 2 + 1, none⟩ (.int .i64 x)) from by
        refine ⟨.slice (some ⟨q, 0, none⟩) (p + 1) vc, ⟨?_, ?_, h.lt⟩, mS.mono fun k hk => by simp at hk; simp [hk, blk, Value.ownBlock]⟩
        · have := mS.heap h.cell (by simpa using hBq.symm)
          rw [hN] at this
          exact this
        · have e : addV (l0 ++ [y]) t x = (l0 ++ [y]).set p ⟨y.t, x⟩ := by
            unfold addV
            rw [hgl]
            dsimp only
            rw [if_pos hyt, hN, Nat.add_sub_cancel, hyt]
          rw [e]
          exact hS)
      clear HE h hS mS hN hyt hy hgl hq hcap hyg hpl hBq g0 g1
      go_enter Try.func70, Try.ntmps70
      go_wp2_with fail
      first | go_ret | go_end0
      exact ⟨rfl, HE2.out⟩
    · have dq : (y.t == t) = false := by simpa using hyt
      have HE2 := Lib.hid (HE.out (fun z hz => by rw [hgl] at hz; cases hz; exact hyt))
      clear HE h hS hN hyt hy hgl hq hcap hyg hpl
      go_enter Try.func70, Try.ntmps70
      go_wp2_with ((with_reducible refine xAppendAt RA.out rfl rfl ?_ ?_ ?_ ?_); exact rfl; exact rfl; exact rfl)
      first | go_ret | go_end0
      exact ⟨rfl, HE2.out⟩
end Go.Proofs.Ytngglpekdjhbdaa
namespace Go.Proofs.Ytngglpekdjhbdaa
open Go.RowKit Go.ChangeMaps Go.Deep Tr
set_option linter.unusedSimpArgs false
set_option linter.unusedVariables false
set_option maxRecDepth 20000

theorem history3_any (x y : Vr) (w : World) : Calls Try.prog 72 #[.agg #[.int .i64 x.t, .int .i64 x.v], .agg #[.int .i64 y.t, .int .i64 y.v]] w fun e w' => e = .returned (.bool (x.v == y.v)) ∧ Mod [] w w' := by
  have HM := Lib.hid (((Mod.refl [] w).alloc (.cells #[.int .i64 x.t, .int .i64 x.v] 97)).alloc (.cells #[.int .i64 y.t, .int .i64 y.v] 97))
  go_enter Try.func72, Try.ntmps72
  go_wp2_with fail
  go_ret
  exact ⟨rfl, HM.out⟩
def NoEq (l : List Vr) : Prop := ∀ i x y, l[i]? = some x → l[i + 1]? = some y → y.v ≠ x.v
set_option maxHeartbeats 4000000 in
theorem compactV_at {w : World} {base : Nat} {v : Value} {l : List Vr} (h : OwnR encVr 2 97 w base v l) (hn : NoEq l) (hl : l.length ≤ 1000000) :
    Calls Try.prog 71 #[v, .func (.func 72) #[] #[]] w fun e w' => e = .returned v ∧ Mod [] w w' := by
  obtain ⟨va, vc, rfl⟩ := h.lens
  obtain ⟨N, hN⟩ : ∃ N, l.length = N := ⟨_, rfl⟩
  have HH := Lib.hid h
  have HNE := Lib.hid hn
  have HN := Lib.hid hN
  rw [hN] at hl ⊢
  clear h hn hN
  by_cases h2 : N < 2
  · have d : decide ((N : Int) < 2) = true := decide_eq_true (by omega)
    go_enter Try.func71, Try.ntmps71
    go_wp2_with fail
    go_ret
    exact ⟨rfl, Mod.refl _ _⟩
  · have d : decide ((N : Int) < 2) = false := decide_eq_false (by omega)
    have HM := Lib.hid (Mod.refl [] w)
    go_enter Try.func71, Try.ntmps71
    go_wp2_with fail
    go_loopw [5] (fun s5 W => ∃ k : Nat, k + 1 ≤ N ∧ s5 = .int .i64 ((k : Int) + 1) ∧ Hid (Mod [] w W)) (fun s5 _ => N - (intOf s5).toNat)
    case atStart => exact ⟨0, by omega, by go_num, HM⟩
    case round =>
      obtain ⟨k, hk, rfl, hM⟩ := hrel
      clear HM
      by_cases hlt : k + 1 < N
      · obtain ⟨x, hx⟩ : ∃ x, l[k]? = some x := ⟨l[k]'(by rw [HN.out]; omega), List.getElem?_eq_getElem _⟩
        obtain ⟨y, hy⟩ : ∃ y, l[k + 1]? = some y := ⟨l[k + 1]'(by rw [HN.out]; omega), List.getElem?_eq_getElem _⟩
        have hne := HNE.out k x y hx hy
        have hD := (HH.out.kept0 hM.out).kept0 ((Mod.refl [] wr).drew)
        obtain ⟨q, cap, heq, hq, hcap⟩ := hD.at_ hx
        simp only [Value.slice.injEq] at heq
        obtain ⟨rfl, _, rfl⟩ := heq
        have hload : ∀ (i : Nat) (z : Vr), l[i]? = some z → (Instr.loadAt 97 (.pointer (some ⟨q, i * 2, none⟩))).run Try.prog wr.drew = .ok (.agg #[.int .i64 z.t, .int .i64 z.v]) wr.drew := fun i z hz => by
          obtain ⟨hlt, e⟩ := List.getElem?_eq_some_iff.1 hz
          have hrow : wr.drew.rangeAt q (i * 2) [.int .i64 z.t, .int .i64 z.v] := fun jj u hu => (hD.cell encVr_len hlt (j := jj) (by have := (List.getElem?_eq_some_iff.1 hu).1; simpa using this) (u := u) (by rw [e]; exact hu)).1
          exact run_loadAt_mid (P := Try.prog) _ q (i * 2) 97 _ _ hrow Try.underlying97 rfl (by kernel_rfl)
        have L1 := Lib.hid (hload k x hx)
        have L2 := Lib.hid (hload (k + 1) y hy)
        have C := Lib.hid (history3_any y x wr.drew)
        have hq1 : (y.v == x.v) = false := by simpa using hne
        have hlt' : decide ((k : Int) + 1 < (N : Int)) = true := decide_eq_true (by omega)
        clear hne hD hq hcap hload hx hy
        go_wp2_with fail
        refine wp_plan [([0, 1, 2, 5, 6, 7, 3, 4, 8, 9], 10, [])] [] (by kernel_rfl) (by kernel_rfl) ?_
        simp only [wpSegs, opsOf, List.map_cons, List.map_nil, opN, List.getD_cons_zero, List.getD_cons_succ]
        go_wp2_with (first | ((with_reducible refine xLoadAt rfl L1.out ?_ ?_ ?_); exact rfl; exact rfl) | ((with_reducible refine xLoadAt rfl L2.out ?_ ?_ ?_); exact rfl; exact rfl))
        refine ⟨by first | trivial | rfl, ?_⟩
        go_wp2_with fail
        refine C.out.mono ?_
        rintro e w2 ⟨rfl, m2⟩
        have HM2 := Lib.hid ((hM.out.trans ((Mod.refl [] wr).drew)).trans m2)
        clear C L1 L2 m2
        go_wp2_with fail
        refine ⟨again_nil, ?_⟩
        go_wp2_with fail
        refine ⟨by first | trivial | rfl, ?_⟩
        go_wp2_with fail
        go_roundw
        case rel => exact ⟨k + 1, by omega, by go_num, HM2⟩
        case measure => simp [intOf]; omega
      · have hlt' : decide ((k : Int) + 1 < (N : Int)) = false := decide_eq_false (by omega)
        go_wp2_with fail
        go_ret
        exact ⟨rfl, hM.out⟩
end Go.Proofs.Ytngglpekdjhbdaa
