/- Layer 11: Ends. -/
import Derived.Test.YtngglpekdjhbdaaBzP
import Derived.Test.YtngglpekdjhbdaaBzC
import Derived.Test.YtngglpekdjhbdaaRegR
namespace Go.Proofs.Ytngglpekdjhbdaa
open Go.RowKit Go.ChangeMaps Go.Deep Tr
set_option linter.unusedSimpArgs false
set_option linter.unusedVariables false
set_option maxRecDepth 20000

set_option maxHeartbeats 4000000 in
theorem at_line {w : World} {g : Nat} {B : List Nat} {n : Nat} {gf : Int → Int} (h : LineAt w g B n gf) (hn : n ≤ 40000) {day : Int} (hd : -9223372036854775808 ≤ day ∧ day ≤ 9223372036854775807) :
    Calls Try.prog 16 #[.pointer (some ⟨g, 0, none⟩), .int .i64 day] w fun e w' => e = .returned (.int .i64 (gf day)) ∧ Mod [] w w' := by
  obtain ⟨M, E, hL, hok, hrep, hE, hM⟩ := h.ex
  have CN := Lib.hid (tlNone_at hL)
  obtain ⟨tb, vv, gv, nv, fv, ns, fr, T, vs, fs, S, rfl, hp, hns, hvs⟩ := hL
  have hTs : T.size ≤ 100000 := by have := S.full; omega
  have c0 := cell_blk S.blk 0
  simp only [List.getElem?_toArray, List.getElem?_cons_zero] at c0
  have hcov : ∀ x ∈ T.items, x.f ≤ day → day < x.t → gf day = (valOf vs x).2 := fun x hx h1 h2 => (hrep day).1 (sg (valOf vs x)) (List.mem_map_of_mem (hp.mem_iff.1 (List.mem_map_of_mem hx))) h1 h2
  have hnone : (∀ x ∈ T.items, ¬ (x.f ≤ day ∧ day < x.t)) → gf day = 0 := fun hh => (hrep day).2 fun s hs => by
    obtain ⟨e, he, rfl⟩ := List.mem_map.1 hs
    obtain ⟨x, hx, rfl⟩ := List.mem_map.1 (hp.mem_iff.2 he)
    exact hh x hx
  obtain ⟨L, hL⟩ : ∃ L, L = (if day < 9223372036854775807 then over day (day + 1) T else []) := ⟨_, rfl⟩
  have CS : Calls Try.prog 42 #[.pointer (some ⟨tb, 0, none⟩), .int .i64 day] w fun e w' => ∃ v, e = .returned v ∧ OwnR encIt 3 92 w' w.heap.size v L ∧ Mod [] w w' := by
    by_cases hmx : day < 9223372036854775807
    · rw [if_pos hmx] at hL
      subst hL
      exact stab_at S.tree hTs day ⟨hd.1, hmx⟩
    · rw [if_neg hmx] at hL
      subst hL
      obtain rfl : day = 9223372036854775807 := by omega
      refine stab_max.mono ?_
      rintro e w' ⟨rfl, m⟩
      exact ⟨_, rfl, OwnR.nil_ _ _, m⟩
  have hmem : ∀ x ∈ T.items, x ∈ L ↔ x.f ≤ day ∧ day < x.t := fun x hx => by
    have hone := hok.one (sg (valOf vs x)) (List.mem_map_of_mem (hp.mem_iff.1 (List.mem_map_of_mem hx)))
    have hone' : x.t ≤ 3652060 := hone.2.2.1
    rw [hL]
    split
    · unfold over
      rw [List.mem_filter]
      simp only [hx, true_and, Bool.and_eq_true, decide_eq_true_eq]
      omega
    · simp only [List.not_mem_nil, false_iff]
      omega
  have hsub : ∀ x ∈ L, x ∈ T.items := fun x hx => by
    rw [hL] at hx
    split at hx
    · exact (List.mem_filter.1 hx).1
    · cases hx
  have hLl : L.length ≤ 100000 := by
    rw [hL]
    split
    · exact Nat.le_trans (over_len _ _ T) hTs
    · simp
  have HCS := Lib.hid CS
  have HS := Lib.hid S
  clear CS S hL hok hrep hp h hE
  go_enter Try.func16, Try.ntmps16
  go_wp2_with fail
  refine CN.out.mono ?_
  rintro e w1 ⟨rfl, rfl⟩
  go_wp2_with fail
  refine HCS.out.mono ?_
  rintro e w2 ⟨lv, rfl, oL, m2⟩
  obtain ⟨la, lc, rfl⟩ := oL.lens
  have S2 := HS.out.kept m2 (by simp)
  have HM2 := Lib.hid m2
  cases L with
  | nil =>
    have HG := Lib.hid (hnone fun x hx hc => by
      have := (hmem x hx).2 hc
      cases this)
    have hl0 : decide ((0 : Int) < ((([] : List It).length : Nat) : Int)) = false := by simp
    clear S2 oL m2 hmem hsub hcov hnone HCS HS
    go_wp2_with fail
    go_ret
    exact ⟨by rw [HG.out]; rfl, HM2.out⟩
  | cons x L =>
    have hxi := hsub x (by simp)
    have hxd := (hmem x hxi).1 (by simp)
    have HG := Lib.hid (hcov x hxi hxd.1 hxd.2)
    obtain ⟨k, hk, hkl, hkf⟩ := S2.ids x hxi
    obtain ⟨f, t, id⟩ := x
    dsimp only at hk
    subst hk
    obtain ⟨q, cap, heq, hq, hcap⟩ := oL.at_ (show ((⟨f, t, (k : Int)⟩ : It) :: L)[0]? = some ⟨f, t, k⟩ from rfl)
    simp only [Value.slice.injEq] at heq
    obtain ⟨rfl, _, rfl⟩ := heq
    obtain ⟨y, yc, rfl, hy, hyc⟩ := S2.vals.at_ (show vs[k]? = some vs[k] from List.getElem?_eq_getElem hkl)
    have i2 := (oL.cell encIt_len (i := 0) (by simp) (j := 2) (by omega) (u := .int .i64 (k : Int)) (by simp [encIt])).1
    have vk := (S2.vals.cell encI_len hkl (j := 0) (by omega) (u := .int .i64 vs[k]) rfl).1
    have c1 := cell_blk S2.blk 1
    simp only [Nat.mul_one, Nat.add_zero, Nat.zero_mul, Nat.zero_add] at i2 vk
    simp only [List.getElem?_toArray, List.getElem?_cons_succ, List.getElem?_cons_zero] at c1
    have hl0 : decide ((0 : Int) < (((⟨f, t, (k : Int)⟩ : It) :: L).length : Int)) = true := by simp
    have hl1 : ((((⟨f, t, (k : Int)⟩ : It) :: L).length : Nat) : Int) = (L.length : Int) + 1 := by simp
    have hk0 : decide ((k : Int) < 0) = false := decide_eq_false (by omega)
    have hk1 : decide ((vs.length : Int) ≤ (k : Int)) = false := decide_eq_false (by omega)
    have hz : decide ((L.length : Int) + 1 ≤ 0) = false := decide_eq_false (by omega)
    have HV := Lib.hid (show (valOf vs ⟨f, t, k⟩).2 = vs[k] by simp [valOf, hkl])
    generalize vs[k] = vk0 at *
    clear S2 oL m2 hmem hsub hcov hnone HCS HS hxd hxi
    go_wp2_with fail
    refine wp_plan [] [0, 4, 1, 5, 2, 6, 3, 7, 8, 9, 10] (by kernel_rfl) (by kernel_rfl) ?_
    simp only [wpSegs, opsOf, List.map_cons, List.map_nil, opN, List.getD_cons_zero, List.getD_cons_succ]
    go_wp2_with fail
    refine ⟨by first | trivial | rfl, ?_⟩
    go_wp2_with fail
    go_ret
    exact ⟨by rw [HG.out, HV.out]; rfl, HM2.out.drew⟩
end Go.Proofs.Ytngglpekdjhbdaa
namespace Go.Proofs.Ytngglpekdjhbdaa
open Go.RowKit Go.ChangeMaps Go.Deep Tr
set_option linter.unusedSimpArgs false
set_option linter.unusedVariables false
set_option maxRecDepth 20000

def encSg (s : Sg) : List Value := [.int .i64 s.f, .int .i64 s.t, .int .i64 s.v]
theorem encSg_len (x : Sg) : (encSg x).length = 3 := rfl
theorem encSg_one (x : Sg) : ∀ v ∈ encSg x, v.oneCell' = true := by intro v hv; simp [encSg] at hv; rcases hv with rfl | rfl | rfl <;> rfl
theorem elemSeg : ElemOk Try.prog 76 80 3 24 := .mk' Try.underlying76 (by omega) (by kernel_rfl)
/-- the two variables that the closure holds: the day, the row -/
structure TellAt (W : World) (Ba Bo base : Nat) (v : Value) (o : List Sg × Int) : Prop where
  day : W.heap[Ba]? = some (.cells #[.int .i64 o.2] 3 (0, 0))
  cell : W.heap[Bo]? = some (.cells #[v] 76 (0, 0))
  own : OwnR encSg 3 80 W base v o.1
  lt : Ba < base ∧ Bo < base ∧ Ba ≠ Bo
theorem TellAt.kept {ks : List Nat} {W W' : World} {Ba Bo base : Nat} {v : Value} {o : List Sg × Int} (h : TellAt W Ba Bo base v o) (m : Mod ks W W') (h0 : Ba ∉ ks) (h1 : Bo ∉ ks) (h2 : ∀ k, v.ownBlock = some k → k ∉ ks) : TellAt W' Ba Bo base v o :=
  ⟨m.heap h.day h0, m.heap h.cell h1, h.own.kept m h2, h.lt⟩
/-- what a telling leaves -/
def TellPost (W : World) (Ba Bo base : Nat) (v : Value) (o : List Sg × Int) (W' : World) : Prop :=
  ∃ v', TellAt W' Ba Bo base v' o ∧ Mod (Ba :: Bo :: blk v) W W'
theorem seg1_at {W : World} {Ba Bo base : Nat} {v : Value} {o : List Sg × Int} (h : TellAt W Ba Bo base v o) (tt vv : Int) (hl : o.1.length < 1073741824) (hbs : base ≤ W.heap.size) :
    Calls Try.prog 62 #[.int .i64 tt, .int .i64 vv, .pointer (some ⟨Ba, 0, none⟩), .pointer (some ⟨Bo, 0, none⟩)] W fun e W' => e = .returned (.tuple #[]) ∧ TellPost W Ba Bo base v (addS o tt vv) W' := by
  have a0 := cell_blk h.day 0
  simp only [List.getElem?_toArray, List.getElem?_cons_zero] at a0
  by_cases hc : o.2 < tt
  · have hd : decide (o.2 < tt) = true := decide_eq_true hc
    have hob : ∀ k, v.ownBlock = some k → base ≤ k := fun k hk => (World.ownsRow.lt h.own k hk).1
    obtain ⟨l1, l2, l3⟩ := h.lt
    have c0 := cell_blk h.cell 0
    simp only [List.getElem?_toArray, List.getElem?_cons_zero] at c0
    obtain ⟨v', w', ra, ho', gr⟩ := own_append1 (P := Try.prog) (ty := 76) elemSeg encSg_len encSg_one h.own hbs ⟨o.2, tt, vv⟩ hl (by omega)
    dsimp only [encSg] at ra
    obtain ⟨a', n', c', rfl⟩ : ∃ a n c, v' = .slice a n c := by obtain ⟨a, c, e⟩ := ho'.lens; exact ⟨a, _, c, e⟩
    have hv' := gr.mod.heap h.cell (by rw [mem_blk]; intro hm; have := hob _ hm; omega)
    have hd' := gr.mod.heap h.day (by rw [mem_blk]; intro hm; have := hob _ hm; omega)
    have g0 := cell_blk hv' 0
    have g1 := frozen_blk hv' 0
    simp only [List.getElem?_toArray, List.getElem?_cons_zero] at g0
    have hob' : ∀ k, (Value.slice a' n' c').ownBlock = some k → base ≤ k := fun k hk => (World.ownsRow.lt ho' k hk).1
    have hm1 : Mod [Bo] w' (w'.setCell ⟨Bo, 0, none⟩ (.slice a' n' c')) := (Mod.refl _ _).setCell (by simp) _
    have hv2 := heap_setCell_blk hv' 0 (.slice a' n' c')
    have hd2 := hm1.heap hd' (by simpa using l3)
    have d0 := cell_blk hd2 0
    have d1 := frozen_blk hd2 0
    simp only [List.getElem?_toArray, List.getElem?_cons_zero] at d0
    have hm2 : Mod [Ba] (w'.setCell ⟨Bo, 0, none⟩ (.slice a' n' c')) ((w'.setCell ⟨Bo, 0, none⟩ (.slice a' n' c')).setCell ⟨Ba, 0, none⟩ (.int .i64 tt)) := (Mod.refl _ _).setCell (by simp) _
    have hd3 := heap_setCell_blk hd2 0 (.int .i64 tt)
    have hv3 := hm2.heap hv2 (by simpa using fun e => l3 e.symm)
    have HE := Lib.hid (show TellPost W Ba Bo base v (addS o tt vv) ((w'.setCell ⟨Bo, 0, none⟩ (.slice a' n' c')).setCell ⟨Ba, 0, none⟩ (.int .i64 tt)) from by
      unfold addS
      rw [if_pos hc]
      refine ⟨.slice a' n' c', ⟨by simpa using hd3, by simpa using hv3, (ho'.kept hm1 (fun k hk => by have := hob' k hk; simp; omega)).kept hm2 (fun k hk => by have := hob' k hk; simp; omega), h.lt⟩, ((gr.mod.mono fun k hk => by simp [hk]).trans (hm1.mono fun k hk => by simp at hk; simp [hk])).trans (hm2.mono fun k hk => by simp at hk; simp [hk])⟩)
    have ma := (Mod.refl [] W).alloc (.cells #[.int .i64 o.2, .int .i64 tt, .int .i64 vv] 80)
    have RA := Lib.hid ra
    clear hm1 hv2 hob' hv' ho' gr ra h hob hm2 hd3 hv3 hd2 hd' ma
    go_enter Try.func62, Try.ntmps62
    go_wp2_with ((with_reducible refine xAppendAt RA.out rfl rfl ?_ ?_ ?_ ?_); exact rfl; exact rfl; exact rfl)
    go_end0
    exact ⟨rfl, HE.out⟩
  · have hd : decide (o.2 < tt) = false := decide_eq_false hc
    have HE := Lib.hid (show TellPost W Ba Bo base v (addS o tt vv) W from by
      unfold addS
      rw [if_neg hc]
      exact ⟨v, h, Mod.refl _ _⟩)
    clear h
    go_enter Try.func62, Try.ntmps62
    go_wp2_with fail
    go_end0
    exact ⟨rfl, HE.out⟩
/-- where Segs stands in its loop -/
def SeSt (Ba Bo N : Nat) (wS : World) (o : List Sg × Int) (W : World) : Prop := ∃ v, TellAt W Ba Bo (N + 3) v o ∧ Mod [Ba, Bo] wS W
theorem SeSt.kept {Ba Bo N : Nat} {wS : World} {o : List Sg × Int} {A B : World} (h : SeSt Ba Bo N wS o A) (hN : wS.heap.size = N) (h0 : Ba < N) (h1 : Bo < N) (m : Mod [N, N + 1, N + 2] A B) : SeSt Ba Bo N wS o B := by
  obtain ⟨v, h2, h3⟩ := h
  refine ⟨v, h2.kept m (by simp; omega) (by simp; omega) (fun k hk => ?_), Mod.into' h3 m (fun k hk => .inl (by simp at hk; omega))⟩
  have := (World.ownsRow.lt h2.own k hk).1
  simp; omega
theorem SeSt.kept0 {Ba Bo N : Nat} {wS : World} {o : List Sg × Int} {A B : World} (h : SeSt Ba Bo N wS o A) (m : Mod [] A B) : SeSt Ba Bo N wS o B := by
  obtain ⟨v, h2, h3⟩ := h
  exact ⟨v, h2.kept m (by simp) (by simp) (by simp), h3.trans m.nil⟩
/-- a telling, in the loop -/
theorem SeSt.tell {Ba Bo N : Nat} {wS A B : World} {o o' : List Sg × Int} {v : Value} (hN : wS.heap.size = N) (hv : TellAt A Ba Bo (N + 3) v o) (hm : Mod [Ba, Bo] wS A) (h : TellPost A Ba Bo (N + 3) v o' B) (hA : N + 2 < A.heap.size) : SeSt Ba Bo N wS o' B ∧ ∀ p : Nat → Prop, ¬ p Ba → ¬ p Bo → (∀ k, p k → k < N + 3) → ModP p A B := by
  obtain ⟨v', h1, h2⟩ := h
  have hob : ∀ k, v.ownBlock = some k → N + 3 ≤ k := fun k hk => (World.ownsRow.lt hv.own k hk).1
  refine ⟨⟨v', h1, Mod.into' hm h2 (fun k hk => ?_)⟩, fun p p1 p2 p3 => ModP.of h2 (fun k hk hp => ?_)⟩
  · simp only [List.mem_cons, mem_blk] at hk
    rcases hk with rfl | rfl | hk
    · exact .inr (by simp)
    · exact .inr (by simp)
    · have := hob k hk
      exact .inl (by omega)
  · simp only [List.mem_cons, mem_blk] at hk
    rcases hk with rfl | rfl | hk
    · exact p1 hp
    · exact p2 hp
    · have := hob k hk
      have := p3 k hp
      omega
end Go.Proofs.Ytngglpekdjhbdaa
namespace Go.Proofs.Ytngglpekdjhbdaa
open Go.RowKit Go.ChangeMaps Go.Deep Tr
set_option linter.unusedSimpArgs false
set_option linter.unusedVariables false
set_option maxRecDepth 20000
attribute [local go_sem] Oper.semAt_some

/-- the items that meet a span, as segments, in order -/
theorem over_told {T : Tr} {vs : List Int} {E : List (It × Int)} {gf : Int → Int} {a b : Int} (hs : T.srt) (hp : (T.items.map (valOf vs)).Perm E) (hok : SgOk (E.map sg)) (hrep : Rep (E.map sg) gf) (hab : a < b) :
    SegsTo gf a b (addS (((over a b T).map (fun x => sg (valOf vs x))).foldl (stepS b) ([], a)) b 0).1 := by
  have hin : ∀ x ∈ T.items, sg (valOf vs x) ∈ E.map sg := fun x hx => List.mem_map_of_mem (hp.mem_iff.1 (List.mem_map_of_mem hx))
  have hov : ∀ x ∈ over a b T, x ∈ T.items ∧ a < x.t ∧ x.f < b := fun x hx => by
    obtain ⟨h1, h2⟩ := List.mem_filter.1 hx
    simp only [Bool.and_eq_true, decide_eq_true_eq] at h2
    exact ⟨h1, h2⟩
  have hpd : (T.items.map (fun x => sg (valOf vs x))).Pairwise dis := by
    have : T.items.map (fun x => sg (valOf vs x)) = (T.items.map (valOf vs)).map sg := by rw [List.map_map]; rfl
    rw [this]
    exact ((hp.map sg).pairwise_iff (fun h => h.symm)).2 hok.pair
  refine told_all hab (fun s hs' => ?_) ?_ (fun s hs' r hr' e => ?_) (fun s hs' d h1 h2 => ?_) (fun d h1 h2 hn => ?_)
  · obtain ⟨x, hx, rfl⟩ := List.mem_map.1 hs'
    obtain ⟨h1, h2, h3⟩ := hov x hx
    have := hok.one _ (hin x h1)
    exact ⟨h2, h3, this.2.1, this.2.2.2⟩
  · rw [List.pairwise_map]
    have h1 : (over a b T).Pairwise Lt := List.Pairwise.sublist List.filter_sublist hs
    have h2 : (over a b T).Pairwise (fun x y => dis (sg (valOf vs x)) (sg (valOf vs y))) := by
      rw [List.pairwise_map] at hpd
      exact List.Pairwise.sublist List.filter_sublist hpd
    refine List.Pairwise.imp_of_mem (fun {x y} hx hy h => ?_) (h1.and h2)
    obtain ⟨h3, h4⟩ := h
    have o1 := hok.one _ (hin x (hov x hx).1)
    have o2 := hok.one _ (hin y (hov y hy).1)
    have hle := (ordI_neg.1 h3)
    have e1 : (sg (valOf vs x)).f = x.f := rfl
    have e2 : (sg (valOf vs x)).t = x.t := rfl
    have e3 : (sg (valOf vs y)).f = y.f := rfl
    have e4 : (sg (valOf vs y)).t = y.t := rfl
    unfold dis at h4
    rw [e1, e2] at o1
    rw [e3, e4] at o2
    rw [e1, e2, e3, e4] at h4
    rw [e2, e3]
    omega
  · obtain ⟨x, hx, rfl⟩ := List.mem_map.1 hs'
    obtain ⟨y, hy, rfl⟩ := List.mem_map.1 hr'
    exact hok.unlike _ (hin x (hov x hx).1) _ (hin y (hov y hy).1) e
  · obtain ⟨x, hx, rfl⟩ := List.mem_map.1 hs'
    exact (hrep d).1 _ (hin x (hov x hx).1) h1 h2
  · refine (hrep d).2 fun s hs' hc => ?_
    obtain ⟨e, he, rfl⟩ := List.mem_map.1 hs'
    obtain ⟨x, hx, rfl⟩ := List.mem_map.1 (hp.mem_iff.2 he)
    have e1 : (sg (valOf vs x)).f = x.f := rfl
    have e2 : (sg (valOf vs x)).t = x.t := rfl
    rw [e1, e2] at hc
    refine hn (sg (valOf vs x)) (List.mem_map_of_mem (List.mem_filter.2 ⟨hx, ?_⟩)) ⟨hc.1, hc.2⟩
    simp only [Bool.and_eq_true, decide_eq_true_eq]
    omega
theorem addS_len (o : List Sg × Int) (t v : Int) : (addS o t v).1.length ≤ o.1.length + 1 := by unfold addS; split <;> simp
theorem stepS_len (b : Int) : ∀ (l : List Sg) (o : List Sg × Int), (l.foldl (stepS b) o).1.length ≤ o.1.length + 2 * l.length
  | [], o => by simp
  | x :: l, o => by
    have h1 := stepS_len b l (stepS b o x)
    have h2 : (stepS b o x).1.length ≤ o.1.length + 2 := by
      have h3 := addS_len o x.f 0
      have h4 := addS_len (addS o x.f 0) (min x.t b) x.v
      unfold stepS
      omega
    simp only [List.foldl_cons, List.length_cons]
    omega
set_option maxHeartbeats 4000000 in
theorem segs_line {w : World} {g : Nat} {B : List Nat} {n : Nat} {gf : Int → Int} (h : LineAt w g B n gf) (hn : n ≤ 40000) {a b : Int} (hab : mayS a b) :
    Calls Try.prog 33 #[.pointer (some ⟨g, 0, none⟩), .agg #[.int .i64 a, .int .i64 b]] w fun e w' => ∃ v L, e = .returned v ∧ OwnR encSg 3 80 w' w.heap.size v L ∧ SegsTo gf a b L ∧ L.length ≤ 4 * n + 1 ∧ Mod [] w w' := by
  obtain ⟨M, E, hL, hok, hrep, hE, hM⟩ := h.ex
  have m0 := (((Mod.refl [] w).alloc (.cells #[.pointer (some ⟨g, 0, none⟩)] 31)).alloc (.cells #[.int .i64 a, .int .i64 b] 24)).alloc (.cells #[.slice none 0 0] 76)
  obtain ⟨X1, hX1, x1, z1, y1⟩ := alloc_named2 w (.cells #[.pointer (some ⟨g, 0, none⟩)] 31)
  obtain ⟨X2, hX2, x2, z2, y2⟩ := alloc_named2 X1 (.cells #[.int .i64 a, .int .i64 b] 24)
  obtain ⟨X3, hX3, x3, z3, y3⟩ := alloc_named2 X2 (.cells #[.slice none 0 0] 76)
  rw [z1] at x2 z2
  rw [z2] at x3 z3
  have CN := Lib.hid (tlNone_at (hL.kept0 (y1.trans (y2.trans y3))))
  have CM := Lib.hid (tlMay_at X3 a b)
  rw [decide_eq_true hab] at CM
  have HX1 := Lib.hid ((y2.trans y3).heap x1 (by simp))
  have HX2 := Lib.hid (y3.heap x2 (by simp))
  have HX3 := Lib.hid x3
  have HMX := Lib.hid (y1.trans (y2.trans y3))
  have HZ3 := Lib.hid z3
  have p0 := cell_blk HX1.out 0
  have p1 := cell_blk HX2.out 0
  have p2 := cell_blk HX2.out 1
  simp only [List.getElem?_toArray, List.getElem?_cons_succ, List.getElem?_cons_zero] at p0 p1 p2
  have HL := Lib.hid hL
  have HLT0 := Lib.hid hL.lt
  have HOK := Lib.hid hok
  have HREP := Lib.hid hrep
  clear m0 x1 x2 x3 y1 y2 y3 hL hok hrep h
  refine (callsIn_wide (n := 5)).1 ?_
  refine callsIn_of_wp_marks Try.func33 rfl trivial ?_ rfl
  simp only [Try.ntmps33, List.size_toArray, List.length_cons, List.length_nil, Nat.reduceAdd, Nat.reduceSub, Array.replicate_succ, Array.replicate_zero, List.push_toArray, List.append_toArray, List.nil_append, List.cons_append]
  gi_wp2_with fail
  refine ⟨trivial, (callsIn_wide.2 CN.out).mono ?_⟩
  rintro e w1 ⟨rfl, rfl⟩
  gi_wp2_with fail
  refine ⟨trivial, (callsIn_wide.2 CM.out).mono ?_⟩
  rintro e w1 ⟨rfl, m1⟩
  have HB0 := Lib.hid (m1.heap HX1.out (by simp))
  have HB1 := Lib.hid (m1.heap HX2.out (by simp))
  have HB2 := Lib.hid (m1.heap HX3.out (by simp))
  have HM1 := Lib.hid (HMX.out.trans m1)
  have HSZ := Lib.hid (show w.heap.size + 2 < w1.heap.size by have := m1.size; have := HZ3.out; omega)
  obtain ⟨A1, hA1, a1, s1, m2⟩ := alloc_named2 w1 (.cells #[.int .i64 0] 3)
  obtain ⟨A2, hA2, a2, s2, m3⟩ := alloc_named2 A1 (.cells #[.int .i64 a] 3)
  obtain ⟨A3, hA3, a3, s3, m4⟩ := alloc_named2 A2 (.cells #[.func (.func 62) #[] #[.pointer (some ⟨w1.heap.size + 1, 0, none⟩), .pointer (some ⟨w.heap.size + 1 + 1, 0, none⟩)]] 113)
  have b1 := cell_blk HB1.out 0
  simp only [List.getElem?_toArray, List.getElem?_cons_zero] at b1
  have b1' := m2.heap HB1.out (by simp)
  have d1 := cell_blk b1' 0
  simp only [List.getElem?_toArray, List.getElem?_cons_zero] at d1
  clear CN CM p0 p1 p2 m1
  gi_wp2_with fail
  rw [s1] at a2 s2
  rw [s2] at a3 s3
  have mA := m2.trans (m3.trans m4)
  have S := HL.out
  have c1 := mA.heap HB0.out (by simp)
  have c2 := mA.heap HB1.out (by simp)
  have c3 := mA.heap HB2.out (by simp)
  have e0 := cell_blk c1 0
  have e1 := cell_blk c2 0
  have e2 := cell_blk c2 1
  obtain ⟨tb, vv, gv, nv, fv, ns, fr, T, vs, fs, S0, rfl, hp, hns, hvs⟩ := HL.out
  have S3 := S0.kept (HM1.out.trans mA) (by simp)
  have g0 := cell_blk S3.blk 0
  simp only [List.getElem?_toArray, List.getElem?_cons_succ, List.getElem?_cons_zero] at e0 e1 e2 g0
  have HA := Lib.hid (itAll_at A3.drew tb a b)
  have HS3 := Lib.hid S3
  have HMA := Lib.hid (HM1.out.trans mA)
  have H1 := Lib.hid c1
  have H2 := Lib.hid c2
  have H3 := Lib.hid c3
  have HA1 := Lib.hid ((m3.trans m4).heap a1 (by simp))
  have HA2 := Lib.hid (m4.heap a2 (by simp))
  have HA3 := Lib.hid a3
  have HSA := Lib.hid s3
  have HP := Lib.hid hp
  have HLT := Lib.hid S0.lt
  have hTs : T.size ≤ 100000 := by have := S0.full; omega
  clear c1 c2 c3 S0 S3 mA a1 a2 a3 m2 m3 m4 b1 b1' d1 S HL HB0 HB1 HB2
  refine wpIn_wide.2 ?_
  refine wp_plan [([0, 4, 1, 2, 3], 5, [])] [] (by kernel_rfl) (by kernel_rfl) ?_
  simp only [wpSegs, opsOf, List.map_cons, List.map_nil, opN, List.getD_cons_zero, List.getD_cons_succ]
  go_wp2_with fail
  refine ⟨by first | trivial | rfl, ?_⟩
  go_wp2_with fail
  refine HA.out.mono ?_
  rintro e w3 ⟨rfl, rfl⟩
  obtain ⟨f1, f2, f3, f4⟩ := allW_facts A3.drew tb a b
  generalize allW A3.drew tb a b = w4 at f1 f2 f3 f4 ⊢
  have hsd : A3.drew.heap.size = w1.heap.size + 1 + 1 + 1 := HSA.out
  rw [hsd] at f2 f3 f4 ⊢
  have hN : w4.heap.size = w1.heap.size + 5 := f4
  have hf1 : Mod [] A3 w4 := ((Mod.refl [] A3).drew).trans f1
  obtain ⟨q1, q2⟩ := (HS3.out.kept ((Mod.refl [] A3).drew) (by simp)).tree.seq hTs a b f1 f2 f3
  have hov : overI a b T = over a b T := by unfold overI; rw [if_pos hab.2.1]
  rw [hov] at q1
  have hSl : (over a b T).length ≤ 100000 := Nat.le_trans (over_len _ _ T) hTs
  have hSl2 : (over a b T).length ≤ 2 * n := by
    have h1 := over_len a b T
    have h2 := HP.out.length_eq
    rw [List.length_map, items_len] at h2
    omega
  have hsub : ∀ x ∈ over a b T, x ∈ T.items := fun x hx => (List.mem_filter.1 hx).1
  obtain ⟨SS, hSS0⟩ : ∃ SS, SS = over a b T := ⟨_, rfl⟩
  rw [← hSS0] at q1 hSl hsub hSl2
  have HSL := Lib.hid hSl2
  have HSS := Lib.hid hSS0
  have HSUB := Lib.hid hsub
  have S4 := HS3.out.kept hf1 (by simp)
  have HS4 := Lib.hid S4
  have hltB : ∀ k ∈ lnB g tb vv gv nv fv, k < w.heap.size := fun k hk => HLT.out k hk
  have HB1 := Lib.hid (hf1.heap H1.out (by simp))
  have HB2 := Lib.hid (hf1.heap H2.out (by simp))
  have HB3 := Lib.hid (hf1.heap H3.out (by simp))
  have HC1 := Lib.hid (hf1.heap HA1.out (by simp))
  have HC2 := Lib.hid (hf1.heap HA2.out (by simp))
  have HC3 := Lib.hid (hf1.heap HA3.out (by simp))
  have HMW := Lib.hid (HMA.out.trans hf1)
  have h0 : SeSt (w1.heap.size + 1) (w.heap.size + 1 + 1) (w1.heap.size + 5) w4 ([], a) w4 := ⟨_, ⟨HC2.out, HB3.out, OwnR.nil_ _ _, by have := HSZ.out; omega⟩, Mod.refl _ _⟩
  have hsz := HSZ.out
  clear f1 f2 f3 f4 H1 H2 H3 HA1 HA2 HA3 hf1 S4 hsub hSS0 hsd HA HMA HS3 HM1
  go_wp2_with fail
  refine ⟨again_nil, ?_⟩
  go_wp2_with fail
  refine ⟨by first | trivial | rfl, ?_⟩
  go_wp2_with fail
  gi_wp2_with fail
  refine wpIn_rangeFunc_M rfl (by omega) (gf := 82) (lb := #[.pointer (some ⟨w1.heap.size + 1 + 1 + 1 + 1, 0, none⟩), .pointer (some ⟨w1.heap.size + 1 + 1 + 1, 0, none⟩)]) rfl trivial (enters_of Try.func82 (by kernel_rfl) rfl) (q1 4 (by omega)) (ModP.refl _ _) q2 (fun _ => rfl)
    (fun pre W => SeSt (w1.heap.size + 1) (w.heap.size + 1 + 1) (w1.heap.size + 5) w4 ((pre.map (fun x => sg (valOf vs x))).foldl (stepS b) ([], a)) W)
    (fun pre x a' W => SeSt (w1.heap.size + 1) (w.heap.size + 1 + 1) (w1.heap.size + 5) w4 ((pre.map (fun x => sg (valOf vs x))).foldl (stepS b) ([], a)) W ∧ ∃ Bx, w1.heap.size + 7 < Bx ∧ W.heap[Bx]? = some (.cells #[.int .i64 x.f, .int .i64 x.t, .int .i64 x.i] 92 (0, 0)) ∧ a' = { tmps := #[.pointer (some ⟨g, 0, none⟩), .agg #[.int .i64 a, .int .i64 b], .pointer (some ⟨w.heap.size, 0, none⟩), .pointer (some ⟨w.heap.size + 1, 0, none⟩), .pointer (some ⟨w.heap.size + 1 + 1, 0, none⟩), .pointer (some ⟨w1.heap.size, 0, none⟩), .pointer (some ⟨w1.heap.size + 1, 0, none⟩), .pointer (some ⟨w1.heap.size + 1 + 1, 0, none⟩), .pointer (some ⟨Bx, 0, none⟩), .pointer (some ⟨g, 0, none⟩), .bool false, .bool false, .agg #[.int .i64 a, .int .i64 b], .bool true, .bool false, .bool false, .pointer (some ⟨w.heap.size + 1, 0, none⟩), .int .i64 a, .func (.func 62) #[] #[.pointer (some ⟨w1.heap.size + 1, 0, none⟩), .pointer (some ⟨w.heap.size + 1 + 1, 0, none⟩)], .pointer (some ⟨g, 0, none⟩), .pointer (some ⟨g, 0, none⟩), .pointer (some ⟨g, 0, none⟩), .pointer (some ⟨tb, 0, none⟩), .agg #[.int .i64 a, .int .i64 b], .func (.func 82) #[] #[.pointer (some ⟨w1.heap.size + 1 + 1 + 1 + 1, 0, none⟩), .pointer (some ⟨w1.heap.size + 1 + 1 + 1, 0, none⟩)], itV x, undef, undef, undef, undef, undef, undef, undef, undef, undef, undef, undef, undef, undef, undef, undef, undef, undef, undef, undef, undef, undef, undef, undef, undef, undef, undef], defers := [] })
    (fun s A B h m => by rw [hN] at m; exact h.kept hN (by omega) (by omega) m)
    (fun s x a' A B h m => by
      rw [hN] at m
      obtain ⟨h1, Bx, h2, h3, h4⟩ := h
      exact ⟨h1.kept hN (by omega) (by omega) m, Bx, h2, m.heap h3 (by simp; omega), h4⟩)
    h0 ?assign ?body ?done
  case assign =>
    intro l pre x post W K hSS hI hgt hK
    dsimp only [itV]
    have hma := (Mod.refl [] W).alloc (.cells #[.int .i64 x.f, .int .i64 x.t, .int .i64 x.i] 92)
    have HI2 := Lib.hid (hI.kept0 hma)
    have HB2 := Lib.hid (heap_alloc_new W (.cells #[.int .i64 x.f, .int .i64 x.t, .int .i64 x.i] 92))
    have HM2 := Lib.hid hma
    have HG2 := Lib.hid (show w1.heap.size + 7 < W.heap.size by omega)
    clear hma hI hN hgt q1 q2 h0
    gi_wp2
    exact hK _ _ (ModP.of HM2.out (by simp)) ⟨HI2.out, W.heap.size, HG2.out, HB2.out, rfl⟩
  case body =>
    rintro l pre x post a' W hSS ⟨⟨v, hO, hm⟩, Bx, hBx, hx, rfl⟩ hgt
    have hfold : ((pre ++ [x]).map (fun x => sg (valOf vs x))).foldl (stepS b) ([], a) = stepS b ((pre.map (fun x => sg (valOf vs x))).foldl (stepS b) ([], a)) (sg (valOf vs x)) := by simp [List.foldl_append]
    have hpl : (((pre.map (fun x => sg (valOf vs x))).foldl (stepS b) ([], a)).1).length ≤ 2 * pre.length := by
      have := stepS_len b (pre.map (fun x => sg (valOf vs x))) ([], a)
      simpa using this
    have hprl : pre.length ≤ 100000 := by
      have := congrArg List.length hSS
      simp at this; omega
    have hxT := HSUB.out x (by rw [hSS]; simp)
    have hlm : ∀ k ∈ lnB g tb vv gv nv fv, k ∉ [w1.heap.size + 1, w.heap.size + 1 + 1] := fun k hk hm => by
      have := hltB k hk
      simp at hm; omega
    have HFO := Lib.hid hfold
    generalize (pre.map (fun x => sg (valOf vs x))).foldl (stepS b) ([], a) = o at hO HFO hpl
    have hcB1 := hm.heap HB1.out (by simp; omega)
    have hcC1 := hm.heap HC1.out (by simp; omega)
    have hcC3 := hm.heap HC3.out (by simp; omega)
    have k0 := cell_blk hcC1 0
    have k1 := cell_blk hcC3 0
    have e0 := cell_blk hx 0
    simp only [List.getElem?_toArray, List.getElem?_cons_succ, List.getElem?_cons_zero] at k0 k1 e0
    have CS := Lib.hid (seg1_at hO x.f 0 (by omega) (by omega))
    have hneB : ∀ k, v.ownBlock = some k → w1.heap.size + 8 ≤ k ∧ k ≠ Bx := fun k hk => by
      refine ⟨by have := (World.ownsRow.lt hO.own k hk).1; omega, fun e => ?_⟩
      subst e
      obtain ⟨o', h1⟩ := ownsRow_cells hO.own hk
      rw [h1] at hx
      cases hx
    have HX := Lib.hid hx
    have HO := Lib.hid hO
    have HM := Lib.hid hm
    clear hcB1 hcC1 hcC3 hx hO hm hfold q1 q2 h0
    gi_wp2_with fail
    refine ⟨trivial, (CallsIn.inRound l (callsIn_wide.2 CS.out)).mono ?_⟩
    rintro e W1 ⟨rfl, v1, hO1, hm1⟩
    obtain ⟨⟨v2, hO2, hM1⟩, hpp1⟩ := SeSt.tell hN HO.out HM.out ⟨v1, hO1, hm1⟩ (by omega)
    have hx1 := hm1.heap HX.out (by
      simp only [List.mem_cons, mem_blk, not_or]
      exact ⟨by omega, by omega, fun h => (hneB _ h).2 rfl⟩)
    have hcB0 := hM1.heap HB1.out (by simp; omega)
    have hcB1 := hM1.heap HB2.out (by simp; omega)
    have hcC3 := hM1.heap HC3.out (by simp; omega)
    have SW := HS4.out.kept hM1 hlm
    obtain ⟨k, hk, hkl, hkf⟩ := SW.ids x hxT
    obtain ⟨f, t, id⟩ := x
    dsimp only at hk
    subst hk
    obtain ⟨y, yc, hvv, hy, hyc⟩ := SW.vals.at_ (show vs[k]? = some vs[k] from List.getElem?_eq_getElem hkl)
    have SV := SW.vals
    have SB := SW.blk
    rw [hvv] at SV SB
    have vk := (SV.cell encI_len hkl (j := 0) (by omega) (u := .int .i64 vs[k]) rfl).1
    simp only [Nat.mul_one, Nat.add_zero] at vk
    have c1 := cell_blk SB 1
    have f1 := cell_blk hx1 1
    have f2 := cell_blk hx1 2
    have k2 := cell_blk hcC3 0
    have k3 := cell_blk hcB0 0
    have k4 := cell_blk hcB1 1
    simp only [List.getElem?_toArray, List.getElem?_cons_succ, List.getElem?_cons_zero] at c1 f1 f2 k2 k3 k4
    have hk0 : decide ((k : Int) < 0) = false := decide_eq_false (by omega)
    have hk1 : decide ((vs.length : Int) ≤ (k : Int)) = false := decide_eq_false (by omega)
    have hV : (sg (valOf vs ⟨f, t, k⟩)) = ⟨f, t, vs[k]⟩ := by simp [sg, valOf, hkl]
    rw [hV] at HFO
    have hl1 : (addS o f 0).1.length ≤ o.1.length + 1 := addS_len o f 0
    have hW1 := hm1.size
    have CS2 := Lib.hid (seg1_at (hO1.kept ((Mod.refl [] W1).drew) (by simp) (by simp) (by simp)) (min t b) vs[k] (show (addS o f 0).1.length < 1073741824 by omega) (show w1.heap.size + 5 + 3 ≤ W1.drew.heap.size by show _ ≤ W1.heap.size; omega))
    have HPP := Lib.hid (show ModP (fun k => allP tb nv fv (w1.heap.size + 1 + 1 + 1 + 1) (w1.heap.size + 1 + 1 + 1) k ∨ k = w4.heap.size ∨ k = w4.heap.size + 1 ∨ k = w4.heap.size + 2) W W1 ∧ ¬ (fun k => allP tb nv fv (w1.heap.size + 1 + 1 + 1 + 1) (w1.heap.size + 1 + 1 + 1) k ∨ k = w4.heap.size ∨ k = w4.heap.size + 1 ∨ k = w4.heap.size + 2) (w1.heap.size + 1) ∧ ¬ (fun k => allP tb nv fv (w1.heap.size + 1 + 1 + 1 + 1) (w1.heap.size + 1 + 1 + 1) k ∨ k = w4.heap.size ∨ k = w4.heap.size + 1 ∨ k = w4.heap.size + 2) (w.heap.size + 1 + 1) ∧ (∀ k, (fun k => allP tb nv fv (w1.heap.size + 1 + 1 + 1 + 1) (w1.heap.size + 1 + 1 + 1) k ∨ k = w4.heap.size ∨ k = w4.heap.size + 1 ∨ k = w4.heap.size + 2) k → k < w1.heap.size + 5 + 3) from by
      have hT : ∀ k, treeP tb nv fv k → k < w.heap.size := fun k hk => hltB k (by
        rcases hk with rfl | hk | hk
        · simp [lnB]
        · simp [lnB, mem_blk, hk]
        · simp [lnB, mem_blk, hk])
      have n1 : ¬ (fun k => allP tb nv fv (w1.heap.size + 1 + 1 + 1 + 1) (w1.heap.size + 1 + 1 + 1) k ∨ k = w4.heap.size ∨ k = w4.heap.size + 1 ∨ k = w4.heap.size + 2) (w1.heap.size + 1) := by
        rintro ((h | h | h) | h | h | h)
        · have := hT _ h; omega
        all_goals omega
      have n2 : ¬ (fun k => allP tb nv fv (w1.heap.size + 1 + 1 + 1 + 1) (w1.heap.size + 1 + 1 + 1) k ∨ k = w4.heap.size ∨ k = w4.heap.size + 1 ∨ k = w4.heap.size + 2) (w.heap.size + 1 + 1) := by
        rintro ((h | h | h) | h | h | h)
        · have := hT _ h; omega
        all_goals omega
      have n3 : ∀ k, (fun k => allP tb nv fv (w1.heap.size + 1 + 1 + 1 + 1) (w1.heap.size + 1 + 1 + 1) k ∨ k = w4.heap.size ∨ k = w4.heap.size + 1 ∨ k = w4.heap.size + 2) k → k < w1.heap.size + 5 + 3 := by
        rintro k ((h | h | h) | h | h | h)
        · have := hT _ h; omega
        all_goals omega
      exact ⟨hpp1 _ n1 n2 n3, n1, n2, n3⟩)
    have HO1 := Lib.hid hO1
    have HM1 := Lib.hid (show Mod [w1.heap.size + 1, w.heap.size + 1 + 1] w4 W1 from hM1)
    clear SW SV SB hvv hcB0 hcB1 hcC3 hx1 hO2 hM1 hpp1 hO1 hm1 CS HX hneB HS4
    gi_wp2_with fail
    refine wp_planR [([0, 1, 3, 6, 10, 2, 4, 7, 11, 8, 9, 12, 13], 5, [0, 6, 10, 7, 11, 8, 9, 12, 13]), ([], 14, [])] [] (by kernel_rfl) (by kernel_rfl) (by kernel_rfl) (by rintro ⟨_, _, h⟩; first | exact h.elim | (exact absurd h.1 (by simp)) | cases h) ?_
    simp only [wpSegs, opsOf, List.map_cons, List.map_nil, opN, List.getD_cons_zero, List.getD_cons_succ]
    go_wp2_with fail
    refine ⟨by first | trivial | rfl, ?_⟩
    go_wp2_with ((with_reducible apply xMin rfl); exact rfl; exact rfl; exact rfl)
    refine ⟨?ag9, ?_⟩
    case ag9 =>
      intro i hi hw
      simp only [List.mem_cons, List.not_mem_nil, or_false] at hi
      rcases hi with rfl | rfl | rfl | rfl | rfl | rfl | rfl | rfl | rfl
      all_goals (simp only [opN, List.getD_cons_zero, List.getD_cons_succ, slotOf]; go_simp)
    go_wp2_with fail
    refine ⟨by first | trivial | rfl, ?_⟩
    go_wp2_with fail
    refine CS2.out.mono ?_
    rintro e W2 ⟨rfl, P2⟩
    obtain ⟨hS2, hpp2⟩ := SeSt.tell hN (HO1.out.kept ((Mod.refl [] W1).drew) (by simp) (by simp) (by simp)) (HM1.out.drew) P2 (by show _ < W1.heap.size; omega)
    have HS2 := Lib.hid hS2
    have HPP2 := Lib.hid (hpp2 _ HPP.out.2.1 HPP.out.2.2.1 HPP.out.2.2.2)
    have HFIN := Lib.hid (show SeSt (w1.heap.size + 1) (w.heap.size + 1 + 1) (w1.heap.size + 5) w4 (((pre ++ [(⟨f, t, k⟩ : It)]).map (fun x => sg (valOf vs x))).foldl (stepS b) ([], a)) W2 from by
      rw [HFO.out]
      exact hS2)
    clear P2 hS2 hpp2
    go_wp2_with fail
    refine ⟨again_nil, ?_⟩
    go_wp2_with fail
    refine ⟨by first | trivial | rfl, ?_⟩
    go_wp2_with fail
    exact ⟨(HPP.out.1.trans (ModP.of ((Mod.refl [] W1).drew) (by simp))).trans HPP2.out, HFIN.out⟩
  case done =>
    rintro D W hD ⟨v, hO, hm⟩ hK
    have HRES := Lib.hid (over_told HS4.out.tree.srt HP.out HOK.out HREP.out hab.2.1)
    rw [← HSS.out] at HRES
    have hpl : (((SS.map (fun x => sg (valOf vs x))).foldl (stepS b) ([], a)).1).length ≤ 2 * SS.length := by
      have := stepS_len b (SS.map (fun x => sg (valOf vs x))) ([], a)
      simpa using this
    generalize (SS.map (fun x => sg (valOf vs x))).foldl (stepS b) ([], a) = o at hO HRES hpl
    have hcB1 := hm.heap HB2.out (by simp; omega)
    have hcC1 := hm.heap HC1.out (by simp; omega)
    have hcC3 := hm.heap HC3.out (by simp; omega)
    have k0 := cell_blk hcC1 0
    have k1 := cell_blk hcC3 0
    have k2 := cell_blk hcB1 1
    simp only [List.getElem?_toArray, List.getElem?_cons_succ, List.getElem?_cons_zero] at k0 k1 k2
    have hDW := lt_of_heap hK
    have HLEN := Lib.hid (show (addS o b 0).1.length ≤ 4 * n + 1 from by
      have h1 := addS_len o b 0
      have h2 := HSL.out
      omega)
    have hO' : TellAt W (w1.heap.size + 1) (w.heap.size + 1 + 1) (w1.heap.size + 5) v o := ⟨hO.day, hO.cell, hO.own.mono (by omega), by omega, by omega, by omega⟩
    have CS := Lib.hid (seg1_at hO' b 0 (by omega) (by omega))
    have hvD : ∀ k, v.ownBlock = some k → k ≠ D ∧ w1.heap.size + 5 ≤ k := fun k hk => by
      refine ⟨fun e => ?_, (World.ownsRow.lt hO'.own k hk).1⟩
      subst e
      obtain ⟨o', h1⟩ := ownsRow_cells hO'.own hk
      rw [hK] at h1
      cases h1
    have HK := Lib.hid hK
    have HM := Lib.hid (show Mod [] w W from Mod.into' HMW.out hm (fun k hk => .inl (by simp at hk; omega)))
    clear hcB1 hcC1 hcC3 hO hO' hm hK q1 q2 h0
    gi_wp2_with fail
    refine ⟨trivial, (callsIn_wide.2 CS.out).mono ?_⟩
    rintro e W1 ⟨rfl, v1, hO1, hm1⟩
    obtain ⟨va, vn, vc, rfl⟩ : ∃ a n c, v1 = .slice a n c := by obtain ⟨a, c, e⟩ := hO1.own.lens; exact ⟨a, _, c, e⟩
    have hD1 := hm1.heap HK.out (by
      simp only [List.mem_cons, mem_blk, not_or]
      exact ⟨by omega, by omega, fun h => (hvD _ h).1 rfl⟩)
    have b0 := cell_blk hO1.cell 0
    have f0 := frozen_blk hO1.cell 0
    have hDB : w.heap.size + 1 + 1 ≠ D := by omega
    have hc2 := heap_setCell_blk hO1.cell 0 (.slice va vn vc)
    have hd : (W1.setCell ⟨w.heap.size + 1 + 1, 0, none⟩ (.slice va vn vc)).heap[D]? = some (.deferred (some [])) := by
      rw [heap_setCell_ne _ _ _ (by exact fun e => hDB e.symm)]; exact hD1
    have hc3 : ((W1.setCell ⟨w.heap.size + 1 + 1, 0, none⟩ (.slice va vn vc)).putObj D (.deferred none)).heap[w.heap.size + 1 + 1]? = some (.cells #[.slice va vn vc] 76 (0, 0)) := by
      rw [World.putObj_heap_other hDB]
      simpa using hc2
    have q0 := cell_blk hc3 0
    simp only [List.getElem?_toArray, List.getElem?_cons_zero] at b0 q0
    have ms : Mod [w.heap.size + 1 + 1] W1 (W1.setCell ⟨w.heap.size + 1 + 1, 0, none⟩ (.slice va vn vc)) := (Mod.refl _ _).setCell (by simp) _
    have mp : Mod [D] (W1.setCell ⟨w.heap.size + 1 + 1, 0, none⟩ (.slice va vn vc)) ((W1.setCell ⟨w.heap.size + 1 + 1, 0, none⟩ (.slice va vn vc)).putObj D (.deferred none)) := Mod.putObj _ _ _
    have HO := Lib.hid (show OwnR encSg 3 80 ((W1.setCell ⟨w.heap.size + 1 + 1, 0, none⟩ (.slice va vn vc)).putObj D (.deferred none)) w.heap.size (.slice va vn vc) (addS o b 0).1 from ((hO1.own.kept ms (fun k hk => by
      have := (World.ownsRow.lt hO1.own k hk).1
      simp; omega)).kept mp (fun k hk => by
      obtain ⟨o', h1⟩ := ownsRow_cells hO1.own hk
      rw [List.mem_singleton]
      intro e
      subst e
      rw [hD1] at h1
      cases h1)).mono (by omega))
    have hwW := HM.out.size
    have HMP := Lib.hid (show Mod [] w ((W1.setCell ⟨w.heap.size + 1 + 1, 0, none⟩ (.slice va vn vc)).putObj D (.deferred none)) from Mod.into' (Mod.into' (Mod.into' HM.out hm1 (fun k hk => .inl (by
      simp only [List.mem_cons, mem_blk] at hk
      rcases hk with rfl | rfl | hk
      · omega
      · omega
      · have := (hvD k hk).2; omega))) ms (fun k hk => .inl (by simp at hk; omega))) mp (fun k hk => .inl (by simp at hk; omega)))
    have HD := Lib.hid hd
    clear hd hc2 hc3 ms mp hO1 hm1 hD1 CS hN
    gi_wp2_with fail
    refine ⟨by simp, .inl ⟨_, _, rfl, run_takeDeferred HD.out, ?_⟩⟩
    exact ⟨.slice va vn vc, by simp [results, Try.results33, go_sem, q0], _, _, rfl, HO.out, HRES.out, HLEN.out, HMP.out⟩
theorem segs_not {w : World} {g : Nat} {B : List Nat} {n : Nat} {gf : Int → Int} (h : LineAt w g B n gf) {a b : Int} (hab : ¬ mayS a b) :
    Calls Try.prog 33 #[.pointer (some ⟨g, 0, none⟩), .agg #[.int .i64 a, .int .i64 b]] w fun e w' => e = .returned (.slice none 0 0) ∧ Mod [] w w' := by
  obtain ⟨M, E, hL, hok, hrep, hE, hM⟩ := h.ex
  obtain ⟨X1, hX1, x1, z1, y1⟩ := alloc_named2 w (.cells #[.pointer (some ⟨g, 0, none⟩)] 31)
  obtain ⟨X2, hX2, x2, z2, y2⟩ := alloc_named2 X1 (.cells #[.int .i64 a, .int .i64 b] 24)
  obtain ⟨X3, hX3, x3, z3, y3⟩ := alloc_named2 X2 (.cells #[.slice none 0 0] 76)
  rw [z1] at x2 z2
  rw [z2] at x3 z3
  have CN := Lib.hid (tlNone_at (hL.kept0 (y1.trans (y2.trans y3))))
  have CM := Lib.hid (tlMay_at X3 a b)
  rw [decide_eq_false hab] at CM
  have HX1 := Lib.hid ((y2.trans y3).heap x1 (by simp))
  have HX2 := Lib.hid (y3.heap x2 (by simp))
  have HX3 := Lib.hid x3
  have HMX := Lib.hid (y1.trans (y2.trans y3))
  have p0 := cell_blk HX1.out 0
  have p1 := cell_blk HX2.out 0
  have p2 := cell_blk HX2.out 1
  simp only [List.getElem?_toArray, List.getElem?_cons_succ, List.getElem?_cons_zero] at p0 p1 p2
  clear x1 x2 x3 y1 y2 y3 hL hok hrep h
  go_enter Try.func33, Try.ntmps33
  go_wp2_with fail
  refine CN.out.mono ?_
  rintro e w1 ⟨rfl, rfl⟩
  go_wp2_with fail
  refine CM.out.mono ?_
  rintro e w1 ⟨rfl, m1⟩
  have hB2 := m1.heap HX3.out (by simp)
  have q0 := cell_blk hB2 0
  have f0 := frozen_blk hB2 0
  simp only [List.getElem?_toArray, List.getElem?_cons_zero] at q0
  have q1 := cell_blk (heap_setCell_blk hB2 0 (.slice none 0 0)) 0
  simp at q1
  have HM := Lib.hid (Mod.into' (HMX.out.trans m1) ((Mod.refl [w.heap.size + 1 + 1] w1).setCell (by simp) (.slice none 0 0) : Mod [w.heap.size + 1 + 1] w1 (w1.setCell ⟨w.heap.size + 1 + 1, 0, none⟩ (.slice none 0 0))) (fun k hk => .inl (by simp at hk; omega)))
  clear hB2 m1 CN CM
  go_wp2_with fail
  refine bodyPost_ret (v := .slice none 0 0) ?_ rfl ⟨rfl, HM.out⟩
  simp [results, Try.results33, go_sem, q1]
end Go.Proofs.Ytngglpekdjhbdaa
namespace Go.Proofs.Ytngglpekdjhbdaa
open Go.RowKit Go.ChangeMaps Go.Deep Tr
set_option linter.unusedSimpArgs false
set_option linter.unusedVariables false
set_option maxRecDepth 20000

/-- the days on which segments begin, but for the first one -/
def endsL (L : List Sg) : List Int := L.tail.map (·.f)
theorem endsL_take (L : List Sg) (j : Nat) (hj : j < L.length) : endsL (L.take (j + 1)) = endsL (L.take j) ++ (if 0 < j then [(L[j]).f] else []) := by
  unfold endsL
  rw [List.take_succ_eq_append_getElem hj]
  cases j with
  | zero => simp
  | succ j =>
    rw [if_pos (by omega), List.tail_append_of_ne_nil (by intro h; have := congrArg List.length h; rw [List.length_take, List.length_nil] at this; omega)]
    simp
set_option maxHeartbeats 4000000 in
theorem ends_of {w : World} {g : Nat} {a b : Int} {Q : List Sg → Prop} (hlen : ∀ L, Q L → L.length ≤ 1000000)
    (HSEG : ∀ W, Mod [] w W → Calls Try.prog 33 #[.pointer (some ⟨g, 0, none⟩), .agg #[.int .i64 a, .int .i64 b]] W fun e w' => ∃ v L, e = .returned v ∧ OwnR encSg 3 80 w' W.heap.size v L ∧ Q L ∧ Mod [] W w') :
    Calls Try.prog 31 #[.pointer (some ⟨g, 0, none⟩), .agg #[.int .i64 a, .int .i64 b]] w fun e w' => ∃ v L, e = .returned v ∧ OwnR encI 1 3 w' w.heap.size v (endsL L) ∧ Q L ∧ Mod [] w w' := by
  have mA := (Mod.refl [] w).alloc (.cells #[.int .i64 a, .int .i64 b] 24)
  have bA := heap_alloc_new w (.cells #[.int .i64 a, .int .i64 b] 24)
  have s0 := cell_blk bA 0
  have s1 := cell_blk bA 1
  simp only [List.getElem?_toArray, List.getElem?_cons_succ, List.getElem?_cons_zero] at s0 s1
  have CS := Lib.hid (HSEG _ mA)
  have HMA := Lib.hid mA
  clear mA bA HSEG
  go_enter Try.func31, Try.ntmps31
  go_wp2_with fail
  refine CS.out.mono ?_
  rintro e w1 ⟨lv, L, rfl, oL, hQ, m1⟩
  obtain ⟨la, lc, rfl⟩ := oL.lens
  have HO := Lib.hid oL
  have HM1 := Lib.hid (HMA.out.trans m1)
  have hw1 := Nat.le_trans HMA.out.size m1.size
  have HSZ := Lib.hid hw1
  have hl := hlen L hQ
  have HQ := Lib.hid hQ
  clear oL m1 CS HMA hw1 hQ
  go_wp2_with fail
  go_loopw [4, 11] (fun s4 s11 W => ∃ j : Nat, j ≤ L.length ∧ s11 = .int .i64 j ∧ Hid (OwnR encI 1 3 W w.heap.size s4 (endsL (L.take j)) ∧ Mod [] w W ∧ OwnR encSg 3 80 W w.heap.size (.slice la L.length lc) L ∧ ∀ k, s4.ownBlock = some k → (Value.slice la L.length lc).ownBlock ≠ some k)) (fun _ s11 _ => L.length - (intOf s11).toNat)
  case atStart => exact ⟨0, by omega, rfl, Lib.hid ⟨OwnR.nil_ _ _, HM1.out, HO.out.mono (by simp), by simp [Value.ownBlock]⟩⟩
  case round =>
    obtain ⟨j, hj, rfl, hS⟩ := hrel
    obtain ⟨h1, h2, h3, h4⟩ := hS.out
    by_cases hlt : j < L.length
    · obtain ⟨q, cap, heq, hq, hcap⟩ := h3.at_ (show L[j]? = some L[j] from List.getElem?_eq_getElem hlt)
      simp only [Value.slice.injEq] at heq
      obtain ⟨rfl, _, rfl⟩ := heq
      have hET := endsL_take L j hlt
      have hrow : wr.rangeAt q (j * 3) [.int .i64 (L[j]).f, .int .i64 (L[j]).t, .int .i64 (L[j]).v] := fun jj u hu => (h3.cell encSg_len hlt (j := jj) (by have := (List.getElem?_eq_some_iff.1 hu).1; simpa using this) (u := u) hu).1
      generalize L[j] = s at hrow hET
      obtain ⟨f, t, v⟩ := s
      dsimp only at hrow hET
      have HLI := Lib.hid (run_loadAt_mid (P := Try.prog) _ q (j * 3) 80 _ _ hrow Try.underlying80 rfl (by kernel_rfl))
      have mI := (Mod.refl [] wr).alloc (.cells #[.int .i64 f, .int .i64 t, .int .i64 v] 80)
      have bI := heap_alloc_new wr (.cells #[.int .i64 f, .int .i64 t, .int .i64 v] 80)
      have i0 := cell_blk bI 0
      simp only [List.getElem?_toArray, List.getElem?_cons_succ, List.getElem?_cons_zero] at i0
      have hj0 : decide ((j : Int) < 0) = false := decide_eq_false (by omega)
      have hj1 : decide ((L.length : Int) ≤ (j : Int)) = false := decide_eq_false (by omega)
      have hj2 : decide ((j : Int) < (L.length : Int)) = true := decide_eq_true (by omega)
      have hel : (endsL (L.take j)).length < 1073741824 := by unfold endsL; simp; omega
      by_cases hz : 0 < j
      · have hzd : decide ((0 : Int) < (j : Int)) = true := decide_eq_true (by omega)
        rw [if_pos hz] at hET
        obtain ⟨v', w', ra, ho', gr⟩ := own_append1 (P := Try.prog) (ty := 25) elemInt encI_len encI_one (h1.kept0 mI) (Nat.le_trans h2.size mI.size) f hel (by omega)
        dsimp only [encI] at ra
        simp only [World.size_alloc] at ra
        obtain ⟨a', n', c', rfl⟩ : ∃ a n c, v' = .slice a n c := by obtain ⟨a, c, e⟩ := ho'.lens; exact ⟨a, _, c, e⟩
        have HN := Lib.hid (show OwnR encI 1 3 w' w.heap.size (.slice a' n' c') (endsL (L.take (j + 1))) ∧ Mod [] w w' ∧ OwnR encSg 3 80 w' w.heap.size (.slice (some ⟨q, 0, none⟩) L.length lc) L ∧ ∀ k, (Value.slice a' n' c').ownBlock = some k → (Value.slice (some ⟨q, 0, none⟩) L.length lc).ownBlock ≠ some k from by
          refine ⟨by rw [hET]; exact ho', Mod.into' (h2.trans mI) gr.mod (fun k hk => .inl ?_), (h3.kept0 mI).kept gr.mod (fun k hk hm => ?_), fun k hk hk2 => ?_⟩
          · rw [mem_blk] at hk
            exact (World.ownsRow.lt h1 k hk).1
          · rw [mem_blk] at hm
            exact h4 k hm hk
          · rcases gr.heir with e | e
            · exact h4 k (e ▸ hk) hk2
            · have := e k hk
              have := (World.ownsRow.lt (h3.kept0 mI) k hk2).2
              omega)
        have RA := Lib.hid ra
        clear h1 h2 h3 h4 hrow mI bI ho' gr ra hET hel
        go_wp2_with (first | ((with_reducible refine xLoadAt rfl HLI.out ?_ ?_ ?_); exact rfl; exact rfl) | ((with_reducible refine xAppendAt RA.out rfl rfl ?_ ?_ ?_ ?_); exact rfl; exact rfl; exact rfl))
        go_roundw
        case rel => exact ⟨j + 1, by omega, by go_num, HN⟩
        case measure => simp [intOf]; omega
      · have hzd : decide ((0 : Int) < (j : Int)) = false := decide_eq_false (by omega)
        rw [if_neg hz, List.append_nil] at hET
        have HN := Lib.hid (show OwnR encI 1 3 (wr.alloc (.cells #[.int .i64 f, .int .i64 t, .int .i64 v] 80)) w.heap.size u4 (endsL (L.take (j + 1))) ∧ Mod [] w (wr.alloc (.cells #[.int .i64 f, .int .i64 t, .int .i64 v] 80)) ∧ OwnR encSg 3 80 (wr.alloc (.cells #[.int .i64 f, .int .i64 t, .int .i64 v] 80)) w.heap.size (.slice (some ⟨q, 0, none⟩) L.length lc) L ∧ ∀ k, u4.ownBlock = some k → (Value.slice (some ⟨q, 0, none⟩) L.length lc).ownBlock ≠ some k from ⟨by rw [hET]; exact h1.kept0 mI, h2.trans mI, h3.kept0 mI, h4⟩)
        clear h1 h2 h3 h4 hrow mI bI hET hel
        go_wp2_with ((with_reducible refine xLoadAt rfl HLI.out ?_ ?_ ?_); exact rfl; exact rfl)
        go_roundw
        case rel => exact ⟨j + 1, by omega, by go_num, HN⟩
        case measure => simp [intOf]; omega
    · have hje : j = L.length := by omega
      have hj2 : decide ((j : Int) < (L.length : Int)) = false := decide_eq_false (by omega)
      have HE := Lib.hid (show OwnR encI 1 3 wr w.heap.size u4 (endsL L) ∧ Mod [] w wr from ⟨by rw [List.take_of_length_le (by omega)] at h1; exact h1, h2⟩)
      clear h1 h2 h3 h4
      subst hje
      go_wp2_with fail
      go_ret
      exact ⟨_, L, rfl, HE.out.1, HQ.out, HE.out.2⟩
theorem segs_at {w W : World} {g : Nat} {B : List Nat} {n : Nat} {gf : Int → Int} (h : LineAt w g B n gf) (hn : n ≤ 40000) {a b : Int} (hab : mayS a b) (m : Mod [] w W) :
    Calls Try.prog 33 #[.pointer (some ⟨g, 0, none⟩), .agg #[.int .i64 a, .int .i64 b]] W fun e w' => ∃ v L, e = .returned v ∧ OwnR encSg 3 80 w' W.heap.size v L ∧ (SegsTo gf a b L ∧ L.length ≤ 4 * n + 1) ∧ Mod [] W w' := by
  refine (segs_line (h.kept0 m) hn hab).mono ?_
  rintro e w' ⟨v, L, h1, h2, h3, h4, h5⟩
  exact ⟨v, L, h1, h2, ⟨h3, h4⟩, h5⟩
theorem ends_line {w : World} {g : Nat} {B : List Nat} {n : Nat} {gf : Int → Int} (h : LineAt w g B n gf) (hn : n ≤ 40000) {a b : Int} (hab : mayS a b) :
    Calls Try.prog 31 #[.pointer (some ⟨g, 0, none⟩), .agg #[.int .i64 a, .int .i64 b]] w fun e w' => ∃ v L, e = .returned v ∧ OwnR encI 1 3 w' w.heap.size v (endsL L) ∧ (SegsTo gf a b L ∧ L.length ≤ 4 * n + 1) ∧ Mod [] w w' :=
  ends_of (Q := fun L => SegsTo gf a b L ∧ L.length ≤ 4 * n + 1) (fun L h => by have := h.2; omega) (fun W m => segs_at h hn hab m)
theorem ends_not {w : World} {g : Nat} {B : List Nat} {n : Nat} {gf : Int → Int} (h : LineAt w g B n gf) {a b : Int} (hab : ¬ mayS a b) :
    Calls Try.prog 31 #[.pointer (some ⟨g, 0, none⟩), .agg #[.int .i64 a, .int .i64 b]] w fun e w' => ∃ v, e = .returned v ∧ OwnR encI 1 3 w' w.heap.size v [] ∧ Mod [] w w' := by
  refine (ends_of (Q := fun L => L = []) (fun L h => by rw [h]; simp) (fun W m => (segs_not (h.kept0 m) hab).mono ?_)).mono ?_
  · rintro e w' ⟨rfl, hm⟩
    exact ⟨_, [], rfl, OwnR.nil_ _ _, rfl, hm⟩
  · rintro e w' ⟨v, L, rfl, h1, rfl, h2⟩
    exact ⟨v, rfl, h1, h2⟩
theorem segsTo_len {g : Int → Int} {a z : Int} {L : List Sg} (h : SegsTo g a z L) : (L.length : Int) ≤ z - a := by
  induction h with
  | nil => simp
  | snoc s h h1 h2 h3 h4 ih => simp only [List.length_append, List.length_singleton]; omega
end Go.Proofs.Ytngglpekdjhbdaa
