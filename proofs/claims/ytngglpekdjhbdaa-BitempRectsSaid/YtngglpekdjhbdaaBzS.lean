/- Layer 13: a new store; the value of a number; puts that are refused. -/
import Derived.Test.YtngglpekdjhbdaaBzR
namespace Go.Proofs.Ytngglpekdjhbdaa
open Go.RowKit Go.ChangeMaps Go.Deep Tr
set_option linter.unusedSimpArgs false
set_option linter.unusedVariables false
set_option maxRecDepth 20000

theorem LineAt.mono {w : World} {g : Nat} {B : List Nat} {n n' : Nat} {gf : Int → Int} (h : LineAt w g B n gf) (hn : n ≤ n') : LineAt w g B n' gf := by
  obtain ⟨M, E, h1, h2, h3, h4, h5⟩ := h.ex
  exact ⟨M, E, h1, h2, h3, by omega, by omega⟩
theorem BiAt.mono {w : World} {s : Nat} {BB : List Nat} {n n' : Nat} {last : Int} {S : Bs} (h : BiAt w s BB n last S) (hn : n ≤ n') : BiAt w s BB n' last S := by
  obtain ⟨g, tb, rv, nv, fv, ns, fr, T, BL, H, rfl⟩ := h
  exact ⟨g, tb, rv, nv, fv, ns, fr, T, BL, { H with line := H.line.mono hn }, rfl⟩
theorem BiPost.mono {w w' : World} {s : Nat} {BB : List Nat} {n n' : Nat} {last : Int} {S : Bs} (h : BiPost w s BB n last S w') (hn : n ≤ n') : BiPost w s BB n' last S w' := by
  obtain ⟨BB', h1, h2, h3⟩ := h
  exact ⟨BB', h1.mono hn, h2, h3⟩
set_option maxHeartbeats 4000000 in
theorem again_at {w : World} {s rb sb : Nat} {BB : List Nat} {n : Nat} {last a b : Int} {S : Bs} (h : BiAt w s BB n last S) (r : Rc) (hr : w.heap[rb]? = some (.cells #[.int .i64 r.f, .int .i64 r.t, .int .i64 r.s, .int .i64 r.u, .int .i64 r.v] 61 (0, 0))) (hs : w.heap[sb]? = some (.cells #[.pointer (some ⟨s, 0, none⟩)] 52 (0, 0))) (hu : r.u = 0) (hm : a < b → mayS a b) (hl : S.rs.length < 90000) (hn : n ≤ 40000) :
    Calls Try.prog 75 #[.int .i64 a, .int .i64 b, .pointer (some ⟨rb, 0, none⟩), .pointer (some ⟨sb, 0, none⟩)] w fun e w' => e = .returned (.tuple #[]) ∧ BiPost w s BB (n + 1) last (S.again r a b) w' := by
  by_cases hab : a < b
  · have hd : decide (a < b) = true := decide_eq_true hab
    have e0 := cell_blk hr 0
    have e1 := cell_blk hr 1
    have e2 := cell_blk hr 2
    have e3 := cell_blk hr 3
    have e4 := cell_blk hr 4
    have s0 := cell_blk hs 0
    simp only [List.getElem?_toArray, List.getElem?_cons_succ, List.getElem?_cons_zero] at e0 e1 e2 e3 e4 s0
    obtain ⟨wq, hwq, bq, sq, mq⟩ := alloc_named2 w (.cells #[.int .i64 a, .int .i64 b, .int .i64 r.s, .int .i64 r.u, .int .i64 r.v] 61)
    have q0 := cell_blk bq 0
    have q1 := cell_blk bq 1
    have q2 := cell_blk bq 2
    have q3 := cell_blk bq 3
    have q4 := cell_blk bq 4
    have t0 := cell_blk (mq.heap hs (by simp)) 0
    simp only [List.getElem?_toArray, List.getElem?_cons_succ, List.getElem?_cons_zero] at q0 q1 q2 q3 q4 t0
    have CB := Lib.hid (begin_at (h.kept0 mq) { r with f := a, t := b } hu (hm hab) hl hn)
    have HE := Lib.hid (fun w2 (hP : BiPost wq s BB (n + 1) last (S.lay { r with f := a, t := b }) w2) => (show BiPost w s BB (n + 1) last (S.again r a b) w2 from by
      unfold Bs.again
      rw [if_pos hab]
      exact BiPost.step mq.nil (fun k hk => .inl hk) hP))
    unfold rcV at CB
    dsimp only at CB
    clear h hr hs hu bq sq mq
    go_enter Try.func75, Try.ntmps75
    go_wp2_with fail
    refine CB.out.mono ?_
    rintro e w2 ⟨rfl, hP⟩
    have HP := Lib.hid (HE.out w2 hP)
    clear hP CB HE
    go_wp2_with fail
    go_end0
    exact ⟨rfl, HP.out⟩
  · have hd : decide (a < b) = false := decide_eq_false hab
    have hE : Hid (BiPost w s BB (n + 1) last (S.again r a b) w) := Lib.hid (by
      unfold Bs.again
      rw [if_neg hab]
      exact (BiPost.refl h).mono (by omega))
    clear h hr hs hu
    go_enter Try.func75, Try.ntmps75
    go_wp2_with fail
    go_end0
    exact ⟨rfl, hE.out⟩
end Go.Proofs.Ytngglpekdjhbdaa
namespace Go.Proofs.Ytngglpekdjhbdaa
open Go.RowKit Go.ChangeMaps Go.Deep Tr
set_option linter.unusedSimpArgs false
set_option linter.unusedVariables false
set_option maxRecDepth 20000

theorem lay_at {w : World} {s : Nat} {BB : List Nat} {n : Nat} {last : Int} {S : Bs} (h : BiAt w s BB n last S) (r : Rc) (hft : r.f < r.t) (hl : S.rs.length < 90000) :
    Calls Try.prog 76 #[.pointer (some ⟨s, 0, none⟩), rcV r] w fun e w' => e = .returned (.tuple #[]) ∧ BiPost w s BB n last (S.add r) w' := by
  obtain ⟨g, tb, rv, nv, fv, ns, fr, T, BL, H, rfl⟩ := h
  refine (biLay_st H r hft hl).mono ?_
  rintro e w' ⟨rfl, hP⟩
  exact ⟨rfl, hP.post⟩
/-- what Delete leaves -/
theorem del_st {w w4 : World} {s g tb : Nat} {rv nv fv : Value} {ns : List Nd} {fr : List Int} {T : Tr} {BL : List Nat} {n : Nat} {last : Int} {S : Bs} {r : Rc} {i : Nat}
    (h : BiSt w s g tb rv nv fv ns fr T BL n last S) (hi : S.lv i) (hr : S.rs[i]? = some r) (hD : DelPost w tb nv fv ns fr ⟨r.f, r.t, (i : Int) + 1⟩ T w4) : LayPost w s g tb rv nv fv BL n last ⟨S.rs, fun k => S.lv k ∧ k ≠ i, S.g⟩ w4 := by
  obtain ⟨q, T', fv', ns', hd, S', hns, mm, hfv⟩ := hD
  have hx : (⟨r.f, r.t, (i : Int) + 1⟩ : It) ∈ T.items := (h.items _).2 ⟨i, r, hi, hr, rfl⟩
  have hTX := apart_of (biX_T (s := s) (tb := tb) (rv := rv) (nv := nv) (fv := fv)) h.apart
  have hBLm : ∀ k ∈ BL, k ∉ tb :: (blk nv ++ blk fv) := fun k hk hm => h.apartL k (by
    rw [biX_T.mem_iff, List.mem_append]
    exact .inl hm) hk
  obtain ⟨nd1, mb1⟩ := swap_both (biX_F (s := s) (tb := tb) (rv := rv) (nv := nv) (fv := fv)) (biX_F (s := s) (tb := tb) (rv := rv) (nv := nv) (fv := fv')) h.apart h.lt hfv
  have hdp := del_perm h.tree.srt hx hd
  obtain ⟨p', T'', ed, D⟩ := del_some _ T h.tree.srt hx
  rw [hd] at ed
  cases ed
  have hmem : ∀ y, y ∈ T'.items ↔ y ∈ T.items ∧ y ≠ ⟨r.f, r.t, (i : Int) + 1⟩ := fun y => by
    rw [D.items, List.mem_filter]
    simp [ordI_zero]
  have hsz' : T.size = T'.size + 1 := by
    have := hdp.length_eq
    rw [List.length_cons, items_len, items_len] at this
    exact this
  refine ⟨rv, nv, fv', ns', _, T', ⟨mm.heap h.blk (hTX s (by simp)), h.rows.kept mm (fun k hk => hTX k (by simp [mem_blk, hk])), S', h.line.kept mm hBLm, nd1, fun k hk hb => ?_, fun x => ?_, ?_, ?_⟩, ?_, mb1⟩
  · rcases mb1 k hk with hh | hh
    · exact h.apartL k hh hb
    · have := h.line.lt k hb
      omega
  · rw [hmem, h.items]
    constructor
    · rintro ⟨⟨j, y, h1, h2, rfl⟩, hne⟩
      refine ⟨j, y, ⟨h1, fun e => hne ?_⟩, h2, rfl⟩
      subst e
      have h2' : S.rs[j]? = some y := h2
      rw [hr] at h2'
      cases h2'
      rfl
    · rintro ⟨j, y, ⟨h1, hne⟩, h2, rfl⟩
      refine ⟨⟨j, y, h1, h2, rfl⟩, fun e => hne ?_⟩
      simp only [It.mk.injEq] at e
      omega
  · have := h.size
    show T'.size ≤ S.rs.length
    omega
  · have := h.nsl
    show ns'.length ≤ S.rs.length
    omega
  · exact mm.mono fun k hk => by rw [biX_T.mem_iff, List.mem_append]; exact .inl hk
theorem del_again {S : Bs} {i : Nat} {r : Rc} : (⟨S.rs, fun k => S.lv k ∧ k ≠ i, upd S.g r.f r.t 0⟩ : Bs) = S.del i r := rfl
set_option maxHeartbeats 8000000 in
theorem split_at {w : World} {s i : Nat} {BB : List Nat} {n : Nat} {last a b t : Int} {S : Bs} {r : Rc} (h : BiAt w s BB n last S) (hi : S.lv i) (hr : S.rs[i]? = some r) (hu : r.u = 0) (h1 : 1 ≤ r.f) (h2 : r.t ≤ 3652060) (ha : r.f ≤ a) (hab : a < b) (hb : b ≤ r.t) (ht : 1 ≤ t) (hl : S.rs.length ≤ 80000) (hn : n ≤ 39990) :
    Calls Try.prog 49 #[.pointer (some ⟨s, 0, none⟩), .int .i64 ((i : Int) + 1), .agg #[.int .i64 a, .int .i64 b], .int .i64 t] w fun e w' => e = .returned (.tuple #[]) ∧ BiPost w s BB (n + 3) last (S.split i r a b t) w' := by
  have hil := (List.getElem?_eq_some_iff.1 hr).1
  obtain ⟨g, tb, rv, nv, fv, ns, fr, T, BL, H, rfl⟩ := h
  have HLT := Lib.hid (fun k (hk : k ∈ biX s tb rv nv fv ++ BL) => (show k < w.heap.size from by
    rcases List.mem_append.1 hk with hk | hk
    · exact H.lt k hk
    · exact H.line.lt k hk))
  obtain ⟨A1, hA1, n1, s1, m1⟩ := alloc_named2 w (.cells #[.pointer (some ⟨s, 0, none⟩)] 52)
  obtain ⟨A2, hA2, n2, s2, m2⟩ := alloc_named2 A1 (.cells #[.int .i64 a, .int .i64 b] 24)
  obtain ⟨A3, hA3, n3, s3, m3⟩ := alloc_named2 A2 (.cells #[.int .i64 r.f, .int .i64 r.t, .int .i64 r.s, .int .i64 r.u, .int .i64 r.v] 61)
  have HS2 := H.kept0 (m1.trans m2)
  have HS3 := HS2.kept0 m3
  have c23 := cell_blk HS2.blk 3
  have a20 := cell_blk (m2.heap n1 (by simp)) 0
  simp only [List.getElem?_toArray, List.getElem?_cons_succ, List.getElem?_cons_zero] at c23 a20
  have hrow : OwnR encRc 5 61 A2 0 rv S.rs := HS2.rows
  obtain ⟨q, cap, hrv, hq, hcap⟩ := hrow.at_ hr
  subst hrv
  have HRW := Lib.hid (show RcRow A2 0 q S.rs.length cap S.rs from ⟨rfl, hrow⟩)
  have L1 := Lib.hid (HRW.out.load hr)
  obtain ⟨BB, hBB⟩ : ∃ BB, biX s tb (.slice (some ⟨q, 0, none⟩) S.rs.length cap) nv fv ++ BL = BB := ⟨_, rfl⟩
  rw [hBB] at HLT
  have HBB := Lib.hid hBB
  have b3a := m3.heap (m2.heap n1 (by simp)) (by simp)
  have b3d := m3.heap n2 (by simp)
  rw [s1] at b3d
  have b3r := n3
  rw [s2, s1] at b3r
  have HSZ := Lib.hid (show A3.heap.size = w.heap.size + 3 by omega)
  have HBX := Lib.hid (fun (n' : Nat) (S' : Bs) (W : World) (hP : BiPost A3 s BB n' last S' W) => (show W.heap[w.heap.size]? = some (.cells #[.pointer (some ⟨s, 0, none⟩)] 52 (0, 0)) ∧ W.heap[w.heap.size + 1]? = some (.cells #[.int .i64 a, .int .i64 b] 24 (0, 0)) ∧ W.heap[w.heap.size + 1 + 1]? = some (.cells #[.int .i64 r.f, .int .i64 r.t, .int .i64 r.s, .int .i64 r.u, .int .i64 r.v] 61 (0, 0)) from
    ⟨hP.mod.heap b3a (fun hm => by have := HLT.out _ hm; omega), hP.mod.heap b3d (fun hm => by have := HLT.out _ hm; omega), hP.mod.heap b3r (fun hm => by have := HLT.out _ hm; omega)⟩))
  have c31 := cell_blk HS3.blk 1
  have c32 := cell_blk HS3.blk 2
  have x0 := cell_blk b3a 0
  have y0 := cell_blk b3d 0
  have y1 := cell_blk b3d 1
  have r0 := cell_blk b3r 0
  have r1 := cell_blk b3r 1
  have r2 := cell_blk b3r 2
  have r3 := cell_blk b3r 3
  have r4 := cell_blk b3r 4
  simp only [List.getElem?_toArray, List.getElem?_cons_succ, List.getElem?_cons_zero] at c31 c32 x0 y0 y1 r0 r1 r2 r3 r4
  have hx : (⟨r.f, r.t, (i : Int) + 1⟩ : It) ∈ T.items := (H.items _).2 ⟨i, r, hi, hr, rfl⟩
  have CD := Lib.hid (delete_at (HS3.kept0 ((Mod.refl [] A3).drew)).tree ⟨r.f, r.t, (i : Int) + 1⟩ hx (by have := H.size; omega) (by have := H.nsl; omega))
  have HD := Lib.hid (fun w4 (hD : DelPost A3.drew tb nv fv ns fr ⟨r.f, r.t, (i : Int) + 1⟩ T w4) => del_st (HS3.kept0 ((Mod.refl [] A3).drew)) hi hr hD)
  simp only [itV] at CD
  have HM3 := Lib.hid (m1.trans (m2.trans m3))
  have hi0 : decide ((i : Int) < 0) = false := decide_eq_false (by omega)
  have hi1 : decide ((S.rs.length : Int) ≤ (i : Int)) = false := decide_eq_false (by omega)
  have hiN : i < S.rs.length := hil
  have HU := Lib.hid hu
  have HR := Lib.hid hr
  have HI := Lib.hid hi
  have HS1 := Lib.hid s1
  have HS2' := Lib.hid s2
  have HS3' := Lib.hid s3
  have mmay : mayS r.f r.t := ⟨h1, by omega, h2⟩
  clear H HS2 HS3 hrow hq hcap n1 n2 n3 m1 m2 m3 s3 b3a b3d b3r hx hr hi hu hBB hil
  go_enter Try.func49, Try.ntmps49
  go_wp2_with ((with_reducible refine xLoadAt rfl L1.out ?_ ?_ ?_); exact rfl; exact rfl)
  clear s1 s2 hA1 hA2 hA3 L1 c23 a20
  refine wp_plan [([0, 4, 6, 8, 1, 5, 7, 2, 3], 9, [0, 1, 2, 3]), ([], 10, [])] [] (by kernel_rfl) (by kernel_rfl) ?_
  simp only [wpSegs, opsOf, List.map_cons, List.map_nil, opN, List.getD_cons_zero, List.getD_cons_succ]
  go_wp2_with fail
  refine ⟨by first | trivial | rfl, ?_⟩
  go_wp2_with fail
  refine ⟨?ag1, ?_⟩
  case ag1 =>
    intro i hi hw
    simp only [List.mem_cons, List.not_mem_nil, or_false] at hi
    rcases hi with rfl | rfl | rfl | rfl
    all_goals (simp only [opN, List.getD_cons_zero, List.getD_cons_succ, slotOf]; go_simp)
  go_wp2_with fail
  refine ⟨by first | trivial | rfl, ?_⟩
  go_wp2_with fail
  refine CD.out.mono ?_
  rintro e w4 ⟨rfl, hD⟩
  obtain ⟨rv1, nv1, fv1, ns1, fr1, T1, Q, M4, F4⟩ := HD.out w4 hD
  clear hD CD HD c31 c32 x0 y0 y1 r0 r1 r2 r3 r4
  have hd3 : A3.drew.heap.size = A3.heap.size := rfl
  have hmb : ∀ k ∈ biX s tb rv1 nv1 fv1 ++ BL, k ∈ BB ∨ A3.heap.size ≤ k := fun k hk => by
    rw [← HBB.out]
    rcases List.mem_append.1 hk with hk | hk
    · rcases F4 k hk with h | h
      · exact .inl (by simp [h])
      · exact .inr h
    · exact .inl (by simp [hk])
  have mB4 : Mod BB A3 w4 := ((Mod.refl [] A3).drew.nil).trans (M4.mono fun k hk => by rw [← HBB.out]; simp [hk])
  have P4 : BiPost A3 s BB n last ⟨S.rs, fun k => S.lv k ∧ k ≠ i, S.g⟩ w4 := ⟨_, ⟨g, tb, rv1, nv1, fv1, ns1, fr1, T1, BL, Q, rfl⟩, mB4, hmb⟩
  obtain ⟨z1, z2, z3⟩ := HBX.out _ _ _ P4
  have c1 := cell_blk Q.blk 1
  have x0 := cell_blk z1 0
  have r0 := cell_blk z3 0
  have r1 := cell_blk z3 1
  simp only [List.getElem?_toArray, List.getElem?_cons_succ, List.getElem?_cons_zero] at c1 x0 r0 r1
  have CP := Lib.hid (put_line (v := 0) (Q.line.kept0 ((Mod.refl [] w4).drew)) (by omega) mmay)
  have HP5 := Lib.hid (fun w5 (hP : LinePost w4.drew g BL (n + 1) (upd S.g r.f r.t 0) w5) => (show BiPost A3 s BB (n + 1) last (S.del i r) w5 from
    BiPost.step (mB4.trans ((Mod.refl [] w4).drew).nil) hmb ((Q.kept0 ((Mod.refl [] w4).drew)).relined hP)))
  clear Q M4 F4 hd3 hmb mB4 P4 z1 z2 z3
  go_wp2_with fail
  refine ⟨again_nil, ?_⟩
  go_wp2_with fail
  refine ⟨by first | trivial | rfl, ?_⟩
  go_wp2_with fail
  refine wp_plan [([0, 4, 6, 1, 5, 7, 2, 3], 8, [0, 1, 2, 3]), ([], 9, [])] [] (by kernel_rfl) (by kernel_rfl) ?_
  simp only [wpSegs, opsOf, List.map_cons, List.map_nil, opN, List.getD_cons_zero, List.getD_cons_succ]
  go_wp2_with fail
  refine ⟨by first | trivial | rfl, ?_⟩
  go_wp2_with fail
  refine ⟨?ag2, ?_⟩
  case ag2 =>
    intro i hi hw
    simp only [List.mem_cons, List.not_mem_nil, or_false] at hi
    rcases hi with rfl | rfl | rfl | rfl
    all_goals (simp only [opN, List.getD_cons_zero, List.getD_cons_succ, slotOf]; go_simp)
  go_wp2_with fail
  refine ⟨by first | trivial | rfl, ?_⟩
  go_wp2_with fail
  refine CP.out.mono ?_
  rintro e w5 ⟨rfl, hP⟩
  have P5 := HP5.out w5 hP
  clear hP CP HP5 c1 x0 r0 r1
  obtain ⟨z1, z2, z3⟩ := HBX.out _ _ _ P5
  obtain ⟨B5, H5, M5, F5⟩ := P5
  have y0 := cell_blk z2 0
  have r0 := cell_blk z3 0
  simp only [List.getElem?_toArray, List.getElem?_cons_succ, List.getElem?_cons_zero] at y0 r0
  have CA := Lib.hid (again_at (a := r.f) (b := a) H5 r z3 z1 HU.out (fun hlt => ⟨h1, hlt, by omega⟩) (by show S.rs.length < 90000; omega) (by omega))
  have HP6 := Lib.hid (fun w6 (hP : BiPost w5 s B5 (n + 1 + 1) last ((S.del i r).again r r.f a) w6) => (show BiPost A3 s BB (n + 1 + 1) last ((S.del i r).again r r.f a) w6 from BiPost.step M5 F5 hP))
  clear H5 M5 F5 z1 z2 z3
  go_wp2_with fail
  refine ⟨again_nil, ?_⟩
  go_wp2_with fail
  refine ⟨by first | trivial | rfl, ?_⟩
  go_wp2_with fail
  refine CA.out.mono ?_
  rintro e w6 ⟨rfl, hP⟩
  have P6 := HP6.out w6 hP
  clear hP CA HP6 y0 r0
  obtain ⟨z1, z2, z3⟩ := HBX.out _ _ _ P6
  obtain ⟨B6, H6, M6, F6⟩ := P6
  have y1 := cell_blk z2 1
  have r1 := cell_blk z3 1
  simp only [List.getElem?_toArray, List.getElem?_cons_succ, List.getElem?_cons_zero] at y1 r1
  have hl6 := (again_len (S.del i r) r r.f a).2
  have hl6' : (S.del i r).rs.length = S.rs.length := rfl
  have CA := Lib.hid (again_at (a := b) (b := r.t) H6 r z3 z1 HU.out (fun hlt => ⟨by omega, hlt, by omega⟩) (by omega) (by omega))
  have HP7 := Lib.hid (fun w7 (hP : BiPost w6 s B6 (n + 1 + 1 + 1) last (((S.del i r).again r r.f a).again r b r.t) w7) => (show BiPost A3 s BB (n + 3) last (((S.del i r).again r r.f a).again r b r.t) w7 from BiPost.step M6 F6 hP))
  have hl7 := (again_len ((S.del i r).again r r.f a) r b r.t).2
  have HL7 := Lib.hid (show (((S.del i r).again r r.f a).again r b r.t).rs.length < 90000 by omega)
  clear H6 M6 F6 z1 z2 z3 hl6 hl6' hl7
  go_wp2_with fail
  refine CA.out.mono ?_
  rintro e w7 ⟨rfl, hP⟩
  have P7 := HP7.out w7 hP
  clear hP CA HP7 y1 r1
  obtain ⟨z1, z2, z3⟩ := HBX.out _ _ _ P7
  have r2 := cell_blk z3 2
  simp only [List.getElem?_toArray, List.getElem?_cons_succ, List.getElem?_cons_zero] at r2
  by_cases hst : r.s < t
  · have hd : decide (r.s < t) = true := decide_eq_true hst
    have hdr : w7.drew.heap.size = w7.heap.size := rfl
    have z3d := ((Mod.refl [] w7).drew).heap z3 (by simp)
    obtain ⟨X1, hX1⟩ : ∃ X1, w7.drew.setCell ⟨w.heap.size + 1 + 1, 0, none⟩ (.int .i64 a) = X1 := ⟨_, rfl⟩
    obtain ⟨X2, hX2⟩ : ∃ X2, X1.setCell ⟨w.heap.size + 1 + 1, 1, none⟩ (.int .i64 b) = X2 := ⟨_, rfl⟩
    obtain ⟨X3, hX3⟩ : ∃ X3, X2.setCell ⟨w.heap.size + 1 + 1, 3, none⟩ (.int .i64 t) = X3 := ⟨_, rfl⟩
    have v1 := heap_setCell_blk z3d 0 (.int .i64 a)
    rw [hX1] at v1
    simp only [List.setIfInBounds_toArray, List.set_cons_zero, List.set_cons_succ] at v1
    have v2 := heap_setCell_blk v1 1 (.int .i64 b)
    rw [hX2] at v2
    simp only [List.setIfInBounds_toArray, List.set_cons_zero, List.set_cons_succ] at v2
    have v3 := heap_setCell_blk v2 3 (.int .i64 t)
    rw [hX3] at v3
    simp only [List.setIfInBounds_toArray, List.set_cons_zero, List.set_cons_succ] at v3
    have k1 : Mod [w.heap.size + 1 + 1] w7 X1 := by rw [← hX1]; exact ((Mod.refl _ _).drew).setCell (by simp) _
    have k2 : Mod [w.heap.size + 1 + 1] X1 X2 := by rw [← hX2]; exact (Mod.refl _ _).setCell (by simp) _
    have k3 : Mod [w.heap.size + 1 + 1] X2 X3 := by rw [← hX3]; exact (Mod.refl _ _).setCell (by simp) _
    have y0 := cell_blk z2 0
    have y1 := cell_blk z2 1
    have y1' := cell_blk (k1.heap z2 (by simp)) 1
    have x3 := cell_blk ((k1.trans (k2.trans k3)).heap z1 (by simp; omega)) 0
    have g0 := cell_blk z3 0
    have f0 := frozen_blk z3 0
    have g1 := cell_blk v1 1
    have f1 := frozen_blk v1 1
    have g3 := cell_blk v2 3
    have f3 := frozen_blk v2 3
    have u0 := cell_blk v3 0
    have u1 := cell_blk v3 1
    have u2 := cell_blk v3 2
    have u3 := cell_blk v3 3
    have u4 := cell_blk v3 4
    simp only [List.getElem?_toArray, List.getElem?_cons_succ, List.getElem?_cons_zero] at y0 y1 y1' x3 g0 g1 g3 u0 u1 u2 u3 u4
    obtain ⟨B7, H7, M7, F7⟩ := P7
    have hR7 : ∀ k ∈ B7, k ∉ [w.heap.size + 1 + 1] := fun k hk hm => by
      rw [List.mem_singleton] at hm
      have hz := HSZ.out
      rcases F7 k hk with h | h
      · have := HLT.out k h
        omega
      · omega
    have CL := Lib.hid (lay_at (H7.kept (k1.trans (k2.trans k3)) hR7) { r with f := a, t := b, u := t } hab HL7.out)
    have HP8 := Lib.hid (fun w8 (hP : BiPost X3 s B7 (n + 3) last ((((S.del i r).again r r.f a).again r b r.t).add { r with f := a, t := b, u := t }) w8) => (show BiPost w s BB (n + 3) last (S.split i r a b t) w8 from by
      have e : S.split i r a b t = (((S.del i r).again r r.f a).again r b r.t).add { r with f := a, t := b, u := t } := by
        unfold Bs.split
        rw [if_pos hst, lay_shut (by show t ≠ 0; omega)]
      rw [e]
      have mX : Mod BB w X3 := Mod.into' (HM3.out.nil.trans M7) (k1.trans (k2.trans k3)) (fun k hk => by
        rw [List.mem_singleton] at hk
        exact .inl (by omega))
      have hz := HSZ.out
      exact BiPost.step mX (fun k hk => (F7 k hk).imp id (fun h => by omega)) hP))
    unfold rcV at CL
    dsimp only at CL
    clear H7 M7 F7 hR7 k1 k2 k3 v1 v2 v3 z1 z2 z3 z3d hdr
    go_wp2_with fail
    refine wp_plan [([0, 2, 4, 1, 3, 5], 6, [2, 3]), ([7], 8, []), ([9], 10, [])] [] (by kernel_rfl) (by kernel_rfl) ?_
    simp only [wpSegs, opsOf, List.map_cons, List.map_nil, opN, List.getD_cons_zero, List.getD_cons_succ]
    go_wp2_with fail
    refine ⟨by first | trivial | rfl, ?_⟩
    go_wp2_with fail
    refine ⟨?ag3, ?_⟩
    case ag3 =>
      intro i hi hw
      simp only [List.mem_cons, List.not_mem_nil, or_false] at hi
      rcases hi with rfl | rfl
      all_goals (simp only [opN, List.getD_cons_zero, List.getD_cons_succ, slotOf]; go_simp)
    go_wp2_with fail
    refine ⟨by first | trivial | rfl, ?_⟩
    go_wp2_with fail
    refine ⟨again_nil, ?_⟩
    go_wp2_with fail
    refine ⟨by first | trivial | rfl, ?_⟩
    go_wp2_with fail
    refine ⟨again_nil, ?_⟩
    go_wp2_with fail
    refine ⟨by first | trivial | rfl, ?_⟩
    go_wp2_with fail
    refine CL.out.mono ?_
    rintro e w8 ⟨rfl, hP⟩
    have HE := Lib.hid (HP8.out w8 hP)
    clear hP CL HP8
    go_wp2_with fail
    go_end0
    exact ⟨rfl, by rw [HBB.out]; exact HE.out⟩
  · have hd : decide (r.s < t) = false := decide_eq_false hst
    have HE : Hid (BiPost w s BB (n + 3) last (S.split i r a b t) w7) := Lib.hid (by
      unfold Bs.split
      rw [if_neg hst]
      exact BiPost.step HM3.out.nil (fun k hk => .inl hk) P7)
    clear P7 z1 z2 z3
    go_wp2_with fail
    go_end0
    exact ⟨rfl, by rw [HBB.out]; exact HE.out⟩
end Go.Proofs.Ytngglpekdjhbdaa
namespace Go.Proofs.Ytngglpekdjhbdaa
open Go.RowKit Go.ChangeMaps Go.Deep Tr
set_option linter.unusedSimpArgs false
set_option linter.unusedVariables false
set_option maxRecDepth 20000

theorem value_zero (w : World) (s : Nat) : Calls Try.prog 48 #[.pointer (some ⟨s, 0, none⟩), .int .i64 0] w fun e w' => e = .returned (.int .i64 0) ∧ w' = w := by
  go_enter Try.func48, Try.ntmps48
  go_wp2_with fail
  go_ret
  exact ⟨rfl, rfl⟩
theorem value_some {w : World} {s : Nat} {BB : List Nat} {n : Nat} {last : Int} {S : Bs} (h : BiAt w s BB n last S) {i : Nat} {r : Rc} (hr : S.rs[i]? = some r) (hl : S.rs.length ≤ 90000) :
    Calls Try.prog 48 #[.pointer (some ⟨s, 0, none⟩), .int .i64 ((i : Int) + 1)] w fun e w' => e = .returned (.int .i64 r.v) ∧ w' = w := by
  obtain ⟨g, tb, rv, nv, fv, ns, fr, T, BL, H, rfl⟩ := h
  have hil := (List.getElem?_eq_some_iff.1 hr).1
  have he := (List.getElem?_eq_some_iff.1 hr).2
  have c3 := cell_blk H.blk 3
  simp only [List.getElem?_toArray, List.getElem?_cons_succ, List.getElem?_cons_zero] at c3
  have hrow : OwnR encRc 5 61 w 0 rv S.rs := H.rows
  obtain ⟨q, cap, rfl, hq, hcap⟩ := hrow.at_ hr
  have v4 := (hrow.cell encRc_len hil (j := 4) (by omega) (u := .int .i64 r.v) (by rw [he]; rfl)).1
  have hd : decide (0 < (i : Int) + 1) = true := decide_eq_true (by omega)
  have hi0 : decide ((i : Int) < 0) = false := decide_eq_false (by omega)
  have hi1 : decide ((S.rs.length : Int) ≤ (i : Int)) = false := decide_eq_false (by omega)
  clear H hrow hr he hcap hq
  go_enter Try.func48, Try.ntmps48
  go_wp2_with fail
  go_ret
  exact ⟨rfl, rfl⟩
/-- the value of a segment's number -/
theorem value_seg {w : World} {s : Nat} {BB : List Nat} {n : Nat} {last a b id : Int} {S : Bs} (h : BiAt w s BB n last S) (hs : SegId S a b id) (hl : S.rs.length ≤ 90000) :
    Calls Try.prog 48 #[.pointer (some ⟨s, 0, none⟩), .int .i64 id] w fun e w' => e = .returned (.int .i64 (S.val id)) ∧ w' = w := by
  rcases hs with ⟨rfl, _⟩ | ⟨h0, r, h1, h2, _⟩
  · exact value_zero w s
  · have hid : id = (((id - 1).toNat : Nat) : Int) + 1 := by omega
    have hv : S.val id = r.v := by unfold Bs.val; rw [if_pos h0, h2]; rfl
    rw [hv]
    generalize (id - 1).toNat = i at h2 hid
    subst hid
    exact value_some h h2 hl
/-- the last transaction is written -/
theorem BiAt.setLast {w : World} {s : Nat} {BB : List Nat} {n : Nat} {last : Int} {S : Bs} (h : BiAt w s BB n last S) (t : Int) : BiAt (w.setCell ⟨s, 0, none⟩ (.int .i64 t)) s BB n t S ∧ Mod BB w (w.setCell ⟨s, 0, none⟩ (.int .i64 t)) ∧ w.cell? ⟨s, 0, none⟩ = some (.int .i64 last) ∧ w.frozen? ⟨s, 0, none⟩ = false := by
  obtain ⟨g, tb, rv, nv, fv, ns, fr, T, BL, H, rfl⟩ := h
  have m : Mod [s] w (w.setCell ⟨s, 0, none⟩ (.int .i64 t)) := (Mod.refl _ _).setCell (by simp) _
  have hs0 : s ∉ tb :: (blk rv ++ (blk nv ++ blk fv)) := (List.nodup_cons.1 H.apart).1
  have hs1 : ∀ k ∈ tb :: (blk rv ++ (blk nv ++ blk fv)), k ∉ [s] := fun k hk hm => by
    rw [List.mem_singleton] at hm
    subst hm
    exact hs0 hk
  have hsL : ∀ k ∈ BL, k ∉ [s] := fun k hk hm => by
    rw [List.mem_singleton] at hm
    subst hm
    exact H.apartL k (by simp [biX]) hk
  have hb := heap_setCell_blk H.blk 0 (.int .i64 t)
  have c0 := cell_blk H.blk 0
  simp only [List.getElem?_toArray, List.getElem?_cons_succ, List.getElem?_cons_zero] at c0
  refine ⟨⟨g, tb, rv, nv, fv, ns, fr, T, BL, ⟨by simpa using hb, H.rows.kept m (fun k hk => hs1 k (by simp [mem_blk, hk])), H.tree.keptL m (hs1 tb (by simp)) (fun k hk => hs1 k (by simp [mem_blk, hk])) (fun k hk => hs1 k (by simp [mem_blk, hk])), H.line.kept m hsL, H.apart, H.apartL, H.items, H.size, H.nsl⟩, rfl⟩, m.mono fun k hk => by rw [List.mem_singleton] at hk; subst hk; simp [biX], c0, frozen_blk H.blk 0⟩
def emptyB : Bs := ⟨[], fun _ => False, fun _ => 0⟩
theorem btNew_at (w : World) : Calls Try.prog 22 #[] w fun e w' => ∃ s BB, e = .returned (.pointer (some ⟨s, 0, none⟩)) ∧ BiAt w' s BB 0 0 emptyB ∧ Mod [] w w' ∧ ∀ k ∈ BB, w.heap.size ≤ k := by
  obtain ⟨A1, hA1, n1, s1, m1⟩ := alloc_named2 w (.cells #[.int .i64 1000000, .slice none 0 0, .slice none 0 0, .int .i64 (-1), .int .i64 0] 126)
  have T1 := avNew_st w
  rw [hA1] at T1
  have HT := Lib.hid T1
  have HA := Lib.hid hA1
  have CA := Lib.hid (avNew_at w)
  have CT := Lib.hid (tlNew_line A1)
  have HM1 := Lib.hid m1
  have HS1 := Lib.hid s1
  clear T1 hA1 n1 s1 m1
  go_enter Try.func22, Try.ntmps22
  go_wp2_with fail
  refine CA.out.mono ?_
  rintro e w1 ⟨rfl, hw1⟩
  rw [HA.out] at hw1
  rw [hw1]
  clear hw1
  go_wp2_with fail
  refine CT.out.mono ?_
  rintro e w2 ⟨rfl, hl, m2⟩
  obtain ⟨A3, hA3, n3, s3, m3⟩ := alloc_named2 w2 (.cells #[.int .i64 0, .pointer (some ⟨A1.heap.size + 1, 0, none⟩), .pointer (some ⟨w.heap.size, 0, none⟩), .slice none 0 0] 102)
  have HE := Lib.hid (show BiAt A3 w2.heap.size (biX w2.heap.size w.heap.size (.slice none 0 0) (.slice none 0 0) (.slice none 0 0) ++ [A1.heap.size + 1, A1.heap.size]) 0 0 emptyB ∧ Mod [] w A3 ∧ ∀ k ∈ biX w2.heap.size w.heap.size (.slice none 0 0) (.slice none 0 0) (.slice none 0 0) ++ [A1.heap.size + 1, A1.heap.size], w.heap.size ≤ k from by
    have h1 := HS1.out
    have h2 := m2.size
    have hgl := hl.lt _ hl.mem
    have hne : w2.heap.size ≠ w.heap.size := by omega
    have hX : biX w2.heap.size w.heap.size (.slice none 0 0) (.slice none 0 0) (.slice none 0 0) = [w2.heap.size, w.heap.size] := rfl
    rw [hX]
    refine ⟨⟨_, _, _, _, _, [], [], .nil, _, ⟨n3, OwnR.nil_ _ _, (HT.out.kept0 (m2.trans m3)), hl.kept0 m3, by rw [hX]; simp [hne], fun k hk => ?_, fun x => ?_, by simp [Tr.size], by simp⟩, by rw [hX]⟩, HM1.out.trans (m2.trans m3), fun k hk => ?_⟩
    · rw [hX] at hk
      simp only [List.mem_cons, List.not_mem_nil, or_false] at hk ⊢
      omega
    · simp [Tr.items, emptyB]
    · simp only [List.mem_append, List.mem_cons, List.not_mem_nil, or_false] at hk
      omega)
  clear hl m2 n3 m3 CA CT
  go_wp2_with fail
  go_ret
  exact ⟨_, _, rfl, HE.out⟩
/-- a put of a transaction that may not be -/
theorem put_arg {w : World} {s : Nat} {BB : List Nat} {n : Nat} {last a b t v : Int} {S : Bs} (h : BiAt w s BB n last S) (ht : t < 1 ∨ t < last) :
    Calls Try.prog 23 #[.pointer (some ⟨s, 0, none⟩), .int .i64 t, .agg #[.int .i64 a, .int .i64 b], .int .i64 v] w fun e w' => e = .returned (.int .i64 2) ∧ Mod [] w w' := by
  have m1 := (Mod.refl [] w).alloc (.cells #[.int .i64 a, .int .i64 b] 24)
  have CN := Lib.hid (biNone_at (h.kept0 m1))
  have c0 := ((h.kept0 m1).setLast 0).2.2.1
  have HM := Lib.hid m1
  clear h m1
  by_cases h1 : t < 1
  · have hd : decide (t < 1) = true := decide_eq_true h1
    go_enter Try.func23, Try.ntmps23
    go_wp2_with fail
    refine CN.out.mono ?_
    rintro e w1 ⟨rfl, rfl⟩
    go_wp2_with fail
    go_ret
    exact ⟨rfl, HM.out⟩
  · have h2 : t < last := by omega
    have hd : decide (t < 1) = false := decide_eq_false h1
    have hd2 : decide (t < last) = true := decide_eq_true h2
    go_enter Try.func23, Try.ntmps23
    go_wp2_with fail
    refine CN.out.mono ?_
    rintro e w1 ⟨rfl, rfl⟩
    go_wp2_with fail
    go_ret
    exact ⟨rfl, HM.out⟩
/-- a put over days that may not be -/
theorem put_span {w : World} {s : Nat} {BB : List Nat} {n : Nat} {last a b t v : Int} {S : Bs} (h : BiAt w s BB n last S) (ht : ¬ (t < 1 ∨ t < last)) (hm : ¬ mayS a b) :
    Calls Try.prog 23 #[.pointer (some ⟨s, 0, none⟩), .int .i64 t, .agg #[.int .i64 a, .int .i64 b], .int .i64 v] w fun e w' => e = .returned (.int .i64 15) ∧ Mod [] w w' := by
  obtain ⟨A1, hA1, n1, s1, m1⟩ := alloc_named2 w (.cells #[.int .i64 a, .int .i64 b] 24)
  have CN := Lib.hid (biNone_at (h.kept0 m1))
  have c0 := ((h.kept0 m1).setLast 0).2.2.1
  obtain ⟨g, tb, rv, nv, fv, ns, fr, T, BL, H, rfl⟩ := h
  have H1 := H.kept0 m1
  have c1 := cell_blk H1.blk 1
  have y0 := cell_blk n1 0
  have y1 := cell_blk n1 1
  simp only [List.getElem?_toArray, List.getElem?_cons_succ, List.getElem?_cons_zero] at c1 y0 y1
  have CS := Lib.hid (segs_not ((H1.kept0 ((Mod.refl [] A1).drew)).line) hm)
  have HM := Lib.hid m1
  have hd : decide (t < 1) = false := decide_eq_false (by omega)
  have hd2 : decide (t < last) = false := decide_eq_false (by omega)
  clear H H1 m1 n1 s1
  go_enter Try.func23, Try.ntmps23
  go_wp2_with fail
  refine CN.out.mono ?_
  rintro e w1 ⟨rfl, rfl⟩
  go_wp2_with fail
  refine wp_plan [([0, 4, 1, 2, 3], 5, [])] [6] (by kernel_rfl) (by kernel_rfl) ?_
  simp only [wpSegs, opsOf, List.map_cons, List.map_nil, opN, List.getD_cons_zero, List.getD_cons_succ]
  go_wp2_with fail
  refine ⟨by first | trivial | rfl, ?_⟩
  go_wp2_with fail
  refine CS.out.mono ?_
  rintro e w2 ⟨rfl, m2⟩
  have HM2 := Lib.hid ((HM.out.trans ((Mod.refl [] _).drew)).trans m2)
  clear m2
  go_wp2_with fail
  refine ⟨again_nil, ?_⟩
  go_wp2_with fail
  refine ⟨by first | trivial | rfl, ?_⟩
  go_wp2_with fail
  go_ret
  exact ⟨rfl, HM2.out⟩
end Go.Proofs.Ytngglpekdjhbdaa
