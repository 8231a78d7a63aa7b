/- Layer 13: the timeline of a transaction, its segments. -/
import Derived.Test.YtngglpekdjhbdaaBzV
namespace Go.Proofs.Ytngglpekdjhbdaa
open Go.RowKit Go.ChangeMaps Go.Deep Tr
set_option linter.unusedSimpArgs false
set_option linter.unusedVariables false
set_option maxRecDepth 20000

def gfold (t : Int) (R : List Rc) : Int → Int := R.foldl (fun g r => if hasB t r = true then upd g r.f r.t r.v else g) (fun _ => 0)
theorem gfold_snoc (t : Int) (R : List Rc) (r : Rc) : gfold t (R ++ [r]) = if hasB t r = true then upd (gfold t R) r.f r.t r.v else gfold t R := by unfold gfold; rw [List.foldl_append]; rfl
theorem gfold_at (t d : Int) (R : List Rc) : gfold t R d = wantF t d R := by
  have h : ∀ (m : Nat) (R : List Rc), R.length = m → gfold t R d = wantF t d R := by
    intro m
    induction m with
    | zero => intro R h; rw [List.length_eq_zero_iff] at h; subst h; rfl
    | succ m ih =>
      intro R h
      rcases List.eq_nil_or_concat R with rfl | ⟨R', r, rfl⟩
      · simp at h
      · rw [List.concat_eq_append] at *
        have hl : R'.length = m := by simpa using h
        rw [gfold_snoc, wantF_snoc, ← ih R' hl]
        unfold pB upd
        cases hb : hasB t r with
        | false => simp
        | true =>
          by_cases h1 : r.f ≤ d <;> by_cases h2 : d < r.t <;> simp [h1, h2]
  exact h _ R rfl
/-- the live rectangles, in whatever order -/
def RectsMem (S : Bs) (R : List Rc) : Prop := ∀ r, r ∈ R ↔ ∃ i, S.lv i ∧ S.rs[i]? = some r
set_option maxHeartbeats 16000000 in
theorem line13_at {w : World} {s : Nat} {BB : List Nat} {n : Nat} {last last0 : Int} {S : Bs} (h : BiAt w s BB n last S) (hS : S.Ok last0) (hl : S.rs.length ≤ 30000) (t : Int) :
    Calls Try.prog 73 #[.pointer (some ⟨s, 0, none⟩), .int .i64 t] w fun e w' => ∃ g B R, e = .returned (.pointer (some ⟨g, 0, none⟩)) ∧ RectsMem S R ∧ LineAt w' g B 30000 (gfold (min (max t 0) last) R) ∧ Mod [] w w' := by
  have CT := Lib.hid (tlNew_line w)
  have CN := Lib.hid (fun W (m : Mod [] w W) => biNone_at (h.kept0 m))
  have CH := Lib.hid (fun W (m : Mod [] w W) => held_at (h.kept0 m) t)
  obtain ⟨g, tb, rv, nv, fv, ns, fr, T, BL, H, rfl⟩ := h
  have HH := Lib.hid H
  have hTs : T.size ≤ 30000 := by have := H.size; omega
  have CI := Lib.hid (fun W (m : Mod [] w W) => items_at (H.kept0 m).tree (by omega))
  have HS := Lib.hid hS
  have HLT := Lib.hid (fun k (hk : k ∈ biX s tb rv nv fv ++ BL) => (show k < w.heap.size from by
    rcases List.mem_append.1 hk with hk | hk
    · exact H.lt k hk
    · exact H.line.lt k hk))
  obtain ⟨t', ht'⟩ : ∃ t', min (max t 0) last = t' := ⟨_, rfl⟩
  rw [ht'] at CH ⊢
  clear H hS ht'
  go_enter Try.func73, Try.ntmps73
  go_wp2_with fail
  refine CT.out.mono ?_
  rintro e w1 ⟨rfl, hln, m1⟩
  have CN1 := Lib.hid (CN.out w1 m1)
  have HM1 := Lib.hid m1
  have HLN := Lib.hid hln
  clear CT hln m1 CN
  go_wp2_with fail
  refine CN1.out.mono ?_
  rintro e w1 ⟨rfl, rfl⟩
  have CH1 := Lib.hid (CH.out w1 HM1.out)
  go_wp2_with fail
  refine CH1.out.mono ?_
  rintro e w2 ⟨rfl, m2⟩
  have HM2 := Lib.hid (HM1.out.trans m2)
  have HLN2 := Lib.hid (HLN.out.kept0 m2)
  have H2 := HH.out.kept0 HM2.out
  have c2 := cell_blk H2.blk 2
  simp only [List.getElem?_toArray, List.getElem?_cons_succ, List.getElem?_cons_zero] at c2
  have CI2 := Lib.hid (CI.out w2 HM2.out)
  clear CI CH CH1 CN1 H2 m2 HLN
  go_wp2_with fail
  refine CI2.out.mono ?_
  rintro e w3 ⟨v, rfl, oL, m3⟩
  obtain ⟨L, hL⟩ : ∃ L, T.items = L := ⟨_, rfl⟩
  rw [hL] at oL
  have hLl : L.length ≤ 30000 := by rw [← hL, items_len]; exact hTs
  obtain ⟨la, lc, rfl⟩ := oL.lens
  obtain ⟨N, hN⟩ : ∃ N, L.length = N := ⟨_, rfl⟩
  rw [hN] at oL hLl ⊢
  have HL := Lib.hid hL
  have HO := Lib.hid oL
  have HNN := Lib.hid hN
  have HM3 := Lib.hid (HM2.out.trans m3)
  have hg1 := HLN2.out.lt _ HLN2.out.mem
  have HROW := Lib.hid (show ∀ k, (Value.slice la N lc).ownBlock = some k → w.heap.size + 1 < k ∧ k < w3.heap.size from fun k hk => by
    have := World.ownsRow.lt oL k hk
    omega)
  have HLP : Hid (LinePost w3 (w.heap.size + 1) [w.heap.size + 1, w.heap.size] 0 (gfold t' ((L.take 0).map (rcOf S))) w3) := Lib.hid ⟨_, HLN2.out.kept0 m3, Mod.refl _ _, fun k hk => .inl hk⟩
  clear hL oL hN m3 CI2 c2 hg1
  go_wp2_with fail
  go_loopw [22] (fun s22 W => ∃ j : Nat, j ≤ N ∧ s22 = .int .i64 j ∧ Hid (LinePost w3 (w.heap.size + 1) [w.heap.size + 1, w.heap.size] j (gfold t' ((L.take j).map (rcOf S))) W)) (fun s22 _ => N - (intOf s22).toNat)
  case atStart => exact ⟨0, by omega, rfl, HLP⟩
  case round =>
    obtain ⟨j, hj, rfl, hP⟩ := hrel
    clear HLP
    obtain ⟨Bj, hLj, hMj, hFj⟩ := hP.out
    by_cases hlt : j < N
    · obtain ⟨x, hx⟩ : ∃ x, L[j]? = some x := ⟨L[j]'(by rw [HNN.out]; exact hlt), List.getElem?_eq_getElem _⟩
      have hjl := (List.getElem?_eq_some_iff.1 hx).1
      have hje := (List.getElem?_eq_some_iff.1 hx).2
      obtain ⟨i, r, i1, i2, i3, i4⟩ := items_rc HH.out.items (show x ∈ T.items by rw [HL.out]; exact List.mem_of_getElem? hx)
      have hiN := (List.getElem?_eq_some_iff.1 i2).1
      have hok := HS.out.ok i r i1 i2
      have HTK := Lib.hid (show gfold t' ((L.take (j + 1)).map (rcOf S)) = if hasB t' r = true then upd (gfold t' ((L.take j).map (rcOf S))) r.f r.t r.v else gfold t' ((L.take j).map (rcOf S)) from by
        rw [List.take_succ_eq_append_getElem hjl, hje, List.map_append, List.map_singleton, i4, gfold_snoc])
      have hoW : OwnR encIt 3 92 wr w2.heap.size (.slice la L.length lc) L := by
        rw [HNN.out]
        exact HO.out.kept hMj (fun k hk hm => by
          have := HROW.out k hk
          simp only [List.mem_cons, List.not_mem_nil, or_false] at hm
          omega)
      obtain ⟨q, cap, heq, hq, hcap⟩ := hoW.at_ hx
      simp only [Value.slice.injEq] at heq
      obtain ⟨rfl, _, rfl⟩ := heq
      have hrow : wr.rangeAt q (j * 3) [.int .i64 r.f, .int .i64 r.t, .int .i64 ((i : Int) + 1)] := fun jj u hu => (hoW.cell encIt_len hjl (j := jj) (by have := (List.getElem?_eq_some_iff.1 hu).1; simpa using this) (u := u) (by rw [hje, i3]; exact hu)).1
      have HLI := Lib.hid (run_loadAt_mid (P := Try.prog) _ q (j * 3) 92 _ _ hrow Try.underlying92 rfl (by kernel_rfl))
      obtain ⟨X, hX, nX, sX, mX⟩ := alloc_named2 wr (.cells #[.int .i64 r.f, .int .i64 r.t, .int .i64 ((i : Int) + 1)] 92)
      have Hw := ((HH.out.kept0 HM3.out).kept hMj (fun k hk hm => by
        have := HLT.out k (by simp [hk])
        simp only [List.mem_cons, List.not_mem_nil, or_false] at hm
        omega) (fun k hk hm => by
        have := HLT.out k (by simp [hk])
        simp only [List.mem_cons, List.not_mem_nil, or_false] at hm
        omega)).kept0 mX
      have hrr : OwnR encRc 5 61 X 0 rv S.rs := Hw.rows
      obtain ⟨p, pc, hrv, hp, hpc⟩ := hrr.at_ i2
      have c3 := cell_blk Hw.blk 3
      have e2 := cell_blk nX 2
      simp only [List.getElem?_toArray, List.getElem?_cons_succ, List.getElem?_cons_zero] at c3 e2
      subst hrv
      have RR : RcRow X 0 p S.rs.length pc S.rs := ⟨rfl, hrr⟩
      have LR := Lib.hid ((RR.kept0 ((Mod.refl [] X).drew)).load i2)
      have mz := (Mod.refl [] X).alloc (.cells #[.int .i64 0, .int .i64 0, .int .i64 0, .int .i64 0, .int .i64 0] 61)
      obtain ⟨p0, p1, p2, p3, p4⟩ := (RR.kept0 mz).cells i2
      have c3z := cell_blk (mz.heap Hw.blk (by simp)) 3
      have e2z := cell_blk (mz.heap nX (by simp)) 2
      simp only [List.getElem?_toArray, List.getElem?_cons_succ, List.getElem?_cons_zero] at c3z e2z
      have hj0 : decide ((j : Int) < 0) = false := decide_eq_false (by omega)
      have hj1 : decide ((N : Int) ≤ (j : Int)) = false := decide_eq_false (by omega)
      have hj2 : decide ((j : Int) < (N : Int)) = true := decide_eq_true (by omega)
      have hi0 : decide ((i : Int) < 0) = false := decide_eq_false (by omega)
      have hi1 : decide ((S.rs.length : Int) ≤ (i : Int)) = false := decide_eq_false (by omega)
      obtain ⟨Y, hY, nY, sY, mY⟩ := alloc_named2 X (.cells #[.int .i64 r.f, .int .i64 r.t, .int .i64 r.s, .int .i64 r.u, .int .i64 r.v] 61)
      have y0 := cell_blk nY 0
      have y1 := cell_blk nY 1
      have y2 := cell_blk nY 2
      have y3 := cell_blk nY 3
      have y4 := cell_blk nY 4
      simp only [List.getElem?_toArray, List.getElem?_cons_succ, List.getElem?_cons_zero] at y0 y1 y2 y3 y4
      have CHS := Lib.hid (has_any r t' Y.drew)
      have HMY := Lib.hid (mX.trans (mY.trans ((Mod.refl [] Y).drew)))
      have HNY := Lib.hid nY
      have HSX := Lib.hid sX
      have HLJ := Lib.hid hLj
      have HMJ := Lib.hid hMj
      have HFJ := Lib.hid hFj
      have HOKR := Lib.hid (show mayS r.f r.t from ⟨hok.2.1, hok.2.2.1, hok.2.2.2.1⟩)
      clear hrow hoW hq hcap hp hpc Hw hrr RR nX mX mz nY sY mY sX hLj hMj hFj hok i1 i2 i3 i4 hx hjl hje hP
      go_wp2_with ((with_reducible refine xLoadAt rfl HLI.out ?_ ?_ ?_); exact rfl; exact rfl)
      clear hX
      refine wp_plan [([0, 4, 1, 5, 2, 6, 3, 7, 8], 9, [4, 1, 5, 2, 6, 3, 7, 8]), ([], 10, [])] [] (by kernel_rfl) (by kernel_rfl) ?_
      simp only [wpSegs, opsOf, List.map_cons, List.map_nil, opN, List.getD_cons_zero, List.getD_cons_succ]
      go_wp2_with ((with_reducible refine xLoadAt rfl LR.out ?_ ?_ ?_); exact rfl; exact rfl)
      refine ⟨by first | trivial | rfl, ?_⟩
      go_wp2_with fail
      refine ⟨?ag1, ?_⟩
      case ag1 =>
        intro i hi hw
        simp only [List.mem_cons, List.not_mem_nil, or_false] at hi
        rcases hi with rfl | rfl | rfl | rfl | rfl | rfl | rfl | rfl
        all_goals ((simp only [opN, List.getD_cons_zero, List.getD_cons_succ, slotOf]; go_simp) <;> (first | done | (rw [IntKind.wrap_i64]; omega)))
      go_wp2_with fail
      refine ⟨by first | trivial | rfl, ?_⟩
      go_wp2_with fail
      refine ⟨again_nil, ?_⟩
      go_wp2_with fail
      refine ⟨by first | trivial | rfl, ?_⟩
      go_wp2_with fail
      unfold rcV at CHS
      refine CHS.out.mono ?_
      rintro e w4 ⟨rfl, m4⟩
      have hn4 := m4.heap (((Mod.refl [] Y).drew).heap HNY.out (by simp)) (by simp)
      have z0 := cell_blk hn4 0
      have z1 := cell_blk hn4 1
      have z4 := cell_blk hn4 4
      simp only [List.getElem?_toArray, List.getElem?_cons_succ, List.getElem?_cons_zero] at z0 z1 z4
      have hM4 := HMY.out.trans m4
      have CP := Lib.hid (put_line (v := r.v) (HLJ.out.kept0 hM4) (by omega) HOKR.out)
      have HM4 := Lib.hid hM4
      clear CHS m4 hn4 y0 y1 y2 y3 y4 hY hM4
      by_cases hb : hasB t' r = true
      · have HG := Lib.hid (show gfold t' ((L.take (j + 1)).map (rcOf S)) = upd (gfold t' ((L.take j).map (rcOf S))) r.f r.t r.v by rw [HTK.out, if_pos hb])
        rw [hb]
        clear hb
        go_wp2_with fail
        refine CP.out.mono ?_
        rintro e w5 ⟨rfl, hP5⟩
        have HN : Hid (LinePost w3 (w.heap.size + 1) [w.heap.size + 1, w.heap.size] (j + 1) (gfold t' ((L.take (j + 1)).map (rcOf S))) w5) := Lib.hid (by
          obtain ⟨B5, q1, q2, q3⟩ := hP5
          rw [HG.out]
          refine ⟨B5, q1, Mod.into' (HMJ.out.trans HM4.out.nil) q2 (fun k hk => (HFJ.out k hk).symm), fun k hk => ?_⟩
          rcases q3 k hk with hh | hh
          · exact HFJ.out k hh
          · have h1 := HMJ.out.size
            have h2 := HM4.out.size
            exact .inr (by omega))
        clear hP5 CP
        go_wp2_with fail
        go_roundw
        case rel => exact ⟨j + 1, by omega, by go_num, HN⟩
        case measure => simp [intOf]; omega
      · have hb' : hasB t' r = false := by simpa using hb
        have HG := Lib.hid (show gfold t' ((L.take (j + 1)).map (rcOf S)) = gfold t' ((L.take j).map (rcOf S)) by rw [HTK.out, if_neg hb])
        have HN : Hid (LinePost w3 (w.heap.size + 1) [w.heap.size + 1, w.heap.size] (j + 1) (gfold t' ((L.take (j + 1)).map (rcOf S))) w4) := Lib.hid (by
          rw [HG.out]
          exact ⟨Bj, (HLJ.out.kept0 HM4.out).mono (by omega), HMJ.out.trans HM4.out.nil, HFJ.out⟩)
        rw [hb']
        clear hb hb' CP
        go_wp2_with fail
        go_roundw
        case rel => exact ⟨j + 1, by omega, by go_num, HN⟩
        case measure => simp [intOf]; omega
    · obtain rfl : j = N := by omega
      have hj2 : decide ((j : Int) < (j : Int)) = false := decide_eq_false (by omega)
      have HE := Lib.hid (show RectsMem S (L.map (rcOf S)) ∧ LineAt wr (w.heap.size + 1) Bj 30000 (gfold t' (L.map (rcOf S))) ∧ Mod [] w wr from by
        refine ⟨fun r => ?_, ?_, Mod.into' HM3.out hMj (fun k hk => .inl (by simp only [List.mem_cons, List.not_mem_nil, or_false] at hk; omega))⟩
        · rw [List.mem_map]
          constructor
          · rintro ⟨x, hx, rfl⟩
            obtain ⟨i, r, h1, h2, _, h4⟩ := items_rc HH.out.items (show x ∈ T.items by rw [HL.out]; exact hx)
            exact ⟨i, h1, by rw [h4]; exact h2⟩
          · rintro ⟨i, h1, h2⟩
            exact ⟨_, by rw [← HL.out]; exact (HH.out.items _).2 ⟨i, r, h1, h2, rfl⟩, rcOf_item h2 rfl⟩
        · rw [← HNN.out, List.take_length] at hLj
          exact hLj.mono (by rw [HNN.out]; omega))
      clear hLj hMj hFj hP
      go_wp2_with fail
      go_ret
      exact ⟨_, Bj, L.map (rcOf S), rfl, HE.out⟩
end Go.Proofs.Ytngglpekdjhbdaa
