/- Layer 13: At. -/
import Derived.Test.YtngglpekdjhbdaaBzS
import Derived.Test.YtngglpekdjhbdaaMinMax
namespace Go.Proofs.Ytngglpekdjhbdaa
open Go.RowKit Go.ChangeMaps Go.Deep Tr
set_option linter.unusedSimpArgs false
set_option linter.unusedVariables false
set_option maxRecDepth 20000

/-- where Put stands in its loop -/
def PutIn (W0 : World) (s : Nat) (BB : List Nat) (n : Nat) (last t v : Int) (S : Bs) (L : List Sg) (j : Nat) (W : World) : Prop := BiPost W0 s BB (n + 4 * j) last (S.run t v (L.take j)) W
set_option maxHeartbeats 16000000 in
theorem put_ok_at {w : World} {s : Nat} {BB : List Nat} {n K : Nat} {last last0 a b t v : Int} {S : Bs} (h : BiAt w s BB n last S) (hS : S.Ok last0) (h0 : last0 ≤ t) (ht : ¬ (t < 1 ∨ t < last)) (hm : mayS a b) (hK : ∀ L, SegsTo S.g a b L → L.length ≤ K) (hn : n + 4 * K ≤ 39000) (hl : S.rs.length + 4 * K ≤ 79000) :
    Calls Try.prog 23 #[.pointer (some ⟨s, 0, none⟩), .int .i64 t, .agg #[.int .i64 a, .int .i64 b], .int .i64 v] w fun e w' => e = .returned (.int .i64 0) ∧ ∃ L, SegsTo S.g a b L ∧ BiPost w s BB (n + 4 * K) t (S.run t v L) w' := by
  obtain ⟨A1, hA1, n1, s1, m1⟩ := alloc_named2 w (.cells #[.int .i64 a, .int .i64 b] 24)
  have CN := Lib.hid (biNone_at (h.kept0 m1))
  have c0 := ((h.kept0 m1).setLast 0).2.2.1
  have HLT := Lib.hid h.lt
  have HA := Lib.hid (h.kept0 (m1.trans ((Mod.refl [] A1).drew)))
  obtain ⟨g, tb, rv, nv, fv, ns, fr, T, BL, H, hBB⟩ := h
  have H1 := H.kept0 m1
  have c1 := cell_blk H1.blk 1
  have y0 := cell_blk n1 0
  have y1 := cell_blk n1 1
  simp only [List.getElem?_toArray, List.getElem?_cons_succ, List.getElem?_cons_zero] at c1 y0 y1
  have CS := Lib.hid (segs_line ((H1.kept0 ((Mod.refl [] A1).drew)).line) (by omega) hm)
  have HM := Lib.hid m1
  have HS1 := Lib.hid s1
  have hd : decide (t < 1) = false := decide_eq_false (by omega)
  have hd2 : decide (t < last) = false := decide_eq_false (by omega)
  have HBB := Lib.hid hBB
  clear H H1 m1 n1 s1 hBB
  go_enter Try.func23, Try.ntmps23
  go_wp2_with fail
  refine CN.out.mono ?_
  rintro e w1 ⟨rfl, rfl⟩
  go_wp2_with fail
  refine wp_plan [([0, 4, 1, 2, 3], 5, [])] [6] (by kernel_rfl) (by kernel_rfl) ?_
  simp only [wpSegs, opsOf, List.map_cons, List.map_nil, opN, List.getD_cons_zero, List.getD_cons_succ]
  go_wp2_with fail
  refine ⟨by first | trivial | rfl, ?_⟩
  go_wp2_with fail
  refine CS.out.mono ?_
  rintro e w2 ⟨lv, L, rfl, oL, hSg, _, m2⟩
  have hLK := hK L hSg
  have hne : L ≠ [] := hSg.le.2 hm.2.1
  obtain ⟨la, lc, rfl⟩ := oL.lens
  obtain ⟨hSO, hRO⟩ := bput_segs (v := v) hS h0 (by omega) hm.1 hm.2.2 hSg
  obtain ⟨N, hN⟩ : ∃ N, L.length = N := ⟨_, rfl⟩
  have hNK : N ≤ K := by omega
  have hN0 : 0 < N := by rw [← hN]; exact List.length_pos_iff.2 hne
  have HOK : Hid (S.Ok t) := Lib.hid (Bt.later hS h0)
  have HSO := Lib.hid hSO
  have HL := Lib.hid oL
  have HSG := Lib.hid hSg
  have HNL := Lib.hid hN
  have hmd : Mod [] w w2 := (HM.out.trans ((Mod.refl [] w1).drew)).trans m2
  have HM2 := Lib.hid hmd
  have hdz : w1.drew.heap.size = w1.heap.size := rfl
  have HOB := Lib.hid (show ∀ k, (Value.slice la L.length lc).ownBlock = some k → w.heap.size < k ∧ k < w2.heap.size from fun k hk => by
    have h1 := World.ownsRow.lt oL k hk
    have h2 := HS1.out
    omega)
  have HPP := Lib.hid (show PutIn w2 s BB n last t v S L 0 w2 from BiPost.refl (HA.out.kept0 m2))
  have hz : ((N : Int) == 0) = false := by simp; omega
  have HLT2 := Lib.hid hmd.size
  rw [hN]
  rw [hN] at HL HOB
  clear oL hSg hSO hRO hN hne hLK CS hS hK m2 hmd hdz CN c0 c1 y0 y1 HA
  go_wp2_with fail
  refine ⟨again_nil, ?_⟩
  go_wp2_with fail
  refine ⟨by first | trivial | rfl, ?_⟩
  go_wp2_with fail
  go_loopw [38] (fun s38 W => ∃ j : Nat, j ≤ N ∧ s38 = .int .i64 j ∧ Hid (PutIn w2 s BB n last t v S L j W)) (fun s38 _ => N - (intOf s38).toNat)
  case atStart => exact ⟨0, by omega, rfl, HPP⟩
  case round =>
    obtain ⟨j, hj, rfl, hP⟩ := hrel
    clear HPP
    obtain ⟨Bj, Hj, Mj, Fj⟩ := hP.out
    have hBw : ∀ k ∈ BB, k < w.heap.size := HLT.out
    have oW := HL.out.kept Mj (fun k hk hm => by
      have h1 := HOB.out k hk
      have h2 := hBw k hm
      omega)
    by_cases hlt : j < N
    · obtain ⟨x, hx⟩ : ∃ x, L[j]? = some x := ⟨L[j]'(by rw [HNL.out]; exact hlt), List.getElem?_eq_getElem _⟩
      have hjl := (List.getElem?_eq_some_iff.1 hx).1
      have hje := (List.getElem?_eq_some_iff.1 hx).2
      have hsplit : L = L.take j ++ x :: L.drop (j + 1) := by
        rw [← hje, ← List.drop_eq_getElem_cons hjl, List.take_append_drop]
      have htk : L.take (j + 1) = L.take j ++ [x] := by rw [List.take_succ_eq_append_getElem hjl, hje]
      obtain ⟨hOkj, hSgj⟩ := run_mid (v := v) (l := L.take j) (m := x :: L.drop (j + 1)) HOK.out (by omega) (by rw [← hsplit]; exact HSO.out)
      obtain ⟨x1, x2, x3, x4⟩ := hSgj.2 x (by simp)
      have hrl := (run_len t v (L.take j) S).2
      rw [List.length_take] at hrl
      have HNEXT := Lib.hid (show S.run t v (L.take (j + 1)) = (S.run t v (L.take j)).step t v x.f x.t x.v from by rw [htk, run_snoc])
      obtain ⟨Sj, hSj⟩ : ∃ Sj, S.run t v (L.take j) = Sj := ⟨_, rfl⟩
      rw [hSj] at Hj hOkj hrl HNEXT x4
      have hrl2 : Sj.rs.length ≤ 79000 := by omega
      have hoW : OwnR encSg 3 80 wr w1.drew.heap.size (.slice la L.length lc) L := by rw [HNL.out]; exact oW
      obtain ⟨q, cap, heq, hq, hcap⟩ := hoW.at_ hx
      simp only [Value.slice.injEq] at heq
      obtain ⟨rfl, _, rfl⟩ := heq
      have hrow : wr.rangeAt q (j * 3) [.int .i64 x.f, .int .i64 x.t, .int .i64 x.v] := fun jj u hu => (hoW.cell encSg_len hjl (j := jj) (by have := (List.getElem?_eq_some_iff.1 hu).1; simpa using this) (u := u) (by rw [hje]; exact hu)).1
      have HLI := Lib.hid (run_loadAt_mid (P := Try.prog) _ q (j * 3) 80 _ _ hrow Try.underlying80 rfl (by kernel_rfl))
      obtain ⟨X, hX, nX, sX, mX⟩ := alloc_named2 wr (.cells #[.int .i64 x.f, .int .i64 x.t, .int .i64 x.v] 80)
      have i0 := cell_blk nX 0
      have i1 := cell_blk nX 1
      have i2 := cell_blk nX 2
      simp only [List.getElem?_toArray, List.getElem?_cons_succ, List.getElem?_cons_zero] at i0 i1 i2
      have hj0 : decide ((j : Int) < 0) = false := decide_eq_false (by omega)
      have hj1 : decide ((N : Int) ≤ (j : Int)) = false := decide_eq_false (by omega)
      have hj2 : decide ((j : Int) < (N : Int)) = true := decide_eq_true (by omega)
      have HjX := Hj.kept0 mX
      have MjX : Mod BB w2 X := Mj.trans mX.nil
      have CV := Lib.hid (value_seg HjX x4 (by omega))
      have HX := Lib.hid HjX
      have HMX := Lib.hid MjX
      have HF := Lib.hid Fj
      have HNX := Lib.hid nX
      have HSX := Lib.hid sX
      have HLB := Lib.hid Hj.lt
      have HOKJ := Lib.hid hOkj
      have X4 := Lib.hid x4
      have hstep : Hid (∀ S1 W, BiPost X s Bj (n + 4 * j + 4) last S1 W → Sj.step t v x.f x.t x.v = S1 → PutIn w2 s BB n last t v S L (j + 1) W) := Lib.hid (fun S1 W hP e => by
        unfold PutIn
        rw [HNEXT.out, e]
        exact BiPost.step HMX.out HF.out hP)
      clear oW hrow hoW hx hjl hje hsplit htk hSgj hq hcap nX sX mX HjX MjX Hj Mj Fj hBw hP hSj hOkj x4
      by_cases hvv : Sj.val x.v = v
      · have hq1 : (Sj.val x.v == v) = true := by simpa using hvv
        have HN := Lib.hid (hstep.out Sj X ((BiPost.refl HX.out).mono (by omega)) (by unfold Bs.step; rw [if_pos hvv]))
        clear hstep hrl
        go_wp2_with ((with_reducible refine xLoadAt rfl HLI.out ?_ ?_ ?_); exact rfl; exact rfl)
        refine CV.out.mono ?_
        rintro e w3 ⟨rfl, rfl⟩
        go_wp2_with fail
        go_roundw
        case rel => exact ⟨j + 1, by omega, by go_num, HN⟩
        case measure => simp [intOf]; omega
      · have hq1 : (Sj.val x.v == v) = false := by simpa using hvv
        rcases Int.lt_trichotomy 0 x.v with hx0 | hx0 | hx0
        · rcases X4.out with ⟨e, _⟩ | ⟨_, r, r1, r2, r3, r4, r5⟩
          · omega
          have hr := HOKJ.out.ok _ r r1 r2
          have hid : x.v = (((x.v - 1).toNat : Nat) : Int) + 1 := by omega
          have CP := split_at (a := x.f) (b := x.t) (t := t) HX.out r1 r2 r3 hr.2.1 hr.2.2.2.1 r4 x2 r5 (by omega) (by omega) (by omega)
          rw [← hid] at CP
          have CSP := Lib.hid CP
          have hdx : decide (0 < x.v) = true := decide_eq_true hx0
          have hlen := (split_len Sj (x.v - 1).toNat r x.f x.t t).2
          have HST := Lib.hid (show ∀ S1, (if v = 0 then Sj.split (x.v - 1).toNat r x.f x.t t else (Sj.split (x.v - 1).toNat r x.f x.t t).lay ⟨x.f, x.t, t, 0, v⟩) = S1 → Sj.step t v x.f x.t x.v = S1 from fun S1 e => by
            unfold Bs.step
            rw [if_neg hvv, if_pos hx0, r2]
            exact e)
          clear CP r1 r2 r3 r4 r5 hr hid
          go_wp2_with ((with_reducible refine xLoadAt rfl HLI.out ?_ ?_ ?_); exact rfl; exact rfl)
          refine CV.out.mono ?_
          rintro e w3 ⟨rfl, rfl⟩
          go_wp2_with fail
          refine CSP.out.mono ?_
          rintro e w4 ⟨rfl, B4, H4, M4, F4⟩
          by_cases hv0 : v = 0
          · have hq2 : (v != 0) = false := by simp [hv0]
            have HN := Lib.hid (hstep.out _ w4 ⟨B4, H4.mono (by omega), M4, F4⟩ (HST.out _ (if_pos hv0)))
            clear hstep hrl HST H4 M4 F4 hlen hv0
            go_wp2_with fail
            go_roundw
            case rel => exact ⟨j + 1, by omega, by go_num, HN⟩
            case measure => simp [intOf]; omega
          · have hq2 : (v != 0) = true := by simp [hv0]
            have CB := Lib.hid (begin_at H4 ⟨x.f, x.t, t, 0, v⟩ rfl ⟨x1, x2, x3⟩ (by omega) (by omega))
            have hb4 := M4.heap HNX.out (fun hk => by have := HLB.out _ hk; omega)
            have k0 := cell_blk hb4 0
            have k1 := cell_blk hb4 1
            simp only [List.getElem?_toArray, List.getElem?_cons_succ, List.getElem?_cons_zero] at k0 k1
            have HN := Lib.hid (fun w5 (hP : BiPost w4 s B4 (n + 4 * j + 3 + 1) last ((Sj.split (x.v - 1).toNat r x.f x.t t).lay ⟨x.f, x.t, t, 0, v⟩) w5) => hstep.out _ w5 (BiPost.step M4 F4 hP) (HST.out _ (if_neg hv0)))
            unfold rcV at CB
            dsimp only at CB
            clear hstep hrl HST H4 M4 F4 hlen hb4
            go_wp2_with fail
            refine CB.out.mono ?_
            rintro e w5 ⟨rfl, hP⟩
            have HN5 := Lib.hid (HN.out w5 hP)
            clear hP HN CB
            go_wp2_with fail
            go_roundw
            case rel => exact ⟨j + 1, by omega, by go_num, HN5⟩
            case measure => simp [intOf]; omega
        · have hv0 : v ≠ 0 := fun e => hvv (by unfold Bs.val; rw [if_neg (by omega), e])
          have hdx : decide (0 < x.v) = false := decide_eq_false (by omega)
          have hq2 : (v != 0) = true := by simp [hv0]
          have CB := Lib.hid (begin_at HX.out ⟨x.f, x.t, t, 0, v⟩ rfl ⟨x1, x2, x3⟩ (by omega) (by omega))
          have HN := Lib.hid (fun w5 (hP : BiPost X s Bj (n + 4 * j + 1) last (Sj.lay ⟨x.f, x.t, t, 0, v⟩) w5) => hstep.out _ w5 (hP.mono (by omega)) (by
            unfold Bs.step
            rw [if_neg hvv, if_neg (show ¬ 0 < x.v by omega), if_neg hv0]))
          unfold rcV at CB
          dsimp only at CB
          clear hstep hrl hx0
          go_wp2_with ((with_reducible refine xLoadAt rfl HLI.out ?_ ?_ ?_); exact rfl; exact rfl)
          refine CV.out.mono ?_
          rintro e w3 ⟨rfl, rfl⟩
          go_wp2_with fail
          refine CB.out.mono ?_
          rintro e w5 ⟨rfl, hP⟩
          have HN5 := Lib.hid (HN.out w5 hP)
          clear hP HN CB
          go_wp2_with fail
          go_roundw
          case rel => exact ⟨j + 1, by omega, by go_num, HN5⟩
          case measure => simp [intOf]; omega
        · rcases X4.out with ⟨e, _⟩ | ⟨e, _⟩ <;> omega
    · obtain rfl : j = N := by omega
      have htl : S.run t v (L.take j) = S.run t v L := by rw [← HNL.out, List.take_length]
      rw [htl] at Hj
      obtain ⟨q1, q2, q3, q4⟩ := Hj.setLast t
      have hj2 : decide ((j : Int) < (j : Int)) = false := decide_eq_false (by omega)
      have HE : Hid (∃ L, SegsTo S.g a b L ∧ BiPost w s BB (n + 4 * K) t (S.run t v L) (wr.setCell ⟨s, 0, none⟩ (.int .i64 t))) := Lib.hid ⟨L, HSG.out, BiPost.step (HM2.out.nil.trans Mj) (fun k hk => (Fj k hk).imp id fun h => by have := HLT2.out; omega) (⟨Bj, q1.mono (by omega), q2, fun k hk => .inl hk⟩ : BiPost wr s Bj (n + 4 * K) t (S.run t v L) _)⟩
      clear oW Hj Mj Fj hBw hP htl q1 q2
      go_wp2_with fail
      go_ret
      exact ⟨rfl, HE.out⟩
end Go.Proofs.Ytngglpekdjhbdaa
namespace Go.Proofs.Ytngglpekdjhbdaa
open Go.RowKit Go.ChangeMaps Go.Deep Tr
set_option linter.unusedSimpArgs false
set_option linter.unusedVariables false
set_option maxRecDepth 20000

def hasB (t : Int) (r : Rc) : Bool := decide (r.s ≤ t) && (decide (r.u = 0) || decide (t < r.u))
theorem hasB_iff (t : Int) (r : Rc) : hasB t r = true ↔ r.s ≤ t ∧ (r.u = 0 ∨ t < r.u) := by
  unfold hasB
  simp
theorem has_any (r : Rc) (t : Int) (w : World) : Calls Try.prog 57 #[rcV r, .int .i64 t] w fun e w' => e = .returned (.bool (hasB t r)) ∧ Mod [] w w' := by
  have HM := Lib.hid ((Mod.refl [] w).alloc (.cells #[.int .i64 r.f, .int .i64 r.t, .int .i64 r.s, .int .i64 r.u, .int .i64 r.v] 61))
  obtain ⟨f, z, s, u, v⟩ := r
  dsimp only at HM
  unfold rcV
  dsimp only
  by_cases h1 : s ≤ t
  · have d1 : decide (s ≤ t) = true := decide_eq_true h1
    by_cases h2 : u = 0
    · subst h2
      have HB := Lib.hid (show hasB t ⟨f, z, s, 0, v⟩ = true by unfold hasB; simp [h1])
      go_enter Try.func57, Try.ntmps57
      go_wp2_with fail
      go_ret
      exact ⟨by rw [HB.out]; rfl, HM.out⟩
    · have d2 : (u == 0) = false := by simpa using h2
      by_cases h3 : t < u
      · have HB := Lib.hid (show hasB t ⟨f, z, s, u, v⟩ = true by unfold hasB; simp [h1, h3])
        have d3 : decide (t < u) = true := decide_eq_true h3
        clear h2
        go_enter Try.func57, Try.ntmps57
        go_wp2_with fail
        go_ret
        exact ⟨by rw [HB.out]; rfl, HM.out⟩
      · have HB := Lib.hid (show hasB t ⟨f, z, s, u, v⟩ = false by unfold hasB; simp [h1, h2, h3])
        have d3 : decide (t < u) = false := decide_eq_false h3
        clear h2
        go_enter Try.func57, Try.ntmps57
        go_wp2_with fail
        go_ret
        exact ⟨by rw [HB.out]; rfl, HM.out⟩
  · have d1 : decide (s ≤ t) = false := decide_eq_false h1
    have HB := Lib.hid (show hasB t ⟨f, z, s, u, v⟩ = false by unfold hasB; simp [h1])
    go_enter Try.func57, Try.ntmps57
    go_wp2_with fail
    go_ret
    exact ⟨by rw [HB.out]; rfl, HM.out⟩
theorem held_at {w : World} {s : Nat} {BB : List Nat} {n : Nat} {last : Int} {S : Bs} (h : BiAt w s BB n last S) (t : Int) :
    Calls Try.prog 56 #[.pointer (some ⟨s, 0, none⟩), .int .i64 t] w fun e w' => e = .returned (.int .i64 (min (max t 0) last)) ∧ Mod [] w w' := by
  have CL := Lib.hid (biLast_at h)
  clear h
  go_enter Try.func56, Try.ntmps56
  go_wp2_with ((with_reducible apply xMax rfl); exact rfl; exact rfl; exact rfl)
  refine CL.out.mono ?_
  rintro e w1 ⟨rfl, rfl⟩
  go_wp2_with ((with_reducible apply xMin rfl); exact rfl; exact rfl; exact rfl)
  go_ret
  exact ⟨rfl, Mod.refl _ _⟩
end Go.Proofs.Ytngglpekdjhbdaa
namespace Go.Proofs.Ytngglpekdjhbdaa
open Go.RowKit Go.ChangeMaps Go.Deep Tr
set_option linter.unusedSimpArgs false
set_option linter.unusedVariables false
set_option maxRecDepth 20000

theorem RcRow.cells {w : World} {base g N cap : Nat} {l : List Rc} (h : RcRow w base g N cap l) {i : Nat} {x : Rc} (hx : l[i]? = some x) :
    w.cell? ⟨g, i * 5, none⟩ = some (.int .i64 x.f) ∧ w.cell? ⟨g, i * 5 + 1, none⟩ = some (.int .i64 x.t) ∧ w.cell? ⟨g, i * 5 + 2, none⟩ = some (.int .i64 x.s) ∧ w.cell? ⟨g, i * 5 + 3, none⟩ = some (.int .i64 x.u) ∧ w.cell? ⟨g, i * 5 + 4, none⟩ = some (.int .i64 x.v) := by
  obtain ⟨hlt, e⟩ := List.getElem?_eq_some_iff.1 hx
  have hc : ∀ (j : Nat) (u : Value), (encRc x)[j]? = some u → w.cell? ⟨g, i * 5 + j, none⟩ = some u := fun j u hu => (h.own'.cell encRc_len hlt (j := j) (by have := (List.getElem?_eq_some_iff.1 hu).1; exact this) (u := u) (by rw [e]; exact hu)).1
  exact ⟨hc 0 _ rfl, hc 1 _ rfl, hc 2 _ rfl, hc 3 _ rfl, hc 4 _ rfl⟩
/-- the rectangle of an item -/
def rcOf (S : Bs) (x : It) : Rc := (S.rs[(x.i - 1).toNat]?).getD ⟨0, 0, 0, 0, 0⟩
theorem rcOf_item {S : Bs} {x : It} {i : Nat} {r : Rc} (h : S.rs[i]? = some r) (hx : x.i = (i : Int) + 1) : rcOf S x = r := by
  unfold rcOf
  rw [hx, show ((i : Int) + 1 - 1).toNat = i by omega, h]
  rfl
/-- the rectangles that lie over a day, in whatever order -/
def OverDay (S : Bs) (day : Int) (R : List Rc) : Prop := ∀ r, r ∈ R ↔ ∃ i, S.lv i ∧ S.rs[i]? = some r ∧ r.f ≤ day ∧ day < r.t
theorem items_rc {S : Bs} {T : Tr} (hi : ∀ x, x ∈ T.items ↔ ∃ i r, S.lv i ∧ S.rs[i]? = some r ∧ x = ⟨r.f, r.t, (i : Int) + 1⟩) {x : It} (hx : x ∈ T.items) : ∃ i r, S.lv i ∧ S.rs[i]? = some r ∧ x = ⟨r.f, r.t, (i : Int) + 1⟩ ∧ rcOf S x = r := by
  obtain ⟨i, r, h1, h2, rfl⟩ := (hi x).1 hx
  exact ⟨i, r, h1, h2, rfl, rcOf_item h2 rfl⟩
theorem over_day {S : Bs} {T : Tr} {day : Int} {L : List It} (hi : ∀ x, x ∈ T.items ↔ ∃ i r, S.lv i ∧ S.rs[i]? = some r ∧ x = ⟨r.f, r.t, (i : Int) + 1⟩) (hL : ∀ x, x ∈ L ↔ x ∈ T.items ∧ x.f ≤ day ∧ day < x.t) : OverDay S day (L.map (rcOf S)) := by
  intro r
  rw [List.mem_map]
  constructor
  · rintro ⟨x, hx, rfl⟩
    obtain ⟨h1, h2, h3⟩ := (hL x).1 hx
    obtain ⟨i, r, k1, k2, rfl, k4⟩ := items_rc hi h1
    rw [k4]
    exact ⟨i, k1, k2, h2, h3⟩
  · rintro ⟨i, h1, h2, h3, h4⟩
    exact ⟨⟨r.f, r.t, (i : Int) + 1⟩, (hL _).2 ⟨(hi _).2 ⟨i, r, h1, h2, rfl⟩, h3, h4⟩, rcOf_item h2 rfl⟩
/-- what lies over a day, from the tree -/
theorem stab_day {w : World} {s g tb : Nat} {rv nv fv : Value} {ns : List Nd} {fr : List Int} {T : Tr} {BL : List Nat} {n : Nat} {last last0 : Int} {S : Bs} (h : BiSt w s g tb rv nv fv ns fr T BL n last S) (hS : S.Ok last0) (hl : S.rs.length ≤ 90000) {day : Int} (hd : -9223372036854775808 ≤ day ∧ day ≤ 9223372036854775807) :
    Calls Try.prog 42 #[.pointer (some ⟨tb, 0, none⟩), .int .i64 day] w fun e w' => ∃ v L, e = .returned v ∧ OwnR encIt 3 92 w' w.heap.size v L ∧ (∀ x, x ∈ L ↔ x ∈ T.items ∧ x.f ≤ day ∧ day < x.t) ∧ L.length ≤ 100000 ∧ Mod [] w w' := by
  have hsz := h.size
  by_cases hmx : day < 9223372036854775807
  · refine (stab_at h.tree (by omega) day ⟨hd.1, hmx⟩).mono ?_
    rintro e w' ⟨v, rfl, o, m⟩
    refine ⟨v, _, rfl, o, fun x => ?_, Nat.le_trans (over_len _ _ T) (by omega), m⟩
    unfold over
    rw [List.mem_filter]
    simp only [Bool.and_eq_true, decide_eq_true_eq]
    constructor
    · rintro ⟨a, b, c⟩; exact ⟨a, by omega, b⟩
    · rintro ⟨a, b, c⟩; exact ⟨a, c, by omega⟩
  · obtain rfl : day = 9223372036854775807 := by omega
    refine stab_max.mono ?_
    rintro e w' ⟨rfl, m⟩
    refine ⟨_, [], rfl, OwnR.nil_ _ _, fun x => ⟨fun hx => absurd hx List.not_mem_nil, fun hx => ?_⟩, by simp, m⟩
    obtain ⟨i, r, k1, k2, rfl⟩ := (h.items x).1 hx.1
    have := hS.ok i r k1 k2
    have h3 := hx.2.2
    dsimp only at h3
    omega
set_option maxHeartbeats 8000000 in
theorem biAt_at {w : World} {s : Nat} {BB : List Nat} {n : Nat} {last last0 : Int} {S : Bs} (h : BiAt w s BB n last S) (hS : S.Ok last0) (hl : S.rs.length ≤ 90000) (t : Int) {day : Int} (hd : -9223372036854775808 ≤ day ∧ day ≤ 9223372036854775807) :
    Calls Try.prog 26 #[.pointer (some ⟨s, 0, none⟩), .int .i64 t, .int .i64 day] w fun e w' => ∃ R, OverDay S day R ∧ e = .returned (.int .i64 (((R.find? (hasB (min (max t 0) last))).map Rc.v).getD 0)) ∧ Mod [] w w' := by
  have CN := Lib.hid (biNone_at h)
  have CH := Lib.hid (held_at h t)
  obtain ⟨g, tb, rv, nv, fv, ns, fr, T, BL, H, rfl⟩ := h
  have HH := Lib.hid H
  have HSZ := Lib.hid (fun W (m : Mod [] w W) => stab_day (H.kept0 m) hS hl hd)
  obtain ⟨t', ht'⟩ : ∃ t', min (max t 0) last = t' := ⟨_, rfl⟩
  rw [ht'] at CH ⊢
  clear H ht'
  go_enter Try.func26, Try.ntmps26
  go_wp2_with fail
  refine CN.out.mono ?_
  rintro e w ⟨rfl, rfl⟩
  go_wp2_with fail
  refine CH.out.mono ?_
  rintro e w1 ⟨rfl, m1⟩
  have H1 := HH.out.kept0 m1
  have c2 := cell_blk H1.blk 2
  simp only [List.getElem?_toArray, List.getElem?_cons_succ, List.getElem?_cons_zero] at c2
  have CS := Lib.hid (HSZ.out w1 m1)
  have HM1 := Lib.hid m1
  clear H1 m1 HSZ
  go_wp2_with fail
  refine CS.out.mono ?_
  rintro e w2 ⟨v, L, rfl, oL, hL, hLl, m2⟩
  obtain ⟨la, lc, rfl⟩ := oL.lens
  obtain ⟨N, hN⟩ : ∃ N, L.length = N := ⟨_, rfl⟩
  rw [hN] at oL hLl ⊢
  have HL := Lib.hid hL
  have HO := Lib.hid oL
  have HNN := Lib.hid hN
  have HM2 := Lib.hid (HM1.out.trans m2)
  have HF : Hid (((L.take 0).map (rcOf S)).find? (hasB t') = none) := Lib.hid (by simp)
  have HMR := Lib.hid (Mod.refl [] w2)
  clear hL oL hN m2 CS c2
  go_wp2_with fail
  go_loopw [6, 23] (fun s6 s23 W => ∃ j : Nat, j ≤ N ∧ s6 = .int .i64 0 ∧ s23 = .int .i64 j ∧ Hid (((L.take j).map (rcOf S)).find? (hasB t') = none) ∧ Hid (Mod [] w2 W)) (fun _ s23 _ => N - (intOf s23).toNat)
  case atStart => exact ⟨0, by omega, rfl, rfl, HF, HMR⟩
  case round =>
    obtain ⟨j, hj, rfl, rfl, hF, hM⟩ := hrel
    clear HF HMR
    by_cases hlt : j < N
    · obtain ⟨x, hx⟩ : ∃ x, L[j]? = some x := ⟨L[j]'(by rw [HNN.out]; exact hlt), List.getElem?_eq_getElem _⟩
      have hjl := (List.getElem?_eq_some_iff.1 hx).1
      have hje := (List.getElem?_eq_some_iff.1 hx).2
      have htk : L.take (j + 1) = L.take j ++ [x] := by rw [List.take_succ_eq_append_getElem hjl, hje]
      obtain ⟨i, r, i1, i2, i3, i4⟩ := items_rc HH.out.items ((HL.out x).1 (List.mem_of_getElem? hx)).1
      have hiN := (List.getElem?_eq_some_iff.1 i2).1
      have hoW : OwnR encIt 3 92 wr w1.heap.size (.slice la L.length lc) L := by rw [HNN.out]; exact HO.out.kept0 hM.out
      obtain ⟨q, cap, heq, hq, hcap⟩ := hoW.at_ hx
      simp only [Value.slice.injEq] at heq
      obtain ⟨rfl, _, rfl⟩ := heq
      have hrow : wr.rangeAt q (j * 3) [.int .i64 r.f, .int .i64 r.t, .int .i64 ((i : Int) + 1)] := fun jj u hu => (hoW.cell encIt_len hjl (j := jj) (by have := (List.getElem?_eq_some_iff.1 hu).1; simpa using this) (u := u) (by rw [hje, i3]; exact hu)).1
      have HLI := Lib.hid (run_loadAt_mid (P := Try.prog) _ q (j * 3) 92 _ _ hrow Try.underlying92 rfl (by kernel_rfl))
      obtain ⟨X, hX, nX, sX, mX⟩ := alloc_named2 wr (.cells #[.int .i64 r.f, .int .i64 r.t, .int .i64 ((i : Int) + 1)] 92)
      have Hw := HH.out.kept0 (HM2.out.trans (hM.out.trans mX))
      have hrr : OwnR encRc 5 61 X 0 rv S.rs := Hw.rows
      obtain ⟨p, pc, hrv, hp, hpc⟩ := hrr.at_ i2
      have c3 := cell_blk Hw.blk 3
      have e2 := cell_blk nX 2
      simp only [List.getElem?_toArray, List.getElem?_cons_succ, List.getElem?_cons_zero] at c3 e2
      subst hrv
      have RR : RcRow X 0 p S.rs.length pc S.rs := ⟨rfl, hrr⟩
      have LR := Lib.hid ((RR.kept0 ((Mod.refl [] X).drew)).load i2)
      have mz := (Mod.refl [] X).alloc (.cells #[.int .i64 0, .int .i64 0, .int .i64 0, .int .i64 0, .int .i64 0] 61)
      obtain ⟨p0, p1, p2, p3, p4⟩ := (RR.kept0 mz).cells i2
      have c3z := cell_blk (mz.heap Hw.blk (by simp)) 3
      have e2z := cell_blk (mz.heap nX (by simp)) 2
      simp only [List.getElem?_toArray, List.getElem?_cons_succ, List.getElem?_cons_zero] at c3z e2z
      have hj0 : decide ((j : Int) < 0) = false := decide_eq_false (by omega)
      have hj1 : decide ((N : Int) ≤ (j : Int)) = false := decide_eq_false (by omega)
      have hj2 : decide ((j : Int) < (N : Int)) = true := decide_eq_true (by omega)
      have hi0 : decide ((i : Int) < 0) = false := decide_eq_false (by omega)
      have hi1 : decide ((S.rs.length : Int) ≤ (i : Int)) = false := decide_eq_false (by omega)
      have HMX := Lib.hid (hM.out.trans mX)
      obtain ⟨Y, hY, nY, sY, mY⟩ := alloc_named2 X (.cells #[.int .i64 r.f, .int .i64 r.t, .int .i64 r.s, .int .i64 r.u, .int .i64 r.v] 61)
      have y0 := cell_blk nY 0
      have y1 := cell_blk nY 1
      have y2 := cell_blk nY 2
      have y3 := cell_blk nY 3
      have y4 := cell_blk nY 4
      simp only [List.getElem?_toArray, List.getElem?_cons_succ, List.getElem?_cons_zero] at y0 y1 y2 y3 y4
      have CHS := Lib.hid (has_any r t' Y.drew)
      have HMY := Lib.hid (hM.out.trans (mX.trans (mY.trans ((Mod.refl [] Y).drew))))
      have HNY := Lib.hid nY
      have HSX := Lib.hid sX
      clear hrow hoW hq hcap hp hpc Hw hrr RR nX mX mz nY sY mY sX
      go_wp2_with ((with_reducible refine xLoadAt rfl HLI.out ?_ ?_ ?_); exact rfl; exact rfl)
      clear hX
      refine wp_plan [([0, 4, 1, 5, 2, 6, 3, 7, 8], 9, [4, 1, 5, 2, 6, 3, 7, 8]), ([], 10, [])] [] (by kernel_rfl) (by kernel_rfl) ?_
      simp only [wpSegs, opsOf, List.map_cons, List.map_nil, opN, List.getD_cons_zero, List.getD_cons_succ]
      go_wp2_with ((with_reducible refine xLoadAt rfl LR.out ?_ ?_ ?_); exact rfl; exact rfl)
      refine ⟨by first | trivial | rfl, ?_⟩
      go_wp2_with fail
      refine ⟨?ag1, ?_⟩
      case ag1 =>
        intro i hi hw
        simp only [List.mem_cons, List.not_mem_nil, or_false] at hi
        rcases hi with rfl | rfl | rfl | rfl | rfl | rfl | rfl | rfl
        all_goals ((simp only [opN, List.getD_cons_zero, List.getD_cons_succ, slotOf]; go_simp) <;> (first | done | (rw [IntKind.wrap_i64]; omega)))
      go_wp2_with fail
      refine ⟨by first | trivial | rfl, ?_⟩
      go_wp2_with fail
      refine ⟨again_nil, ?_⟩
      go_wp2_with fail
      refine ⟨by first | trivial | rfl, ?_⟩
      go_wp2_with fail
      unfold rcV at CHS
      refine CHS.out.mono ?_
      rintro e w4 ⟨rfl, m4⟩
      have hn4 := m4.heap (((Mod.refl [] Y).drew).heap HNY.out (by simp)) (by simp)
      have z4 := cell_blk hn4 4
      simp only [List.getElem?_toArray, List.getElem?_cons_succ, List.getElem?_cons_zero] at z4
      have HM4 := Lib.hid (HMY.out.trans m4)
      clear CHS m4 hn4 y0 y1 y2 y3 y4 hY
      have HI4 := Lib.hid i4
      by_cases hb : hasB t' r = true
      · have HR : Hid (∃ R, OverDay S day R ∧ (Ending.returned (Value.int .i64 r.v) = .returned (.int .i64 (((R.find? (hasB t')).map Rc.v).getD 0))) ∧ Mod [] w w4) := Lib.hid ⟨_, over_day HH.out.items HL.out, by
            have e : L.map (rcOf S) = (L.take j).map (rcOf S) ++ r :: (L.drop (j + 1)).map (rcOf S) := by
              rw [← HI4.out, ← List.map_cons, ← List.map_append]
              congr 1
              rw [← hje, ← List.drop_eq_getElem_cons hjl, List.take_append_drop]
            rw [e, List.find?_append, hF.out, List.find?_cons_of_pos hb]
            rfl, HM2.out.trans HM4.out⟩
        rw [hb]
        clear hF hM hjl hje htk i3 i4 hb
        go_wp2_with fail
        go_ret
        obtain ⟨R, q1, q2, q3⟩ := HR.out
        exact ⟨R, q1, Eq.trans rfl q2, q3⟩
      · have hb' : hasB t' r = false := by simpa using hb
        have HF2 : Hid (((L.take (j + 1)).map (rcOf S)).find? (hasB t') = none) := Lib.hid (by
          rw [htk, List.map_append, List.find?_append, hF.out, List.map_singleton, HI4.out]
          simp [hb'])
        rw [hb']
        clear hF hM hjl hje htk i3 i4 hb hb'
        go_wp2_with fail
        go_roundw
        case rel => exact ⟨j + 1, by omega, rfl, by go_num, HF2, HM4⟩
        case measure => simp [intOf]; omega
    · obtain rfl : j = N := by omega
      have hj2 : decide ((j : Int) < (j : Int)) = false := decide_eq_false (by omega)
      have HR : Hid (∃ R, OverDay S day R ∧ (Ending.returned (Value.int .i64 0) = .returned (.int .i64 (((R.find? (hasB t')).map Rc.v).getD 0))) ∧ Mod [] w wr) := Lib.hid ⟨_, over_day HH.out.items HL.out, by
        have e := hF.out
        rw [← HNN.out, List.take_length] at e
        rw [e]
        rfl, HM2.out.trans hM.out⟩
      clear hF hM
      go_wp2_with fail
      go_ret
      obtain ⟨R, q1, q2, q3⟩ := HR.out
      exact ⟨R, q1, Eq.trans rfl q2, q3⟩
end Go.Proofs.Ytngglpekdjhbdaa
