/- Layer 13: the history of a day. -/
import Derived.Test.YtngglpekdjhbdaaBzX
namespace Go.Proofs.Ytngglpekdjhbdaa
open Go.RowKit Go.ChangeMaps Go.Deep Tr
set_option linter.unusedSimpArgs false
set_option linter.unusedVariables false
set_option maxRecDepth 20000

/-- the rectangles over a day, each once -/
def DayRects (S : Bs) (day : Int) (R : List Rc) : Prop := ∃ I : List Nat, I.Nodup ∧ (∀ i, i ∈ I ↔ S.lv i ∧ ∃ r, S.rs[i]? = some r ∧ r.f ≤ day ∧ day < r.t) ∧ (I.map (fun i => (S.rs[i]?).getD ⟨0, 0, 0, 0, 0⟩)).Perm R
theorem dayRects_of {S : Bs} {T : Tr} {day : Int} {L : List It} {R : List Rc} (hi : ∀ x, x ∈ T.items ↔ ∃ i r, S.lv i ∧ S.rs[i]? = some r ∧ x = ⟨r.f, r.t, (i : Int) + 1⟩) (hn : L.Nodup) (hL : ∀ x, x ∈ L ↔ x ∈ T.items ∧ x.f ≤ day ∧ day < x.t) (hp : (L.map (rcOf S)).Perm R) : DayRects S day R := by
  refine ⟨L.map (fun x => (x.i - 1).toNat), ?_, fun i => ?_, ?_⟩
  · unfold List.Nodup
    rw [List.pairwise_map]
    refine List.Pairwise.imp_of_mem (fun {a b} ha hb hne => ?_) hn
    obtain ⟨i, r, h1, h2, h3, h4⟩ := items_rc hi ((hL a).1 ha).1
    obtain ⟨j, y, k1, k2, k3, k4⟩ := items_rc hi ((hL b).1 hb).1
    intro e
    rw [h3, k3] at e
    dsimp only at e
    have hij : i = j := by omega
    subst hij
    have h2' : S.rs[i]? = some r := h2
    rw [k2] at h2'
    cases h2'
    exact hne (by rw [h3, k3])
  · rw [List.mem_map]
    constructor
    · rintro ⟨x, hx, rfl⟩
      obtain ⟨h1, h2, h3⟩ := (hL x).1 hx
      obtain ⟨j, r, k1, k2, rfl, k4⟩ := items_rc hi h1
      dsimp only at h2 h3 ⊢
      rw [show ((j : Int) + 1 - 1).toNat = j by omega]
      exact ⟨k1, r, k2, h2, h3⟩
    · rintro ⟨h1, r, h2, h3, h4⟩
      exact ⟨⟨r.f, r.t, (i : Int) + 1⟩, (hL _).2 ⟨(hi _).2 ⟨i, r, h1, h2, rfl⟩, h3, h4⟩, by dsimp only; omega⟩
  · rw [List.map_map]
    exact hp
theorem stab_day2 {w : World} {s g tb : Nat} {rv nv fv : Value} {ns : List Nd} {fr : List Int} {T : Tr} {BL : List Nat} {n : Nat} {last : Int} {S : Bs} (h : BiSt w s g tb rv nv fv ns fr T BL n last S) (hl : S.rs.length ≤ 90000) {day : Int} (hd : -9223372036854775808 ≤ day ∧ day < 9223372036854775807) :
    Calls Try.prog 42 #[.pointer (some ⟨tb, 0, none⟩), .int .i64 day] w fun e w' => ∃ v L, e = .returned v ∧ OwnR encIt 3 92 w' w.heap.size v L ∧ L.Nodup ∧ (∀ x, x ∈ L ↔ x ∈ T.items ∧ x.f ≤ day ∧ day < x.t) ∧ L.length ≤ 100000 ∧ Mod [] w w' := by
  have hsz := h.size
  refine (stab_at h.tree (by omega) day ⟨hd.1, hd.2⟩).mono ?_
  rintro e w' ⟨v, rfl, o, m⟩
  refine ⟨v, _, rfl, o, (srt_nodup h.tree.srt).filter _, fun x => ?_, Nat.le_trans (over_len _ _ T) (by omega), m⟩
  unfold over
  rw [List.mem_filter]
  simp only [Bool.and_eq_true, decide_eq_true_eq]
  constructor
  · rintro ⟨a, b, c⟩; exact ⟨a, by omega, b⟩
  · rintro ⟨a, b, c⟩; exact ⟨a, c, by omega⟩
def addR (l : List Vr) (r : Rc) : List Vr := if 0 < r.u then addV (addV l r.s r.v) r.u 0 else addV l r.s r.v
theorem addR_len (l : List Vr) (r : Rc) : (addR l r).length ≤ l.length + 2 := by
  unfold addR
  have h1 := addV_len l r.s r.v
  split
  · have h2 := addV_len (addV l r.s r.v) r.u 0
    omega
  · omega
theorem addR_all (R : List Rc) : ∀ l : List Vr, (R.foldl addR l).length ≤ l.length + 2 * R.length := by
  induction R with
  | nil => intro l; simp
  | cons r R ih =>
    intro l
    rw [List.foldl_cons, List.length_cons]
    have := ih (addR l r)
    have := addR_len l r
    omega
/-- where History stands among the rectangles -/
def HisIn (w5 : World) (Bo base : Nat) (R : List Rc) (j : Nat) (W : World) : Prop := ∃ v, VerAt W Bo base v ((R.take j).foldl addR []) ∧ Mod [Bo] w5 W
set_option maxHeartbeats 16000000 in
theorem history_at {w : World} {s : Nat} {BB : List Nat} {n : Nat} {last : Int} {S : Bs} {R0 : List Rc} (h : BiAt w s BB n last S) (hl : S.rs.length ≤ 90000) {day : Int} (hd : -9223372036854775808 ≤ day ∧ day < 9223372036854775807) (hR0 : ∀ R, DayRects S day R → UpS R → R = R0) (hne : NoEq (R0.foldl addR [])) :
    Calls Try.prog 44 #[.pointer (some ⟨s, 0, none⟩), .int .i64 day] w fun e w' => ∃ v, e = .returned v ∧ OwnR encVr 2 97 w' w.heap.size v (R0.foldl addR []) ∧ Mod [] w w' := by
  obtain ⟨A1, hA1, n1, s1, m1⟩ := alloc_named2 w (.cells #[.slice none 0 0] 94)
  have CN := Lib.hid (biNone_at (h.kept0 m1))
  obtain ⟨g, tb, rv, nv, fv, ns, fr, T, BL, H, rfl⟩ := h
  have HH := Lib.hid (H.kept0 m1)
  have CS := Lib.hid (stab_day2 HH.out hl hd)
  have c2 := cell_blk HH.out.blk 2
  simp only [List.getElem?_toArray, List.getElem?_cons_succ, List.getElem?_cons_zero] at c2
  have HN1 := Lib.hid n1
  have HS1 := Lib.hid s1
  have HM1 := Lib.hid m1
  have HR0 := Lib.hid hR0
  have HNE := Lib.hid hne
  clear H n1 s1 m1 hR0 hne
  go_enter Try.func44, Try.ntmps44
  go_wp2_with fail
  refine CN.out.mono ?_
  rintro e wA ⟨rfl, rfl⟩
  go_wp2_with fail
  refine CS.out.mono ?_
  rintro e w2 ⟨v, L, rfl, oL, hnd, hL, hLl, m2⟩
  obtain ⟨la, lc, rfl⟩ := oL.lens
  obtain ⟨N, hN⟩ : ∃ N, L.length = N := ⟨_, rfl⟩
  rw [hN] at oL hLl ⊢
  have HL := Lib.hid hL
  have HND := Lib.hid hnd
  have HO := Lib.hid oL
  have HNN := Lib.hid hN
  have HM2 := Lib.hid m2
  have HRI : Hid (OwnR encRc 5 61 w2 w2.heap.size (.slice none 0 0) ((L.take 0).map (rcOf S))) := Lib.hid (OwnR.nil_ _ _)
  have HMR := Lib.hid (Mod.refl [] w2)
  clear hL hnd oL hN m2 CS CN c2 hA1
  go_wp2_with fail
  go_loopw [6, 21] (fun s6 s21 W => ∃ (j : Nat) (oa : Option Addr) (oc : Nat), j ≤ N ∧ s6 = .slice oa j oc ∧ s21 = .int .i64 j ∧ Hid (OwnR encRc 5 61 W w2.heap.size (.slice oa j oc) ((L.take j).map (rcOf S))) ∧ Hid (Mod [] w2 W)) (fun _ s21 _ => N - (intOf s21).toNat)
  case atStart => exact ⟨0, none, 0, by omega, rfl, rfl, HRI, HMR⟩
  case round =>
    obtain ⟨j, oa, oc, hj, rfl, rfl, hR, hM⟩ := hrel
    clear HRI HMR
    by_cases hlt : j < N
    · obtain ⟨x, hx⟩ : ∃ x, L[j]? = some x := ⟨L[j]'(by rw [HNN.out]; exact hlt), List.getElem?_eq_getElem _⟩
      have hjl := (List.getElem?_eq_some_iff.1 hx).1
      have hje := (List.getElem?_eq_some_iff.1 hx).2
      have htk : L.take (j + 1) = L.take j ++ [x] := by rw [List.take_succ_eq_append_getElem hjl, hje]
      obtain ⟨i, r, i1, i2, i3, i4⟩ := items_rc HH.out.items ((HL.out x).1 (List.mem_of_getElem? hx)).1
      have hiN := (List.getElem?_eq_some_iff.1 i2).1
      have hoW : OwnR encIt 3 92 wr wA.heap.size (.slice la L.length lc) L := by rw [HNN.out]; exact HO.out.kept0 hM.out
      obtain ⟨q, cap, heq, hq, hcap⟩ := hoW.at_ hx
      simp only [Value.slice.injEq] at heq
      obtain ⟨rfl, _, rfl⟩ := heq
      have hrow : wr.rangeAt q (j * 3) [.int .i64 r.f, .int .i64 r.t, .int .i64 ((i : Int) + 1)] := fun jj u hu => (hoW.cell encIt_len hjl (j := jj) (by have := (List.getElem?_eq_some_iff.1 hu).1; simpa using this) (u := u) (by rw [hje, i3]; exact hu)).1
      have HLI := Lib.hid (run_loadAt_mid (P := Try.prog) _ q (j * 3) 92 _ _ hrow Try.underlying92 rfl (by kernel_rfl))
      obtain ⟨X, hX, nX, sX, mX⟩ := alloc_named2 wr (.cells #[.int .i64 r.f, .int .i64 r.t, .int .i64 ((i : Int) + 1)] 92)
      have Hw := HH.out.kept0 (HM2.out.trans (hM.out.trans mX))
      have hrr : OwnR encRc 5 61 X 0 rv S.rs := Hw.rows
      obtain ⟨p, pc, hrv, hp, hpc⟩ := hrr.at_ i2
      have c3 := cell_blk Hw.blk 3
      have e2 := cell_blk nX 2
      simp only [List.getElem?_toArray, List.getElem?_cons_succ, List.getElem?_cons_zero] at c3 e2
      subst hrv
      have RR : RcRow X 0 p S.rs.length pc S.rs := ⟨rfl, hrr⟩
      have LR := Lib.hid ((RR.kept0 ((Mod.refl [] X).drew)).load i2)
      have hj0 : decide ((j : Int) < 0) = false := decide_eq_false (by omega)
      have hj1 : decide ((N : Int) ≤ (j : Int)) = false := decide_eq_false (by omega)
      have hj2 : decide ((j : Int) < (N : Int)) = true := decide_eq_true (by omega)
      have hi0 : decide ((i : Int) < 0) = false := decide_eq_false (by omega)
      have hi1 : decide ((S.rs.length : Int) ≤ (i : Int)) = false := decide_eq_false (by omega)
      have hml : ((L.take j).map (rcOf S)).length = j := by rw [List.length_map, List.length_take, HNN.out]; omega
      have hRX := (hR.out.kept0 mX).kept0 ((Mod.refl [] X).drew)
      have hszX : w2.heap.size ≤ X.drew.heap.size := Nat.le_trans hM.out.size (Nat.le_trans mX.size (Nat.le_refl _))
      obtain ⟨v', w5, ra, ho', gr⟩ := own_append1 (P := Try.prog) (ty := 58) elemRect encRc_len encRc_one hRX hszX r (by rw [hml]; omega) (by omega)
      dsimp only [encRc] at ra
      obtain ⟨va, vc, rfl⟩ := ho'.lens
      have hnl : ((L.take j).map (rcOf S) ++ [r]).length = j + 1 := by rw [List.length_append, List.length_singleton, hml]
      rw [hnl] at ra ho' gr
      have HO5 : Hid (OwnR encRc 5 61 w5 w2.heap.size (.slice va (j + 1) vc) ((L.take (j + 1)).map (rcOf S))) := Lib.hid (by
        rw [htk, List.map_append, List.map_singleton, i4]
        exact ho')
      have HM5 : Hid (Mod [] w2 w5) := Lib.hid (Mod.into' (hM.out.trans (mX.trans ((Mod.refl [] X).drew))) gr.mod (fun k hk => by
        rw [mem_blk] at hk
        have := (World.ownsRow.lt hRX k hk).1
        exact .inl (by omega)))
      have RA := Lib.hid ra
      clear hrow hoW hq hcap hp hpc Hw hrr RR nX mX sX hml hRX hszX ra ho' gr hnl hx hjl hje htk i1 i2 i3 i4
      go_wp2_with ((with_reducible refine xLoadAt rfl HLI.out ?_ ?_ ?_); exact rfl; exact rfl)
      clear hX
      refine wp_plan [([0, 1, 5, 2, 6, 3, 7, 4, 8, 9], 10, []), ([], 11, []), ([], 12, [])] [] (by kernel_rfl) (by kernel_rfl) ?_
      simp only [wpSegs, opsOf, List.map_cons, List.map_nil, opN, List.getD_cons_zero, List.getD_cons_succ]
      go_wp2_with ((with_reducible refine xLoadAt rfl LR.out ?_ ?_ ?_); exact rfl; exact rfl)
      refine ⟨by first | trivial | rfl, ?_⟩
      go_wp2_with fail
      refine ⟨again_nil, ?_⟩
      go_wp2_with fail
      refine ⟨by first | trivial | rfl, ?_⟩
      go_wp2_with ((with_reducible refine xAppendAt RA.out rfl rfl ?_ ?_ ?_ ?_); exact rfl; exact rfl; exact rfl)
      refine ⟨again_nil, ?_⟩
      go_wp2_with fail
      refine ⟨by first | trivial | rfl, ?_⟩
      go_wp2_with fail
      refine ⟨again_nil, ?_⟩
      go_wp2_with fail
      refine ⟨by first | trivial | rfl, ?_⟩
      go_wp2_with fail
      go_roundw
      case rel => exact ⟨j + 1, va, vc, by omega, by first | rfl | go_num, by go_num, HO5, HM5⟩
      case measure => simp [intOf]; omega
    · obtain rfl : j = N := by omega
      have hj2 : decide ((j : Int) < (j : Int)) = false := decide_eq_false (by omega)
      have hRj : OwnR encRc 5 61 wr w2.heap.size (.slice oa j oc) (L.map (rcOf S)) := by
        have := hR.out
        rw [← HNN.out, List.take_length] at this
        rw [← HNN.out]
        exact this
      have CSo := Lib.hid (sortS_any _ _ _ _ hRj (by rw [List.length_map, HNN.out]; omega))
      have HRJ := Lib.hid hRj
      clear hR hRj
      rename World => wq
      go_wp2_with fail
      refine CSo.out.mono ?_
      rintro e w5 ⟨rfl, R, hperm, hup, ho5, m5⟩
      have hRR := HR0.out R (dayRects_of HH.out.items HND.out HL.out hperm) hup
      subst hRR
      have hRl : R.length = j := by rw [← hperm.length_eq, List.length_map, HNN.out]
      have HRL := Lib.hid hRl
      have hmod5 : Mod [] w2 w5 := Mod.into' hM.out m5 (fun k hk => by
        rw [mem_blk] at hk
        exact .inl (World.ownsRow.lt HRJ.out k hk).1)
      have HM5 := Lib.hid (HM2.out.trans hmod5)
      have HO5 := Lib.hid ho5
      have hbo := (HM2.out.trans hmod5).heap HN1.out (by simp)
      have hszs : w.heap.size < w2.heap.size := by have := HS1.out; have := HM2.out.size; omega
      have HLTB := Lib.hid (show w.heap.size < w5.heap.size from Nat.lt_of_lt_of_le hszs hmod5.size)
      have HV0 : Hid (HisIn w5 w.heap.size w5.heap.size R 0 w5) := Lib.hid ⟨_, ⟨hbo, OwnR.nil_ _ _, HLTB.out⟩, Mod.refl _ _⟩
      have HB2 := Lib.hid hszs
      clear hM m5 ho5 hup hperm hmod5 hbo hszs CSo hRl
      go_wp2_with fail
      go_loopw [43] (fun s43 W => ∃ m : Nat, m ≤ j ∧ s43 = .int .i64 m ∧ Hid (HisIn w5 w.heap.size w5.heap.size R m W)) (fun s43 _ => j - (intOf s43).toNat)
      case atStart => exact ⟨0, by omega, rfl, HV0⟩
      case round =>
        obtain ⟨m, hm, rfl, hV⟩ := hrel
        clear HV0
        rename World => wm
        obtain ⟨v, hv, hmv⟩ := hV.out
        by_cases hlt2 : m < j
        · obtain ⟨r, hr⟩ : ∃ r, R[m]? = some r := ⟨R[m]'(by rw [HRL.out]; omega), List.getElem?_eq_getElem _⟩
          have hrl := (List.getElem?_eq_some_iff.1 hr).1
          have hre := (List.getElem?_eq_some_iff.1 hr).2
          have htk : (R.take (m + 1)).foldl addR [] = addR ((R.take m).foldl addR []) r := by
            rw [List.take_succ_eq_append_getElem hrl, hre, List.foldl_append]
            rfl
          have hRB : ∀ k, (Value.slice oa j oc).ownBlock = some k → k ∉ [w.heap.size] := fun k hk hmm => by
            have h1 := (World.ownsRow.lt HO5.out k hk).1
            have h2 := HB2.out
            rw [List.mem_singleton] at hmm
            omega
          have RR0 : OwnR encRc 5 61 wm w2.heap.size (.slice oa R.length oc) R := by rw [HRL.out]; exact HO5.out.kept hmv hRB
          obtain ⟨q, cap, heq, hq, hcap⟩ := RR0.at_ hr
          simp only [Value.slice.injEq] at heq
          obtain ⟨rfl, _, rfl⟩ := heq
          have HLI := Lib.hid ((show RcRow wm w2.heap.size q R.length oc R from ⟨rfl, RR0⟩).load hr)
          obtain ⟨X, hX, nX, sX, mX⟩ := alloc_named2 wm (.cells #[.int .i64 r.f, .int .i64 r.t, .int .i64 r.s, .int .i64 r.u, .int .i64 r.v] 61)
          have e2 := cell_blk nX 2
          have e4 := cell_blk nX 4
          simp only [List.getElem?_toArray, List.getElem?_cons_succ, List.getElem?_cons_zero] at e2 e4
          have hj0 : decide ((m : Int) < 0) = false := decide_eq_false (by omega)
          have hj1 : decide ((j : Int) ≤ (m : Int)) = false := decide_eq_false (by omega)
          have hj2' : decide ((m : Int) < (j : Int)) = true := decide_eq_true (by omega)
          obtain ⟨l, hl0⟩ : ∃ l, (R.take m).foldl addR [] = l := ⟨_, rfl⟩
          have hll : l.length ≤ 200000 := by
            have := addR_all (R.take m) []
            rw [hl0, List.length_take] at this
            have := HRL.out
            simp only [List.length_nil] at *
            omega
          rw [hl0] at hv htk
          have hvX := hv.kept mX (by simp) (by simp)
          have hbX : w5.heap.size ≤ X.heap.size := Nat.le_trans hmv.size mX.size
          have C1 := Lib.hid (history2_at hvX r.s r.v (by omega) hbX)
          have HMX := Lib.hid (hmv.trans mX.nil)
          have HNX := Lib.hid nX
          have HSX := Lib.hid sX
          have HVX := Lib.hid hvX
          have HVL := Lib.hid (show ∀ k, v.ownBlock = some k → w5.heap.size ≤ k ∧ k < wm.heap.size from fun k hk => World.ownsRow.lt hv.own k hk)
          have hwm : w.heap.size < wm.heap.size := Nat.lt_of_lt_of_le HLTB.out hmv.size
          have HWM := Lib.hid hwm
          have HTK := Lib.hid htk
          have HBX := Lib.hid hbX
          clear RR0 hq hcap hRB nX sX mX hvX hbX hv hmv hV hl0 htk hrl hre hr hwm
          go_wp2_with ((with_reducible refine xLoadAt rfl HLI.out ?_ ?_ ?_); exact rfl; exact rfl)
          refine C1.out.mono ?_
          rintro e w6 ⟨rfl, v6, hv6, m6⟩
          have hX6 := m6.heap HNX.out (fun hk => by
            have h1 := HWM.out
            rcases List.mem_cons.1 hk with h | h
            · omega
            · rw [mem_blk] at h
              have := HVL.out _ h
              omega)
          have u3 := cell_blk hX6 3
          simp only [List.getElem?_toArray, List.getElem?_cons_succ, List.getElem?_cons_zero] at u3
          have M6 : Mod [w.heap.size] w5 w6 := Mod.into' HMX.out m6 (fun k hk => by
            rcases List.mem_cons.1 hk with h | h
            · exact .inr (by rw [h]; simp)
            · rw [mem_blk] at h
              exact .inl (HVL.out _ h).1)
          by_cases hu : 0 < r.u
          · have du : decide (0 < r.u) = true := decide_eq_true hu
            have hb6 : w5.heap.size ≤ w6.heap.size := Nat.le_trans HBX.out m6.size
            have hl6 : (addV l r.s r.v).length < 1000000 := by have := addV_len l r.s r.v; omega
            have C2 := Lib.hid (history2_at hv6 r.u 0 hl6 hb6)
            have HVL6 := Lib.hid (show ∀ k, v6.ownBlock = some k → w5.heap.size ≤ k from fun k hk => (World.ownsRow.lt hv6.own k hk).1)
            have HM6 := Lib.hid M6
            have HADD := Lib.hid (show addR l r = addV (addV l r.s r.v) r.u 0 by unfold addR; rw [if_pos hu])
            clear hv6 m6 hX6 M6 C1 hl6 hb6
            go_wp2_with fail
            refine C2.out.mono ?_
            rintro e w7 ⟨rfl, v7, hv7, m7⟩
            have HN : Hid (HisIn w5 w.heap.size w5.heap.size R (m + 1) w7) := Lib.hid ⟨v7, by rw [HTK.out, HADD.out]; exact hv7, Mod.into' HM6.out m7 (fun k hk => by
              rcases List.mem_cons.1 hk with h | h
              · exact .inr (by rw [h]; simp)
              · rw [mem_blk] at h
                exact .inl (HVL6.out _ h))⟩
            clear hv7 m7 C2
            go_wp2_with fail
            go_roundw
            case rel => exact ⟨m + 1, by omega, by go_num, HN⟩
            case measure => simp [intOf]; omega
          · have du : decide (0 < r.u) = false := decide_eq_false hu
            have HN : Hid (HisIn w5 w.heap.size w5.heap.size R (m + 1) w6) := Lib.hid ⟨v6, by rw [HTK.out]; unfold addR; rw [if_neg hu]; exact hv6, M6⟩
            clear hv6 m6 hX6 M6 C1
            go_wp2_with fail
            go_roundw
            case rel => exact ⟨m + 1, by omega, by go_num, HN⟩
            case measure => simp [intOf]; omega
        · obtain rfl : m = j := by omega
          have hj2' : decide ((m : Int) < (m : Int)) = false := decide_eq_false (by omega)
          rw [← HRL.out, List.take_length] at hv
          obtain ⟨fa, fc, rfl⟩ := hv.own.lens
          obtain ⟨nn, hnn⟩ : ∃ nn, (R.foldl addR []).length = nn := ⟨_, rfl⟩
          rw [hnn] at hv
          clear hnn
          have c0 := cell_blk hv.cell 0
          simp only [List.getElem?_toArray, List.getElem?_cons_zero] at c0
          have hll : (R.foldl addR []).length ≤ 1000000 := by
            have := addR_all R []
            have := HRL.out
            simp only [List.length_nil] at *
            omega
          have CC := Lib.hid (compactV_at hv.own HNE.out hll)
          have HV := Lib.hid hv
          have HMV := Lib.hid hmv
          clear hv hmv hV hll
          go_wp2_with fail
          refine CC.out.mono ?_
          rintro e w6 ⟨rfl, m6⟩
          have hc6 := m6.heap HV.out.cell (by simp)
          have g0 := cell_blk hc6 0
          have f0 := frozen_blk hc6 0
          have hs6 := heap_setCell_blk hc6 0 (.slice fa nn fc)
          have z0 := cell_blk hs6 0
          have mS : Mod [w.heap.size] w6 (w6.setCell ⟨w.heap.size, 0, none⟩ (.slice fa nn fc)) := (Mod.refl _ _).setCell (by simp) _
          simp at g0 z0
          have HEND := Lib.hid (show OwnR encVr 2 97 (w6.setCell ⟨w.heap.size, 0, none⟩ (.slice fa nn fc)) w.heap.size (.slice fa nn fc) (R.foldl addR []) ∧ Mod [] w (w6.setCell ⟨w.heap.size, 0, none⟩ (.slice fa nn fc)) from by
            refine ⟨((HV.out.own.kept0 m6).kept mS (fun k hk => ?_)).mono (Nat.le_of_lt HLTB.out), ?_⟩
            · have := (World.ownsRow.lt HV.out.own k hk).1
              have := HLTB.out
              simp
              omega
            · exact Mod.into' (Mod.into' (HM1.out.trans HM5.out) HMV.out (fun k hk => .inl (by simp at hk; omega))) (m6.nil.trans mS) (fun k hk => .inl (by simp at hk; omega)))
          clear hc6 hs6 mS m6 CC
          go_wp2_with fail
          refine bodyPost_ret (v := .slice fa nn fc) ?_ rfl ⟨_, rfl, HEND.out⟩
          simp [results, Try.results44, go_sem, z0]
end Go.Proofs.Ytngglpekdjhbdaa
