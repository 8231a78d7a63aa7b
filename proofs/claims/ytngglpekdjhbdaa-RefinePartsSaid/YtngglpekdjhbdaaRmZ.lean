/- Layer 12: RefineParts, walked. -/
import Derived.Test.YtngglpekdjhbdaaRmX
namespace Go.Proofs.Ytngglpekdjhbdaa
open Go.RowKit Go.ChangeMaps Go.Deep Tr
set_option linter.unusedSimpArgs false
set_option linter.unusedVariables false
set_option maxRecDepth 20000

/-- a timeline of the document's: its block, its puts -/
structure Ln2 where
  r : Nat
  L : List Sg
def encQ (t : Ln2) : List Value := [.pointer (some ⟨t.r, 0, none⟩)]
theorem encQ_len (x : Ln2) : (encQ x).length = 1 := rfl
theorem encQ_one (x : Ln2) : ∀ v ∈ encQ x, v.oneCell' = true := by intro v hv; simp [encQ] at hv; subst hv; rfl
theorem elemPrl : ElemOk Try.prog 29 32 1 8 := .mk' Try.underlying29 (by omega) (by kernel_rfl)
theorem elemRPart : ElemOk Try.prog 38 67 3 40 := .mk' Try.underlying38 (by omega) (by kernel_rfl)
def RefsAt (w : World) (rs : List Ln2) : Prop := ∀ t ∈ rs, (∃ base, RefAt w t.r base t.L) ∧ t.L.length ≤ 1000000
theorem RefsAt.kept0 {w w' : World} {rs : List Ln2} (h : RefsAt w rs) (m : Mod [] w w') : RefsAt w' rs := fun t ht => by
  obtain ⟨⟨b, h1⟩, h2⟩ := h t ht
  exact ⟨⟨b, h1.kept0 m⟩, h2⟩
/-- the document's parts as they lie -/
structure PtsG (W : World) (base : Nat) (v : Value) (us : List Cu) (ps : List Pt) : Prop where
  own : OwnR encU 3 67 W base v us
  len : us.length = ps.length
  rel : ∀ (i : Nat) (u : Cu) (p : Pt), us[i]? = some u → ps[i]? = some p → u.1 = p.1 ∧ u.2.1 = p.2.1 ∧ OwnR encI 1 3 W base u.2.2.val p.2.2
theorem PtsG.kept {l : List Nat} {W W' : World} {base : Nat} {v : Value} {us : List Cu} {ps : List Pt} (h : PtsG W base v us ps) (m : Mod l W W') (h1 : ∀ k, v.ownBlock = some k → k ∉ l) (h2 : ∀ k ∈ l, W.heap.size ≤ k ∨ k < base ∨ ∃ c, W.heap[k]? = some (.cells c 67 (0, 0))) : PtsG W' base v us ps := by
  refine ⟨h.own.kept m h1, h.len, fun i u p hu hp => ?_⟩
  obtain ⟨e1, e2, e3⟩ := h.rel i u p hu hp
  refine ⟨e1, e2, e3.kept m fun k hk hm => ?_⟩
  obtain ⟨b1, b2⟩ := World.ownsRow.lt e3 k hk
  rcases h2 k hm with c | c | ⟨c, hc⟩
  · omega
  · omega
  · obtain ⟨c', hc'⟩ := ownsRow_cells e3 hk
    rw [hc] at hc'
    cases hc'
theorem PtsG.push {W W' : World} {base : Nat} {v v' : Value} {us : List Cu} {ps : List Pt} {u : Cu} {vals : List Int} (h : PtsG W base v us ps) (ho : OwnR encU 3 67 W' base v' (us ++ [u])) (gr : Grew W v W' v') (hu : OwnR encI 1 3 W base u.2.2.val vals) : PtsG W' base v' (us ++ [u]) (ps ++ [(u.1, u.2.1, vals)]) := by
  refine ⟨ho, by simp [h.len], fun i x p hx hp => ?_⟩
  by_cases hi : i < us.length
  · rw [List.getElem?_append_left hi] at hx
    rw [List.getElem?_append_left (by rw [← h.len]; exact hi)] at hp
    obtain ⟨e1, e2, e3⟩ := h.rel i x p hx hp
    exact ⟨e1, e2, e3.kept gr.mod (own_ne2 e3 h.own (by decide))⟩
  · have hi2 : i = us.length := by
      have := (List.getElem?_eq_some_iff.1 hx).1
      simp at this; omega
    subst hi2
    rw [List.getElem?_append_right (Nat.le_refl _)] at hx
    rw [h.len, List.getElem?_append_right (Nat.le_refl _)] at hp
    simp at hx hp
    subst hx hp
    exact ⟨rfl, rfl, hu.kept gr.mod (own_ne2 hu h.own (by decide))⟩
theorem PtsG.mono {W : World} {base base' : Nat} {v : Value} {us : List Cu} {ps : List Pt} (h : PtsG W base v us ps) (hb : base' ≤ base) : PtsG W base' v us ps :=
  ⟨h.own.mono hb, h.len, fun i u p hu hp => by obtain ⟨e1, e2, e3⟩ := h.rel i u p hu hp; exact ⟨e1, e2, e3.mono hb⟩⟩
theorem PtsG.read {W : World} {base : Nat} {v : Value} {us : List Cu} {ps : List Pt} (h : PtsG W base v us ps) : PtsR W v us ps :=
  ⟨h.own.row, h.len, fun i u p h1 h2 => by obtain ⟨e1, e2, e3⟩ := h.rel i u p h1 h2; exact ⟨e1, e2, e3.row⟩⟩
/-- where the first loop stands -/
structure R1St (w2 : World) (rs : List Ln2) (Q : Ln2 → List Sg → Prop) (Os : List (List Sg)) (ev : Value) (W : World) : Prop where
  segs : ∀ (k : Nat) (r : Ln2) (O : List Sg), rs[k]? = some r → Os[k]? = some O → Q r O
  ends : OwnR encI 1 3 W w2.heap.size ev (Os.flatMap endsL)
  mod : Mod [] w2 W
/-- where the last loop stands: one part -/
structure R3St (W2 : World) (P : Nat) (f t : Int) (vals : List Int) (pv : SlH) (W : World) : Prop where
  mod : Mod [P] W2 W
  cell : W.heap[P]? = some (.cells #[.int .i64 f, .int .i64 t, .slice pv.a pv.n pv.c] 67 (0, 0))
  own : OwnR encI 1 3 W W2.heap.size pv.val vals
theorem R3St.kept0 {W2 : World} {P : Nat} {f t : Int} {vals : List Int} {pv : SlH} {W W' : World} (h : R3St W2 P f t vals pv W) (m : Mod [] W W') : R3St W2 P f t vals pv W' :=
  ⟨h.mod.trans m.nil, m.heap h.cell (by simp), h.own.kept0 m⟩
set_option maxHeartbeats 8000000 in
theorem rgParts_of {w : World} {v : Value} {rs : List Ln2} (hv : RowAt encQ w v rs) (hl : RefsAt w rs) (hn : rs.length ≤ 50) {a b : Int} {Q : Ln2 → List Sg → Prop} {C : List Int → List Cs → Prop} (hQ : ∀ r O, Q r O → O.length ≤ 4000000) (hC : ∀ l CL, C l CL → CL.length ≤ 4000000)
    (HSEG : ∀ r ∈ rs, ∀ W, Mod [] w W → Calls Try.prog 34 #[.pointer (some ⟨r.r, 0, none⟩), .agg #[.int .i64 a, .int .i64 b]] W fun e w' => ∃ v O, e = .returned v ∧ OwnR encSg 3 82 w' W.heap.size v O ∧ Q r O ∧ Mod [] W w')
    (HCUT : ∀ W u l, RowAt encI W u l → l.length ≤ 1000000000 → Calls Try.prog 15 #[.agg #[.int .i64 a, .int .i64 b], u] W fun e w' => ∃ u' O, e = .returned u' ∧ OwnR encC 2 24 w' W.heap.size u' O ∧ C l O ∧ Mod [] W w') :
    Calls Try.prog 12 #[.agg #[.int .i64 a, .int .i64 b], v] w fun e w' => ∃ (u : Value) (us : List Cu) (CL : List Cs) (Os : List (List Sg)), e = .returned u ∧ Os.length = rs.length ∧ (∀ (k : Nat) (r : Ln2) (O : List Sg), rs[k]? = some r → Os[k]? = some O → Q r O) ∧ C (Os.flatMap endsL) CL ∧ PtsG w' w.heap.size u us (CL.map fun c => (c.1, c.2, rs.map fun r => lastV r.L c.1)) ∧ Mod [] w w' := by
  have mA := (Mod.refl [] w).alloc (.cells #[.int .i64 a, .int .i64 b] 24)
  have bA := heap_alloc_new w (.cells #[.int .i64 a, .int .i64 b] 24)
  obtain ⟨w2, hw2, bA, zA, mA⟩ := alloc_named2 w (.cells #[.int .i64 a, .int .i64 b] 24)
  obtain ⟨pa, pc, rfl⟩ := hv.form
  have HV := Lib.hid (hv.kept0 mA)
  have HL := Lib.hid (hl.kept0 mA)
  have HMA := Lib.hid mA
  have HBA := Lib.hid bA
  have HZA := Lib.hid zA
  have HSG := Lib.hid HSEG
  have HCU := Lib.hid HCUT
  have HQ := Lib.hid hQ
  have HC := Lib.hid hC
  clear mA bA hv hl HSEG HCUT hQ hC zA
  go_enter Try.func12, Try.ntmps12
  go_wp2_with fail
  go_loopw [5, 6] (fun s5 s6 W => ∃ j : Nat, j ≤ rs.length ∧ s6 = .int .i64 j ∧ ∃ Os : List (List Sg), Os.length = j ∧ Hid (R1St w2 rs Q Os s5 W)) (fun _ s6 _ => rs.length - (intOf s6).toNat)
  case atStart => exact ⟨0, by omega, rfl, [], rfl, Lib.hid ⟨by simp, OwnR.nil_ _ _, Mod.refl _ _⟩⟩
  case round =>
    obtain ⟨j, hj, rfl, Os, hOs, hS⟩ := hrel
    by_cases hlt : j < rs.length
    · obtain ⟨t, ht⟩ : ∃ t, rs[j]? = some t := ⟨rs[j], List.getElem?_eq_getElem hlt⟩
      have htm : t ∈ rs := List.mem_of_getElem? ht
      have htg : rs[j] = t := by rw [List.getElem?_eq_getElem hlt] at ht; simpa using ht
      obtain ⟨q, o, heq, hqc, hg⟩ := (HV.out.kept0 hS.out.mod).get encQ_len hlt
      cases heq
      have k0 := hg 0 (.pointer (some ⟨t.r, 0, none⟩)) (by omega) (by rw [htg]; rfl)
      simp only [Nat.mul_one, Nat.add_zero] at k0
      have hb1 := hS.out.mod.heap HBA.out (by simp)
      have s0 := cell_blk hb1 0
      have s1 := cell_blk hb1 1
      simp only [List.getElem?_toArray, List.getElem?_cons_succ, List.getElem?_cons_zero] at s0 s1
      have CS := Lib.hid (HSG.out t htm wr.drew ((HMA.out.trans hS.out.mod).drew))
      have hj0 : decide ((j : Int) < 0) = false := decide_eq_false (by omega)
      have hj1 : decide ((rs.length : Int) ≤ (j : Int)) = false := decide_eq_false (by omega)
      have hj2 : decide ((j : Int) < (rs.length : Int)) = true := decide_eq_true (by omega)
      have HTT := Lib.hid ht
      clear hg hqc htg hb1 ht
      go_wp2_with fail
      refine wp_plan [([0, 1, 4, 2, 3], 5, [])] [6] (by kernel_rfl) (by kernel_rfl) ?_
      simp only [wpSegs, opsOf, List.map_cons, List.map_nil, opN, List.getD_cons_zero, List.getD_cons_succ]
      go_wp2_with fail
      refine ⟨by first | trivial | rfl, ?_⟩
      go_wp2_with fail
      refine CS.out.mono ?_
      rintro e w3 ⟨v3, O, rfl, o3, hq, m3⟩
      have hOl := HQ.out t O hq
      have m3' : Mod [] wr w3 := (Mod.refl [] wr).drew.trans m3
      have ho3 : OwnR encSg 3 82 w3 w2.heap.size v3 O := o3.mono (by have := hS.out.mod.size; simp; omega)
      obtain ⟨oa, oc, rfl⟩ := ho3.lens
      have HS3 := Lib.hid (show OwnR encI 1 3 w3 w2.heap.size u5 (Os.flatMap endsL ++ endsL (O.take 1)) ∧ OwnR encSg 3 82 w3 w2.heap.size (.slice oa O.length oc) O ∧ Mod [] w2 w3 from ⟨by
        have e : endsL (O.take 1) = [] := by unfold endsL; cases O <;> simp
        rw [e, List.append_nil]
        exact hS.out.ends.kept0 m3', ho3, hS.out.mod.trans m3'⟩)
      have hfl : (Os.flatMap endsL).length ≤ 200000000 := by
        have h1 := flat_ends_len Os 4000000 (fun L hL => by
          obtain ⟨k, hk⟩ := List.getElem?_of_mem hL
          have hkl := (List.getElem?_eq_some_iff.1 hk).1
          exact HQ.out _ L (hS.out.segs k _ L (List.getElem?_eq_getElem (show k < rs.length by omega)) hk))
        exact Nat.le_trans h1 (Nat.le_trans (Nat.mul_le_mul_right _ (show Os.length ≤ 50 by omega)) (by decide))
      have HSG2 := Lib.hid hS.out.segs
      have HQQ := Lib.hid hq
      clear CS k0 s0 s1 o3 m3 m3' ho3 hq hS
      go_wp2_with fail
      refine ⟨again_nil, ?_⟩
      go_wp2_with fail
      refine ⟨by first | trivial | rfl, ?_⟩
      go_wp2_with fail
      go_loopw [5, 8] (fun s5 s8 W => ∃ k : Nat, 1 ≤ k ∧ (k ≤ O.length ∨ k = 1) ∧ s8 = .int .i64 k ∧ Hid (OwnR encI 1 3 W w2.heap.size s5 (Os.flatMap endsL ++ endsL (O.take k)) ∧ OwnR encSg 3 82 W w2.heap.size (.slice oa O.length oc) O ∧ Mod [] w2 W)) (fun _ s8 _ => O.length - (intOf s8).toNat)
      case atStart => exact ⟨1, by omega, .inr rfl, rfl, HS3⟩
      case round =>
        rename World => wr2
        obtain ⟨k, hk1, hk2, rfl, hT⟩ := hrel
        clear HS3
        obtain ⟨q1, q2, q3⟩ := hT.out
        by_cases hlt2 : k < O.length
        · have hET := endsL_take O k hlt2
          rw [if_pos (by omega)] at hET
          obtain ⟨og, ocap, heo, _, _⟩ := q2.at_ (show O[k]? = some O[k] from List.getElem?_eq_getElem hlt2)
          simp only [Value.slice.injEq] at heo
          obtain ⟨rfl, _, rfl⟩ := heo
          have p0 := (q2.cell encSg_len (i := k) hlt2 (j := 0) (by omega) (u := .int .i64 (O[k]).f) rfl).1
          simp only [Nat.add_zero] at p0
          generalize (O[k]).f = y at p0 hET
          have hel : (Os.flatMap endsL ++ endsL (O.take k)).length < 1073741824 := by
            rw [List.length_append]
            unfold endsL
            simp only [List.length_map, List.length_tail, List.length_take]
            unfold endsL at hfl
            omega
          obtain ⟨v', w', ra, ho', gr⟩ := own_append1 (P := Try.prog) (ty := 25) elemInt encI_len encI_one q1 q3.size y hel (by omega)
          dsimp only [encI] at ra
          obtain ⟨a', n', c', rfl⟩ : ∃ a n c, v' = .slice a n c := by obtain ⟨a, c, e⟩ := ho'.lens; exact ⟨a, _, c, e⟩
          have HN := Lib.hid (show OwnR encI 1 3 w' w2.heap.size (.slice a' n' c') (Os.flatMap endsL ++ endsL (O.take (k + 1))) ∧ OwnR encSg 3 82 w' w2.heap.size (.slice (some ⟨og, 0, none⟩) O.length oc) O ∧ Mod [] w2 w' from
            ⟨by rw [hET, ← List.append_assoc]; exact ho', q2.kept gr.mod (own_ne2 q2 q1 (by decide)), Mod.into' q3 gr.mod (fun k hk => .inl (by rw [mem_blk] at hk; exact (World.ownsRow.lt q1 k hk).1))⟩)
          have RA := Lib.hid ra
          have h1 : decide ((k : Int) < (O.length : Int)) = true := decide_eq_true (by omega)
          have h2 : decide ((k : Int) < 0) = false := decide_eq_false (by omega)
          have h3 : decide ((O.length : Int) ≤ (k : Int)) = false := decide_eq_false (by omega)
          clear q1 q2 q3 hET hel ra ho' gr
          go_wp2_with ((with_reducible refine xAppendAt RA.out rfl rfl ?_ ?_ ?_ ?_); exact rfl; exact rfl; exact rfl)
          go_roundw
          case rel => exact ⟨k + 1, by omega, by omega, by go_num, HN⟩
          case measure => simp [intOf]; omega
        · have h1 : decide ((k : Int) < (O.length : Int)) = false := decide_eq_false (by omega)
          have HN := Lib.hid (show R1St w2 rs Q (Os ++ [O]) u5 wr2 from by
            refine ⟨fun n r O' h1 h2 => ?_, ?_, q3⟩
            · by_cases hn2 : n < Os.length
              · rw [List.getElem?_append_left hn2] at h2
                exact HSG2.out n r O' h1 h2
              · rw [List.getElem?_append_right (by omega)] at h2
                have hk2 : n = j := by
                  have := (List.getElem?_eq_some_iff.1 h2).1
                  simp at this; omega
                subst hk2
                rw [hOs] at h2
                simp at h2
                subst h2
                rw [HTT.out] at h1
                cases h1
                exact HQQ.out
            · rw [List.flatMap_append]
              simp only [List.flatMap_singleton]
              rw [List.take_of_length_le (by omega)] at q1
              exact q1)
          clear q1 q2 q3 hT
          go_wp2_with fail
          go_roundw
          case rel => exact ⟨j + 1, by omega, by go_num, Os ++ [O], by simp [hOs], HN⟩
          case measure => simp [intOf]; omega
    · have hje : j = rs.length := by omega
      have hj2 : decide ((j : Int) < (rs.length : Int)) = false := decide_eq_false (by omega)
      have hb1 := hS.out.mod.heap HBA.out (by simp)
      have s0 := cell_blk hb1 0
      have s1 := cell_blk hb1 1
      simp only [List.getElem?_toArray, List.getElem?_cons_succ, List.getElem?_cons_zero] at s0 s1
      have hfl : (Os.flatMap endsL).length ≤ 200000000 := by
        have h1 := flat_ends_len Os 4000000 (fun L hL => by
          obtain ⟨k, hk⟩ := List.getElem?_of_mem hL
          have hkl := (List.getElem?_eq_some_iff.1 hk).1
          exact HQ.out _ L (hS.out.segs k _ L (List.getElem?_eq_getElem (show k < rs.length by omega)) hk))
        exact Nat.le_trans h1 (Nat.le_trans (Nat.mul_le_mul_right _ (show Os.length ≤ 50 by omega)) (by decide))
      have CC := Lib.hid (HCU.out wr u5 (Os.flatMap endsL) hS.out.ends.row (by omega))
      have HM := Lib.hid hS.out.mod
      have HSG2 := Lib.hid hS.out.segs
      clear hS hb1 hfl
      go_wp2_with fail
      refine CC.out.mono ?_
      rintro e w9 ⟨cu, CL, rfl, o9, hc9, m9⟩
      have hcl := HC.out _ _ hc9
      obtain ⟨ca, cc, rfl⟩ := o9.lens
      have HC9 := Lib.hid hc9
      have HO9 := Lib.hid o9
      have HM9 := Lib.hid (HM.out.trans m9)
      have HR9 := Lib.hid (HL.out.kept0 HM9.out)
      have HV9 := Lib.hid (HV.out.kept0 HM9.out)
      clear CC hc9 o9 m9 s0 s1 HM
      go_wp2_with fail
      go_loopw [9, 11] (fun s9 s11 W => ∃ i : Nat, i ≤ CL.length ∧ s11 = .int .i64 i ∧ ∃ us : List Cu, Hid (PtsG W w9.heap.size s9 us ((CL.take i).map fun c => (c.1, c.2, rs.map fun r => lastV r.L c.1)) ∧ Mod [] w9 W)) (fun _ s11 _ => CL.length - (intOf s11).toNat)
      case atStart => exact ⟨0, by omega, rfl, [], Lib.hid ⟨⟨OwnR.nil_ _ _, rfl, by simp⟩, Mod.refl _ _⟩⟩
      case round =>
        rename World => wr2
        obtain ⟨i, hi, rfl, us, hP2⟩ := hrel
        by_cases hlt2 : i < CL.length
        · obtain ⟨c, hc⟩ : ∃ c, CL[i]? = some c := ⟨CL[i], List.getElem?_eq_getElem hlt2⟩
          have hcg : CL[i] = c := by rw [List.getElem?_eq_getElem hlt2] at hc; simpa using hc
          have htk : CL.take (i + 1) = CL.take i ++ [c] := by rw [List.take_succ_eq_append_getElem hlt2, hcg]
          obtain ⟨f, t⟩ := c
          obtain ⟨pt, mt⟩ := hP2.out
          have oW := HO9.out.kept0 mt
          obtain ⟨qb, cap, heq, hq, hcap⟩ := oW.at_ hc
          simp only [Value.slice.injEq] at heq
          obtain ⟨rfl, _, rfl⟩ := heq
          have c0 := (oW.cell encC_len hlt2 (j := 0) (by omega) (u := .int .i64 f) (by rw [hcg]; rfl)).1
          have c1 := (oW.cell encC_len hlt2 (j := 1) (by omega) (u := .int .i64 t) (by rw [hcg]; rfl)).1
          simp only [Nat.add_zero] at c0
          have hi0 : decide ((i : Int) < 0) = false := decide_eq_false (by omega)
          have hi1 : decide ((CL.length : Int) ≤ (i : Int)) = false := decide_eq_false (by omega)
          have hi2 : decide ((i : Int) < (CL.length : Int)) = true := decide_eq_true (by omega)
          have HPT := Lib.hid pt
          have HMT := Lib.hid mt
          have HCX := Lib.hid hc
          have HCG := Lib.hid hcg
          have HTK := Lib.hid htk
          clear pt mt oW hcg hc htk hP2
          go_wp2_with fail
          go_upto_region 15 with fail
          go_cut [12] from 43 to 84 (fun s12 wx => s12 = .pointer (some ⟨wr2.heap.size, 0, none⟩) ∧ Hid (Mod [] wr2 wx ∧ wx.heap[wr2.heap.size]? = some (.cells #[.int .i64 f, .int .i64 t, .slice none 0 0] 67 (0, 0)) ∧ wx.heap.size = wr2.heap.size + 1))
          case first =>
            refine wp_sched (by kernel_rfl) (sched_either 10 11 (by decide) (sched_plan1 [([0, 1, 5, 6, 2, 7, 3, 8, 4, 9], 10, []), ([], 11, []), ([], 12, [])] [] (by kernel_rfl) ?L1) (sched_plan1 [([0, 1, 5, 6, 2, 7, 3, 8, 4, 9], 11, [2, 7, 3, 8, 4, 9]), ([], 10, []), ([], 12, [])] [] (by kernel_rfl) ?L2))
            case L1 =>
              simp only [wpSegs, opsOf, List.map_cons, List.map_nil, opN, List.getD_cons_zero, List.getD_cons_succ]
              go_wp2_with fail
              refine ⟨by first | trivial | rfl, ?_⟩
              go_wp2_with fail
              refine ⟨again_nil, ?_⟩
              go_wp2_with fail
              refine ⟨by first | trivial | rfl, ?_⟩
              go_wp2_with fail
              refine ⟨again_nil, ?_⟩
              go_wp2_with fail
              refine ⟨by first | trivial | rfl, ?_⟩
              go_wp2_with fail
              refine ⟨again_nil, ?_⟩
              go_wp2_with fail
              refine ⟨by first | trivial | rfl, ?_⟩
              go_wp2_with fail
              go_meet
              case rel => exact ⟨rfl, Lib.hid ⟨((Mod.refl [] wr2).alloc _).drew, ((Mod.refl [] (wr2.alloc (.cells #[.int .i64 f, .int .i64 t, .slice none 0 0] 67))).drew).heap (heap_alloc_new wr2 (.cells #[.int .i64 f, .int .i64 t, .slice none 0 0] 67)) (by simp), by simp⟩⟩
            case L2 =>
              simp only [wpSegs, opsOf, List.map_cons, List.map_nil, opN, List.getD_cons_zero, List.getD_cons_succ]
              go_wp2_with fail
              refine ⟨by first | trivial | rfl, ?_⟩
              go_wp2_with fail
              refine ⟨?ag1, ?_⟩
              case ag1 =>
                intro i hi hw
                simp only [List.mem_cons, List.not_mem_nil, or_false] at hi
                rcases hi with rfl | rfl | rfl | rfl | rfl | rfl
                all_goals (simp only [opN, List.getD_cons_zero, List.getD_cons_succ, slotOf]; go_simp)
              go_wp2_with fail
              refine ⟨by first | trivial | rfl, ?_⟩
              go_wp2_with fail
              refine ⟨again_nil, ?_⟩
              go_wp2_with fail
              refine ⟨by first | trivial | rfl, ?_⟩
              go_wp2_with fail
              refine ⟨again_nil, ?_⟩
              go_wp2_with fail
              refine ⟨by first | trivial | rfl, ?_⟩
              go_wp2_with fail
              go_meet
              case rel => exact ⟨rfl, Lib.hid ⟨((Mod.refl [] wr2).alloc _).drew, ((Mod.refl [] (wr2.alloc (.cells #[.int .i64 f, .int .i64 t, .slice none 0 0] 67))).drew).heap (heap_alloc_new wr2 (.cells #[.int .i64 f, .int .i64 t, .slice none 0 0] 67)) (by simp), by simp⟩⟩
          case rest =>
            obtain ⟨rfl, HW2⟩ := hcut
            obtain ⟨m2, b2, z2⟩ := HW2.out
            have HST := Lib.hid (show R3St wc wr2.heap.size f t ((rs.take 0).map fun r => lastV r.L f) SlH.none_ wc from ⟨Mod.refl _ _, b2, OwnR.nil_ _ _⟩)
            have HMC := Lib.hid (HMT.out.trans m2)
            have HZ2 := Lib.hid z2
            have HM2 := Lib.hid m2
            have HB2 := Lib.hid b2
            have HW9 := Lib.hid HMT.out.size
            clear m2 b2 z2 HW2 c0 c1
            go_wp2_with fail
            go_loopw [13] (fun s13 W => ∃ ii : Nat, ii ≤ rs.length ∧ s13 = .int .i64 ii ∧ ∃ pv, Hid (R3St wc wr2.heap.size f t ((rs.take ii).map fun r => lastV r.L f) pv W)) (fun s13 _ => rs.length - (intOf s13).toNat)
            case atStart => exact ⟨0, by omega, rfl, _, HST⟩
            case round =>
              rename World => wr3
              clear HST
              obtain ⟨ii, hii, rfl, pv, hP⟩ := hrel
              have hP' := hP
              clear hP
              have HP := hP'
              clear hP'
              have hz := HZ2.out
              have hw9 := HW9.out
              have hMW : Mod [] w9 wr3 := Mod.into' HMC.out HP.out.mod (fun k hk => .inl (by simp at hk; omega))
              by_cases hlt3 : ii < rs.length
              · obtain ⟨r, hr⟩ : ∃ r, rs[ii]? = some r := ⟨rs[ii], List.getElem?_eq_getElem hlt3⟩
                have hrg : rs[ii] = r := by rw [List.getElem?_eq_getElem hlt3] at hr; simpa using hr
                have hrm : r ∈ rs := List.mem_of_getElem? hr
                obtain ⟨⟨rb, hRA⟩, hRL⟩ := HR9.out r hrm
                have CA := Lib.hid (rlAt_at (hRA.kept0 hMW.drew) hRL f)
                obtain ⟨q, o, heq, hqc, hg⟩ := (HV9.out.kept0 hMW).get encQ_len hlt3
                cases heq
                have k0 := hg 0 (.pointer (some ⟨r.r, 0, none⟩)) (by omega) (by rw [hrg]; rfl)
                simp only [Nat.mul_one, Nat.add_zero] at k0
                have oW := HO9.out.kept0 hMW
                have c0 := (oW.cell encC_len hlt2 (j := 0) (by omega) (u := .int .i64 f) (by rw [HCG.out]; rfl)).1
                simp only [Nat.add_zero] at c0
                have hpb := HP.out.cell
                have e2 := cell_blk hpb 2
                simp only [List.getElem?_toArray, List.getElem?_cons_succ, List.getElem?_cons_zero] at e2
                have h1 : decide ((ii : Int) < (rs.length : Int)) = true := decide_eq_true (by omega)
                have h2 : decide ((ii : Int) < 0) = false := decide_eq_false (by omega)
                have h3 : decide ((rs.length : Int) ≤ (ii : Int)) = false := decide_eq_false (by omega)
                have HHR := Lib.hid hrg
                clear hqc hg hrg hr oW hRA hpb hMW
                go_wp2_with fail
                refine wp_plan [([0, 2, 3, 6, 7, 1, 4, 8, 5, 9, 10], 11, [0, 1]), ([], 12, [0, 1]), ([], 13, []), ([14], 15, [])] [] (by kernel_rfl) (by kernel_rfl) ?_
                simp only [wpSegs, opsOf, List.map_cons, List.map_nil, opN, List.getD_cons_zero, List.getD_cons_succ]
                go_wp2_with fail
                refine ⟨by first | trivial | rfl, ?_⟩
                go_wp2_with fail
                refine CA.out.mono ?_
                rintro e wA ⟨rfl, mA⟩
                have mAA : Mod [] wr3 wA := (Mod.refl [] wr3).drew.trans mA
                have hQ := HP.out.kept0 mAA
                have hpA := hQ.cell
                have a2 := cell_blk hpA 2
                simp only [List.getElem?_toArray, List.getElem?_cons_succ, List.getElem?_cons_zero] at a2
                obtain ⟨pv', w', ra, ho', gr⟩ := own_append1 (P := Try.prog) (ty := 25) elemInt encI_len encI_one hQ.own (show wc.heap.size ≤ wA.heap.size from hQ.mod.size) (lastV r.L f) (by simp; omega) (by omega)
                dsimp only [encI] at ra
                obtain ⟨a', n', c', rfl⟩ : ∃ a n c, pv' = .slice a n c := by obtain ⟨a, c, e⟩ := ho'.lens; exact ⟨a, _, c, e⟩
                have hpo : ∀ k, pv.val.ownBlock = some k → wc.heap.size ≤ k := fun k hk => (World.ownsRow.lt hQ.own k hk).1
                have hpb' := gr.mod.heap hpA (by rw [mem_blk]; intro hm; have := hpo _ hm; omega)
                have e3 := cell_blk hpb' 2
                have e4 := frozen_blk hpb' 2
                simp only [List.getElem?_toArray, List.getElem?_cons_succ, List.getElem?_cons_zero] at e3
                have hpb2 := heap_setCell_blk hpb' 2 (.slice a' n' c')
                have ms : Mod [wr2.heap.size] w' (w'.setCell ⟨wr2.heap.size, 2, none⟩ (.slice a' n' c')) := (Mod.refl _ _).setCell (by simp) _
                have hNX : R3St wc wr2.heap.size f t ((rs.take (ii + 1)).map fun r => lastV r.L f) ⟨a', n', c'⟩ (w'.setCell ⟨wr2.heap.size, 2, none⟩ (.slice a' n' c')) := by
                  refine ⟨Mod.into' (Mod.into' hQ.mod gr.mod (fun k hk => .inl (by rw [mem_blk] at hk; exact hpo _ hk))) ms (fun k hk => .inr (by simp at hk; simp [hk])), by simpa using hpb2, ?_⟩
                  rw [List.take_succ_eq_append_getElem hlt3, List.map_append, List.map_singleton, HHR.out]
                  exact ho'.kept ms (fun k hk => by have := own_ne ho' hpb' (by decide) k hk; simpa using this)
                have HNX := Lib.hid hNX
                have RA := Lib.hid ra
                have ca := cell_blk (((Mod.refl [] wA).alloc (.cells #[.int .i64 (lastV r.L f)] 3)).heap hpA (by simp)) 2
                simp only [List.getElem?_toArray, List.getElem?_cons_succ, List.getElem?_cons_zero] at ca
                clear hNX hpA hpb' hpb2 ms ho' gr ra hQ mA mAA CA e2 k0 c0
                go_wp2_with fail
                refine ⟨?ag2, ?_⟩
                case ag2 =>
                  intro i hi hw
                  simp only [List.mem_cons, List.not_mem_nil, or_false] at hi
                  rcases hi with rfl | rfl
                  all_goals (simp only [opN, List.getD_cons_zero, List.getD_cons_succ, slotOf]; go_simp)
                go_wp2_with fail
                refine ⟨by first | trivial | rfl, ?_⟩
                go_wp2_with fail
                refine ⟨?ag3, ?_⟩
                case ag3 =>
                  intro i hi hw
                  simp only [List.mem_cons, List.not_mem_nil, or_false] at hi
                  rcases hi with rfl | rfl
                  all_goals (simp only [opN, List.getD_cons_zero, List.getD_cons_succ, slotOf]; go_simp)
                go_wp2_with fail
                refine ⟨by first | trivial | rfl, ?_⟩
                go_wp2_with ((with_reducible refine xAppendAt RA.out rfl rfl ?_ ?_ ?_ ?_); exact rfl; exact rfl; exact rfl)
                refine ⟨again_nil, ?_⟩
                go_wp2_with fail
                refine ⟨by first | trivial | rfl, ?_⟩
                go_wp2_with fail
                refine ⟨again_nil, ?_⟩
                go_wp2_with fail
                refine ⟨by first | trivial | rfl, ?_⟩
                go_wp2_with fail
                go_roundw
                case rel => exact ⟨ii + 1, by omega, by go_num, _, HNX⟩
                case measure => simp [intOf]; omega
              · have hie : ii = rs.length := by omega
                have hi2 : decide ((ii : Int) < (rs.length : Int)) = false := decide_eq_false (by omega)
                have hvals : rs.take ii = rs := List.take_of_length_le (by omega)
                have hPo : ∀ k, u9.ownBlock = some k → w9.heap.size ≤ k ∧ k < wr2.heap.size := fun k hk => World.ownsRow.lt HPT.out.own k hk
                have hPt3 := (HPT.out.kept HM2.out (by simp) (by simp)).kept HP.out.mod (fun k hk => by have := hPo k hk; simp; omega) (fun k hk => by
                  simp at hk
                  subst hk
                  exact .inr (.inr ⟨_, HB2.out⟩))
                have hpb := HP.out.cell
                have e0 := cell_blk hpb 0
                have e1 := cell_blk hpb 1
                have e2 := cell_blk hpb 2
                simp only [List.getElem?_toArray, List.getElem?_cons_succ, List.getElem?_cons_zero] at e0 e1 e2
                have husl : us.length < 1073741824 := by
                  have := HPT.out.len
                  rw [List.length_map, List.length_take] at this
                  omega
                obtain ⟨ov', w', ra, ho', gr⟩ := own_append1 (P := Try.prog) (ty := 38) elemRPart encU_len encU_one hPt3.own (show w9.heap.size ≤ wr3.heap.size from hMW.size) (f, t, pv) husl (by omega)
                dsimp only [encU] at ra
                have hpo := HP.out.own
                rw [hvals] at hpo
                have hNX := hPt3.push ho' gr (hpo.mono (by omega))
                have HNX := Lib.hid (show PtsG w' w9.heap.size ov' (us ++ [(f, t, pv)]) ((CL.take (i + 1)).map fun c => (c.1, c.2, rs.map fun r => lastV r.L c.1)) ∧ Mod [] w9 w' from ⟨by
                  rw [HTK.out, List.map_append]; exact hNX, Mod.into' hMW gr.mod (fun k hk => .inl (by rw [mem_blk] at hk; exact (hPo _ hk).1))⟩)
                have RA := Lib.hid ra
                clear hNX hPt3 ho' gr ra hpb hpo hMW hPo
                go_wp2_with ((with_reducible refine xAppendAt RA.out rfl rfl ?_ ?_ ?_ ?_); exact rfl; exact rfl; exact rfl)
                go_roundw
                case rel => exact ⟨i + 1, by omega, by go_num, _, HNX⟩
                case measure => simp [intOf]; omega
        · have hie : i = CL.length := by omega
          have hi2 : decide ((i : Int) < (CL.length : Int)) = false := decide_eq_false (by omega)
          have HE := Lib.hid (show PtsG wr2 w.heap.size u9 us (CL.map fun c => (c.1, c.2, rs.map fun r => lastV r.L c.1)) ∧ Mod [] w wr2 from by
            obtain ⟨h1, h2⟩ := hP2.out
            rw [List.take_of_length_le (by omega)] at h1
            exact ⟨h1.mono (HMA.out.trans HM9.out).size, (HMA.out.trans HM9.out).trans h2⟩)
          clear hP2
          subst hie
          go_wp2_with fail
          go_ret
          exact ⟨_, us, CL, Os, rfl, by omega, HSG2.out, HC9.out, HE.out.1, HE.out.2⟩
end Go.Proofs.Ytngglpekdjhbdaa
namespace Go.Proofs.Ytngglpekdjhbdaa
open Go.RowKit Go.ChangeMaps Go.Deep Tr
set_option linter.unusedSimpArgs false
set_option linter.unusedVariables false
set_option maxRecDepth 20000

def PartsAre (fs : List (Int → Int)) (a b : Int) (ps : List Pt) : Prop :=
  (mayS a b → ∃ (CL : List Cs) (Ls : List (List Sg)), Ls.length = fs.length ∧ (∀ (k : Nat) (f : Int → Int) (L : List Sg), fs[k]? = some f → Ls[k]? = some L → SegsTo f a b L) ∧ CutTo (· ∈ Ls.flatMap endsL) a b CL ∧ ps = CL.map fun c => (c.1, c.2, fs.map fun f => f c.1)) ∧ (¬ mayS a b → ps = [])
theorem PartsAre.unique {fs : List (Int → Int)} {a b : Int} {ps ps' : List Pt} (h : PartsAre fs a b ps) (h' : PartsAre fs a b ps') : ps = ps' := by
  by_cases hab : mayS a b
  · obtain ⟨CL, Ls, h1, h2, h3, h4⟩ := h.1 hab
    obtain ⟨CL', Ls', h1', h2', h3', h4'⟩ := h'.1 hab
    have hL : Ls = Ls' := by
      refine List.ext_getElem (by rw [h1, h1']) fun k k1 k2 => ?_
      have hk : k < fs.length := by omega
      exact SegsTo.unique _ (Nat.le_refl _) (h2 k fs[k] Ls[k] (List.getElem?_eq_getElem hk) (List.getElem?_eq_getElem k1)) (h2' k fs[k] Ls'[k] (List.getElem?_eq_getElem hk) (List.getElem?_eq_getElem k2))
    subst hL
    rw [h4, h4', CutTo.unique _ (Nat.le_refl _) h3 h3']
  · rw [h.2 hab, h'.2 hab]
theorem PartsAre.bounds {fs : List (Int → Int)} {a b : Int} {ps : List Pt} (h : PartsAre fs a b ps) : ps.length ≤ 4000000 ∧ ∀ p ∈ ps, p.2.2.length = fs.length := by
  by_cases hab : mayS a b
  · obtain ⟨CL, Ls, h1, h2, h3, h4⟩ := h.1 hab
    have hl := h3.len
    obtain ⟨a1, a2, a3⟩ := hab
    subst h4
    refine ⟨by rw [List.length_map]; omega, fun p hp => ?_⟩
    obtain ⟨c, _, rfl⟩ := List.mem_map.1 hp
    simp
  · rw [h.2 hab]; simp
def CutIs (l : List Int) (a b : Int) (CL : List Cs) : Prop := (mayS a b → CutTo (· ∈ l) a b CL) ∧ (¬ mayS a b → CL = [])
theorem CutIs.unique {l : List Int} {a b : Int} {A B : List Cs} (h : CutIs l a b A) (h' : CutIs l a b B) : A = B := by
  by_cases hab : mayS a b
  · exact CutTo.unique _ (Nat.le_refl _) (h.1 hab) (h'.1 hab)
  · rw [h.2 hab, h'.2 hab]
theorem CutIs.bounds {l : List Int} {a b : Int} {A : List Cs} (h : CutIs l a b A) : A.length ≤ 4000000 := by
  by_cases hab : mayS a b
  · have hl := (h.1 hab).len
    obtain ⟨a1, a2, a3⟩ := hab
    omega
  · rw [h.2 hab]; simp
theorem parts_any {w : World} {v : Value} {ts : List Ln1} (hv : RowAt encP w v ts) (hl : LinesAt w ts) (hn : ts.length ≤ 50) (a b : Int) :
    Calls Try.prog 11 #[.agg #[.int .i64 a, .int .i64 b], v] w fun e w' => ∃ (u : Value) (us : List Cu) (ps : List Pt), e = .returned u ∧ PtsR w' u us ps ∧ PartsAre (ts.map (·.f)) a b ps ∧ Mod [] w w' := by
  by_cases hab : mayS a b
  · refine (parts_may hv hl hn hab).mono ?_
    rintro e w' ⟨u, us, CL, Ls, rfl, h1, h2, h3, h4, h5⟩
    refine ⟨u, us, _, rfl, h4.read, ⟨fun _ => ⟨CL, Ls, by rw [List.length_map]; exact h1, fun k f L k1 k2 => ?_, h3, by simp [List.map_map]⟩, fun h => absurd hab h⟩, h5⟩
    rw [List.getElem?_map] at k1
    cases ht : ts[k]? with
    | none => rw [ht] at k1; simp at k1
    | some t => rw [ht] at k1; simp at k1; subst k1; exact h2 k t L ht k2
  · refine (parts_not hv hl hn hab).mono ?_
    rintro e w' ⟨rfl, h5⟩
    exact ⟨_, [], [], rfl, ⟨RowAt.nil _ _, rfl, fun i u p h => by simp at h⟩, ⟨fun h => absurd h hab, fun _ => rfl⟩, h5⟩
theorem rgParts_any {w : World} {v : Value} {rs : List Ln2} (hv : RowAt encQ w v rs) (hl : RefsAt w rs) (hn : rs.length ≤ 50) (a b : Int) :
    Calls Try.prog 12 #[.agg #[.int .i64 a, .int .i64 b], v] w fun e w' => ∃ (u : Value) (us : List Cu) (ps : List Pt), e = .returned u ∧ PtsR w' u us ps ∧ PartsAre (rs.map fun r => lastV r.L) a b ps ∧ Mod [] w w' := by
  by_cases hab : mayS a b
  · have hb : b - a ≤ 4000000 := by obtain ⟨a1, a2, a3⟩ := hab; omega
    refine (rgParts_of hv hl hn (a := a) (b := b) (Q := fun r O => SegsTo (lastV r.L) a b O) (C := fun l CL => CutTo (· ∈ l) a b CL) (fun r O h => by have := segsTo_len h; omega) (fun l CL h => by have := h.len; omega) (fun r hr W m => ?_) (fun W u l hu hul => rgCut_at hu hul hab)).mono ?_
    · obtain ⟨⟨base, h1⟩, h2⟩ := hl r hr
      exact rlSegs_at (h1.kept0 m) h2 hab
    · rintro e w' ⟨u, us, CL, Os, rfl, h1, h2, h3, h4, h5⟩
      refine ⟨u, us, _, rfl, h4.read, ⟨fun _ => ⟨CL, Os, by rw [List.length_map]; exact h1, fun k f L k1 k2 => ?_, h3, by simp [List.map_map]⟩, fun h => absurd hab h⟩, h5⟩
      rw [List.getElem?_map] at k1
      cases ht : rs[k]? with
      | none => rw [ht] at k1; simp at k1
      | some t => rw [ht] at k1; simp at k1; subst k1; exact h2 k t L ht k2
  · refine (rgParts_of hv hl hn (a := a) (b := b) (Q := fun r O => O = []) (C := fun l CL => CL = []) (fun r O h => by rw [h]; simp) (fun l CL h => by rw [h]; simp) (fun r hr W m => ?_) (fun W u l hu hul => ?_)).mono ?_
    · refine (rlSegs_not hab).mono ?_
      rintro e w' ⟨rfl, m2⟩
      exact ⟨_, [], rfl, OwnR.nil_ _ _, rfl, m2⟩
    · refine (rgCut_not hab).mono ?_
      rintro e w' ⟨rfl, m2⟩
      exact ⟨_, [], rfl, OwnR.nil_ _ _, rfl, m2⟩
    · rintro e w' ⟨u, us, CL, Os, rfl, h1, h2, rfl, h4, h5⟩
      exact ⟨u, us, _, rfl, h4.read, ⟨fun h => absurd h hab, fun _ => rfl⟩, h5⟩
theorem cut_both {w : World} {v : Value} {ends : List Int} (h : RowAt encI w v ends) (hl : ends.length ≤ 10000000) (a b : Int) :
    Calls Try.prog 14 #[.agg #[.int .i64 a, .int .i64 b], v] w fun e w' => ∃ u L, e = .returned u ∧ RowAt encC w' u L ∧ CutIs ends a b L ∧ Mod [] w w' := by
  by_cases hab : mayS a b
  · refine (cut_any h hl hab).mono ?_
    rintro e w' ⟨u, L, rfl, h1, h2, h3, h4⟩
    exact ⟨u, L, rfl, h1.row, ⟨fun _ => h2, fun h => absurd hab h⟩, h4⟩
  · refine (cut_not hab).mono ?_
    rintro e w' ⟨rfl, h4⟩
    exact ⟨_, [], rfl, RowAt.nil _ _, ⟨fun h => absurd h hab, fun _ => rfl⟩, h4⟩
theorem rgCut_both {w : World} {v : Value} {ends : List Int} (h : RowAt encI w v ends) (hl : ends.length ≤ 10000000) (a b : Int) :
    Calls Try.prog 15 #[.agg #[.int .i64 a, .int .i64 b], v] w fun e w' => ∃ u L, e = .returned u ∧ RowAt encC w' u L ∧ CutIs ends a b L ∧ Mod [] w w' := by
  by_cases hab : mayS a b
  · refine (rgCut_at h (by omega) hab).mono ?_
    rintro e w' ⟨u, L, rfl, h1, h2, h4⟩
    exact ⟨u, L, rfl, h1.row, ⟨fun _ => h2, fun h => absurd hab h⟩, h4⟩
  · refine (rgCut_not hab).mono ?_
    rintro e w' ⟨rfl, h4⟩
    exact ⟨_, [], rfl, RowAt.nil _ _, ⟨fun h => absurd h hab, fun _ => rfl⟩, h4⟩
end Go.Proofs.Ytngglpekdjhbdaa
namespace Go.Proofs.Ytngglpekdjhbdaa
open Go.RowKit Go.ChangeMaps Go.Deep Tr
set_option linter.unusedSimpArgs false
set_option linter.unusedVariables false
set_option maxRecDepth 20000

/-- the document's timelines of the first lists -/
structure DocSt (w : World) (os : List (List Sg)) (i : Nat) (v : Value) (rs : List Ln2) (W : World) : Prop where
  len : rs.length = i
  tie : ∀ (k : Nat) (r : Ln2) (o : List Sg), rs[k]? = some r → os[k]? = some o → r.L = madeL o
  lie : RefsAt W rs
  own : OwnR encQ 1 32 W w.heap.size v rs
theorem DocSt.kept0 {w W W' : World} {os : List (List Sg)} {i : Nat} {v : Value} {rs : List Ln2} (h : DocSt w os i v rs W) (m : Mod [] W W') : DocSt w os i v rs W' :=
  ⟨h.len, h.tie, h.lie.kept0 m, h.own.kept0 m⟩
/-- a row of the call's own of pointers grows: what the timelines are stays -/
theorem refAt_grown {α : Type} {enc : α → List Value} {k : Nat} {E : TypeId} {W W' : World} {base : Nat} {v v' : Value} {l : List α} {r rb : Nat} {L : List Sg} (h : RefAt W r rb L) (ho : OwnR enc k E W base v l) (gr : Grew W v W' v') (hE : E ≠ 72) (hE2 : E ≠ 82) : RefAt W' r rb L := by
  obtain ⟨x, h1, h2⟩ := h
  refine ⟨x, gr.mod.heap h1 (fun hm => ?_), h2.kept gr.mod (own_ne2 h2 ho (fun e => hE2 e.symm))⟩
  rw [mem_blk] at hm
  exact own_ne ho h1 hE _ hm rfl
theorem DocSt.grown {α : Type} {enc : α → List Value} {k : Nat} {E : TypeId} {w W W' : World} {os : List (List Sg)} {i : Nat} {v : Value} {rs : List Ln2} {base : Nat} {u u' : Value} {l : List α} (h : DocSt w os i v rs W) (ho : OwnR enc k E W base u l) (gr : Grew W u W' u') (hE : E ≠ 72) (hE2 : E ≠ 82) (hE3 : E ≠ 32) : DocSt w os i v rs W' :=
  ⟨h.len, h.tie, fun t ht => by
    obtain ⟨⟨b, h1⟩, h2⟩ := h.lie t ht
    exact ⟨⟨b, refAt_grown h1 ho gr hE hE2⟩, h2⟩, h.own.kept gr.mod (own_ne2 h.own ho (fun e => hE3 e.symm))⟩
theorem DocSt.push {w W W' : World} {os : List (List Sg)} {i : Nat} {v v' : Value} {rs : List Ln2} {r : Nat} {o : List Sg} (h : DocSt w os i v rs W) (ho : os[i]? = some o) {base : Nat} (hr : RefAt W r base (madeL o)) (hn : o.length ≤ 30) (hown : OwnR encQ 1 32 W' w.heap.size v' (rs ++ [⟨r, madeL o⟩])) (gr : Grew W v W' v') : DocSt w os (i + 1) v' (rs ++ [⟨r, madeL o⟩]) W' := by
  refine ⟨by rw [List.length_append, h.len]; rfl, ?_, fun x hx => ?_, hown⟩
  · intro k x p h1 h2
    by_cases hki : k < rs.length
    · rw [List.getElem?_append_left hki] at h1
      exact h.tie k x p h1 h2
    · have hke : k = i := by
        have := (List.getElem?_eq_some_iff.1 h1).1
        rw [List.length_append, h.len] at this
        rw [h.len] at hki
        simp at this
        omega
      subst hke
      rw [List.getElem?_append_right (by rw [h.len]; omega), h.len] at h1
      simp at h1
      subst h1
      rw [ho] at h2
      cases h2
      rfl
  · rw [List.mem_append] at hx
    rcases hx with hx | hx
    · obtain ⟨⟨b, h1⟩, h2⟩ := h.lie x hx
      exact ⟨⟨b, refAt_grown h1 h.own gr (by decide) (by decide)⟩, h2⟩
    · have e : x = ⟨r, madeL o⟩ := by simpa using hx
      subst e
      exact ⟨⟨base, refAt_grown hr h.own gr (by decide) (by decide)⟩, by have := madeL_len o; show (madeL o).length ≤ _; omega⟩
/-- a row of pointers grows: the first timelines stay -/
theorem CovSt.grown {α : Type} {enc : α → List Value} {k : Nat} {E : TypeId} {w W W' : World} {os : List (List Sg)} {i : Nat} {v : Value} {ts : List Ln1} {base : Nat} {u u' : Value} {l : List α} (h : CovSt w os i v ts W) (ho : OwnR enc k E W base u l) (gr : Grew W u W' u') (hb : w.heap.size ≤ base) (hE : ¬ lineE E) (hE2 : E ≠ 31) : CovSt w os i v ts W' := by
  refine ⟨h.len, h.tie, h.few, fun x hx => ⟨(h.lie x hx).1.kept gr.mod (fun k hk hm => ?_), (h.lie x hx).2⟩, h.own.kept gr.mod (own_ne2 h.own ho (fun e => hE2 e.symm)), Mod.into' h.mod gr.mod (fun k hk => .inl (by rw [mem_blk] at hk; have := (World.ownsRow.lt ho k hk).1; omega))⟩
  obtain ⟨c, E', h1, h2⟩ := (h.lie x hx).1.types k hk
  rw [mem_blk] at hm
  exact own_ne ho h1 (by rintro rfl; exact hE h2) k hm rfl
/-- the functions of the one are those of the other -/
theorem fs_same {w W : World} {os : List (List Sg)} {n : Nat} {v v' : Value} {ts : List Ln1} {rs : List Ln2} (h : CovSt w os n v ts W) (h' : DocSt w os n v' rs W) (hn : os.length = n) : ts.map (·.f) = rs.map fun r => lastV r.L := by
  refine List.ext_getElem? fun k => ?_
  rw [List.getElem?_map, List.getElem?_map]
  by_cases hk : k < n
  · have k1 : k < ts.length := by rw [h.len]; exact hk
    have k2 : k < rs.length := by rw [h'.len]; exact hk
    have k3 : k < os.length := by omega
    rw [List.getElem?_eq_getElem k1, List.getElem?_eq_getElem k2, Option.map_some, Option.map_some]
    rw [h.tie k ts[k] os[k] (List.getElem?_eq_getElem k1) (List.getElem?_eq_getElem k3), h'.tie k rs[k] os[k] (List.getElem?_eq_getElem k2) (List.getElem?_eq_getElem k3)]
    congr 1
    funext d
    exact made_lastV _ d
  · rw [List.getElem?_eq_none (by rw [h.len]; omega), List.getElem?_eq_none (by rw [h'.len]; omega)]
    rfl
set_option maxHeartbeats 8000000 in
theorem parts_law {w : World} {v ve : Value} {hs : List SlH} {os : List (List Sg)} {ends : List Int} (hv : PutsAt w v hs os) (hl : hs.length ≤ 140737488355328) (hll : ∀ h ∈ hs, h.n ≤ 140737488355328) (a b : Int) (he : RowAt encI w ve ends) (hel : ends.length ≤ 140737488355328) :
    Calls Try.prog 3 #[v, .agg #[.int .i64 a, .int .i64 b], ve] w fun e w' => e = .returned (.bool true) ∧ Mod [] w w' := by
  obtain ⟨va, vc, rfl⟩ := hv.row.form
  obtain ⟨ea, ec, rfl⟩ := he.form
  have mA := (Mod.refl [] w).alloc (.cells #[.int .i64 a, .int .i64 b] 24)
  have hA := heap_alloc_new w (.cells #[.int .i64 a, .int .i64 b] 24)
  have HV := Lib.hid (hv.kept0 mA)
  have HEN := Lib.hid (he.kept0 mA)
  have C0 := Lib.hid (great12_at (HV.out.row) hl hll)
  have HA := Lib.hid mA
  have HBA := Lib.hid hA
  clear hv he mA hA
  go_enter Try.func3, Try.ntmps3
  go_wp2_with fail
  refine C0.out.mono ?_
  rintro e w1 ⟨⟨g, rfl, hb⟩, rfl⟩
  have HS := Lib.hid hb
  obtain ⟨sb, hsb⟩ : ∃ sb, w.heap.size = sb := ⟨_, rfl⟩
  rw [hsb] at HBA
  generalize w.alloc (.cells #[.int .i64 a, .int .i64 b] 24) = w1 at HV HA HEN HBA
  clear hb C0
  by_cases h1 : g = true
  · subst h1
    have CK := Lib.hid (known_at w1)
    go_wp2_with fail
    refine CK.out.mono ?_
    rintro e w2 ⟨rfl, m2⟩
    have HE := Lib.hid (HA.out.trans m2)
    clear m2 CK
    go_wp2_with fail
    go_ret
    exact ⟨rfl, HE.out⟩
  have h1' : g = false := by simpa using h1
  subst h1'
  clear h1
  by_cases h60 : 60 < (ends.length : Int)
  · have h6d : decide (60 < (ends.length : Int)) = true := decide_eq_true h60
    have CK := Lib.hid (known_at w1)
    go_wp2_with fail
    refine CK.out.mono ?_
    rintro e w2 ⟨rfl, m2⟩
    have HE := Lib.hid (HA.out.trans m2)
    clear m2 CK
    go_wp2_with fail
    go_ret
    exact ⟨rfl, HE.out⟩
  have h6d : decide (60 < (ends.length : Int)) = false := decide_eq_false h60
  obtain ⟨hs5, hs30⟩ := HS.out rfl
  have H30 := Lib.hid hs30
  clear HS hs30 hll hl
  go_wp2_with fail
  go_loopw [7, 8, 25] (fun s7 s8 s25 W => ∃ (i : Nat) (ts : List Ln1) (rs : List Ln2), i ≤ hs.length ∧ s25 = .int .i64 i ∧ Hid (CovSt w1 os i s7 ts W ∧ DocSt w1 os i s8 rs W)) (fun _ _ s25 _ => hs.length - (intOf s25).toNat)
  case atStart => exact ⟨0, [], [], by omega, rfl, Lib.hid ⟨⟨rfl, fun k t o h => by simp at h, fun t h => by simp at h, fun t h => by simp at h, OwnR.nil_ _ _, Mod.refl _ _⟩, ⟨rfl, fun k t o h => by simp at h, fun t h => by simp at h, OwnR.nil_ _ _⟩⟩⟩
  case round =>
    obtain ⟨i, ts, rs, hi, rfl, hS⟩ := hrel
    obtain ⟨hC, hD⟩ := hS.out
    by_cases hlt : i < hs.length
    · obtain ⟨x, hx⟩ : ∃ x, hs[i]? = some x := ⟨hs[i], List.getElem?_eq_getElem hlt⟩
      obtain ⟨o, ho⟩ : ∃ o, os[i]? = some o := ⟨os[i]'(by rw [← HV.out.len]; exact hlt), List.getElem?_eq_getElem _⟩
      obtain ⟨hro, hxn⟩ := HV.out.rel i x o hx ho
      have hx30 := H30.out x (List.mem_of_getElem? hx)
      have hm := hC.mod
      obtain ⟨q, r, heq, hc, hg⟩ := RowAt.get encH_len (HV.out.row.kept0 hm) hlt
      cases heq
      have g0 := hg 0 x.val (by omega) (by rw [List.getElem?_eq_getElem hlt] at hx; cases hx; rfl)
      simp only [Nat.mul_one, Nat.add_zero] at g0
      have C1 := Lib.hid (made_at (hro.kept0 hm) (by omega))
      obtain ⟨xa, xn, xc⟩ := x
      simp only [SlH.val] at g0 C1 hxn hx30
      subst hxn
      have hj0 : decide ((i : Int) < 0) = false := decide_eq_false (by omega)
      have hj1 : decide ((hs.length : Int) ≤ (i : Int)) = false := decide_eq_false (by omega)
      have hj2 : decide ((i : Int) < (hs.length : Int)) = true := decide_eq_true (by omega)
      have HCC := Lib.hid hC
      have HDD := Lib.hid hD
      clear hg hm hro hC hD hS hc hx
      go_wp2_with fail
      refine C1.out.mono ?_
      rintro e w2 ⟨g, r1, rfl, ⟨B, hL, m2, hB⟩, hRf⟩
      have hS2 := HCC.out.kept0 m2
      have hD2 := HDD.out.kept0 m2
      obtain ⟨ta, tc, hu7⟩ := hS2.own.lens
      obtain ⟨ra1, rc1, hu8⟩ := hD2.own.lens
      subst hu7 hu8
      obtain ⟨v', w', ra, ho', gr⟩ := own_append1 (P := Try.prog) (ty := 28) elemPl encP_len encP_one hS2.own hS2.mod.size (⟨g, B, o.length, madeF o⟩ : Ln1) (by rw [hS2.len]; omega) (by omega)
      dsimp only [encP] at ra
      obtain ⟨a', n', c', rfl⟩ : ∃ a n c, v' = .slice a n c := by obtain ⟨a, c, e⟩ := ho'.lens; exact ⟨a, _, c, e⟩
      have hN1 := hS2.push ho hL rfl hx30 ho' gr
      have hD3 := hD2.grown hS2.own gr (by decide) (by decide) (by decide)
      have hRf3 := refAt_grown hRf hS2.own gr (by decide) (by decide)
      obtain ⟨v'', w'', rb, hob, grb⟩ := own_append1 (P := Try.prog) (ty := 29) elemPrl encQ_len encQ_one hD3.own hN1.mod.size (⟨r1, madeL o⟩ : Ln2) (by rw [hD3.len]; omega) (by omega)
      dsimp only [encQ] at rb
      obtain ⟨a'', n'', c'', rfl⟩ : ∃ a n c, v'' = .slice a n c := by obtain ⟨a, c, e⟩ := hob.lens; exact ⟨a, _, c, e⟩
      have hN2 := hN1.grown hD3.own grb (Nat.le_refl _) (by unfold lineE; decide) (by decide)
      have hD4 := hD3.push ho hRf3 hx30 hob grb
      have HN := Lib.hid (⟨hN2, hD4⟩ : _ ∧ _)
      have RA := Lib.hid ra
      have RB := Lib.hid rb
      clear hS2 ra ho' gr hL m2 hB C1 hD2 hN1 hD3 hRf hRf3 rb hob grb hN2 hD4 HCC HDD g0
      go_wp2_with (first | ((with_reducible refine xAppendAt RA.out rfl rfl ?_ ?_ ?_ ?_); exact rfl; exact rfl; exact rfl) | ((with_reducible refine xAppendAt RB.out rfl rfl ?_ ?_ ?_ ?_); exact rfl; exact rfl; exact rfl))
      go_roundw
      case rel => exact ⟨i + 1, _, _, by omega, by go_num, HN⟩
      case measure => simp [intOf]; omega
    · have hie : i = hs.length := by omega
      subst hie
      have hj2 : decide ((hs.length : Int) < (hs.length : Int)) = false := decide_eq_false (by omega)
      have HFS := Lib.hid (fs_same hC hD HV.out.len.symm)
      have htl : ts.length ≤ 50 := by rw [hC.len]; omega
      have hrl : rs.length ≤ 50 := by rw [hD.len]; omega
      obtain ⟨ta, tc, hu7⟩ := hC.own.lens
      obtain ⟨ra1, rc1, hu8⟩ := hD.own.lens
      subst hu7 hu8
      have mE := (Mod.refl [] wr).alloc (.cells #[] 3)
      have oE : OwnR encI 1 3 (wr.alloc (.cells #[] 3)) wr.heap.size (.slice (some ⟨wr.heap.size, 0, none⟩) 0 0) [] := OwnR.fresh wr wr.heap.size (Nat.le_refl _)
      have hEW := (HEN.out.kept0 hC.mod).kept0 mE
      obtain ⟨iv, w3, ra, ho3, gr3⟩ := own_append (P := Try.prog) (ty := 25) (tx := 25) elemInt encI_len oE mE.size (hEW.src encI_len encI_one Try.underlying25) (by simp; omega) (by omega)
      have m3 : Mod [] wr w3 := Mod.into' mE gr3.mod (fun k hk => .inl (by simp [blk, Value.ownBlock] at hk; omega))
      obtain ⟨ia, ic, rfl⟩ := ho3.lens
      simp only [List.nil_append] at ra ho3
      have RA := Lib.hid ra
      have HI := Lib.hid ho3.row
      have HE3 := Lib.hid ((HEN.out.kept0 hC.mod).kept0 m3)
      have HC3 := Lib.hid (hC.kept0 m3)
      have HD3 := Lib.hid (hD.kept0 m3)
      have HB3 := Lib.hid (m3.heap (hC.mod.heap HBA.out (by simp)) (by simp))
      have HM3 := Lib.hid (HA.out.trans (hC.mod.trans m3))
      clear hC hD hS mE oE hEW ra ho3 gr3 m3
      go_wp2_with ((with_reducible refine xAppendAt RA.out rfl rfl ?_ ?_ ?_ ?_); exact rfl; exact rfl; exact rfl)
      have md := (Mod.refl [] w3).drew
      have CP := Lib.hid (parts_any (HC3.out.own.row.kept0 md) (HC3.out.lie.kept0 md) htl a b)
      have b3 := HB3.out
      have s0 := cell_blk b3 0
      have s1 := cell_blk b3 1
      simp only [List.getElem?_toArray, List.getElem?_cons_succ, List.getElem?_cons_zero] at s0 s1
      have HMD := Lib.hid md
      clear b3 md
      refine wp_plan [([0, 1, 3, 4], 2, [3]), ([], 5, []), ([], 6, []), ([7, 8, 9, 10, 12, 13], 11, [12]), ([], 14, []), ([], 15, [])] [16, 17] (by kernel_rfl) (by kernel_rfl) ?_
      simp only [wpSegs, opsOf, List.map_cons, List.map_nil, opN, List.getD_cons_zero, List.getD_cons_succ]
      go_wp2_with fail
      refine ⟨by first | trivial | rfl, ?_⟩
      go_wp2_with fail
      refine CP.out.mono ?_
      rintro e w4 ⟨u1, us1, ps1, rfl, hR1, hP1, m4⟩
      have HM4 := Lib.hid (HMD.out.trans m4)
      have CQ := Lib.hid (rgParts_any (HD3.out.own.row.kept0 HM4.out) (HD3.out.lie.kept0 HM4.out) hrl a b)
      have b4 := HM4.out.heap HB3.out (by simp)
      have t0 := cell_blk b4 0
      have t1 := cell_blk b4 1
      simp only [List.getElem?_toArray, List.getElem?_cons_succ, List.getElem?_cons_zero] at t0 t1
      have HR1 := Lib.hid hR1
      have HP1 := Lib.hid hP1
      obtain ⟨ua1, uc1, rfl⟩ := hR1.row.form
      clear CP m4 b4 s0 s1 hR1 hP1
      go_wp2_with fail
      refine ⟨?ag1, ?_⟩
      case ag1 =>
        intro i hi hw
        simp only [List.mem_cons, List.not_mem_nil, or_false] at hi
        subst hi
        all_goals (simp only [opN, List.getD_cons_zero, List.getD_cons_succ, slotOf]; go_simp)
      go_wp2_with fail
      refine ⟨by first | trivial | rfl, ?_⟩
      go_wp2_with fail
      refine CQ.out.mono ?_
      rintro e w5 ⟨u2, us2, ps2, rfl, hR2, hP2, m5⟩
      have hps : ps1 = ps2 := PartsAre.unique HP1.out (by rw [HFS.out]; exact hP2)
      subst hps
      obtain ⟨ua2, uc2, rfl⟩ := hR2.row.form
      have hbd := HP1.out.bounds
      have CS := Lib.hid (same_true (HR1.out.kept0 m5) hR2 (by omega) (fun p hp => by rw [hbd.2 p hp, List.length_map]; omega))
      have HM5 := Lib.hid (HM4.out.trans m5)
      clear CQ m5 t0 t1 hR2 hP2 hbd
      go_wp2_with fail
      refine ⟨again_nil, ?_⟩
      go_wp2_with fail
      refine ⟨by first | trivial | rfl, ?_⟩
      go_wp2_with fail
      refine CS.out.mono ?_
      rintro e w6 ⟨rfl, m6⟩
      have HM6 := Lib.hid (HM5.out.trans m6)
      have b6 := HM6.out.heap HB3.out (by simp)
      have t0 := cell_blk b6 0
      have t1 := cell_blk b6 1
      simp only [List.getElem?_toArray, List.getElem?_cons_succ, List.getElem?_cons_zero] at t0 t1
      have CT := Lib.hid (cut_both (HI.out.kept0 HM6.out) (by omega) a b)
      clear CS m6 b6
      go_wp2_with fail
      refine ⟨again_nil, ?_⟩
      go_wp2_with fail
      refine ⟨by first | trivial | rfl, ?_⟩
      go_wp2_with fail
      refine CT.out.mono ?_
      rintro e w7 ⟨u3, L3, rfl, hr3, hc3, m7⟩
      have HM7 := Lib.hid (HM6.out.trans m7)
      have b7 := HM7.out.heap HB3.out (by simp)
      have x0 := cell_blk b7 0
      have x1 := cell_blk b7 1
      simp only [List.getElem?_toArray, List.getElem?_cons_succ, List.getElem?_cons_zero] at x0 x1
      have CU := Lib.hid (rgCut_both (HE3.out.kept0 HM7.out) (by omega) a b)
      obtain ⟨ua3, uc3, rfl⟩ := hr3.form
      have HR3 := Lib.hid hr3
      have HC3' := Lib.hid hc3
      clear CT m7 b7 t0 t1 hr3 hc3
      go_wp2_with fail
      refine ⟨?ag2, ?_⟩
      case ag2 =>
        intro i hi hw
        simp only [List.mem_cons, List.not_mem_nil, or_false] at hi
        subst hi
        all_goals (simp only [opN, List.getD_cons_zero, List.getD_cons_succ, slotOf]; go_simp)
      go_wp2_with fail
      refine ⟨by first | trivial | rfl, ?_⟩
      go_wp2_with fail
      refine CU.out.mono ?_
      rintro e w8 ⟨u4, L4, rfl, hr4, hc4, m8⟩
      have hLL : L3 = L4 := CutIs.unique HC3'.out hc4
      subst hLL
      obtain ⟨ua4, uc4, rfl⟩ := hr4.form
      have CV := Lib.hid (spans_true (HR3.out.kept0 m8) hr4 (by have := hc4.bounds; omega))
      have HM8 := Lib.hid (HM7.out.trans m8)
      clear CU m8 x0 x1 hr4 hc4
      go_wp2_with fail
      refine ⟨again_nil, ?_⟩
      go_wp2_with fail
      refine ⟨by first | trivial | rfl, ?_⟩
      go_wp2_with fail
      refine CV.out.mono ?_
      rintro e w9 ⟨rfl, m9⟩
      have HM9 := Lib.hid (HM8.out.trans m9)
      clear CV m9
      go_wp2_with fail
      refine ⟨again_nil, ?_⟩
      go_wp2_with fail
      refine ⟨by first | trivial | rfl, ?_⟩
      go_wp2_with fail
      go_loopw [66] (fun s66 W => ∃ j : Nat, j ≤ ends.length ∧ s66 = .int .i64 j ∧ Hid (Mod [] w9 W)) (fun s66 _ => ends.length - (intOf s66).toNat)
      case atStart => exact ⟨0, by omega, rfl, Lib.hid (Mod.refl _ _)⟩
      case round =>
        rename World => wr2
        obtain ⟨j, hj, rfl, hM⟩ := hrel
        by_cases hlt2 : j < ends.length
        · have hmw := HM9.out.trans hM.out
          obtain ⟨q1, o1, heq1, _, hg1⟩ := RowAt.get encI_len (HI.out.kept0 hmw) hlt2
          obtain ⟨q2, o2, heq2, _, hg2⟩ := RowAt.get encI_len (HE3.out.kept0 hmw) hlt2
          cases heq1
          cases heq2
          have p1 := hg1 0 (.int .i64 ends[j]) (by omega) rfl
          have p2 := hg2 0 (.int .i64 ends[j]) (by omega) rfl
          simp only [Nat.mul_one, Nat.add_zero] at p1 p2
          generalize ends[j] = x at p1 p2
          have h1 : decide ((j : Int) < (ends.length : Int)) = true := decide_eq_true (by omega)
          have h2 : decide ((j : Int) < 0) = false := decide_eq_false (by omega)
          have h3 : decide ((ends.length : Int) ≤ (j : Int)) = false := decide_eq_false (by omega)
          have HN := Lib.hid (hM.out.drew)
          clear hmw hg1 hg2 hM
          go_wp2_with fail
          refine wp_plan [] [0, 1, 4, 5, 2, 6, 3, 7, 8] (by kernel_rfl) (by kernel_rfl) ?_
          simp only [wpSegs, opsOf, List.map_cons, List.map_nil, opN, List.getD_cons_zero, List.getD_cons_succ]
          go_wp2_with fail
          refine ⟨by first | trivial | rfl, ?_⟩
          go_wp2_with fail
          go_roundw
          case rel => exact ⟨j + 1, by omega, by go_num, HN⟩
          case measure => simp [intOf]; omega
        · have h1 : decide ((j : Int) < (ends.length : Int)) = false := decide_eq_false (by omega)
          have CK := Lib.hid (known_at wr2)
          have HF := Lib.hid (HM3.out.trans (HM9.out.trans hM.out))
          clear hM
          go_wp2_with fail
          refine CK.out.mono ?_
          rintro e wz ⟨rfl, mz⟩
          have HE := Lib.hid (HF.out.trans mz)
          clear mz CK
          go_wp2_with fail
          go_ret
          exact ⟨rfl, HE.out⟩
end Go.Proofs.Ytngglpekdjhbdaa
