/- Layer 12: RefineMaps, walked. -/
import Derived.Test.YtngglpekdjhbdaaRmQ
import Derived.Test.YtngglpekdjhbdaaRmL
namespace Go.Proofs.Ytngglpekdjhbdaa
open Go.RowKit Go.ChangeMaps Go.Deep Tr
set_option linter.unusedSimpArgs false
set_option linter.unusedVariables false
set_option maxRecDepth 20000

/-- one part more: where two timelines differ -/
def diffS (o : List Cs) (p : Int × Int × Int × Int) : List Cs :=
  if p.2.2.1 = p.2.2.2 then o else match o.getLast? with
    | some c => if c.2 = p.1 then o.dropLast ++ [(c.1, p.2.1)] else o ++ [(p.1, p.2.1)]
    | none => o ++ [(p.1, p.2.1)]
theorem diffS_len (o : List Cs) (p : Int × Int × Int × Int) : (diffS o p).length ≤ o.length + 1 := by
  unfold diffS
  split
  · omega
  · split
    · split
      · simp only [List.length_append, List.length_dropLast, List.length_singleton]; omega
      · simp
    · simp
theorem diffL_len (ps : List (Int × Int × Int × Int)) : ∀ o : List Cs, (ps.foldl diffS o).length ≤ o.length + ps.length := by
  induction ps with
  | nil => simp
  | cons p ps ih =>
    intro o
    have h1 := ih (diffS o p)
    have h2 := diffS_len o p
    simp only [List.foldl_cons, List.length_cons]
    omega
theorem row_lit3 {α : Type} {enc : α → List Value} {E : TypeId} (w : World) (l : List α) (c : Array Value) (n b : Nat) (hc : c = (flat enc l).toArray) (hn : n = l.length) (hb : b = w.heap.size) : RowAt enc (w.alloc (.cells c E)) (.slice (some ⟨b, 0, none⟩) n n) l := by
  subst hb hc hn
  exact .at_ _ 0 _ l (Nat.le_refl _) (fun j u hu => by
    rw [Nat.zero_add, cell_blk (heap_alloc_new w _)]
    simpa using hu)
theorem diffS_last {o o' : List Cs} {c0 : Cs} (ho : o = o' ++ [c0]) {f t x1 x2 : Int} (h : ¬ x1 = x2) :
    (c0.2 = f → diffS o (f, t, x1, x2) = o.set o'.length (c0.1, t)) ∧ (¬ c0.2 = f → diffS o (f, t, x1, x2) = o ++ [(f, t)]) := by
  subst ho
  unfold diffS
  rw [if_neg h]
  constructor
  · intro h2; simp [h2]
  · intro h2; simp [h2]
set_option maxHeartbeats 4000000 in
theorem differ_at {w : World} {T1 T2 : Ln1} (hl : LinesAt w [T1, T2]) {a b : Int} (hab : mayS a b) :
    Calls Try.prog 27 #[.pointer (some ⟨T1.g, 0, none⟩), .pointer (some ⟨T2.g, 0, none⟩), .agg #[.int .i64 a, .int .i64 b]] w fun e w' => ∃ (u : Value) (CL : List Cs) (L1 L2 : List Sg), e = .returned u ∧ SegsTo T1.f a b L1 ∧ SegsTo T2.f a b L2 ∧ CutTo (· ∈ endsL L1 ++ endsL L2) a b CL ∧ OwnR encC 2 24 w' w.heap.size u ((CL.map fun c => (c.1, c.2, T1.f c.1, T2.f c.1)).foldl diffS []) ∧ Mod [] w w' := by
  have mA := (Mod.refl [] w).alloc (.cells #[.int .i64 a, .int .i64 b] 24)
  have bA := heap_alloc_new w (.cells #[.int .i64 a, .int .i64 b] 24)
  have s0 := cell_blk bA 0
  have s1 := cell_blk bA 1
  simp only [List.getElem?_toArray, List.getElem?_cons_succ, List.getElem?_cons_zero] at s0 s1
  have mP := mA.alloc (.cells #[.pointer (some ⟨T1.g, 0, none⟩), .pointer (some ⟨T2.g, 0, none⟩)] 31)
  have bP := heap_alloc_new (w.alloc (.cells #[.int .i64 a, .int .i64 b] 24)) (.cells #[.pointer (some ⟨T1.g, 0, none⟩), .pointer (some ⟨T2.g, 0, none⟩)] 31)
  rw [World.size_alloc] at bP
  have hRow : RowAt encP ((w.alloc (.cells #[.int .i64 a, .int .i64 b] 24)).alloc (.cells #[.pointer (some ⟨T1.g, 0, none⟩), .pointer (some ⟨T2.g, 0, none⟩)] 31)) (.slice (some ⟨w.heap.size + 1, 0, none⟩) 2 2) [T1, T2] := by
    exact row_lit3 _ [T1, T2] _ 2 _ rfl rfl (by simp)
  have CP := Lib.hid (parts_may hRow (hl.kept0 mP) (by simp) hab)
  have HMP := Lib.hid mP
  clear mA bA mP bP hRow hl
  go_enter Try.func27, Try.ntmps27
  go_wp2_with fail
  refine CP.out.mono ?_
  rintro e w3 ⟨u, us, CL, Ls, rfl, hLl, hSg, hCT, hPt, m3⟩
  obtain ⟨ua, uc, rfl⟩ := hPt.own.lens
  obtain ⟨L1, hL1⟩ : ∃ L, Ls[0]? = some L := ⟨Ls[0]'(by rw [hLl]; simp), List.getElem?_eq_getElem _⟩
  obtain ⟨L2, hL2⟩ : ∃ L, Ls[1]? = some L := ⟨Ls[1]'(by rw [hLl]; simp), List.getElem?_eq_getElem _⟩
  have hLs : Ls = [L1, L2] := by
    cases Ls with
    | nil => simp at hLl
    | cons x Ls =>
      cases Ls with
      | nil => simp at hLl
      | cons y Ls =>
        cases Ls with
        | nil => simp at hL1 hL2; rw [hL1, hL2]
        | cons z Ls => simp at hLl
  have HS1 := Lib.hid (hSg 0 T1 L1 rfl hL1)
  have HS2 := Lib.hid (hSg 1 T2 L2 rfl hL2)
  have HCT := Lib.hid (show CutTo (· ∈ endsL L1 ++ endsL L2) a b CL from by rw [hLs] at hCT; simpa using hCT)
  have HPT := Lib.hid hPt
  have HM3 := Lib.hid (HMP.out.trans m3)
  have hul : us.length = CL.length := by rw [hPt.len, List.length_map]
  have hcl := HCT.out.len
  have hcl2 : CL.length ≤ 4000000 := by have := hab; unfold mayS at this; omega
  obtain ⟨pl, hpl⟩ : ∃ pl, pl = CL.map fun c => (c.1, c.2, T1.f c.1, T2.f c.1) := ⟨_, rfl⟩
  have hpll : pl.length = CL.length := by rw [hpl, List.length_map]
  have HPL := Lib.hid hpl
  clear hPt m3 hCT hSg hLs hL1 hL2 CP hpl s0 s1 HMP
  go_wp2_with fail
  go_loopw [6, 16] (fun s6 s16 W => ∃ j : Nat, j ≤ CL.length ∧ s16 = .int .i64 j ∧ Hid (OwnR encC 2 24 W w3.heap.size s6 ((pl.take j).foldl diffS []) ∧ Mod [] w3 W)) (fun _ s16 _ => CL.length - (intOf s16).toNat)
  case atStart => exact ⟨0, by omega, rfl, Lib.hid ⟨OwnR.nil_ _ _, Mod.refl _ _⟩⟩
  case round =>
    obtain ⟨j, hj, rfl, hS⟩ := hrel
    obtain ⟨q1, q2⟩ := hS.out
    by_cases hlt : j < CL.length
    · obtain ⟨u, hu⟩ : ∃ u, us[j]? = some u := ⟨us[j]'(by omega), List.getElem?_eq_getElem (by omega)⟩
      obtain ⟨c, hc⟩ : ∃ c, CL[j]? = some c := ⟨CL[j], List.getElem?_eq_getElem hlt⟩
      have hps : (CL.map fun c => (c.1, c.2, [T1, T2].map fun t => t.f c.1))[j]? = some (c.1, c.2, [T1.f c.1, T2.f c.1]) := by rw [List.getElem?_map, hc]; rfl
      obtain ⟨i1, i2, i3⟩ := HPT.out.rel j u _ hu hps
      have hstep : (pl.take (j + 1)).foldl diffS [] = diffS ((pl.take j).foldl diffS []) (c.1, c.2, T1.f c.1, T2.f c.1) := by
        have hpj : pl[j]? = some (c.1, c.2, T1.f c.1, T2.f c.1) := by rw [HPL.out, List.getElem?_map, hc]; rfl
        obtain ⟨h1, h2⟩ := List.getElem?_eq_some_iff.1 hpj
        rw [List.take_succ_eq_append_getElem h1, List.foldl_append, h2]
        rfl
      have hol := diffL_len (pl.take j) []
      have hug : us[j]'(by omega) = u := by rw [List.getElem?_eq_getElem (by omega)] at hu; simpa using hu
      generalize (pl.take j).foldl diffS [] = o at q1 hstep hol
      obtain ⟨f, t, x⟩ := u
      obtain ⟨cf, ct⟩ := c
      dsimp only at i1 i2 i3 hstep
      subst cf ct
      obtain ⟨xa, xn, xc⟩ := x
      obtain ⟨ya, yc, hy⟩ := i3.row.form
      simp only [SlH.val, Value.slice.injEq, List.length_cons, List.length_nil] at hy
      obtain ⟨rfl, rfl, rfl⟩ := hy
      obtain ⟨bq, oq, rfl, hcq, hg⟩ := RowAt.get encI_len (i := 0) (show RowAt encI w3 (.slice xa [T1.f f, T2.f f].length xc) [T1.f f, T2.f f] from i3.row) (by simp)
      have g0 := hg 0 (.int .i64 (T1.f f)) (by omega) rfl
      obtain ⟨bq', oq', e', _, hg'⟩ := RowAt.get encI_len (i := 1) (show RowAt encI w3 (.slice (some ⟨bq, oq, none⟩) [T1.f f, T2.f f].length xc) [T1.f f, T2.f f] from i3.row) (by simp)
      cases e'
      have g1 := hg' 0 (.int .i64 (T2.f f)) (by omega) rfl
      simp only [Nat.zero_mul, Nat.mul_one, Nat.add_zero, Nat.one_mul] at g0 g1
      obtain ⟨qb, cap, heq, hq, hcap⟩ := (HPT.out.own.kept0 q2).at_ hu
      simp only [Value.slice.injEq] at heq
      obtain ⟨rfl, _, rfl⟩ := heq
      have hrow : wr.rangeAt qb (j * 3) [.int .i64 f, .int .i64 t, .slice (some ⟨bq, oq, none⟩) 2 xc] := fun jj u hu => ((HPT.out.own.kept0 q2).cell encU_len (i := j) (by omega) (j := jj) (by have := (List.getElem?_eq_some_iff.1 hu).1; simpa using this) (u := u) (by rw [hug]; exact hu)).1
      have HLI := Lib.hid (run_loadAt_mid (P := Try.prog) _ qb (j * 3) 45 _ _ hrow Try.underlying45 rfl (by kernel_rfl))
      have mI := (Mod.refl [] wr).alloc (.cells #[.int .i64 f, .int .i64 t, .slice (some ⟨bq, oq, none⟩) 2 xc] 45)
      have bI := heap_alloc_new wr (.cells #[.int .i64 f, .int .i64 t, .slice (some ⟨bq, oq, none⟩) 2 xc] 45)
      have i0 := cell_blk bI 0
      have i1 := cell_blk bI 1
      have i2 := cell_blk bI 2
      simp only [List.getElem?_toArray, List.getElem?_cons_succ, List.getElem?_cons_zero] at i0 i1 i2
      have v0 := (q2.trans mI).cellD g0
      have v1 := (q2.trans mI).cellD g1
      generalize T1.f f = x1 at *
      generalize T2.f f = x2 at *
      have hj0 : decide ((j : Int) < 0) = false := decide_eq_false (by omega)
      have hj1 : decide ((us.length : Int) ≤ (j : Int)) = false := decide_eq_false (by omega)
      have hj2 : decide ((j : Int) < (us.length : Int)) = true := decide_eq_true (by omega)
      obtain ⟨oa, oc, rfl⟩ := q1.lens
      by_cases hxy : x1 = x2
      · have hxd : (x1 == x2) = true := by simpa using hxy
        have hxd2 : decide (x1 = x2) = true := decide_eq_true hxy
        rw [show diffS o (f, t, x1, x2) = o from if_pos hxy] at hstep
        have HN := Lib.hid (show OwnR encC 2 24 (wr.alloc (.cells #[.int .i64 f, .int .i64 t, .slice (some ⟨bq, oq, none⟩) 2 xc] 45)).drew w3.heap.size (.slice oa o.length oc) ((pl.take (j + 1)).foldl diffS []) ∧ Mod [] w3 (wr.alloc (.cells #[.int .i64 f, .int .i64 t, .slice (some ⟨bq, oq, none⟩) 2 xc] 45)).drew from ⟨by rw [hstep]; exact q1.kept0 mI.drew, (q2.trans mI).drew⟩)
        clear q1 q2 hg hg' hrow mI bI hstep
        go_wp2_with ((with_reducible refine xLoadAt rfl HLI.out ?_ ?_ ?_); exact rfl; exact rfl)
        refine wp_plan [] [0, 4, 1, 5, 2, 6, 3, 7, 8, 9] (by kernel_rfl) (by kernel_rfl) ?_
        simp only [wpSegs, opsOf, List.map_cons, List.map_nil, opN, List.getD_cons_zero, List.getD_cons_succ]
        go_wp2_with fail
        refine ⟨by first | trivial | rfl, ?_⟩
        go_wp2_with fail
        go_roundw
        case rel => exact ⟨j + 1, by omega, by go_num, HN⟩
        case measure => simp [intOf]; omega
      · have hxd : (x1 == x2) = false := by simpa using hxy
        have hxd2 : decide (x1 = x2) = false := decide_eq_false hxy
        have n0 := (q2.trans mI).drew.drew
        have n1 := q1.kept0 mI.drew.drew
        have k0 := ((Mod.refl [] (wr.alloc (.cells #[.int .i64 f, .int .i64 t, .slice (some ⟨bq, oq, none⟩) 2 xc] 45))).drew.drew).cellD i0
        have k1 := ((Mod.refl [] (wr.alloc (.cells #[.int .i64 f, .int .i64 t, .slice (some ⟨bq, oq, none⟩) 2 xc] 45))).drew.drew).cellD i1
        obtain ⟨W, hW⟩ : ∃ W, W = (wr.alloc (.cells #[.int .i64 f, .int .i64 t, .slice (some ⟨bq, oq, none⟩) 2 xc] 45)).drew.drew := ⟨_, rfl⟩
        rw [← hW] at n0 n1 k0 k1
        have HW := Lib.hid hW
        clear hW
        have H0 := Lib.hid n0
        have HK0 := Lib.hid k0
        have HK1 := Lib.hid k1
        have hrs := q2.size
        rcases List.eq_nil_or_concat o with ho | ⟨o', c0, ho⟩
        · subst ho
          rw [show diffS [] (f, t, x1, x2) = [] ++ [(f, t)] from by unfold diffS; rw [if_neg hxy]; rfl] at hstep
          obtain ⟨v', w', ra, ho', gr⟩ := own_append1 (P := Try.prog) (ty := 41) elemCs encC_len encC_one n1 n0.size (f, t) (by simp) (by omega)
          dsimp only [encC, List.length_nil] at ra
          obtain ⟨a', n', c', rfl⟩ : ∃ a n c, v' = .slice a n c := by obtain ⟨a, c, e⟩ := ho'.lens; exact ⟨a, _, c, e⟩
          have HN := Lib.hid (show OwnR encC 2 24 w' w3.heap.size (.slice a' n' c') ((pl.take (j + 1)).foldl diffS []) ∧ Mod [] w3 w' from ⟨by rw [hstep]; exact ho', Mod.into' n0 gr.mod (fun k hk => .inl (by rw [mem_blk] at hk; exact (World.ownsRow.lt n1 k hk).1))⟩)
          have RA := Lib.hid ra
          clear q1 q2 hg hg' hrow mI bI hstep n0 n1 ra ho' gr k0 k1
          go_wp2_with ((with_reducible refine xLoadAt rfl HLI.out ?_ ?_ ?_); exact rfl; exact rfl)
          refine wp_plan [] [0, 4, 1, 5, 2, 6, 3, 7, 8, 9] (by kernel_rfl) (by kernel_rfl) ?_
          simp only [wpSegs, opsOf, List.map_cons, List.map_nil, opN, List.getD_cons_zero, List.getD_cons_succ]
          go_wp2_with fail
          refine ⟨by first | trivial | rfl, ?_⟩
          go_wp2_with fail
          refine wp_plan [] [0, 1, 2, 3, 4, 9, 5, 10, 6, 7, 8, 11, 12, 13] (by kernel_rfl) (by kernel_rfl) ?_
          simp only [wpSegs, opsOf, List.map_cons, List.map_nil, opN, List.getD_cons_zero, List.getD_cons_succ]
          go_wp2_with fail
          refine ⟨by first | trivial | rfl, ?_⟩
          rw [← HW.out]
          clear i0 i1 i2 v0 v1
          have k0 := HK0.out
          have k1 := HK1.out
          go_wp2_with ((with_reducible refine xAppendAt RA.out rfl rfl ?_ ?_ ?_ ?_); exact rfl; exact rfl; exact rfl)
          go_roundw
          case rel => exact ⟨j + 1, by omega, by go_num, HN⟩
          case measure => simp [intOf]; omega
        · have ho : o = o' ++ [c0] := by rw [ho, List.concat_eq_append]
          have hd := diffS_last ho (f := f) (t := t) hxy
          obtain ⟨m, hm⟩ : ∃ m, o'.length = m := ⟨_, rfl⟩
          have hom : o.length = m + 1 := by rw [ho, List.length_append, hm]; rfl
          have hget : o[m]'(by omega) = c0 := by subst hm; simp [ho]
          rw [hm] at hd
          clear ho
          have h01 : decide (0 < (m : Int) + 1) = true := decide_eq_true (by omega)
          have h02 : decide ((m : Int) < 0) = false := decide_eq_false (by omega)
          have h03 : decide ((m : Int) + 1 ≤ m) = false := decide_eq_false (by omega)
          have h06 : 0 ≤ (m : Int) ∧ (m : Int) < (m : Int) + 1 := ⟨Int.natCast_nonneg m, Int.lt_succ _⟩
          have h05 : ((m : Int)).toNat = m := Int.toNat_natCast m
          have H04 : Hid (wrap64 (m : Int) = m) := Lib.hid <| by
            have : (m : Int) < 4000000 := by simp at hol; omega
            unfold wrap64
            omega
          obtain ⟨og, ocap, heo, _, _⟩ := q1.at_ (show o[m]? = some c0 from by rw [← hget]; exact List.getElem?_eq_getElem _)
          simp only [Value.slice.injEq] at heo
          obtain ⟨rfl, _, rfl⟩ := heo
          have c1 := (q1.cell encC_len (i := m) (by omega) (j := 1) (by omega) (u := .int .i64 c0.2) (by rw [hget]; rfl)).1
          have c2 := (Mod.refl [] wr).alloc (.cells #[.int .i64 f, .int .i64 t, .slice (some ⟨bq, oq, none⟩) 2 xc] 45)
          have c3 := c2.cellD c1
          by_cases hcf : c0.2 = f
          · have hcd : (c0.2 == f) = true := by simpa using hcf
            have hcd2 : decide (c0.2 = f) = true := decide_eq_true hcf
            rw [hd.1 hcf] at hstep
            have p1 := n1.cell encC_len (i := m) (by omega) (j := 1) (by omega) (u := .int .i64 c0.2) (by rw [hget]; rfl)
            have p2 := n1.set encC_len (i := m) (by omega) (j := 1) (by omega) (u := .int .i64 t) (y := (c0.1, t)) (by rw [hget]; rfl)
            have hogb : w3.heap.size ≤ og := (World.ownsRow.lt n1 og rfl).1
            have HN := Lib.hid (show OwnR encC 2 24 (W.setCell ⟨og, m * 2 + 1, none⟩ (.int .i64 t)) w3.heap.size (.slice (some ⟨og, 0, none⟩) (m + 1) oc) ((pl.take (j + 1)).foldl diffS []) ∧ Mod [] w3 (W.setCell ⟨og, m * 2 + 1, none⟩ (.int .i64 t)) from ⟨by rw [hstep, ← hom]; exact p2, n0.setCellNew hogb _⟩)
            have HP := Lib.hid p1
            rw [hom] at q1
            clear hd c1 c2 q1 q2 hg hg' hrow mI bI p1 p2 n0 n1 hstep k0 k1
            have h04 := H04.out
            go_wp2_with ((with_reducible refine xLoadAt rfl HLI.out ?_ ?_ ?_); exact rfl; exact rfl)
            refine wp_plan [] [0, 4, 1, 5, 2, 6, 3, 7, 8, 9] (by kernel_rfl) (by kernel_rfl) ?_
            simp only [wpSegs, opsOf, List.map_cons, List.map_nil, opN, List.getD_cons_zero, List.getD_cons_succ]
            go_wp2_with fail
            refine ⟨by first | trivial | rfl, ?_⟩
            go_wp2_with fail
            refine wp_plan [] [0, 1, 2, 3, 4, 9, 5, 10, 6, 7, 8, 11, 12, 13] (by kernel_rfl) (by kernel_rfl) ?_
            simp only [wpSegs, opsOf, List.map_cons, List.map_nil, opN, List.getD_cons_zero, List.getD_cons_succ]
            go_wp2_with fail
            refine ⟨by first | trivial | rfl, ?_⟩
            rw [← HW.out]
            clear i0 i1 i2 v0 v1
            have k0 := HK0.out
            have k1 := HK1.out
            obtain ⟨p1, p2⟩ := HP.out
            go_wp2_with fail
            clear h04
            go_roundw
            case rel => exact ⟨j + 1, by omega, by go_num, HN⟩
            case measure => simp [intOf]; omega
          · have hcd : (c0.2 == f) = false := by simpa using hcf
            have hcd2 : decide (c0.2 = f) = false := decide_eq_false hcf
            rw [hd.2 hcf] at hstep
            obtain ⟨v', w', ra, ho', gr⟩ := own_append1 (P := Try.prog) (ty := 41) elemCs encC_len encC_one n1 n0.size (f, t) (by simp at hol; omega) (by omega)
            dsimp only [encC] at ra
            rw [hom] at ra q1
            obtain ⟨a', n', c', rfl⟩ : ∃ a n c, v' = .slice a n c := by obtain ⟨a, c, e⟩ := ho'.lens; exact ⟨a, _, c, e⟩
            have HN := Lib.hid (show OwnR encC 2 24 w' w3.heap.size (.slice a' n' c') ((pl.take (j + 1)).foldl diffS []) ∧ Mod [] w3 w' from ⟨by rw [hstep]; exact ho', Mod.into' n0 gr.mod (fun k hk => .inl (by rw [mem_blk] at hk; exact (World.ownsRow.lt n1 k hk).1))⟩)
            have RA := Lib.hid ra
            clear hd c1 c2 q1 q2 hg hg' hrow mI bI hstep n0 n1 ra ho' gr k0 k1
            have h04 := H04.out
            go_wp2_with ((with_reducible refine xLoadAt rfl HLI.out ?_ ?_ ?_); exact rfl; exact rfl)
            refine wp_plan [] [0, 4, 1, 5, 2, 6, 3, 7, 8, 9] (by kernel_rfl) (by kernel_rfl) ?_
            simp only [wpSegs, opsOf, List.map_cons, List.map_nil, opN, List.getD_cons_zero, List.getD_cons_succ]
            go_wp2_with fail
            refine ⟨by first | trivial | rfl, ?_⟩
            go_wp2_with fail
            refine wp_plan [] [0, 1, 2, 3, 4, 9, 5, 10, 6, 7, 8, 11, 12, 13] (by kernel_rfl) (by kernel_rfl) ?_
            simp only [wpSegs, opsOf, List.map_cons, List.map_nil, opN, List.getD_cons_zero, List.getD_cons_succ]
            go_wp2_with fail
            refine ⟨by first | trivial | rfl, ?_⟩
            rw [← HW.out]
            clear i0 i1 i2 v0 v1
            have k0 := HK0.out
            have k1 := HK1.out
            clear h04
            go_wp2_with ((with_reducible refine xAppendAt RA.out rfl rfl ?_ ?_ ?_ ?_); exact rfl; exact rfl; exact rfl)
            go_roundw
            case rel => exact ⟨j + 1, by omega, by go_num, HN⟩
            case measure => simp [intOf]; omega
    · have hje : j = CL.length := by omega
      have hj2 : decide ((j : Int) < (us.length : Int)) = false := decide_eq_false (by omega)
      rw [List.take_of_length_le (by omega)] at q1
      have HE := Lib.hid (show OwnR encC 2 24 wr w.heap.size u6 ((CL.map fun c => (c.1, c.2, T1.f c.1, T2.f c.1)).foldl diffS []) ∧ Mod [] w wr from ⟨by rw [← HPL.out]; exact q1.mono HM3.out.size, HM3.out.trans q2⟩)
      clear q1 q2
      go_wp2_with fail
      go_ret
      exact ⟨_, CL, L1, L2, rfl, HS1.out, HS2.out, HCT.out, HE.out.1, HE.out.2⟩
end Go.Proofs.Ytngglpekdjhbdaa
namespace Go.Proofs.Ytngglpekdjhbdaa
open Go.RowKit Go.ChangeMaps Go.Deep Tr
set_option linter.unusedSimpArgs false
set_option linter.unusedVariables false
set_option maxRecDepth 20000

theorem kn_f1 (d : Int) : madeF [⟨2, 4, 5⟩] d = if 2 ≤ d ∧ d < 4 then 5 else 0 := by simp [madeF, updM, upd]
theorem kn_f2 (d : Int) : madeF [⟨3, 6, 7⟩] d = if 3 ≤ d ∧ d < 6 then 7 else 0 := by simp [madeF, updM, upd]
theorem kn_s1 {z : Int} (hz : 4 < z) : SegsTo (madeF [⟨2, 4, 5⟩]) 1 z [⟨1, 2, 0⟩, ⟨2, 4, 5⟩, ⟨4, z, 0⟩] := by
  refine .snoc (L := [⟨1, 2, 0⟩, ⟨2, 4, 5⟩]) ⟨4, z, 0⟩ (.snoc (L := [⟨1, 2, 0⟩]) ⟨2, 4, 5⟩ (.snoc (L := []) ⟨1, 2, 0⟩ .nil rfl ?_ ?_ ?_) rfl ?_ ?_ ?_) rfl hz ?_ ?_
  all_goals first
    | (intro r hr; simp at hr; done)
    | (intro r hr; simp at hr; subst hr; simp; done)
    | (intro d h1 h2; rw [kn_f1]; dsimp only at h1 h2 ⊢; split <;> omega)
    | (dsimp only; omega)
theorem kn_s2 : SegsTo (madeF [⟨3, 6, 7⟩]) 1 6 [⟨1, 3, 0⟩, ⟨3, 6, 7⟩] := by
  refine .snoc (L := [⟨1, 3, 0⟩]) ⟨3, 6, 7⟩ (.snoc (L := []) ⟨1, 3, 0⟩ .nil rfl ?_ ?_ ?_) rfl ?_ ?_ ?_
  all_goals first
    | (intro r hr; simp at hr; done)
    | (intro r hr; simp at hr; subst hr; simp; done)
    | (intro d h1 h2; rw [kn_f2]; dsimp only at h1 h2 ⊢; split <;> omega)
    | (dsimp only; omega)
theorem kn_s3 : SegsTo (madeF [⟨3, 6, 7⟩]) 1 9 [⟨1, 3, 0⟩, ⟨3, 6, 7⟩, ⟨6, 9, 0⟩] := by
  refine .snoc (L := [⟨1, 3, 0⟩, ⟨3, 6, 7⟩]) ⟨6, 9, 0⟩ kn_s2 rfl ?_ ?_ ?_
  all_goals first
    | (intro r hr; simp at hr; done)
    | (intro r hr; simp at hr; subst hr; simp; done)
    | (intro d h1 h2; rw [kn_f2]; dsimp only at h1 h2 ⊢; split <;> omega)
    | (dsimp only; omega)
theorem kn_c1 : CutTo (· ∈ endsL [⟨1, 2, 0⟩, ⟨2, 4, 5⟩, ⟨4, 6, 0⟩] ++ endsL [⟨1, 3, 0⟩, ⟨3, 6, 7⟩]) 1 6 [(1, 2), (2, 3), (3, 4), (4, 6)] := by
  refine .snoc (L := [(1, 2), (2, 3), (3, 4)]) 6 (.snoc (L := [(1, 2), (2, 3)]) 4 (.snoc (L := [(1, 2)]) 3 (.snoc (L := []) 2 .nil ?_ ?_ ?_) ?_ ?_ ?_) ?_ ?_ ?_) ?_ ?_ ?_
  all_goals first
    | omega
    | (simp [endsL]; done)
    | (intro d h1 h2; simp [endsL]; omega)
theorem kn_c2 : CutTo (· ∈ endsL [⟨1, 2, 0⟩, ⟨2, 4, 5⟩, ⟨4, 9, 0⟩] ++ endsL [⟨1, 3, 0⟩, ⟨3, 6, 7⟩, ⟨6, 9, 0⟩]) 1 9 [(1, 2), (2, 3), (3, 4), (4, 6), (6, 9)] := by
  refine .snoc (L := [(1, 2), (2, 3), (3, 4), (4, 6)]) 9 (.snoc (L := [(1, 2), (2, 3), (3, 4)]) 6 (.snoc (L := [(1, 2), (2, 3)]) 4 (.snoc (L := [(1, 2)]) 3 (.snoc (L := []) 2 .nil ?_ ?_ ?_) ?_ ?_ ?_) ?_ ?_ ?_) ?_ ?_ ?_) ?_ ?_ ?_
  all_goals first
    | omega
    | (simp [endsL]; done)
    | (intro d h1 h2; simp [endsL]; omega)
theorem kn_diff : (([(1, 2), (2, 3), (3, 4), (4, 6), (6, 9)] : List Cs).map fun c => (c.1, c.2, madeF [⟨2, 4, 5⟩] c.1, madeF [⟨3, 6, 7⟩] c.1)).foldl diffS [] = [(2, 6)] := by
  simp only [kn_f1, kn_f2]
  decide
theorem kn_parts : (([(1, 2), (2, 3), (3, 4), (4, 6)] : List Cs).map fun c => (c.1, c.2, ([madeF [⟨2, 4, 5⟩] c.1, madeF [⟨3, 6, 7⟩] c.1] : List Int))) = [(1, 2, [0, 0]), (2, 3, [5, 0]), (3, 4, [5, 7]), (4, 6, [0, 7])] := by
  simp only [kn_f1, kn_f2]
  decide
def knW (w : World) : World := (((w.alloc (.cells #[.int .i64 0, .int .i64 0] 3)).alloc (.cells #[.int .i64 5, .int .i64 0] 3)).alloc (.cells #[.int .i64 5, .int .i64 7] 3)).alloc (.cells #[.int .i64 0, .int .i64 7] 3)
def knUs (n : Nat) : List Cu := [(1, 2, ⟨some ⟨n, 0, none⟩, 2, 2⟩), (2, 3, ⟨some ⟨n + 1, 0, none⟩, 2, 2⟩), (3, 4, ⟨some ⟨n + 1 + 1, 0, none⟩, 2, 2⟩), (4, 6, ⟨some ⟨n + 1 + 1 + 1, 0, none⟩, 2, 2⟩)]
theorem kn_lit (w : World) : PtsR ((knW w).alloc (.cells (flat encU (knUs w.heap.size)).toArray 67)) (.slice (some ⟨w.heap.size + 1 + 1 + 1 + 1, 0, none⟩) 4 4) (knUs w.heap.size) [(1, 2, [0, 0]), (2, 3, [5, 0]), (3, 4, [5, 7]), (4, 6, [0, 7])] := by
  have z1 : (w.alloc (.cells #[.int .i64 0, .int .i64 0] 3)).heap.size = w.heap.size + 1 := World.size_alloc ..
  have z2 : ((w.alloc (.cells #[.int .i64 0, .int .i64 0] 3)).alloc (.cells #[.int .i64 5, .int .i64 0] 3)).heap.size = w.heap.size + 1 + 1 := by rw [World.size_alloc, z1]
  have z3 : (((w.alloc (.cells #[.int .i64 0, .int .i64 0] 3)).alloc (.cells #[.int .i64 5, .int .i64 0] 3)).alloc (.cells #[.int .i64 5, .int .i64 7] 3)).heap.size = w.heap.size + 1 + 1 + 1 := by rw [World.size_alloc, z2]
  have z4 : (knW w).heap.size = w.heap.size + 1 + 1 + 1 + 1 := by unfold knW; rw [World.size_alloc, z3]
  have r1 := row_lit3 (enc := encI) w [0, 0] #[.int .i64 0, .int .i64 0] 2 w.heap.size (E := 3) rfl rfl rfl
  have r2 := row_lit3 (enc := encI) (w.alloc (.cells #[.int .i64 0, .int .i64 0] 3)) [5, 0] #[.int .i64 5, .int .i64 0] 2 (w.heap.size + 1) (E := 3) rfl rfl z1.symm
  have r3 := row_lit3 (enc := encI) ((w.alloc (.cells #[.int .i64 0, .int .i64 0] 3)).alloc (.cells #[.int .i64 5, .int .i64 0] 3)) [5, 7] #[.int .i64 5, .int .i64 7] 2 (w.heap.size + 1 + 1) (E := 3) rfl rfl z2.symm
  have r4 := row_lit3 (enc := encI) (((w.alloc (.cells #[.int .i64 0, .int .i64 0] 3)).alloc (.cells #[.int .i64 5, .int .i64 0] 3)).alloc (.cells #[.int .i64 5, .int .i64 7] 3)) [0, 7] #[.int .i64 0, .int .i64 7] 2 (w.heap.size + 1 + 1 + 1) (E := 3) rfl rfl z3.symm
  have q1 := r1.kept0 (((((Mod.refl [] _).alloc (.cells #[.int .i64 5, .int .i64 0] 3)).alloc (.cells #[.int .i64 5, .int .i64 7] 3)).alloc (.cells #[.int .i64 0, .int .i64 7] 3)).alloc (.cells (flat encU (knUs w.heap.size)).toArray 67))
  have q2 := r2.kept0 ((((Mod.refl [] _).alloc (.cells #[.int .i64 5, .int .i64 7] 3)).alloc (.cells #[.int .i64 0, .int .i64 7] 3)).alloc (.cells (flat encU (knUs w.heap.size)).toArray 67))
  have q3 := r3.kept0 (((Mod.refl [] _).alloc (.cells #[.int .i64 0, .int .i64 7] 3)).alloc (.cells (flat encU (knUs w.heap.size)).toArray 67))
  have q4 := r4.kept0 ((Mod.refl [] _).alloc (.cells (flat encU (knUs w.heap.size)).toArray 67))
  refine ⟨row_lit3 (enc := encU) (knW w) (knUs w.heap.size) _ 4 _ rfl rfl z4.symm, rfl, ?_⟩
  intro i u p hu hp
  have hi : i < 4 := (List.getElem?_eq_some_iff.1 hp).1
  obtain rfl | rfl | rfl | rfl : i = 0 ∨ i = 1 ∨ i = 2 ∨ i = 3 := by omega
  · cases hu; cases hp; exact ⟨rfl, rfl, q1⟩
  · cases hu; cases hp; exact ⟨rfl, rfl, q2⟩
  · cases hu; cases hp; exact ⟨rfl, rfl, q3⟩
  · cases hu; cases hp; exact ⟨rfl, rfl, q4⟩
set_option maxHeartbeats 4000000 in
theorem known_at (w : World) : Calls Try.prog 8 #[] w fun e w' => e = .returned (.bool true) ∧ Mod [] w w' := by
  have mA := (Mod.refl [] w).alloc (.cells #[.int .i64 2, .int .i64 4, .int .i64 5] 66)
  have C1 := Lib.hid (made_at (w := w.alloc (.cells #[.int .i64 2, .int .i64 4, .int .i64 5] 66)) (v := .slice (some ⟨w.heap.size, 0, none⟩) 1 1) (ops := [⟨2, 4, 5⟩]) (row_lit3 _ _ _ _ _ rfl rfl rfl) (by simp))
  have HA := Lib.hid mA
  clear mA
  go_enter Try.func8, Try.ntmps8
  go_wp2_with fail
  refine C1.out.mono ?_
  rintro e w1 ⟨g1, r1, rfl, F1, R1⟩
  obtain ⟨B1, l1, m1, hB1⟩ := F1
  have HM1 := Lib.hid (HA.out.trans m1)
  have HL1 := Lib.hid l1
  clear R1 l1 m1 hB1 C1 HA
  have C2 := Lib.hid (made_at (w := w1.alloc (.cells #[.int .i64 3, .int .i64 6, .int .i64 7] 66)) (v := .slice (some ⟨w1.heap.size, 0, none⟩) 1 1) (ops := [⟨3, 6, 7⟩]) (row_lit3 _ _ _ _ _ rfl rfl rfl) (by simp))
  go_wp2_with fail
  refine C2.out.mono ?_
  rintro e w2 ⟨g2, r2, rfl, F2, R2⟩
  obtain ⟨B2, l2, m2, hB2⟩ := F2
  have m3 := ((Mod.refl [] w1).alloc (.cells #[.int .i64 3, .int .i64 6, .int .i64 7] 66)).trans m2
  have HM2 := Lib.hid (HM1.out.trans m3)
  have HL := Lib.hid (show LinesAt w2 [⟨g1, B1, 1, madeF [⟨2, 4, 5⟩]⟩, ⟨g2, B2, 1, madeF [⟨3, 6, 7⟩]⟩] from by
    intro t ht
    simp only [List.mem_cons, List.not_mem_nil, or_false] at ht
    rcases ht with rfl | rfl
    · exact ⟨HL1.out.kept0 m3, by dsimp only; omega⟩
    · exact ⟨l2, by dsimp only; omega⟩)
  clear R2 l2 m2 m3 hB2 C2 HL1 HM1
  obtain ⟨T1, hT1⟩ : ∃ T : Ln1, T = ⟨g1, B1, 1, madeF [⟨2, 4, 5⟩]⟩ := ⟨_, rfl⟩
  obtain ⟨T2, hT2⟩ : ∃ T : Ln1, T = ⟨g2, B2, 1, madeF [⟨3, 6, 7⟩]⟩ := ⟨_, rfl⟩
  have e1 : T1.g = g1 := by rw [hT1]
  have e2 : T2.g = g2 := by rw [hT2]
  have HF1 := Lib.hid (show T1.f = madeF [⟨2, 4, 5⟩] from by rw [hT1])
  have HF2 := Lib.hid (show T2.f = madeF [⟨3, 6, 7⟩] from by rw [hT2])
  have HLT := Lib.hid (show LinesAt w2 [T1, T2] from by rw [hT1, hT2]; exact HL.out)
  have HN1 := Lib.hid (show T1.n = 1 from by rw [hT1])
  clear hT1 hT2 HL
  subst e1 e2
  have mP := (Mod.refl [] w2).alloc (.cells #[.pointer (some ⟨T1.g, 0, none⟩), .pointer (some ⟨T2.g, 0, none⟩)] 31)
  have C3 := Lib.hid (parts_may (row_lit3 (enc := encP) w2 [T1, T2] _ 2 w2.heap.size rfl rfl rfl) (HLT.out.kept0 mP) (by simp) (a := 1) (b := 6) (by unfold mayS; omega))
  have HMP := Lib.hid mP
  clear mP
  go_wp2_with fail
  refine C3.out.mono ?_
  rintro e w3 ⟨u, us, CL, Ls, rfl, hLl, hSg, hCT, hPt, m3⟩
  obtain ⟨ua, uc, rfl⟩ := hPt.own.lens
  obtain ⟨L1, hL1⟩ : ∃ L, Ls[0]? = some L := ⟨Ls[0]'(by rw [hLl]; simp), List.getElem?_eq_getElem _⟩
  obtain ⟨L2, hL2⟩ : ∃ L, Ls[1]? = some L := ⟨Ls[1]'(by rw [hLl]; simp), List.getElem?_eq_getElem _⟩
  have hLs : Ls = [L1, L2] := by
    cases Ls with
    | nil => simp at hLl
    | cons x Ls =>
      cases Ls with
      | nil => simp at hLl
      | cons y Ls =>
        cases Ls with
        | nil => simp at hL1 hL2; rw [hL1, hL2]
        | cons z Ls => simp at hLl
  have h1 := SegsTo.unique _ (Nat.le_refl _) (hSg 0 T1 L1 rfl hL1) (by rw [HF1.out]; exact kn_s1 (by omega))
  have h2 := SegsTo.unique _ (Nat.le_refl _) (hSg 1 T2 L2 rfl hL2) (by rw [HF2.out]; exact kn_s2)
  have h3 := CutTo.unique _ (Nat.le_refl _) (show CutTo (· ∈ endsL [⟨1, 2, 0⟩, ⟨2, 4, 5⟩, ⟨4, 6, 0⟩] ++ endsL [⟨1, 3, 0⟩, ⟨3, 6, 7⟩]) 1 6 CL from by rw [hLs, h1, h2] at hCT; simpa using hCT) kn_c1
  have hps : (CL.map fun c => (c.1, c.2, [T1, T2].map fun t => t.f c.1)) = [(1, 2, [0, 0]), (2, 3, [5, 0]), (3, 4, [5, 7]), (4, 6, [0, 7])] := by
    rw [h3, ← kn_parts, ← HF1.out, ← HF2.out]; rfl
  rw [hps] at hPt
  have hul : us.length = 4 := hPt.len
  rw [hul] at hPt ⊢
  have HP := Lib.hid hPt
  have m3' := HMP.out.trans m3
  have HLU := Lib.hid (HLT.out.kept0 m3')
  have HM3 := Lib.hid (HM2.out.trans m3')
  clear hPt h1 h2 h3 hps hCT hSg hLl hL1 hL2 hLs m3 m3' C3 HMP HLT HM2 hul
  have m4 : Mod [] w3 ((knW w3).alloc (.cells (flat encU (knUs w3.heap.size)).toArray 67)) := (((((Mod.refl [] w3).alloc _).alloc _).alloc _).alloc _).alloc _
  have C4 := Lib.hid (same_true (HP.out.read.kept0 m4) (kn_lit w3) (by simp) (by intro p hp; simp at hp; rcases hp with rfl | rfl | rfl | rfl <;> simp))
  have HM4 := Lib.hid (HM3.out.trans m4)
  have HL4 := Lib.hid (HLU.out.kept0 m4)
  clear m4 HLU HM3 HP
  go_wp2_with fail
  refine C4.out.mono ?_
  rintro e w4 ⟨rfl, m5⟩
  have HM5 := Lib.hid (HM4.out.trans m5)
  have hl5 := HL4.out.kept0 m5
  have C5 := Lib.hid (differ_at hl5 (a := 1) (b := 9) (by unfold mayS; omega))
  have HL5 := Lib.hid hl5
  clear hl5 m5 HM4 HL4 C4
  go_wp2_with fail
  refine C5.out.mono ?_
  rintro e w5 ⟨u5, CL5, K1, K2, rfl, s1, s2, ct, ho, m6⟩
  have h1 := SegsTo.unique _ (Nat.le_refl _) s1 (by rw [HF1.out]; exact kn_s1 (by omega))
  have h2 := SegsTo.unique _ (Nat.le_refl _) s2 (by rw [HF2.out]; exact kn_s3)
  have h3 := CutTo.unique _ (Nat.le_refl _) ct (by rw [h1, h2]; exact kn_c2)
  have hps : (CL5.map fun c => (c.1, c.2, T1.f c.1, T2.f c.1)).foldl diffS [] = [(2, 6)] := by
    rw [h3, HF1.out, HF2.out]; exact kn_diff
  rw [hps] at ho
  have m7 := (Mod.refl [] w5).alloc (.cells #[.int .i64 2, .int .i64 6] 24)
  have C6 := Lib.hid (spans_true (ho.row.kept0 m7) (row_lit3 (enc := encC) w5 [(2, 6)] #[.int .i64 2, .int .i64 6] 1 w5.heap.size (E := 24) rfl rfl rfl) (by simp))
  have HM6 := Lib.hid ((HM5.out.trans m6).trans m7)
  have HL6 := Lib.hid (HL5.out.kept0 (m6.trans m7))
  clear h1 h2 h3 hps s1 s2 ct ho m6 m7 C5 HL5 HM5
  go_wp2_with fail
  refine C6.out.mono ?_
  rintro e w6 ⟨rfl, m8⟩
  have HM8 := Lib.hid (HM6.out.trans m8)
  have h1 := (HL6.out.kept0 m8) T1 (by simp)
  have C7 := Lib.hid (moved_at h1.1 (by rw [HN1.out]; omega) (by_ := 3) (by omega))
  clear h1 m8 C6 HM6
  go_wp2_with fail
  refine C7.out.mono ?_
  rintro e w7 ⟨g', rfl, B7, l7, m9, hB7⟩
  have HM9 := Lib.hid (HM8.out.trans m9)
  have hv : movedF T1.f 3 5 = 5 := by rw [HF1.out]; simp [movedF, kn_f1]
  have C8 := Lib.hid (at_line l7 (by rw [HN1.out]; omega) (day := 5) (by omega))
  rw [hv] at C8
  clear m9 l7 hB7 C7 HM8 hv
  go_wp2_with fail
  refine C8.out.mono ?_
  rintro e w8 ⟨rfl, m10⟩
  have HE := Lib.hid (HM9.out.trans m10)
  clear m10 C8 HM9
  go_wp2_with fail
  go_ret
  exact ⟨rfl, HE.out⟩
end Go.Proofs.Ytngglpekdjhbdaa
namespace Go.Proofs.Ytngglpekdjhbdaa
open Go.RowKit Go.ChangeMaps Go.Deep Tr
set_option linter.unusedSimpArgs false
set_option linter.unusedVariables false
set_option maxRecDepth 20000

/-- great says a truth; where it says no, the lists are few and short -/
def SmallOr (hs : List SlH) (e : Ending) : Prop := ∃ b, e = .returned (.bool b) ∧ (b = false → hs.length ≤ 5 ∧ ∀ h ∈ hs, h.n ≤ 30)
theorem great12_at {w : World} {v : Value} {hs : List SlH} (hv : RowAt encH w v hs) (hl : hs.length ≤ 140737488355328) (hll : ∀ h ∈ hs, h.n ≤ 140737488355328) :
    Calls Try.prog 7 #[v] w fun e w' => SmallOr hs e ∧ w' = w := by
  obtain ⟨a, c, rfl⟩ := hv.form
  have H := Lib.hid hv
  have HLL := Lib.hid hll
  clear hv hll
  go_enter Try.func7, Try.ntmps7
  go_wp2_with fail
  go_loop [7] (fun s7 => ∃ i : Nat, i ≤ hs.length ∧ s7 = .int .i64 i ∧ Hid (∀ j (hj : j < hs.length), j < i → hs[j].n ≤ 30)) (fun s7 => hs.length - (intOf s7).toNat)
  case atStart => exact ⟨0, by omega, rfl, Lib.hid (fun j hj h => absurd h (by omega))⟩
  case round =>
    obtain ⟨i, hi, rfl, HB⟩ := hrel
    by_cases hlt : i < hs.length
    · obtain ⟨b, o, rfl, hc, hg⟩ := RowAt.get encH_len H.out hlt
      have g0 := hg 0 hs[i].val (by omega) rfl
      have hn := HLL.out _ (List.getElem_mem hlt)
      have HX := Lib.hid (show ∀ n, hs[i].n = n → n ≤ 30 → ∀ j (hj : j < hs.length), j < i + 1 → hs[j].n ≤ 30 from fun n e h j hj hji => by
        by_cases he : j = i
        · subst he; omega
        · exact HB.out j hj (by omega))
      clear hg
      generalize hs[i] = x at g0 hn HX
      obtain ⟨xa, xn, xc⟩ := x
      simp only [SlH.val, Nat.mul_one, Nat.add_zero] at g0 hn HX
      by_cases h30 : 30 < xn
      · have hd : decide ((30 : Int) < xn) = true := decide_eq_true (by omega)
        go_wp2_with fail
        go_ret
        exact ⟨⟨true, rfl, fun h => absurd h (by decide)⟩, rfl⟩
      · have hd : decide ((30 : Int) < xn) = false := decide_eq_false (by omega)
        go_wp2_with fail
        go_round
        case rel => exact ⟨i + 1, by omega, by go_num, Lib.hid (HX.out xn rfl (by omega))⟩
        case measure => simp [intOf]; omega
    · have hie : i = hs.length := by omega
      subst hie
      by_cases h5 : 5 < hs.length
      · have hd : decide ((5 : Int) < hs.length) = true := decide_eq_true (by omega)
        go_wp2_with fail
        go_ret
        exact ⟨⟨true, rfl, fun h => absurd h (by decide)⟩, rfl⟩
      · have hd : decide ((5 : Int) < hs.length) = false := decide_eq_false (by omega)
        go_wp2_with fail
        go_ret
        exact ⟨⟨false, rfl, fun _ => ⟨by omega, fun h hh => by obtain ⟨j, hj, rfl⟩ := List.getElem_of_mem hh; exact HB.out j hj hj⟩⟩, rfl⟩
end Go.Proofs.Ytngglpekdjhbdaa
namespace Go.Proofs.Ytngglpekdjhbdaa
open Go.RowKit Go.ChangeMaps Go.Deep Tr
set_option linter.unusedSimpArgs false
set_option linter.unusedVariables false
set_option maxRecDepth 20000

theorem maps1_at {W : World} {bn : Nat} {n : Int} (hc : W.cell? ⟨bn, 0, none⟩ = some (.int .i64 n)) (x : Int) :
    Calls Try.prog 18 #[.int .i64 x, .pointer (some ⟨bn, 0, none⟩)] W fun e w' => e = .returned (.int .i64 (wrap64 (wrap64 (x * x) - n))) ∧ Mod [] W w' := by
  have hM := Lib.hid (Mod.refl [] W)
  go_enter Try.func18, Try.ntmps18
  go_wp2_with fail
  go_ret
  exact ⟨by try rfl, hM.out⟩
theorem maps2_at (W : World) (x : Int) :
    Calls Try.prog 20 #[.int .i64 x] W fun e w' => e = .returned (.int .i64 (wrap64 (x + 1))) ∧ Mod [] W w' := by
  have hM := Lib.hid (Mod.refl [] W)
  go_enter Try.func20, Try.ntmps20
  go_wp2_with fail
  go_ret
  exact ⟨by try rfl, hM.out⟩
theorem madeF_out (ops : List Sg) {d : Int} (hd : ¬ (1 ≤ d ∧ d < 3652060)) : madeF ops d = 0 := by
  have h : ∀ (l : List Sg) (g : Int → Int), g d = 0 → (l.foldl (fun g o => updM g o.f o.t o.v) g) d = 0 := by
    intro l
    induction l with
    | nil => intro g hg; exact hg
    | cons o l ih =>
      intro g hg
      refine ih _ ?_
      show (updM g o.f o.t o.v) d = 0
      unfold updM
      split
      · unfold upd
        rw [if_neg (by omega)]
        exact hg
      · exact hg
  exact h ops _ rfl
theorem moved_back (ops : List Sg) {s d : Int} (hs : 0 ≤ s) (hd : ¬ 3652059 - s < d) : movedF (movedF (madeF ops) s) (-s) d = madeF ops d := by
  unfold movedF
  by_cases h : 1 ≤ d ∧ d < 3652060
  · rw [if_pos (by omega), if_pos (by omega)]
    congr 1
    omega
  · rw [if_neg (by omega), madeF_out ops h]
theorem mapped_made (ops : List Sg) (h : Int → Int) (d : Int) : mappedF h (madeF ops) d = if d < 1 ∨ 3652059 < d then 0 else h (madeF ops d) := by
  unfold mappedF
  by_cases hd : 1 ≤ d ∧ d < 3652060
  · rw [if_pos hd, if_neg (by omega)]
  · rw [if_neg hd, if_pos (by omega)]
set_option maxHeartbeats 4000000 in
theorem maps_at {w : World} {a : Option Addr} {m c : Nat} {ops : List Sg} (hv : RowAt encSg w (.slice a m c) ops) (hl : m ≤ 140737488355328) (n day shift : Int) (hd : -9223372036854775808 ≤ day ∧ day ≤ 9223372036854775807) :
    Calls Try.prog 5 #[.slice a m c, .int .i64 n, .int .i64 day, .int .i64 shift] w fun e w' => e = .returned (.bool true) ∧ Mod [] w w' := by
  have hm : m = ops.length := by obtain ⟨y, z, e⟩ := hv.form; cases e; rfl
  subst hm
  have mA := (Mod.refl [] w).alloc (.cells #[.int .i64 n] 3)
  have sA : (w.alloc (.cells #[.int .i64 n] 3)).heap.size = w.heap.size + 1 := World.size_alloc ..
  have cA : (w.alloc (.cells #[.int .i64 n] 3)).cell? ⟨w.heap.size, 0, none⟩ = some (.int .i64 n) := cell_blk (heap_alloc_new w _) 0
  have mB := (Mod.refl [] (w.alloc (.cells #[.int .i64 n] 3))).alloc (.cells #[.slice a ops.length c] 30)
  have C0 := Lib.hid (great12_at (hs := [⟨a, ops.length, c⟩]) (row_lit3 (enc := encH) (w.alloc (.cells #[.int .i64 n] 3)) [⟨a, ops.length, c⟩] #[.slice a ops.length c] 1 (w.heap.size + 1) (E := 30) rfl rfl sA.symm) (by simp) (by intro h hh; simp at hh; subst hh; exact hl))
  have HV := Lib.hid (hv.kept0 (mA.trans mB))
  have HB := Lib.hid (mA.trans mB)
  have HC := Lib.hid (mB.cellD cA)
  clear hv mA mB sA cA
  go_enter Try.func5, Try.ntmps5
  go_wp2_with fail
  refine C0.out.mono ?_
  rintro e w1 ⟨⟨b, rfl, hb⟩, rfl⟩
  have HS := Lib.hid hb
  generalize (w.alloc (.cells #[.int .i64 n] 3)).alloc (.cells #[.slice a ops.length c] 30) = w1 at HV HB HC
  clear hb C0
  have CK := Lib.hid (known_at w1)
  by_cases h1 : b = true
  · subst h1
    go_wp2_with fail
    refine CK.out.mono ?_
    rintro e w2 ⟨rfl, m2⟩
    have HE := Lib.hid (HB.out.trans m2)
    clear m2 CK
    go_wp2_with fail
    go_ret
    exact ⟨rfl, HE.out⟩
  have h1' : b = false := by simpa using h1
  subst h1'
  clear h1
  by_cases h2 : shift < 0
  · have hd2 : decide (shift < 0) = true := decide_eq_true h2
    go_wp2_with fail
    refine CK.out.mono ?_
    rintro e w2 ⟨rfl, m2⟩
    have HE := Lib.hid (HB.out.trans m2)
    clear m2 CK
    go_wp2_with fail
    go_ret
    exact ⟨rfl, HE.out⟩
  have hd2 : decide (shift < 0) = false := decide_eq_false h2
  by_cases h3 : 100 < shift
  · have hd3 : decide (100 < shift) = true := decide_eq_true h3
    go_wp2_with fail
    refine CK.out.mono ?_
    rintro e w2 ⟨rfl, m2⟩
    have HE := Lib.hid (HB.out.trans m2)
    clear m2 CK
    go_wp2_with fail
    go_ret
    exact ⟨rfl, HE.out⟩
  have hd3 : decide (100 < shift) = false := decide_eq_false h3
  clear CK
  have hsm := (HS.out rfl).2 ⟨a, ops.length, c⟩ (by simp)
  dsimp only at hsm
  clear HS
  have C1 := Lib.hid (made_at HV.out (by omega))
  go_wp2_with fail
  refine C1.out.mono ?_
  rintro e w2 ⟨g, r, rfl, ⟨B, hL, m2, hB⟩, _⟩
  have HL := Lib.hid hL
  have HB2 := Lib.hid (HB.out.trans m2)
  have hc2 := m2.cellD HC.out
  have C2 := Lib.hid (map1_at (w := w2) (tv := .pointer (some ⟨g, 0, none⟩)) (n := ops.length) (gf := madeF ops) (h := fun x => wrap64 (wrap64 (x * x) - n)) (bn := w.heap.size) (by omega)
    (fun W m => (there_line (hL.kept0 m) (by omega)).mono fun e w' ⟨he, hw⟩ => ⟨g, B, he, hL.kept0 (m.trans hw), hw⟩)
    (fun W x m => maps1_at (m.cellD hc2) x))
  have HC2 := Lib.hid hc2
  clear hL m2 hB C1 hc2 HC
  go_wp2_with fail
  refine C2.out.mono ?_
  rintro e w3 ⟨g3, rfl, B3, l3, m3, hB3⟩
  have HL3 := Lib.hid l3
  have h2 := HL.out.kept0 m3
  have HL2 := Lib.hid h2
  have HM3 := Lib.hid (HB2.out.trans m3)
  have C3 := Lib.hid (at_line h2 (by omega) hd)
  have hc3 := m3.cellD HC2.out
  have HC3 := Lib.hid hc3
  clear l3 m3 hB3 h2 C2 HL HB2 hc3 HC2
  go_wp2_with fail
  refine C3.out.mono ?_
  rintro e w4 ⟨rfl, m4⟩
  have hc4 := m4.cellD HC3.out
  have HL4 := Lib.hid (HL2.out.kept0 m4)
  have HK4 := Lib.hid (HL3.out.kept0 m4)
  have HM4 := Lib.hid (HM3.out.trans m4)
  clear m4 HC3 HL2 HL3 HM3 C3
  have hcase : (decide (day < 1) = true ∧ mappedF (fun x => wrap64 (wrap64 (x * x) - n)) (madeF ops) day = 0) ∨ (decide (day < 1) = false ∧ decide (3652059 < day) = true ∧ mappedF (fun x => wrap64 (wrap64 (x * x) - n)) (madeF ops) day = 0) ∨ (decide (day < 1) = false ∧ decide (3652059 < day) = false ∧ mappedF (fun x => wrap64 (wrap64 (x * x) - n)) (madeF ops) day = wrap64 (wrap64 (madeF ops day * madeF ops day) - n)) := by
    rw [mapped_made]
    by_cases h1 : day < 1
    · exact .inl ⟨decide_eq_true h1, if_pos (.inl h1)⟩
    · by_cases h2 : 3652059 < day
      · exact .inr (.inl ⟨decide_eq_false h1, decide_eq_true h2, if_pos (.inr h2)⟩)
      · exact .inr (.inr ⟨decide_eq_false h1, decide_eq_false h2, if_neg (by omega)⟩)
  have HC := Lib.hid (moved_back ops (s := shift) (d := day) (by omega))
  obtain ⟨mf, hmf⟩ : ∃ mf, mf = mappedF (fun x => wrap64 (wrap64 (x * x) - n)) (madeF ops) := ⟨_, rfl⟩
  obtain ⟨x0, hx0⟩ : ∃ x0, x0 = madeF ops day := ⟨_, rfl⟩
  rw [← hmf] at hcase HK4
  rw [← hx0] at hcase HC ⊢
  clear hmf hx0
  have HN := Lib.hid (show wrap64 (-shift) = -shift from by unfold wrap64; omega)
  have HN2 := Lib.hid (show wrap64 (3652059 - shift) = 3652059 - shift from by unfold wrap64; omega)
  rcases hcase with ⟨q1, hY⟩ | ⟨q1, q2, hY⟩ | ⟨q1, q2, hY⟩
  all_goals
    have C5 := Lib.hid (moved_at HL4.out (by omega) (by_ := shift) (by omega))
    go_wp2_with fail
    refine C5.out.mono ?_
    rintro e w5 ⟨g5, rfl, B5, l5, m5, hB5⟩
    have C6 := Lib.hid (moved_at l5 (by omega) (by_ := -shift) (by omega))
    have HM5 := Lib.hid (HM4.out.trans m5)
    have HK5 := Lib.hid (HK4.out.kept0 m5)
    clear l5 m5 hB5 C5 HM4 HK4 hc4
    have n1 := HN.out
    have n2 := HN2.out
    go_wp2_with fail
    refine C6.out.mono ?_
    rintro e w6 ⟨g6, rfl, B6, l6, m6, hB6⟩
    have HM6 := Lib.hid (HM5.out.trans m6)
    have HK6 := Lib.hid (HK5.out.kept0 m6)
    by_cases hs : 3652059 - shift < day
    · have hsd : decide (3652059 - shift < day) = true := decide_eq_true hs
      have HM7 := Lib.hid HM6.out
      have HK7 := Lib.hid HK6.out
      clear l6 m6 hB6 C6 HM5 HK5 HM6 HK6
      have E8 := at_line HK7.out (by omega) hd
      rw [hY] at E8
      have C8 := Lib.hid E8
      clear E8 HK7
      go_wp2_with fail
      refine C8.out.mono ?_
      rintro e w8 ⟨rfl, m8⟩
      have HM8 := Lib.hid (HM7.out.trans m8)
      have C9 := Lib.hid (map2_at (w := w8) (tv := .pointer none) (n := 0) (gf := fun _ => 0) (h := fun x => wrap64 (x + 1)) (by omega) (fun W m => there_nil W) (fun W x m => maps2_at W x))
      clear m8 C8 HM7
      go_wp2_with fail
      refine C9.out.mono ?_
      rintro e w9 ⟨g9, rfl, B9, l9, m9, hB9⟩
      have HM9 := Lib.hid (HM8.out.trans m9)
      have E10 := at_line l9 (by omega) (day := 5) (by omega)
      rw [show mappedF (fun x => wrap64 (x + 1)) (fun _ => 0) 5 = 1 from by simp [mappedF, wrap64]] at E10
      have C10 := Lib.hid E10
      clear E10 l9 m9 hB9 C9 HM8
      go_wp2_with fail
      refine C10.out.mono ?_
      rintro e w10 ⟨rfl, m10⟩
      have HM10 := Lib.hid (HM9.out.trans m10)
      have CK := Lib.hid (known_at w10)
      clear m10 C10 HM9
      go_wp2_with fail
      refine CK.out.mono ?_
      rintro e w11 ⟨rfl, m11⟩
      have HE := Lib.hid (HM10.out.trans m11)
      clear m11 CK HM10
      go_wp2_with fail
      go_ret
      exact ⟨rfl, HE.out⟩
    · have hsd : decide (3652059 - shift < day) = false := decide_eq_false hs
      have E7 := at_line l6 (by omega) hd
      rw [HC.out (by omega)] at E7
      have C7 := Lib.hid E7
      clear l6 m6 hB6 C6 HM5 HK5 E7
      go_wp2_with fail
      refine C7.out.mono ?_
      rintro e w7 ⟨rfl, m7⟩
      have HM7 := Lib.hid (HM6.out.trans m7)
      have HK7 := Lib.hid (HK6.out.kept0 m7)
      clear m7 C7 HM6 HK6
      have E8 := at_line HK7.out (by omega) hd
      rw [hY] at E8
      have C8 := Lib.hid E8
      clear E8 HK7
      go_wp2_with fail
      refine C8.out.mono ?_
      rintro e w8 ⟨rfl, m8⟩
      have HM8 := Lib.hid (HM7.out.trans m8)
      have C9 := Lib.hid (map2_at (w := w8) (tv := .pointer none) (n := 0) (gf := fun _ => 0) (h := fun x => wrap64 (x + 1)) (by omega) (fun W m => there_nil W) (fun W x m => maps2_at W x))
      clear m8 C8 HM7
      go_wp2_with fail
      refine C9.out.mono ?_
      rintro e w9 ⟨g9, rfl, B9, l9, m9, hB9⟩
      have HM9 := Lib.hid (HM8.out.trans m9)
      have E10 := at_line l9 (by omega) (day := 5) (by omega)
      rw [show mappedF (fun x => wrap64 (x + 1)) (fun _ => 0) 5 = 1 from by simp [mappedF, wrap64]] at E10
      have C10 := Lib.hid E10
      clear E10 l9 m9 hB9 C9 HM8
      go_wp2_with fail
      refine C10.out.mono ?_
      rintro e w10 ⟨rfl, m10⟩
      have HM10 := Lib.hid (HM9.out.trans m10)
      have CK := Lib.hid (known_at w10)
      clear m10 C10 HM9
      go_wp2_with fail
      refine CK.out.mono ?_
      rintro e w11 ⟨rfl, m11⟩
      have HE := Lib.hid (HM10.out.trans m11)
      clear m11 CK HM10
      go_wp2_with fail
      go_ret
      exact ⟨rfl, HE.out⟩
end Go.Proofs.Ytngglpekdjhbdaa
