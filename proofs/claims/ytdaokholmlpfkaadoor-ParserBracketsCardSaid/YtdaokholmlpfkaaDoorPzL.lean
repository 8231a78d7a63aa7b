/- Formulas: the calls' table. -/
import Derived.Test.YtdaokholmlpfkaaDoorPzK
import Derived.Deep.LoopGhost
import Derived.MapKept
namespace Go.Proofs.YtdaokholmlpfkaaDoor
open Go.RowKit Go.ChangeMaps Go.Deep
set_option linter.unusedSimpArgs false
set_option linter.unusedVariables false
set_option maxRecDepth 20000

/-- level's contract, where at most m words are ahead -/
def LevC (p : Nat) (en : Int) (lev : Pz → Rz Int) (n : Int) (m : Nat) : Prop := ∀ (w : World) (s : Pz), Gl w → PsAt w p en s → s.sum ≤ 1000000 → s.l.length ≤ m → Calls Tryd.prog 9 #[.pointer (some ⟨p, 0, none⟩), .int .i64 n] w fun e w' => PsR p en w intV (lev s) e w'
theorem PsR.mk_ok {α : Type} {p : Nat} {en : Int} {w w' : World} {val : α → Value} {r : Rz α} {a : α} {s : Pz} (h : r = .ok a s) {e : Ending} (he : e = .returned (val a)) (hp : PsAt w' p en s) (hu : Up p w w') : PsR p en w val r e w' := by
  rw [h]
  exact ⟨he, hp, hu⟩
theorem PsR.mk_bad {α : Type} {p : Nat} {en : Int} {w w' : World} {val : α → Value} {r : Rz α} {q x : Int} (h : r = .bad q x) {e : Ending} (he : e = .panicked (stopP q x)) (hu : Up p w w') : PsR p en w val r e w' := by
  rw [h]
  exact ⟨he, hu⟩
/-- the state that a slot of its own has turned in: the words -/
theorem one_row (w : World) (a : Int) : RowAt encI (w.alloc (.cells #[.int .i64 a] 3)) (.slice (some ⟨w.heap.size, 0, none⟩) 1 1) [a] :=
  .at_ w.heap.size 0 1 [a] (by simp) (fun j v hj => by
    rw [Nat.zero_add, cell_blk (heap_alloc_new w _)]
    rw [flat_encI] at hj
    simpa using hj)
theorem two_row (w : World) (a b : Int) : RowAt encI (w.alloc (.cells #[.int .i64 a, .int .i64 b] 3)) (.slice (some ⟨w.heap.size, 0, none⟩) 2 2) [a, b] :=
  .at_ w.heap.size 0 2 [a, b] (by simp) (fun j v hj => by
    rw [Nat.zero_add, cell_blk (heap_alloc_new w _)]
    rw [flat_encI] at hj
    simpa using hj)
theorem sum_parts {s : Pz} (h : s.sum ≤ 1000000) : s.l.length ≤ 1000000 ∧ s.tree.length ≤ 1000000 := by unfold Pz.sum at h; omega
set_option maxHeartbeats 4000000 in
theorem psAhead_at {w : World} {p : Nat} {en : Int} {s : Pz} (hp : 9 ≤ p) (hg : Gl w) (h : PsAt w p en s) (hs : s.sum ≤ 1000000) {self up : Pz → Rz Int} {n : Nat} (hn : n ≤ 6) (C1 : s.l ≠ [] → LevC p en self n (s.l.length - 1)) (C2 : LevC p en up ((n : Int) + 1) s.l.length) (D1 : LevDp self) (T1 : LevTm self) (x : ByteArray) (op : Int) :
    Calls Tryd.prog 28 #[.pointer (some ⟨p, 0, none⟩), .int .i64 n, .string x, .int .u8 op] w fun e w' => PsR p en w intV (aheadZ en self up x op s) e w' := by
  have CI := Lib.hid (psIs_at h x)
  cases hz : isZ s.l x with
  | false =>
    have HV := Lib.hid (show aheadZ en self up x op s = up s by unfold aheadZ; rw [if_neg (by simp [hz])])
    have CU := Lib.hid (C2 w s hg h hs (Nat.le_refl _))
    rw [hz] at CI
    clear C1 C2 hz
    go_enter Tryd.func28, Tryd.ntmps28
    go_wp2_with fail
    refine CI.out.mono ?_
    rintro e w2 ⟨rfl, rfl⟩
    go_wp2_with fail
    refine CU.out.mono ?_
    intro e w3 hR
    cases hu : up s with
    | ok a s1 =>
      rw [hu] at hR HV
      obtain ⟨rfl, h1, h2⟩ := hR
      have HH := Lib.hid (And.intro h1 h2)
      clear hu h1 h2
      go_wp2_with fail
      first | go_ret3 | go_ret2 | go_ret
      exact PsR.mk_ok HV.out rfl HH.out.1 HH.out.2
    | bad q y =>
      rw [hu] at hR HV
      obtain ⟨rfl, h2⟩ := hR
      have HH := Lib.hid h2
      clear hu h2
      go_wp2_with fail
      exact ⟨rfl, PsR.mk_bad HV.out rfl HH.out⟩
  | true =>
    have HV := Lib.hid (show aheadZ en self up x op s = (openZ en s).bind fun _ s1 => (self s1.next).bind fun a s2 => nodeZ { nz0 op (placeZ en s.l) with k0 := a } s2.close by unfold aheadZ; rw [if_pos hz])
    have CO := Lib.hid (psOpen_at h)
    have CA := Lib.hid (psAt_at h)
    have HZ := Lib.hid (isZ_cons hz)
    have HC1 := Lib.hid (C1 (by obtain ⟨t, r, e⟩ := isZ_cons hz; rw [e]; simp))
    have HGS := Lib.hid (And.intro hg (And.intro h hs))
    generalize placeZ en s.l = q at CA HV
    rw [hz] at CI
    clear C1 C2 hz h hs hg
    go_enter Tryd.func28, Tryd.ntmps28
    go_wp2_with fail
    refine CI.out.mono ?_
    rintro e w2 ⟨rfl, rfl⟩
    go_wp2_with fail
    refine CA.out.mono ?_
    rintro e w2 ⟨rfl, rfl⟩
    go_wp2_with fail
    refine CO.out.mono ?_
    intro e w3 hR
    cases ho : openZ en s with
    | bad q2 y =>
      rw [ho] at hR HV
      obtain ⟨rfl, h2⟩ := hR
      have HH := Lib.hid h2
      clear ho h2
      go_wp2_with fail
      exact ⟨rfl, PsR.mk_bad HV.out rfl HH.out⟩
    | ok u s1 =>
      rw [ho] at hR HV
      rw [Rz.bind_ok] at HV
      obtain ⟨rfl, h1, h2⟩ := hR
      obtain ⟨t, r, hsl⟩ := HZ.out
      have e1 : s1 = { s with deep := s.deep + 1 } := by
        unfold openZ at ho
        split at ho
        · cases ho
        · cases ho; rfl
      have hl1 : s1.l = t :: r := by rw [e1]; exact hsl
      have hsum : s1.next.sum ≤ 999999 := by
        have := next_sum1 hl1
        have := HGS.out.2.2
        have : s1.sum = s.sum := by rw [e1]; rfl
        omega
      have hle : s1.next.l.length ≤ s.l.length - 1 := by rw [next_len, e1]; exact Nat.le_refl _
      have hgl := h2.gl HGS.out.2.1 HGS.out.1 hp
      have HUP := Lib.hid h2
      have hdp : s1.next.deep = s.deep + 1 := by rw [e1]; rfl
      obtain ⟨la, lc, tv, hx⟩ := h1
      obtain ⟨b, o, rfl, hb, hc, -, -, -, -, -⟩ := hx.head hl1
      have hlen2 := hx.len
      have hlen : 0 < s1.l.length := by rw [hl1]; simp
      have c0 := cell_blk hx.blk 0
      have f0 := frozen_blk hx.blk 0
      simp only [List.getElem?_toArray, List.getElem?_cons_succ, List.getElem?_cons_zero] at c0
      have HT := Lib.hid (hx.two hl1)
      have HAT := Lib.hid hx
      have HGL := Lib.hid hgl
      have HSM := Lib.hid (And.intro hsum (And.intro hle hdp))
      have HD1 := Lib.hid D1
      have HT1 := Lib.hid T1
      clear hb hx e1 ho hl1 hsl h2 hgl hsum hle hdp D1 T1
      generalize hnn : s1.l.length = m at *
      have hm0 : ¬ m = 0 := by omega
      clear hnn
      have HPS := Lib.hid (show PsAt w3 p en s1 from ⟨_, _, _, HAT.out⟩)
      by_cases hl1 : lc = 1
      case' pos =>
        subst hl1
        obtain rfl : m = 1 := by omega
        have HH := Lib.hid (HT.out o (.inr (Nat.le_refl _)))
        go_wp2_with fail
        change Hid (PsAt (w3.setCell ⟨p, 0, none⟩ (.slice (some ⟨b, o, none⟩) 0 0)) p en s1.next ∧ Up p w3 (w3.setCell ⟨p, 0, none⟩ (.slice (some ⟨b, o, none⟩) 0 0))) at HH
        generalize w3.setCell ⟨p, 0, none⟩ (.slice (some ⟨b, o, none⟩) 0 0) = W4 at HH ⊢
      case' neg =>
        have HH := Lib.hid (HT.out (o + 5) (.inl rfl))
        go_wp2_with fail
        generalize w3.setCell ⟨p, 0, none⟩ (.slice (some ⟨b, o + 5, none⟩) (m - 1) (lc - 1)) = W4 at HH ⊢
      all_goals
        have HCC := Lib.hid (HC1.out W4 s1.next (HH.out.2.gl HPS.out HGL.out hp) HH.out.1 (by have := HSM.out.1; omega) HSM.out.2.1)
        clear HT HAT c0 f0 hc
        refine HCC.out.mono ?_
        intro e w5 hR
        cases hu : self s1.next with
        | bad q2 y =>
          rw [hu] at hR HV
          obtain ⟨rfl, h2⟩ := hR
          have HH2 := Lib.hid (HUP.out.trans (HH.out.2.trans h2))
          clear hu h2
          go_wp2_with fail
          exact ⟨rfl, PsR.mk_bad HV.out rfl HH2.out⟩
        | ok a s2 =>
          rw [hu] at hR HV
          rw [Rz.bind_ok] at HV
          obtain ⟨rfl, h1, h2⟩ := hR
          have hd2 : s2.deep = s.deep + 1 := (HD1.out s1.next a s2 hu).trans HSM.out.2.2
          have hs2 : s2.tree.length ≤ 1000000 := (sum_parts (Nat.le_trans (HT1.out s1.next a s2 hu) (by have := HSM.out.1; omega))).2
          have HU5 := Lib.hid (HUP.out.trans (HH.out.2.trans h2))
          obtain ⟨la2, lc2, tv2, hx2⟩ := h1
          have c2 := cell_blk hx2.blk 2
          have f2 := frozen_blk hx2.blk 2
          simp only [List.getElem?_toArray, List.getElem?_cons_succ, List.getElem?_cons_zero] at c2
          have hds := hx2.deep
          have hd0 : 0 ≤ s.deep := by
            obtain ⟨_, _, _, hx0⟩ := HGS.out.2.1
            exact hx0.deep.1
          have hwr : IntKind.i64.wrap (s2.deep - 1) = s2.deep - 1 := by rw [IntKind.wrap_i64]; omega
          have hx6 := hx2.deeper (s2.deep - 1) (by omega)
          have hu6 := hx2.up (i := 2) (by omega) (.int .i64 (s2.deep - 1))
          have h6 : PsAt (w5.setCell ⟨p, 2, none⟩ (.int .i64 (s2.deep - 1))) p en s2.close := ⟨_, _, _, hx6⟩
          have hlt6 := hx6.lt
          obtain ⟨w6, hw6⟩ : ∃ w6, w5.setCell ⟨p, 2, none⟩ (.int .i64 (s2.deep - 1)) = w6 := ⟨_, rfl⟩
          rw [hw6] at h6 hu6 hlt6
          have hrow := one_row w6 a
          obtain ⟨w7, hw7, n7, z7, m7⟩ := alloc_named2 w6 (.cells #[.int .i64 a] 3)
          rw [hw7] at hrow
          have CN := Lib.hid (show Calls Tryd.prog 34 #[.pointer (some ⟨p, 0, none⟩), .agg #[.int .u8 op, .int .i64 0, .int .i64 0, .string ⟨#[]⟩, .int .i64 0, .int .i64 0, .int .i64 0, .int .i64 0, .int .i64 q], .slice (some ⟨w6.heap.size, 0, none⟩) 1 1] w7 (fun e w' => PsR p en w7 intV (nodeZ { nz0 op q with k0 := a } s2.close) e w') from
            psNode_at (h6.kept m7) hs2 ⟨op, 0, 0, ByteArray.empty, 0, 0, 0, 0, q⟩ hrow (by simp))
          have HV2 := Lib.hid (show aheadZ en self up x op s = nodeZ { nz0 op q with k0 := a } s2.close from HV.out)
          have HU7 := Lib.hid (HU5.out.trans (hu6.trans (Up.keep m7 hlt6)))
          have hg1 : ¬ s2.deep = -9223372036854775808 := by omega
          generalize s2.deep = d2 at *
          clear h2 hx2 hd2 hs2 hds hd0 h6 hu6 hlt6 hrow n7 z7 m7 hu
          unfold intV
          go_wp2_with fail
          refine CN.out.mono ?_
          rintro e w8 ⟨rfl, h8, u8⟩
          have HH8 := Lib.hid (And.intro h8 (HU7.out.trans u8))
          clear h8 u8
          go_wp2_with fail
          first | go_ret3 | go_ret2 | go_ret
          exact PsR.mk_ok HV2.out rfl HH8.out.1 HH8.out.2
end Go.Proofs.YtdaokholmlpfkaaDoor
namespace Go.Proofs.YtdaokholmlpfkaaDoor
open Go.RowKit Go.ChangeMaps Go.Deep
set_option linter.unusedSimpArgs false
set_option linter.unusedVariables false
set_option maxRecDepth 20000

/-- a value apart from the reading -/
def Apart (w : World) (p : Nat) (v : Value) : Prop := ∀ k, v.ownBlock = some k → k ≠ p ∧ k < w.heap.size ∧ ¬ Tb w p k
theorem Apart.up {w w' : World} {p : Nat} {v : Value} (h : Apart w p v) (u : Up p w w') : Apart w' p v := fun k hk =>
  ⟨(h k hk).1, Nat.lt_of_lt_of_le (h k hk).2.1 u.size, fun ht => (h k hk).2.2 (u.tb k (h k hk).2.1 ht)⟩
theorem row_same {α : Type} {enc : α → List Value} {w w' : World} {v : Value} {l : List α} (h : RowAt enc w v l) (e : ∀ k, v.ownBlock = some k → w'.heap[k]? = w.heap[k]?) : RowAt enc w' v l := by
  cases h with
  | nil a cap => exact .nil a cap
  | at_ b o cap l hc hr =>
    refine .at_ b o cap l hc (fun j u hu => ?_)
    have := hr j u hu
    unfold World.cell? at this ⊢
    rw [e b rfl]
    exact this
theorem row_up {α : Type} {enc : α → List Value} {w w' : World} {p : Nat} {v : Value} {l : List α} (h : RowAt enc w v l) (a : Apart w p v) (u : Up p w w') : RowAt enc w' v l :=
  row_same h fun k hk => u.block k (a k hk).2.1 (a k hk).1 (a k hk).2.2
theorem loopZ_succ (en : Int) (lev : Pz → Rz Int) (n f : Nat) (a : Int) (s : Pz) : loopZ en lev n (f + 1) a s = if infixZ n s.l = 0 then .ok a s else (lev s.next).bind fun b s1 => (nodeZ { nz0 (infixZ n s.l) (placeZ en s.l) with k0 := a, k1 := b } s1).bind fun a2 s2 => if n = 3 then .ok a2 s2 else loopZ en lev n f a2 s2 := rfl
/-- what holds between rounds -/
structure RowSt (p : Nat) (en : Int) (w0 W : World) (lev : Pz → Rz Int) (n m : Nat) (R : Rz Int) (v : Value) (a : Int) (st : Pz) (f : Nat) : Prop where
  gl : Gl W
  at_ : PsAt W p en st
  up : Up p w0 W
  row : RowAt encOp W v (opsZ n)
  apart : Apart W p v
  sum : st.sum ≤ 1000000
  len : st.l.length ≤ m
  lt : st.l.length < f
  run : loopZ en lev n f a st = R
set_option maxHeartbeats 8000000 in
theorem psRow_at {w : World} {p : Nat} {en : Int} {s : Pz} (hp : 9 ≤ p) (hg : Gl w) (h : PsAt w p en s) (hs : s.sum ≤ 1000000) {lev : Pz → Rz Int} {n : Nat} (hn : n ≤ 5) {many : Bool} (hm : n = 3 ∧ many = false ∨ n ≠ 3 ∧ many = true) (C : LevC p en lev ((n : Int) + 1) s.l.length) (S1 : LevSh lev) (T1 : LevTm lev) {v : Value} (hv : RowAt encOp w v (opsZ n)) (hva : Apart w p v) :
    Calls Tryd.prog 27 #[.pointer (some ⟨p, 0, none⟩), .int .i64 n, .bool many, v] w fun e w' => PsR p en w intV ((lev s).bind fun a s1 => loopZ en lev n (s1.l.length + 1) a s1) e w' := by
  have CL := Lib.hid (C w s hg h hs (Nat.le_refl _))
  have HC := Lib.hid C
  have HT := Lib.hid T1
  have HS := Lib.hid S1
  have H0 := Lib.hid (And.intro hg (And.intro h (And.intro hs (And.intro hv hva))))
  have HM := Lib.hid hm
  have hlo : (opsZ n).length ≤ 100 := by
    unfold opsZ
    split <;> simp
  clear C T1 S1 hg h hs hv hva hm
  generalize hRR : ((lev s).bind fun a s1 => loopZ en lev n (s1.l.length + 1) a s1) = RR
  go_enter Tryd.func27, Tryd.ntmps27
  go_wp2_with fail
  refine CL.out.mono ?_
  intro e w1 hR
  cases hu : lev s with
  | bad q y =>
    rw [hu] at hR hRR
    have HV := Lib.hid hRR.symm
    obtain ⟨rfl, h2⟩ := hR
    have HH := Lib.hid h2
    clear hu h2 hRR
    go_wp2_with fail
    exact ⟨rfl, PsR.mk_bad HV.out rfl HH.out⟩
  | ok a s1 =>
    rw [hu] at hR hRR
    rw [Rz.bind_ok] at hRR
    obtain ⟨rfl, h1, h2⟩ := hR
    have HI := Lib.hid (show RowSt p en w w1 lev n s.l.length (loopZ en lev n (s1.l.length + 1) a s1) v a s1 (s1.l.length + 1) from
      ⟨h2.gl H0.out.2.1 H0.out.1 hp, h1, h2, row_up H0.out.2.2.2.1 H0.out.2.2.2.2 h2, H0.out.2.2.2.2.up h2, Nat.le_trans (HT.out s a s1 hu) H0.out.2.2.1, HS.out s a s1 hu, Nat.lt_succ_self _, rfl⟩)
    rw [hRR] at HI
    clear hRR hu h1 h2 CL H0
    unfold intV
    go_wp2_with fail
    go_loopg [9, 10, 11, 12] (s1.l.length + 1) (fun gg s9 s10 s11 s12 W => ∃ (a : Int) (st : Pz) (f : Nat), s9 = .int .i64 a ∧ Hid (st.l.length < gg) ∧ Hid (RowSt p en w W lev n s.l.length RR v a st f))
    case atStart => exact ⟨a, s1, _, rfl, Lib.hid (Nat.lt_succ_self _), HI⟩
    case round =>
      obtain ⟨a, st, f, rfl, hgg, hS⟩ := hrel
      have CA := Lib.hid (psAt_at hS.out.at_)
      have CF := Lib.hid (psInfix_at hS.out.at_ hS.out.row hlo)
      obtain ⟨f, rfl⟩ : ∃ f2, f = f2 + 1 := ⟨f - 1, by have := hS.out.lt; omega⟩
      have HRUN := Lib.hid (hS.out.run.symm.trans (loopZ_succ en lev n f a st))
      have HIZ := Lib.hid (show findZ st.l (opsZ n) = infixZ n st.l from rfl)
      rw [HIZ.out] at CF
      generalize hq : placeZ en st.l = q at CA HRUN
      generalize hio : infixZ n st.l = io at CF HRUN
      have hq' := Lib.hid hq
      have hio' := Lib.hid hio
      clear hq hio HI
      by_cases h0 : io = 0
      · have HR := Lib.hid (HRUN.out.trans (if_pos h0))
        have dz : (io == 0) = true := by rw [h0]; rfl
        clear h0 HRUN
        go_wp2_with fail
        refine CA.out.mono ?_
        rintro e w2 ⟨rfl, rfl⟩
        go_wp2_with fail
        refine CF.out.mono ?_
        rintro e w2 ⟨rfl, m2⟩
        have HM2 := Lib.hid m2
        clear m2
        go_wp2_with fail
        first | go_ret3 | go_ret2 | go_ret
        exact PsR.mk_ok HR.out rfl (hS.out.at_.kept HM2.out) (hS.out.up.trans (Up.keep HM2.out (by obtain ⟨_, _, _, hx⟩ := hS.out.at_; exact hx.lt)))
      · have dz : (io == 0) = false := by simpa using h0
        have HR := Lib.hid (HRUN.out.trans (if_neg h0))
        have HCN := Lib.hid (infix_cons (n := n) (l := st.l) (by rw [hio'.out]; exact h0))
        clear h0 HRUN
        go_wp2_with fail
        refine CA.out.mono ?_
        rintro e wq ⟨rfl, rfl⟩
        go_wp2_with fail
        refine CF.out.mono ?_
        rintro e w2 ⟨rfl, m2⟩
        obtain ⟨t, r, hsl⟩ := HCN.out
        have hg2 := hS.out.gl.kept0 m2
        have hu2 : Up p w w2 := hS.out.up.trans (Up.keep m2 (by obtain ⟨_, _, _, hx⟩ := hS.out.at_; exact hx.lt))
        have hrow2 := hS.out.row.kept0 m2
        have hap2 : Apart w2 p v := hS.out.apart.up (Up.keep m2 (by obtain ⟨_, _, _, hx⟩ := hS.out.at_; exact hx.lt))
        have H2 := Lib.hid (And.intro hg2 (And.intro hu2 (And.intro hrow2 hap2)))
        have hsum : st.next.sum ≤ 999999 := by
          have := next_sum1 hsl
          have := hS.out.sum
          omega
        have hle : st.next.l.length + 1 = st.l.length := by rw [next_len, hsl]; simp
        have HSM := Lib.hid (And.intro hsum (And.intro hle (And.intro hS.out.len hS.out.lt)))
        obtain ⟨la, lc, tv, hx⟩ := hS.out.at_.kept m2
        obtain ⟨b, o, rfl, hb, hc, -, -, -, -, -⟩ := hx.head hsl
        have hlen2 := hx.len
        have hlen : 0 < st.l.length := by rw [hsl]; simp
        have c0 := cell_blk hx.blk 0
        have f0 := frozen_blk hx.blk 0
        simp only [List.getElem?_toArray, List.getElem?_cons_succ, List.getElem?_cons_zero] at c0
        have HT2 := Lib.hid (hx.two hsl)
        have HPS := Lib.hid (show PsAt w2 p en st from ⟨_, _, _, hx⟩)
        clear hb hx hsl hsum hle hg2 hu2 hrow2 hap2 hS m2 CA CF HCN HIZ hq' hio'
        generalize hnn : st.l.length = m at *
        have hm0 : ¬ m = 0 := by omega
        clear hnn
        by_cases hl1 : lc = 1
        case' pos =>
          subst hl1
          obtain rfl : m = 1 := by omega
          have HH := Lib.hid (HT2.out o (.inr (Nat.le_refl _)))
          go_wp2_with fail
          change Hid (PsAt (w2.setCell ⟨p, 0, none⟩ (.slice (some ⟨b, o, none⟩) 0 0)) p en st.next ∧ Up p w2 (w2.setCell ⟨p, 0, none⟩ (.slice (some ⟨b, o, none⟩) 0 0))) at HH
          generalize w2.setCell ⟨p, 0, none⟩ (.slice (some ⟨b, o, none⟩) 0 0) = W4 at HH ⊢
        case' neg =>
          have HH := Lib.hid (HT2.out (o + 5) (.inl rfl))
          go_wp2_with fail
          generalize w2.setCell ⟨p, 0, none⟩ (.slice (some ⟨b, o + 5, none⟩) (m - 1) (lc - 1)) = W4 at HH ⊢
        all_goals
          have HCC := Lib.hid (HC.out W4 st.next (HH.out.2.gl HPS.out H2.out.1 hp) HH.out.1 (by have := HSM.out.1; omega) (by have := HSM.out.2.1; have := HSM.out.2.2.1; omega))
          clear HT2 c0 f0 hc
          refine HCC.out.mono ?_
          intro e w5 hR
          cases hu : lev st.next with
          | bad q2 y =>
            rw [hu] at hR HR
            obtain ⟨rfl, h2⟩ := hR
            have HH2 := Lib.hid (H2.out.2.1.trans (HH.out.2.trans h2))
            clear hu h2
            go_wp2_with fail
            exact ⟨rfl, PsR.mk_bad HR.out rfl HH2.out⟩
          | ok a2 s5 =>
            rw [hu] at hR HR
            rw [Rz.bind_ok] at HR
            obtain ⟨rfl, h1, h2⟩ := hR
            have hs5 : s5.sum ≤ 999999 := Nat.le_trans (HT.out st.next a2 s5 hu) HSM.out.1
            have hl5 : s5.l.length ≤ st.next.l.length := HS.out st.next a2 s5 hu
            have hu5 : Up p w2 w5 := HH.out.2.trans h2
            have hlt5 : p < w5.heap.size := by obtain ⟨_, _, _, hx⟩ := h1; exact hx.lt
            have hrow := two_row w5 a a2
            obtain ⟨w7, hw7, n7, z7, m7⟩ := alloc_named2 w5 (.cells #[.int .i64 a, .int .i64 a2] 3)
            rw [hw7] at hrow
            have CN := Lib.hid (show Calls Tryd.prog 34 #[.pointer (some ⟨p, 0, none⟩), .agg #[.int .u8 io, .int .i64 0, .int .i64 0, .string ⟨#[]⟩, .int .i64 0, .int .i64 0, .int .i64 0, .int .i64 0, .int .i64 q], .slice (some ⟨w5.heap.size, 0, none⟩) 2 2] w7 (fun e w' => PsR p en w7 intV (nodeZ { nz0 io q with k0 := a, k1 := a2 } s5) e w') from
              psNode_at (h1.kept m7) (sum_parts (Nat.le_trans hs5 (by omega))).2 ⟨io, 0, 0, ByteArray.empty, 0, 0, 0, 0, q⟩ hrow (by simp))
            have HU7 := Lib.hid (hu5.trans (Up.keep m7 hlt5))
            have HS5 := Lib.hid (And.intro hs5 hl5)
            clear h1 h2 hs5 hl5 hu5 hlt5 hrow n7 z7 m7 hu
            unfold intV
            go_wp2_with fail
            refine CN.out.mono ?_
            rintro e w8 ⟨rfl, h8, u8⟩
            have HH8 := Lib.hid (And.intro h8 (HU7.out.trans u8))
            clear h8 u8
            have hs6 : ({ s5 with tree := s5.tree ++ [{ nz0 io q with k0 := a, k1 := a2 }] } : Pz).sum ≤ 1000000 := by
              have := HS5.out.1
              simp only [Pz.sum, List.length_append, List.length_singleton] at this ⊢
              omega
            have HS6 := Lib.hid hs6
            have hl6 : ({ s5 with tree := s5.tree ++ [{ nz0 io q with k0 := a, k1 := a2 }] } : Pz).l = s5.l := rfl
            have HL6 := Lib.hid hl6
            have HR2 := Lib.hid (show RR = if n = 3 then .ok (s5.tree.length : Int) { s5 with tree := s5.tree ++ [{ nz0 io q with k0 := a, k1 := a2 }] } else loopZ en lev n f (s5.tree.length : Int) { s5 with tree := s5.tree ++ [{ nz0 io q with k0 := a, k1 := a2 }] } from HR.out)
            generalize ({ s5 with tree := s5.tree ++ [{ nz0 io q with k0 := a, k1 := a2 }] } : Pz) = s6 at HH8 HS6 HL6 HR2
            clear hs6 hl6 HR
            generalize (s5.tree.length : Int) = a6 at HR2 ⊢
            unfold intV
            rcases HM.out with ⟨hn3, hmf⟩ | ⟨hn3, hmf⟩
            · have HR3 := Lib.hid (HR2.out.trans (if_pos hn3))
              subst hmf
              clear hn3
              go_wp2_with fail
              first | go_ret3 | go_ret2 | go_ret
              exact PsR.mk_ok HR3.out rfl HH8.out.1 (H2.out.2.1.trans HH8.out.2)
            · have HR3 := Lib.hid (HR2.out.trans (if_neg hn3))
              have hl := HL6.out
              have hl5 := HS5.out.2
              have hsm := HSM.out
              rw [← hl] at hl5
              have HN := Lib.hid (show RowSt p en w w8 lev n s.l.length RR v a6 s6 f from
                ⟨HH8.out.2.gl HPS.out H2.out.1 hp, HH8.out.1, H2.out.2.1.trans HH8.out.2, row_up H2.out.2.2.1 H2.out.2.2.2 HH8.out.2, H2.out.2.2.2.up HH8.out.2, HS6.out, by omega, by omega, HR3.out.symm⟩)
              have HG := Lib.hid (show s6.l.length + 1 < gk by have := hgg.out; omega)
              subst hmf
              clear hn3 hl hl5 hsm
              go_wp2_with fail
              go_roundg (s6.l.length + 1)
              case measure => exact HG.out
              case rel => exact ⟨a6, s6, f, rfl, Lib.hid (Nat.lt_succ_self _), HN⟩
end Go.Proofs.YtdaokholmlpfkaaDoor
namespace Go.Proofs.YtdaokholmlpfkaaDoor
open Go.RowKit Go.ChangeMaps Go.Deep
set_option linter.unusedSimpArgs false
set_option linter.unusedVariables false
set_option maxRecDepth 20000

def azB : Az → UInt8
  | .e => 101
  | .f => 102
  | .w => 119
def azT (l : List Az) : ByteArray := txZ (l.map azB)
abbrev CallZ := ByteArray × Int × List Az × Int
def callV (c : Int × List Az × Int) : Value := .agg #[.int .u8 c.1, .string (azT c.2.1), .int .i64 c.2.2]
def entL : Nat → List CallZ → List MapEntry
  | _, [] => []
  | b, c :: l => { key := .string c.1, val := callV c.2, born := b } :: entL (b + 1) l
theorem entL_append (b : Nat) (l : List CallZ) (c : CallZ) : entL b (l ++ [c]) = entL b l ++ [{ key := .string c.1, val := callV c.2, born := b + l.length }] := by
  induction l generalizing b with
  | nil => rfl
  | cons d l ih =>
    rw [List.cons_append, entL, entL, ih, List.length_cons]
    rw [show b + 1 + l.length = b + (l.length + 1) by omega]
    rfl
theorem find_calls (x : ByteArray) : ∀ (l : List CallZ) (b i : Nat), ∃ n, Instr.findNow .string (.string x) (entL b l) i = some ((l.find? fun c => decide (c.1 = x)).map fun c => (n, callV c.2))
  | [], b, i => ⟨0, rfl⟩
  | c :: l, b, i => by
    obtain ⟨n, hn⟩ := find_calls x l (b + 1) (i + 1)
    by_cases h : c.1 = x
    · refine ⟨i, ?_⟩
      have e : Instr.sameNow .string (.string x) (.string c.1) = some true := by
        show some (x == c.1) = some true
        rw [(MapKept.bytes_beq x c.1).2 h.symm]
      unfold entL Instr.findNow
      rw [List.find?_cons]
      simp only [e]
      rw [decide_eq_true h]
      rfl
    · refine ⟨n, ?_⟩
      have e : Instr.sameNow .string (.string x) (.string c.1) = some false := by
        show some (x == c.1) = some false
        congr 1
        cases hb : (x == c.1) with
        | false => rfl
        | true => exact absurd ((MapKept.bytes_beq x c.1).1 hb).symm h
      unfold entL Instr.findNow
      rw [List.find?_cons]
      simp only [e]
      rw [decide_eq_false h]
      exact hn
section
variable {P : Program} {ops : Array Oper} {rest : List Oper} {o : Oper} {a : Act} {w w' : World} {Q : Exit → Act → World → Prop} {v : Value}
theorem xInsertAt {t : TypeId} {m k x : Operand} {M K X : Value} (ho : o.op = .insert t m k x) (hrun : (Instr.mapUpdate t M K X).run P w = .ok () w') (hm : a.eval m = M) (hk : a.eval k = K) (hx : a.eval x = X)
    (hg : Region.wanted o (yielded ops a.tmps) = true) (h : wpList P ops Q rest (a.put o.dst undef) w') : wpList P ops Q (o :: rest) a w := by
  subst hx; subst hk; subst hm
  refine BigFrame.wpList_want hg fun _ hK => ?_
  unfold Oper.wp execOp
  rw [ho]
  simp [Sem.run_bind, hrun, Result.andThen]
  exact hK _ _ h
theorem xMakeMap {t : TypeId} (ho : o.op = .makeMap t none) (hg : Region.wanted o (yielded ops a.tmps) = true) (h : wpList P ops Q rest (a.put o.dst (.map (some w.heap.size))) (w.alloc (.map #[] 0))) : wpList P ops Q (o :: rest) a w := by
  refine wpList_val hg ?_ h
  unfold execOp
  rw [ho]
  rfl
end
theorem get_map6 {w : World} {m : Nat} {es : Array MapEntry} {clock : Nat} (hm : w.heap[m]? = some (.map es clock)) : (getObj m).run Tryd.prog w = .ok (.map es clock) w := by
  simp [getObj, Sem.run, hm]
theorem set_map6 {w : World} {m : Nat} {es : Array MapEntry} {clock : Nat} (hm : w.heap[m]? = some (.map es clock)) (o : Obj) : (setObj m o).run Tryd.prog w = .ok () (setBlock w m o) := by
  simp [setObj, Sem.run, hm, setBlock]
theorem ins_call {w : World} {m : Nat} {l : List CallZ} (hm : w.heap[m]? = some (.map (entL 0 l).toArray l.length)) (c : CallZ) (hc : (l.find? fun d => decide (d.1 = c.1)) = none) :
    ∃ w', (Instr.mapUpdate 81 (.map (some m)) (.string c.1) (callV c.2)).run Tryd.prog w = .ok () w' ∧ Mod [m] w w' ∧ w'.heap[m]? = some (.map (entL 0 (l ++ [c])).toArray (l ++ [c]).length) := by
  obtain ⟨n, hn⟩ := find_calls c.1 l 0 0
  rw [hc] at hn
  have hf := MapKept.run_findKey (P := Tryd.prog) (w := w) Tryd.underlying9 hn
  have hk : (Instr.checkKey false 10000 9 (.string c.1)).run Tryd.prog w = .ok () w := MapKept.run_checkKey (k := .string c.1) Tryd.underlying9 trivial false 9999
  refine ⟨setBlock w m (.map ((entL 0 l).toArray.push { key := .string c.1, val := callV c.2, born := l.length }) (l.length + 1)), ?_, (Mod.refl _ _).setBlock (by simp) _, ?_⟩
  · simp only [Instr.mapUpdate, Sem.run_bind, run_underlying Tryd.underlying81, get_map6 hm, Result.andThen_ok, hk]
    rw [hf]
    simp only [Option.map_none, Result.andThen_ok]
    exact set_map6 hm _
  · rw [heap_setBlock_eq w m _ (lt_of_heap hm), entL_append]
    simp
theorem ins_lit {w : World} {m : Nat} {l : List CallZ} (hm : w.heap[m]? = some (.map (entL 0 l).toArray l.length)) (c : CallZ) (hc : (l.find? fun d => decide (d.1 = c.1)).isNone = true) (K : ByteArray) (hK : c.1 = K) (ar : ByteArray) (ha : azT c.2.2.1 = ar) :
    ∃ w', (Instr.mapUpdate 81 (.map (some m)) (.string K) (.agg #[.int .u8 c.2.1, .string ar, .int .i64 c.2.2.2])).run Tryd.prog w = .ok () w' ∧ Mod [m] w w' ∧ w'.heap[m]? = some (.map (entL 0 (l ++ [c])).toArray (l ++ [c]).length) := by
  subst hK; subst ha
  exact ins_call hm c (by simpa using hc)
/-- what calls tells -/
def CallR (x : ByteArray) (e : Ending) : Prop := ∃ (o : Int) (ar : ByteArray) (m : Int) (b : Bool), e = .returned (.tuple #[.agg #[.int .u8 o, .string ar, .int .i64 m], .bool b]) ∧
  match callZ x with
  | some c => b = true ∧ o = c.1 ∧ ar = azT c.2.1 ∧ m = c.2.2
  | none => b = false
theorem look_call {w : World} {m : Nat} (hm : w.heap[m]? = some (.map (entL 0 callsZ).toArray callsZ.length)) (x : ByteArray) :
    (Instr.lookup 81 (.map (some m)) (.string x) true).run Tryd.prog w = .ok (match callZ x with | some c => .tuple #[callV c, .bool true] | none => .tuple #[.agg #[.int .u8 0, .string ⟨#[]⟩, .int .i64 0], .bool false]) w := by
  obtain ⟨n, hn⟩ := find_calls x callsZ 0 0
  have hf := MapKept.run_findKey (P := Tryd.prog) (w := w) Tryd.underlying9 hn
  have hk : ∀ b, (Instr.checkKey b 10000 9 (.string x)).run Tryd.prog w = .ok () w := fun b => MapKept.run_checkKey (k := .string x) Tryd.underlying9 trivial b 9999
  simp only [Instr.lookup, Sem.run_bind, run_underlying Tryd.underlying81, get_map6 hm, Result.andThen_ok, Sem.run_pure, hk]
  rw [hf]
  unfold callZ
  cases hc : (callsZ.find? fun c => decide (c.1 = x)) with
  | none =>
    simp only [Option.map_none, Result.andThen_ok]
    have hz : (zeroValue 61).run Tryd.prog w = .ok (.agg #[.int .u8 0, .string ⟨#[]⟩, .int .i64 0]) w := by go_simp
    simp only [Sem.run_bind, hz, Result.andThen_ok]
    rfl
  | some c =>
    simp only [Option.map_some, Result.andThen_ok]
    rfl
theorem look_shape (x : ByteArray) : ∃ (o : Int) (ar : ByteArray) (m : Int) (b : Bool), (match callZ x with | some c => Value.tuple #[callV c, .bool true] | none => .tuple #[.agg #[.int .u8 0, .string ⟨#[]⟩, .int .i64 0], .bool false]) = .tuple #[.agg #[.int .u8 o, .string ar, .int .i64 m], .bool b] ∧
    match callZ x with
    | some c => b = true ∧ o = c.1 ∧ ar = azT c.2.1 ∧ m = c.2.2
    | none => b = false := by
  cases callZ x with
  | none => exact ⟨0, ⟨#[]⟩, 0, false, rfl, rfl⟩
  | some c => exact ⟨c.1, azT c.2.1, c.2.2, true, rfl, rfl, rfl, rfl, rfl⟩
set_option maxHeartbeats 8000000 in
theorem psCalls_at (w : World) (x : ByteArray) : Calls Tryd.prog 29 #[.string x] w fun e w' => CallR x e ∧ Mod [] w w' := by
  obtain ⟨A0, hA0, nA, zA, mA⟩ := alloc_named2 w (.cells #[.int .u8 0, .string ⟨#[]⟩, .int .i64 0] 61)
  obtain ⟨W0, hW0, n0, z0, m0⟩ := alloc_named2 A0 (.map #[] 0)
  have s0 : W0.heap[w.heap.size + 1]? = some (.map (entL 0 ([] : List CallZ)).toArray ([] : List CallZ).length) := by rw [← zA]; exact n0
  have mm0 : Mod [] w W0 := mA.trans m0
  obtain ⟨W1, r1, m1, s1⟩ := ins_lit s0 (bz "if", 19, [.e, .e, .e], 0) (by decide +kernel) ⟨#[105, 102]⟩ (by decide +kernel) ⟨#[101, 101, 101]⟩ rfl
  have mm1 : Mod [] w W1 := mod_on mm0 m1 (by intro k hk; simp only [List.mem_singleton] at hk; omega)
  obtain ⟨W2, r2, m2, s2⟩ := ins_lit s1 (bz "min", 20, [.e, .e], 0) (by decide +kernel) ⟨#[109, 105, 110]⟩ (by decide +kernel) ⟨#[101, 101]⟩ rfl
  have mm2 : Mod [] w W2 := mod_on mm1 m2 (by intro k hk; simp only [List.mem_singleton] at hk; omega)
  obtain ⟨W3, r3, m3, s3⟩ := ins_lit s2 (bz "max", 21, [.e, .e], 0) (by decide +kernel) ⟨#[109, 97, 120]⟩ (by decide +kernel) ⟨#[101, 101]⟩ rfl
  have mm3 : Mod [] w W3 := mod_on mm2 m3 (by intro k hk; simp only [List.mem_singleton] at hk; omega)
  obtain ⟨W4, r4, m4, s4⟩ := ins_lit s3 (bz "abs", 22, [.e], 0) (by decide +kernel) ⟨#[97, 98, 115]⟩ (by decide +kernel) ⟨#[101]⟩ rfl
  have mm4 : Mod [] w W4 := mod_on mm3 m4 (by intro k hk; simp only [List.mem_singleton] at hk; omega)
  obtain ⟨W5, r5, m5, s5⟩ := ins_lit s4 (bz "round", 23, [.e, .w], 9) (by decide +kernel) ⟨#[114, 111, 117, 110, 100]⟩ (by decide +kernel) ⟨#[101, 119]⟩ rfl
  have mm5 : Mod [] w W5 := mod_on mm4 m5 (by intro k hk; simp only [List.mem_singleton] at hk; omega)
  obtain ⟨W6, r6, m6, s6⟩ := ins_lit s5 (bz "has", 24, [.f], 0) (by decide +kernel) ⟨#[104, 97, 115]⟩ (by decide +kernel) ⟨#[102]⟩ rfl
  have mm6 : Mod [] w W6 := mod_on mm5 m6 (by intro k hk; simp only [List.mem_singleton] at hk; omega)
  obtain ⟨W7, r7, m7, s7⟩ := ins_lit s6 (bz "orelse", 25, [.f, .e], 0) (by decide +kernel) ⟨#[111, 114, 101, 108, 115, 101]⟩ (by decide +kernel) ⟨#[102, 101]⟩ rfl
  have mm7 : Mod [] w W7 := mod_on mm6 m7 (by intro k hk; simp only [List.mem_singleton] at hk; omega)
  obtain ⟨W8, r8, m8, s8⟩ := ins_lit s7 (bz "lag", 26, [.f, .w], 3660) (by decide +kernel) ⟨#[108, 97, 103]⟩ (by decide +kernel) ⟨#[102, 119]⟩ rfl
  have mm8 : Mod [] w W8 := mod_on mm7 m8 (by intro k hk; simp only [List.mem_singleton] at hk; omega)
  obtain ⟨W9, r9, m9, s9⟩ := ins_lit s8 (bz "least", 27, [.f, .w], 3660) (by decide +kernel) ⟨#[108, 101, 97, 115, 116]⟩ (by decide +kernel) ⟨#[102, 119]⟩ rfl
  have mm9 : Mod [] w W9 := mod_on mm8 m9 (by intro k hk; simp only [List.mem_singleton] at hk; omega)
  obtain ⟨W10, r10, m10, s10⟩ := ins_lit s9 (bz "most", 28, [.f, .w], 3660) (by decide +kernel) ⟨#[109, 111, 115, 116]⟩ (by decide +kernel) ⟨#[102, 119]⟩ rfl
  have mm10 : Mod [] w W10 := mod_on mm9 m10 (by intro k hk; simp only [List.mem_singleton] at hk; omega)
  obtain ⟨W11, r11, m11, s11⟩ := ins_lit s10 (bz "any", 29, [.f, .w], 3660) (by decide +kernel) ⟨#[97, 110, 121]⟩ (by decide +kernel) ⟨#[102, 119]⟩ rfl
  have mm11 : Mod [] w W11 := mod_on mm10 m11 (by intro k hk; simp only [List.mem_singleton] at hk; omega)
  obtain ⟨W12, r12, m12, s12⟩ := ins_lit s11 (bz "every", 30, [.f, .w], 3660) (by decide +kernel) ⟨#[101, 118, 101, 114, 121]⟩ (by decide +kernel) ⟨#[102, 119]⟩ rfl
  have mm12 : Mod [] w W12 := mod_on mm11 m12 (by intro k hk; simp only [List.mem_singleton] at hk; omega)
  have hl : (W12.heap[w.heap.size + 1]? = some (.map (entL 0 callsZ).toArray callsZ.length)) := s12
  obtain ⟨o, ar, mo, bo, hrv, hsp⟩ := look_shape x
  have hlk := look_call hl x
  rw [hrv] at hlk
  have LK := Lib.hid hlk
  have HSP := Lib.hid hsp
  clear hlk hrv hsp
  have R1 := Lib.hid r1
  have R2 := Lib.hid r2
  have R3 := Lib.hid r3
  have R4 := Lib.hid r4
  have R5 := Lib.hid r5
  have R6 := Lib.hid r6
  have R7 := Lib.hid r7
  have R8 := Lib.hid r8
  have R9 := Lib.hid r9
  have R10 := Lib.hid r10
  have R11 := Lib.hid r11
  have R12 := Lib.hid r12
  have HM := Lib.hid mm12
  have hbox : W12.heap[w.heap.size]? = some (.cells #[.int .u8 0, .string ⟨#[]⟩, .int .i64 0] 61 (0, 0)) := by
    have e0 : W0.heap[w.heap.size]? = A0.heap[w.heap.size]? := m0.block _ (by omega) (by simp)
    have e1 : W1.heap[w.heap.size]? = W0.heap[w.heap.size]? := m1.block _ (by omega) (by simp)
    have g1 := m1.size
    have e2 : W2.heap[w.heap.size]? = W1.heap[w.heap.size]? := m2.block _ (by omega) (by simp)
    have g2 := m2.size
    have e3 : W3.heap[w.heap.size]? = W2.heap[w.heap.size]? := m3.block _ (by omega) (by simp)
    have g3 := m3.size
    have e4 : W4.heap[w.heap.size]? = W3.heap[w.heap.size]? := m4.block _ (by omega) (by simp)
    have g4 := m4.size
    have e5 : W5.heap[w.heap.size]? = W4.heap[w.heap.size]? := m5.block _ (by omega) (by simp)
    have g5 := m5.size
    have e6 : W6.heap[w.heap.size]? = W5.heap[w.heap.size]? := m6.block _ (by omega) (by simp)
    have g6 := m6.size
    have e7 : W7.heap[w.heap.size]? = W6.heap[w.heap.size]? := m7.block _ (by omega) (by simp)
    have g7 := m7.size
    have e8 : W8.heap[w.heap.size]? = W7.heap[w.heap.size]? := m8.block _ (by omega) (by simp)
    have g8 := m8.size
    have e9 : W9.heap[w.heap.size]? = W8.heap[w.heap.size]? := m9.block _ (by omega) (by simp)
    have g9 := m9.size
    have e10 : W10.heap[w.heap.size]? = W9.heap[w.heap.size]? := m10.block _ (by omega) (by simp)
    have g10 := m10.size
    have e11 : W11.heap[w.heap.size]? = W10.heap[w.heap.size]? := m11.block _ (by omega) (by simp)
    have g11 := m11.size
    have e12 : W12.heap[w.heap.size]? = W11.heap[w.heap.size]? := m12.block _ (by omega) (by simp)
    have g12 := m12.size
    rw [e12, e11, e10, e9, e8, e7, e6, e5, e4, e3, e2, e1, e0]
    exact nA
  obtain ⟨W13, hW13, n13, z13, m13⟩ := alloc_named2 W12 (.cells #[.int .u8 o, .string ar, .int .i64 mo] 61)
  have hbox13 := m13.heap hbox (by simp)
  obtain ⟨W14, r14, m14, n14⟩ := store_w (P := Tryd.prog) (c := #[.int .u8 o, .string ar, .int .i64 mo]) 61 hbox13 rfl (by kernel_rfl) (by simp [Value.oneCell'])
  have R14 := Lib.hid r14
  have HB14 := Lib.hid n14
  have hld := load_w (P := Tryd.prog) 61 n13 (by kernel_rfl) Tryd.underlying61 rfl
  have R15 := Lib.hid hld
  have HM14 := Lib.hid (mod_on (HM.out.trans m13) m14 (by intro k hk; simp only [List.mem_singleton] at hk; omega))
  clear r1 m1 s1 mm1 r2 m2 s2 mm2 r3 m3 s3 mm3 r4 m4 s4 mm4 r5 m5 s5 mm5 r6 m6 s6 mm6 r7 m7 s7 mm7 r8 m8 s8 mm8 r9 m9 s9 mm9 r10 m10 s10 mm10 r11 m11 s11 mm11 r12 m12 s12 mm12 s0 mm0 hl nA mA n0 m0 m13 hbox hbox13 r14 m14 hld
  go_enter Tryd.func29, Tryd.ntmps29
  go_wp2_with (first | (with_reducible refine xMakeMap rfl ?_ ?_) | ((with_reducible refine xLookup rfl LK.out ?_ ?_ ?_ ?_); exact rfl; exact rfl; exact rfl) | ((with_reducible refine xStoreAt rfl R14.out ?_ ?_ ?_ ?_); exact rfl; exact rfl; exact rfl) | ((with_reducible refine xLoadAt rfl R15.out ?_ ?_ ?_); exact rfl; exact rfl) | ((with_reducible refine xInsertAt rfl R1.out ?_ ?_ ?_ ?_ ?_); exact rfl; exact rfl; exact rfl) | ((with_reducible refine xInsertAt rfl R2.out ?_ ?_ ?_ ?_ ?_); exact rfl; exact rfl; exact rfl) | ((with_reducible refine xInsertAt rfl R3.out ?_ ?_ ?_ ?_ ?_); exact rfl; exact rfl; exact rfl) | ((with_reducible refine xInsertAt rfl R4.out ?_ ?_ ?_ ?_ ?_); exact rfl; exact rfl; exact rfl) | ((with_reducible refine xInsertAt rfl R5.out ?_ ?_ ?_ ?_ ?_); exact rfl; exact rfl; exact rfl) | ((with_reducible refine xInsertAt rfl R6.out ?_ ?_ ?_ ?_ ?_); exact rfl; exact rfl; exact rfl) | ((with_reducible refine xInsertAt rfl R7.out ?_ ?_ ?_ ?_ ?_); exact rfl; exact rfl; exact rfl) | ((with_reducible refine xInsertAt rfl R8.out ?_ ?_ ?_ ?_ ?_); exact rfl; exact rfl; exact rfl) | ((with_reducible refine xInsertAt rfl R9.out ?_ ?_ ?_ ?_ ?_); exact rfl; exact rfl; exact rfl) | ((with_reducible refine xInsertAt rfl R10.out ?_ ?_ ?_ ?_ ?_); exact rfl; exact rfl; exact rfl) | ((with_reducible refine xInsertAt rfl R11.out ?_ ?_ ?_ ?_ ?_); exact rfl; exact rfl; exact rfl) | ((with_reducible refine xInsertAt rfl R12.out ?_ ?_ ?_ ?_ ?_); exact rfl; exact rfl; exact rfl))
  refine bodyPost_ret (results_row_tmpP (P := Tryd.prog) (t := 61) (cs := #[.int .u8 o, .string ar, .int .i64 mo]) (fr := (0, 0)) (g := w.heap.size) (h := rfl) (hp := rfl) (hg := HB14.out) (hu := Tryd.underlying61) (hd := rfl) (hi := by kernel_rfl) ..) rfl ⟨⟨o, ar, mo, bo, rfl, HSP.out⟩, HM14.out⟩
end Go.Proofs.YtdaokholmlpfkaaDoor
