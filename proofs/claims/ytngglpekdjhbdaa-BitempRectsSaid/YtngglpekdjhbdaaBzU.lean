/- Layer 13: a put, whatever it answers; a row of puts. -/
import Derived.Test.YtngglpekdjhbdaaBzT
import Derived.Deep.CutRange
namespace Go.Proofs.Ytngglpekdjhbdaa
open Go.RowKit Go.ChangeMaps Go.Deep Tr
set_option linter.unusedSimpArgs false
set_option linter.unusedVariables false
set_option maxRecDepth 20000

/-- a node whose left side is told: its place, its item, its right side -/
structure Pd where
  p : Nat
  x : It
  r : Tr
def fl : List Pd → List It
  | [] => []
  | f :: fs => f.x :: (f.r.items ++ fl fs)
def PdOk (ns : List Nd) (H : Int) : List Pd → Prop
  | [] => True
  | f :: fs => (∃ l, ns[f.p]? = some (nd l f.x f.r)) ∧ f.r.rep ns ∧ (fs.length : Int) + 1 + f.r.ht ≤ H ∧ PdOk ns H fs
def pdP (fs : List Pd) : List (Nat × Bool) := (fs.map fun f => (f.p, false)).reverse
theorem pdP_len (fs : List Pd) : (pdP fs).length = fs.length := by simp [pdP]
theorem pdP_cons (f : Pd) (fs : List Pd) : pdP (f :: fs) = pdP fs ++ [(f.p, false)] := by simp [pdP]
theorem PathC.drop {C : Array Value} {ps : List (Nat × Bool)} {a : Nat} (h : PathC C (ps ++ [(a, false)])) : PathC (C.setIfInBounds 80 (.int .i64 (ps.length : Int))) ps ∧ C[ps.length]? = some (.int .i64 a) := by
  have hl := h.len
  rw [List.length_append, List.length_singleton] at hl
  refine ⟨⟨by simp [h.size], set_all h.one rfl, fun i q hq => ?_, ?_, fun j h1 h2 => ?_, by omega⟩, ?_⟩
  · have hi := (List.getElem?_eq_some_iff.1 hq).1
    obtain ⟨g1, g2⟩ := h.get i q (by rw [List.getElem?_append_left hi]; exact hq)
    simp only [Array.getElem?_setIfInBounds]
    rw [if_neg (by omega), if_neg (by omega)]
    exact ⟨g1, g2⟩
  · simp [h.size]
  · simp only [Array.getElem?_setIfInBounds]
    rw [if_neg (by omega)]
    by_cases hj : j = ps.length
    · subst hj
      exact (h.get ps.length (a, false) (by rw [List.getElem?_append_right (Nat.le_refl _), Nat.sub_self]; rfl)).2
    · exact h.free j (by rw [List.length_append, List.length_singleton]; omega) h2
  · exact (h.get ps.length (a, false) (by rw [List.getElem?_append_right (Nat.le_refl _), Nat.sub_self]; rfl)).1
def lenV : Value → Nat
  | .slice _ n _ => n
  | _ => 0
/-- where Items stands -/
structure ISt (w : World) (ns : List Nd) (T : Tr) (W : World) (fs : List Pd) (S : Tr) (out : List It) (C : Array Value) : Prop where
  box : W.heap[w.heap.size]? = some (.cells C 131 (0, 0))
  path : PathC C (pdP fs)
  mod : Mod [] w W
  told : T.items = out ++ (S.items ++ fl fs)
  rep : S.rep ns
  high : (fs.length : Int) + S.ht ≤ T.ht
  ok : PdOk ns T.ht fs
theorem run_loadSpan {w : World} {g cap : Nat} {ns : List Nd} (h : OwnR encNd 8 135 w 0 (.slice (some ⟨g, 0, none⟩) ns.length cap) ns) {p : Nat} {n : Nd} (hp : ns[p]? = some n) : (Instr.loadAt 92 (.pointer (some ⟨g, p * 8, none⟩))).run Try.prog w = .ok (.agg #[.int .i64 n.x.f, .int .i64 n.x.t, .int .i64 n.x.i]) w := by
  have hy : w.rangeAt g (p * 8) [.int .i64 n.x.f, .int .i64 n.x.t, .int .i64 n.x.i] := fun j u hu => by
    have hj : j < 3 := (List.getElem?_eq_some_iff.1 hu).1
    refine (nd_cells h hp j u ?_).1
    rw [← hu]
    rcases (show j = 0 ∨ j = 1 ∨ j = 2 by omega) with rfl | rfl | rfl <;> rfl
  exact run_loadAt_mid (P := Try.prog) _ g (p * 8) 92 _ _ hy Try.underlying92 rfl (by kernel_rfl)
set_option maxHeartbeats 8000000 in
theorem items_at {w : World} {b : Nat} {nv fv : Value} {ns : List Nd} {fr : List Int} {T : Tr} (A : AvlSt w b nv fv ns fr T) (hsz : T.size ≤ 100000) :
    Calls Try.prog 51 #[.pointer (some ⟨b, 0, none⟩)] w fun e w' => ∃ v, e = .returned v ∧ OwnR encIt 3 92 w' w.heap.size v T.items ∧ Mod [] w w' := by
  have hT34 := ht_small A.avl (by omega)
  have HT := Lib.hid (fun (W : World) (hm : Mod [] w W) => A.tree.kept0 hm)
  have S0 : Hid (ISt w ns T (w.alloc (.cells Try.zeroCells131 131)) [] T [] Try.zeroCells131) := Lib.hid ⟨heap_alloc_new w _, zeroCells_ok, (Mod.refl [] w).alloc _, by simp [fl], A.rep, by simp, trivial⟩
  have O0 : Hid (OwnR encIt 3 92 (w.alloc (.cells Try.zeroCells131 131)) (w.heap.size + 1) (.slice none 0 0) []) := Lib.hid (OwnR.nil_ _ _)
  have CR := Lib.hid (root_at (HT.out _ S0.out.mod))
  have HSZ := Lib.hid (show T.items.length ≤ 100000 by rw [items_len]; exact hsz)
  obtain ⟨rt, hrt⟩ : ∃ rt, T.at_ = rt := ⟨_, rfl⟩
  have HRT := Lib.hid hrt
  rw [hrt] at CR
  clear A hrt
  go_enter Try.func51, Try.ntmps51
  go_wp2_with fail
  refine CR.out.mono ?_
  rintro e w1 ⟨rfl, rfl⟩
  go_wp2_with fail
  go_loopw [2, 4] (fun s2 s4 W => ∃ (fs : List Pd) (S : Tr) (out : List It) (C : Array Value) (oa : Option Addr) (oc : Nat), s4 = .int .i64 S.at_ ∧ s2 = .slice oa out.length oc ∧ Hid (ISt w ns T W fs S out C) ∧ Hid (OwnR encIt 3 92 W (w.heap.size + 1) (.slice oa out.length oc) out)) (fun s2 _ _ => 100001 - lenV s2)
  case atStart => exact ⟨[], T, [], _, none, 0, by rw [HRT.out], rfl, S0, O0⟩
  case round =>
    obtain ⟨fs, S, out, C, oa, oc, rfl, rfl, hS, hO⟩ := hrel
    clear S0 O0
    have hC80 : C[80]? = some (.int .i64 (fs.length : Int)) := by
      have := hS.out.path.n
      rw [pdP_len] at this
      exact this
    have c80 := cell_blk hS.out.box 80
    rw [hC80] at c80
    by_cases hend : S = .nil ∧ fs = []
    · obtain ⟨rfl, rfl⟩ := hend
      have HE : Hid (∃ v, Ending.returned (Value.slice oa out.length oc) = .returned v ∧ OwnR encIt 3 92 wr w.heap.size v T.items ∧ Mod [] w wr) := Lib.hid ⟨_, rfl, by
        have := hS.out.told
        simp only [Tr.items, fl, List.append_nil] at this
        rw [this]
        exact hO.out.mono (by omega), hS.out.mod⟩
      simp only [at_, List.length_nil] at c80 ⊢
      have e80 : wr.cell? ⟨w.heap.size, 80, none⟩ = some (.int .i64 0) := c80
      clear hC80 c80
      go_wp2_with fail
      go_ret
      obtain ⟨v, q1, q2, q3⟩ := HE.out
      exact ⟨v, Eq.trans rfl q1, q2, q3⟩
    · go_upto_region 3 with fail
      go_cut [13] from 7 to 13 (fun s13 wx => s13 = .bool true ∧ wx = wr)
      case first =>
        cases S with
        | node p l x r =>
          have d1 : decide ((0 : Int) ≤ (p : Int)) = true := decide_eq_true (by omega)
          simp only [at_]
          go_wp2_with fail
          go_meet
          case rel => exact ⟨rfl, rfl⟩
        | nil =>
          cases fs with
          | nil => exact absurd ⟨rfl, rfl⟩ hend
          | cons f fs =>
            simp only [at_, List.length_cons] at c80 ⊢
            have d1 : decide ((0 : Int) < ((fs.length + 1 : Nat) : Int)) = true := decide_eq_true (by omega)
            go_wp2_with fail
            go_meet
            case rel => exact ⟨rfl, rfl⟩
      case rest =>
        obtain ⟨rfl, hwc⟩ := hcut
        rw [hwc]
        clear hwc wc hC80 c80
        have hne : Hid (S ≠ .nil ∨ fs ≠ []) := Lib.hid (by
          by_cases h1 : S = .nil
          · exact .inr fun h2 => hend ⟨h1, h2⟩
          · exact .inl h1)
        clear hend
        rename World => wo
        obtain ⟨no, hno⟩ : ∃ no, out.length = no := ⟨_, rfl⟩
        rw [hno] at hO ⊢
        have HNO := Lib.hid hno
        clear hno
        go_wp2_with fail
        go_loopw [4] (fun s4 W => ∃ (fs : List Pd) (S : Tr) (C : Array Value), s4 = .int .i64 S.at_ ∧ Hid (S ≠ .nil ∨ fs ≠ []) ∧ Hid (ISt w ns T W fs S out C) ∧ Hid (OwnR encIt 3 92 W (w.heap.size + 1) (.slice oa no oc) out)) (fun _ W => 41 - (intOf ((W.cell? ⟨w.heap.size, 80, none⟩).getD undef)).toNat)
        case atStart => exact ⟨fs, S, C, rfl, hne, hS, hO⟩
        case round =>
          obtain ⟨fs, S, C, rfl, hne, hS, hO⟩ := hrel
          have hC80 : C[80]? = some (.int .i64 (fs.length : Int)) := by
            have := hS.out.path.n
            rw [pdP_len] at this
            exact this
          have c80 := cell_blk hS.out.box 80
          rw [hC80] at c80
          cases S with
          | node p l x r =>
            obtain ⟨hnd, hrl, hrr⟩ := hS.out.rep
            have hhigh := hS.out.high
            have hl0 := ht_nonneg l
            have hr0 := ht_nonneg r
            simp only [ht] at hhigh
            have hn40 : fs.length < 40 := by omega
            have hpa := hS.out.path
            have hpl := pdP_len fs
            have hcn : ∃ u, C[fs.length]? = some u := ⟨C[fs.length]'(by rw [hpa.size]; omega), by simp⟩
            obtain ⟨u0, hu0⟩ := hcn
            have cn := cell_blk hS.out.box fs.length
            rw [hu0] at cn
            have fn := frozen_blk hS.out.box fs.length
            have b1 := heap_setCell_blk hS.out.box fs.length (.int .i64 (p : Int))
            obtain ⟨X1, hX1⟩ : ∃ X1, wr.setCell ⟨w.heap.size, fs.length, none⟩ (.int .i64 (p : Int)) = X1 := ⟨_, rfl⟩
            have m1 : Mod [w.heap.size] wr X1 := by rw [← hX1]; exact (Mod.refl _ _).setCell (by simp) _
            rw [hX1] at b1
            have z80 := cell_blk b1 80
            rw [show (C.setIfInBounds fs.length (.int .i64 (p : Int)))[80]? = some (.int .i64 fs.length) from by
              simp only [Array.getElem?_setIfInBounds]
              rw [if_neg (by omega)]
              exact hC80] at z80
            have gz80 := frozen_blk b1 80
            have b2 := heap_setCell_blk b1 80 (.int .i64 ((fs.length : Int) + 1))
            obtain ⟨X2, hX2⟩ : ∃ X2, X1.setCell ⟨w.heap.size, 80, none⟩ (.int .i64 ((fs.length : Int) + 1)) = X2 := ⟨_, rfl⟩
            have m2 : Mod [w.heap.size] X1 X2 := by rw [← hX2]; exact (Mod.refl _ _).setCell (by simp) _
            rw [hX2] at b2
            have M2 := Mod.into' hS.out.mod (m1.trans m2) (fun k hk => .inl (by simp at hk; omega))
            have T2 := HT.out _ M2
            obtain ⟨g, cap, rfl, hg, hcap⟩ := T2.row.at_ hnd
            have hlt := (List.getElem?_eq_some_iff.1 hnd).1
            have t1 := cell_blk T2.blk 1
            have c3 := (nd_cells T2.row hnd 3 (.int .i64 l.at_) rfl).1
            simp only [List.getElem?_toArray, List.getElem?_cons_succ, List.getElem?_cons_zero] at t1
            have hpi : decide ((ns.length : Int) ≤ (p : Int)) = false := decide_eq_false (by omega)
            have hp0 : decide ((p : Int) < 0) = false := decide_eq_false (by omega)
            have hp1 : decide ((0 : Int) ≤ (p : Int)) = true := decide_eq_true (by omega)
            have C5 := hpa.found (by rw [hpl]; exact hn40) p
            rw [hpl] at C5
            have HSN : Hid (ISt w ns T X2 (⟨p, x, r⟩ :: fs) l out _) := Lib.hid ⟨b2, by rw [pdP_cons]; exact C5, M2, by rw [hS.out.told]; simp [Tr.items, fl], hrl, by simp only [List.length_cons]; omega, ⟨⟨l, hnd⟩, hrr, by dsimp only; omega, hS.out.ok⟩⟩
            have HON := Lib.hid (hO.out.kept (m1.trans m2) (fun k hk => by have := (World.ownsRow.lt hO.out k hk).1; simp; omega))
            have z2 := cell_blk b2 80
            have HNE : Hid (l ≠ .nil ∨ (⟨p, x, r⟩ :: fs : List Pd) ≠ []) := Lib.hid (.inr (by simp))
            obtain ⟨la, hla⟩ : ∃ la, l.at_ = la := ⟨_, rfl⟩
            rw [hla] at c3
            have HLA := Lib.hid hla
            have HM80 := Lib.hid (show (X2.cell? ⟨w.heap.size, 80, none⟩) = some (.int .i64 ((fs.length : Int) + 1)) from by
              rw [z2]
              simp [hpa.size])
            have HC80 := Lib.hid c80
            simp only [at_]
            clear hS hO hne hrl hrr hhigh hl0 hr0 hpa hpl hu0 b1 b2 m1 m2 M2 T2 hg hcap hnd C5 hla z2 hC80
            go_wp2_with fail
            go_roundw
            case rel => exact ⟨⟨p, x, r⟩ :: fs, l, _, by show Value.int .i64 la = Value.int .i64 l.at_; rw [HLA.out], HNE, HSN, HON⟩
            case measure =>
              rw [HM80.out, HC80.out]
              simp [intOf]
              omega
          | nil =>
            cases fs with
            | nil => exact absurd hne.out (by simp)
            | cons f fs =>
              obtain ⟨p, x, r⟩ := f
              obtain ⟨⟨l, hnd⟩, hrr, hrh, hok⟩ := hS.out.ok
              dsimp only at hnd hrr hrh
              simp only [List.length_cons] at c80
              have hpa := hS.out.path
              rw [pdP_cons] at hpa
              obtain ⟨hp1, hp2⟩ := hpa.drop
              rw [pdP_len] at hp1 hp2
              dsimp only at hp2
              have hr0 := ht_nonneg r
              have hn40 : fs.length < 40 := by omega
              have f80 := frozen_blk hS.out.box 80
              have b1 := heap_setCell_blk hS.out.box 80 (.int .i64 (fs.length : Int))
              obtain ⟨X1, hX1⟩ : ∃ X1, wr.setCell ⟨w.heap.size, 80, none⟩ (.int .i64 (fs.length : Int)) = X1 := ⟨_, rfl⟩
              have m1 : Mod [w.heap.size] wr X1 := by rw [← hX1]; exact (Mod.refl _ _).setCell (by simp) _
              rw [hX1] at b1
              have z80 := cell_blk b1 80
              rw [show (C.setIfInBounds 80 (.int .i64 (fs.length : Int)))[80]? = some (.int .i64 fs.length) from by simp [hS.out.path.size]] at z80
              have zn := cell_blk b1 fs.length
              rw [show (C.setIfInBounds 80 (.int .i64 (fs.length : Int)))[fs.length]? = some (.int .i64 p) from by
                simp only [Array.getElem?_setIfInBounds]
                rw [if_neg (by omega)]
                exact hp2] at zn
              have M1 := Mod.into' hS.out.mod m1 (fun k hk => .inl (by simp at hk; omega))
              have O1 := hO.out.kept m1 (fun k hk => by have := (World.ownsRow.lt hO.out k hk).1; simp; omega)
              have T1 := HT.out _ M1
              obtain ⟨g, cap, rfl, hg, hcap⟩ := T1.row.at_ hnd
              have hlt := (List.getElem?_eq_some_iff.1 hnd).1
              have t1 := cell_blk T1.blk 1
              have HLI := Lib.hid (run_loadSpan T1.row hnd)
              have htold := hS.out.told
              simp only [Tr.items, fl, List.nil_append] at htold
              have hlen : no + 1 ≤ 100000 := by
                have h1 := HSZ.out
                rw [htold] at h1
                simp only [List.length_append, List.length_cons] at h1
                have := HNO.out
                omega
              have hsz1 : w.heap.size + 1 ≤ X1.heap.size := by
                have := lt_of_heap b1
                omega
              obtain ⟨v', w2, ra, ho', gr⟩ := own_append1 (P := Try.prog) (ty := 86) elemItem encIt_len encIt_one (show OwnR encIt 3 92 X1 (w.heap.size + 1) (.slice oa no oc) out from O1) hsz1 x (by rw [HNO.out]; omega) (by omega)
              dsimp only [encIt] at ra
              obtain ⟨va, vc, rfl⟩ := ho'.lens
              have hnl : (out ++ [x]).length = no + 1 := by rw [List.length_append, List.length_singleton, HNO.out]
              have b2 := gr.mod.heap b1 (fun hm => by rw [mem_blk] at hm; have := (World.ownsRow.lt O1 _ hm).1; omega)
              have M2 := Mod.into' M1 gr.mod (fun k hk => by rw [mem_blk] at hk; have := (World.ownsRow.lt O1 _ hk).1; exact .inl (by omega))
              have T2 := HT.out _ M2
              have t2 := cell_blk T2.blk 1
              have c4 := (nd_cells T2.row hnd 4 (.int .i64 r.at_) rfl).1
              simp only [List.getElem?_toArray, List.getElem?_cons_succ, List.getElem?_cons_zero] at t1 t2
              have hpi : decide ((ns.length : Int) ≤ (p : Int)) = false := decide_eq_false (by omega)
              have hp0 : decide ((p : Int) < 0) = false := decide_eq_false (by omega)
              have HSN : Hid (ISt w ns T w2 fs r (out ++ [x]) (C.setIfInBounds 80 (.int .i64 (fs.length : Int)))) := Lib.hid ⟨b2, hp1, M2, by rw [htold]; simp, hrr, by omega, hok⟩
              have HON := Lib.hid ho'
              have RA := Lib.hid ra
              obtain ⟨la, hla⟩ : ∃ la, r.at_ = la := ⟨_, rfl⟩
              rw [hla] at c4
              have HLA := Lib.hid hla
              rw [hnl] at RA
              have HNL := Lib.hid hnl
              simp only [at_]
              clear hS hO hne hrr hrh hok hpa hp1 hp2 hr0 b1 m1 M1 O1 T1 hg hcap hnd ra ho' gr b2 M2 T2 hla hnl htold hsz1 hC80
              go_wp2_with (first | ((with_reducible refine xLoadAt rfl HLI.out ?_ ?_ ?_); exact rfl; exact rfl) | ((with_reducible refine xAppendAt RA.out rfl rfl ?_ ?_ ?_ ?_); exact rfl; exact rfl; exact rfl))
              refine ⟨⟨fs, r, out ++ [x], _, va, vc, by show Value.int .i64 la = Value.int .i64 r.at_; rw [HLA.out], by rw [HNL.out], HSN, HON⟩, ?_⟩
              have := HNO.out
              simp only [lenV]
              omega
end Go.Proofs.Ytngglpekdjhbdaa
namespace Go.Proofs.Ytngglpekdjhbdaa
open Go.RowKit Go.ChangeMaps Go.Deep Tr
set_option linter.unusedSimpArgs false
set_option linter.unusedVariables false
set_option maxRecDepth 20000

/-- no day and no transaction in common, as the law asks it -/
def ApartR (x r : Rc) : Prop := ¬ (x.f < r.t ∧ r.f < x.t ∧ (r.u = 0 ∨ x.s < r.u) ∧ (x.u = 0 ∨ r.s < x.u))
theorem ApartR.symm {x r : Rc} (h : ApartR x r) : ApartR r x := fun ⟨h1, h2, h3, h4⟩ => h ⟨h2, h1, h4, h3⟩
/-- a store's rectangles -/
structure RectsOf (S : Bs) (l : List Rc) : Prop where
  mem : ∀ r, r ∈ l ↔ ∃ i, S.lv i ∧ S.rs[i]? = some r
  apart : l.Pairwise ApartR
  srt : Srt ltR l
theorem items_rects {S : Bs} {T : Tr} {last0 : Int} {l : List Rc} (hS : S.Ok last0) (hT : T.srt) (hi : ∀ x, x ∈ T.items ↔ ∃ i r, S.lv i ∧ S.rs[i]? = some r ∧ x = ⟨r.f, r.t, (i : Int) + 1⟩) (hl : Merged ltR (T.items.map (rcOf S)) l) : RectsOf S l := by
  refine ⟨fun r => ?_, ?_, hl.2⟩
  · rw [← hl.1.mem_iff, List.mem_map]
    constructor
    · rintro ⟨x, hx, rfl⟩
      obtain ⟨i, r, h1, h2, _, h4⟩ := items_rc hi hx
      exact ⟨i, h1, by rw [h4]; exact h2⟩
    · rintro ⟨i, h1, h2⟩
      exact ⟨_, (hi _).2 ⟨i, r, h1, h2, rfl⟩, rcOf_item h2 rfl⟩
  · refine (hl.1.pairwise_iff (fun {a b} h => h.symm)).1 ?_
    rw [List.pairwise_map]
    refine List.Pairwise.imp_of_mem (fun {a b} ha hb hne => ?_) (srt_nodup hT)
    obtain ⟨i, r, h1, h2, h3, h4⟩ := items_rc hi ha
    obtain ⟨j, y, k1, k2, k3, k4⟩ := items_rc hi hb
    rw [h4, k4]
    refine apart_law hS h1 k1 (fun e => hne ?_) h2 k2
    subst e
    have h2' : S.rs[i]? = some r := h2
    rw [k2] at h2'
    cases h2'
    rw [h3, k3]
set_option maxHeartbeats 8000000 in
theorem biRects_at {w : World} {s : Nat} {BB : List Nat} {n : Nat} {last last0 : Int} {S : Bs} (h : BiAt w s BB n last S) (hS : S.Ok last0) (hl : S.rs.length ≤ 90000) :
    Calls Try.prog 24 #[.pointer (some ⟨s, 0, none⟩)] w fun e w' => ∃ v l, e = .returned v ∧ RectsOf S l ∧ l.length ≤ 90000 ∧ OwnR encRc 5 61 w' w.heap.size v l ∧ Mod [] w w' := by
  have CN := Lib.hid (biNone_at h)
  obtain ⟨g, tb, rv, nv, fv, ns, fr, T, BL, H, rfl⟩ := h
  have HH := Lib.hid H
  have hTs : T.size ≤ 90000 := by have := H.size; omega
  have CI := Lib.hid (items_at H.tree (by omega))
  have c2 := cell_blk H.blk 2
  simp only [List.getElem?_toArray, List.getElem?_cons_succ, List.getElem?_cons_zero] at c2
  have HS := Lib.hid hS
  clear H hS
  go_enter Try.func24, Try.ntmps24
  go_wp2_with fail
  refine CN.out.mono ?_
  rintro e w ⟨rfl, rfl⟩
  go_wp2_with fail
  refine CI.out.mono ?_
  rintro e w2 ⟨v, rfl, oL, m2⟩
  obtain ⟨L, hL⟩ : ∃ L, T.items = L := ⟨_, rfl⟩
  rw [hL] at oL
  have hLl : L.length ≤ 90000 := by rw [← hL, items_len]; exact hTs
  obtain ⟨la, lc, rfl⟩ := oL.lens
  obtain ⟨N, hN⟩ : ∃ N, L.length = N := ⟨_, rfl⟩
  rw [hN] at oL hLl ⊢
  have HL := Lib.hid hL
  have HO := Lib.hid oL
  have HNN := Lib.hid hN
  have HM2 := Lib.hid m2
  have HR0 : Hid (OwnR encRc 5 61 w2 w2.heap.size (.slice none 0 0) ((L.take 0).map (rcOf S))) := Lib.hid (OwnR.nil_ _ _)
  have HMR := Lib.hid (Mod.refl [] w2)
  have HOB := Lib.hid (show ∀ k, (Value.slice la N lc).ownBlock = some k → w.heap.size ≤ k ∧ k < w2.heap.size from fun k hk => World.ownsRow.lt oL k hk)
  clear hL oL hN m2 CI c2
  go_wp2_with fail
  go_loopw [2, 13] (fun s2 s13 W => ∃ (j : Nat) (oa : Option Addr) (oc : Nat), j ≤ N ∧ s2 = .slice oa j oc ∧ s13 = .int .i64 j ∧ Hid (OwnR encRc 5 61 W w2.heap.size (.slice oa j oc) ((L.take j).map (rcOf S))) ∧ Hid (Mod [] w2 W)) (fun _ s13 _ => N - (intOf s13).toNat)
  case atStart => exact ⟨0, none, 0, by omega, rfl, rfl, HR0, HMR⟩
  case round =>
    obtain ⟨j, oa, oc, hj, rfl, rfl, hR, hM⟩ := hrel
    clear HR0 HMR
    by_cases hlt : j < N
    · obtain ⟨x, hx⟩ : ∃ x, L[j]? = some x := ⟨L[j]'(by rw [HNN.out]; exact hlt), List.getElem?_eq_getElem _⟩
      have hjl := (List.getElem?_eq_some_iff.1 hx).1
      have hje := (List.getElem?_eq_some_iff.1 hx).2
      have htk : L.take (j + 1) = L.take j ++ [x] := by rw [List.take_succ_eq_append_getElem hjl, hje]
      obtain ⟨i, r, i1, i2, i3, i4⟩ := items_rc HH.out.items (show x ∈ T.items by rw [HL.out]; exact List.mem_of_getElem? hx)
      have hiN := (List.getElem?_eq_some_iff.1 i2).1
      have hoW : OwnR encIt 3 92 wr w.heap.size (.slice la L.length lc) L := by rw [HNN.out]; exact HO.out.kept0 hM.out
      obtain ⟨q, cap, heq, hq, hcap⟩ := hoW.at_ hx
      simp only [Value.slice.injEq] at heq
      obtain ⟨rfl, _, rfl⟩ := heq
      have hrow : wr.rangeAt q (j * 3) [.int .i64 r.f, .int .i64 r.t, .int .i64 ((i : Int) + 1)] := fun jj u hu => (hoW.cell encIt_len hjl (j := jj) (by have := (List.getElem?_eq_some_iff.1 hu).1; simpa using this) (u := u) (by rw [hje, i3]; exact hu)).1
      have HLI := Lib.hid (run_loadAt_mid (P := Try.prog) _ q (j * 3) 92 _ _ hrow Try.underlying92 rfl (by kernel_rfl))
      obtain ⟨X, hX, nX, sX, mX⟩ := alloc_named2 wr (.cells #[.int .i64 r.f, .int .i64 r.t, .int .i64 ((i : Int) + 1)] 92)
      have Hw := HH.out.kept0 (HM2.out.trans (hM.out.trans mX))
      have hrr : OwnR encRc 5 61 X 0 rv S.rs := Hw.rows
      obtain ⟨p, pc, hrv, hp, hpc⟩ := hrr.at_ i2
      have c3 := cell_blk Hw.blk 3
      have e2 := cell_blk nX 2
      simp only [List.getElem?_toArray, List.getElem?_cons_succ, List.getElem?_cons_zero] at c3 e2
      subst hrv
      have RR : RcRow X 0 p S.rs.length pc S.rs := ⟨rfl, hrr⟩
      have LR := Lib.hid ((RR.kept0 ((Mod.refl [] X).drew)).load i2)
      have hj0 : decide ((j : Int) < 0) = false := decide_eq_false (by omega)
      have hj1 : decide ((N : Int) ≤ (j : Int)) = false := decide_eq_false (by omega)
      have hj2 : decide ((j : Int) < (N : Int)) = true := decide_eq_true (by omega)
      have hi0 : decide ((i : Int) < 0) = false := decide_eq_false (by omega)
      have hi1 : decide ((S.rs.length : Int) ≤ (i : Int)) = false := decide_eq_false (by omega)
      have hml : ((L.take j).map (rcOf S)).length = j := by rw [List.length_map, List.length_take, HNN.out]; omega
      have hRX := (hR.out.kept0 mX).kept0 ((Mod.refl [] X).drew)
      have hszX : w2.heap.size ≤ X.drew.heap.size := Nat.le_trans hM.out.size (Nat.le_trans mX.size (Nat.le_refl _))
      obtain ⟨v', w5, ra, ho', gr⟩ := own_append1 (P := Try.prog) (ty := 58) elemRect encRc_len encRc_one hRX hszX r (by rw [hml]; omega) (by omega)
      dsimp only [encRc] at ra
      obtain ⟨va, vc, rfl⟩ := ho'.lens
      have hnl : ((L.take j).map (rcOf S) ++ [r]).length = j + 1 := by rw [List.length_append, List.length_singleton, hml]
      rw [hnl] at ra ho' gr
      have HO5 : Hid (OwnR encRc 5 61 w5 w2.heap.size (.slice va (j + 1) vc) ((L.take (j + 1)).map (rcOf S))) := Lib.hid (by
        rw [htk, List.map_append, List.map_singleton, i4]
        exact ho')
      have HM5 : Hid (Mod [] w2 w5) := Lib.hid (Mod.into' (hM.out.trans (mX.trans ((Mod.refl [] X).drew))) gr.mod (fun k hk => by
        rw [mem_blk] at hk
        have := (World.ownsRow.lt hRX k hk).1
        exact .inl (by omega)))
      have RA := Lib.hid ra
      clear hrow hoW hq hcap hp hpc Hw hrr RR nX mX sX hml hRX hszX ra ho' gr hnl hx hjl hje htk i1 i2 i3 i4
      go_wp2_with ((with_reducible refine xLoadAt rfl HLI.out ?_ ?_ ?_); exact rfl; exact rfl)
      clear hX
      refine wp_plan [([0, 1, 5, 2, 6, 3, 7, 4, 8, 9], 10, []), ([], 11, []), ([], 12, [])] [] (by kernel_rfl) (by kernel_rfl) ?_
      simp only [wpSegs, opsOf, List.map_cons, List.map_nil, opN, List.getD_cons_zero, List.getD_cons_succ]
      go_wp2_with ((with_reducible refine xLoadAt rfl LR.out ?_ ?_ ?_); exact rfl; exact rfl)
      refine ⟨by first | trivial | rfl, ?_⟩
      go_wp2_with fail
      refine ⟨again_nil, ?_⟩
      go_wp2_with fail
      refine ⟨by first | trivial | rfl, ?_⟩
      go_wp2_with ((with_reducible refine xAppendAt RA.out rfl rfl ?_ ?_ ?_ ?_); exact rfl; exact rfl; exact rfl)
      refine ⟨again_nil, ?_⟩
      go_wp2_with fail
      refine ⟨by first | trivial | rfl, ?_⟩
      go_wp2_with fail
      refine ⟨again_nil, ?_⟩
      go_wp2_with fail
      refine ⟨by first | trivial | rfl, ?_⟩
      go_wp2_with fail
      go_roundw
      case rel => exact ⟨j + 1, va, vc, by omega, by first | rfl | go_num, by go_num, HO5, HM5⟩
      case measure => simp [intOf]; omega
    · obtain rfl : j = N := by omega
      have hj2 : decide ((j : Int) < (j : Int)) = false := decide_eq_false (by omega)
      have hRj : OwnR encRc 5 61 wr w2.heap.size (.slice oa j oc) (L.map (rcOf S)) := by
        have := hR.out
        rw [← HNN.out, List.take_length] at this
        rw [← HNN.out]
        exact this
      have CS := Lib.hid (sortStable_any hRj (by rw [List.length_map, HNN.out]; omega))
      have HRJ := Lib.hid hRj
      clear hR hRj
      go_wp2_with fail
      refine CS.out.mono ?_
      rintro e w5 ⟨rfl, l, hml, ho5, m5⟩
      have HE : Hid (∃ v l, Ending.returned (Value.slice oa j oc) = .returned v ∧ RectsOf S l ∧ l.length ≤ 90000 ∧ OwnR encRc 5 61 w5 w.heap.size v l ∧ Mod [] w w5) := Lib.hid ⟨_, l, rfl, items_rects HS.out HH.out.tree.srt HH.out.items (by rw [HL.out]; exact hml), by rw [hml.len, List.length_map, HNN.out]; exact hLl, ho5.mono HM2.out.size, Mod.into' (HM2.out.trans hM.out) m5 (fun k hk => by
        rw [mem_blk] at hk
        have h1 := (World.ownsRow.lt HRJ.out k hk).1
        have h2 := HM2.out.size
        exact .inl (by omega))⟩
      clear hml ho5 m5 CS
      go_wp2_with fail
      go_ret
      obtain ⟨v, l, q1, q2⟩ := HE.out
      exact ⟨v, l, Eq.trans rfl q1, q2⟩
end Go.Proofs.Ytngglpekdjhbdaa
namespace Go.Proofs.Ytngglpekdjhbdaa
open Go.RowKit Go.ChangeMaps Go.Deep Tr
set_option linter.unusedSimpArgs false
set_option linter.unusedVariables false
set_option maxRecDepth 20000

theorem EndsIn.mono {S : Bs} {D D' : List Int} (h : EndsIn S D) (hD : ∀ x ∈ D, x ∈ D') : EndsIn S D' := fun i r h1 h2 h3 => ⟨hD _ (h i r h1 h2 h3).1, hD _ (h i r h1 h2 h3).2⟩
theorem run_ends {t v : Int} {D : List Int} (ht : 1 ≤ t) : ∀ {l : List Sg} {S : Bs}, S.Ok t → SegsOk S l → EndsIn S D → (∀ x ∈ l, x.f ∈ D ∧ x.t ∈ D) → EndsIn (S.run t v l) D
  | [], _, _, _, h, _ => h
  | x :: l, S, hO, hs, h, hD => by
    rw [run_cons]
    obtain ⟨k1, k2⟩ := step_segs (v := v) hO ht hs
    have hx := hD x (by simp)
    exact run_ends ht k1 k2 (h.step hO.bnd (by omega) hx.1 hx.2 (hs.2 x (by simp)).2.2.2).1 fun y hy => hD y (by simp [hy])
/-- a store behind i puts -/
structure Puts13 (w : World) (s i : Nat) (W : World) : Prop where
  ex : ∃ BB n last S D, BiAt W s BB n last S ∧ S.Ok last ∧ 0 ≤ last ∧ EndsIn S D ∧ D.length ≤ 2 * i ∧ n ≤ 324 * i ∧ S.rs.length ≤ 324 * i ∧ Mod [] w W ∧ ∀ k ∈ BB, w.heap.size ≤ k
theorem Puts13.mod {w W : World} {s i : Nat} (h : Puts13 w s i W) : Mod [] w W := by
  obtain ⟨BB, n, last, S, D, h1, h2, h3, h4, h5, h6, h7, h8, h9⟩ := h.ex
  exact h8
theorem Puts13.kept {w W W' : World} {s i : Nat} (h : Puts13 w s i W) (m : Mod [] W W') : Puts13 w s i W' := by
  obtain ⟨BB, n, last, S, D, h1, h2, h3, h4, h5, h6, h7, h8, h9⟩ := h.ex
  exact ⟨BB, n, last, S, D, h1.kept0 m, h2, h3, h4, h5, h6, h7, h8.trans m, h9⟩
theorem put_any {w W : World} {s i : Nat} (h : Puts13 w s i W) (hi : i < 40) (t a b v : Int) :
    Calls Try.prog 23 #[.pointer (some ⟨s, 0, none⟩), .int .i64 t, .agg #[.int .i64 a, .int .i64 b], .int .i64 v] W fun e W' => (∃ x : Int, e = .returned (.int .i64 x)) ∧ Puts13 w s (i + 1) W' := by
  obtain ⟨BB, n, last, S, D, h1, h2, h3, h4, h5, h6, h7, h8, h9⟩ := h.ex
  by_cases ht : t < 1 ∨ t < last
  · refine (put_arg h1 ht).mono ?_
    rintro e W' ⟨rfl, m⟩
    exact ⟨⟨2, rfl⟩, ⟨BB, n, last, S, D, h1.kept0 m, h2, h3, h4, by omega, by omega, by omega, h8.trans m, h9⟩⟩
  · by_cases hm : mayS a b
    · have hK : ∀ L, SegsTo S.g a b L → L.length ≤ D.length + 1 := fun L hL => segsTo_few h4 h2 hL
      refine (put_ok_at (v := v) h1 h2 (show last ≤ t by omega) ht hm hK (by omega) (by omega)).mono ?_
      rintro e W' ⟨rfl, L, hL, BB', q1, q2, q3⟩
      obtain ⟨hSO, hRO⟩ := bput_segs (v := v) h2 (show last ≤ t by omega) (by omega) hm.1 hm.2.2 hL
      have hends := segsTo_ends h4 h2 hL
      have hlen := (run_len t v L S).2
      have hLK := hK L hL
      refine ⟨⟨0, rfl⟩, ⟨BB', _, t, S.run t v L, a :: b :: D, q1, hRO, by omega, ?_, by simp only [List.length_cons]; omega, by omega, by omega, Mod.into' h8 q2 (fun k hk => .inl (h9 k hk)), fun k hk => ?_⟩⟩
      · refine run_ends (by omega) (Bt.later h2 (show last ≤ t by omega)) hSO (h4.mono fun x hx => by simp [hx]) fun x hx => ?_
        obtain ⟨e1, e2⟩ := hends x hx
        refine ⟨?_, ?_⟩
        · rcases List.mem_cons.1 e1 with e | e
          · simp [e]
          · simp [e]
        · rcases e2 with e2 | e2
          · rcases List.mem_cons.1 e2 with e | e
            · simp [e]
            · simp [e]
          · simp [e2]
      · rcases q3 k hk with hh | hh
        · exact h9 k hh
        · exact Nat.le_trans h8.size hh
    · refine (put_span h1 ht hm).mono ?_
      rintro e W' ⟨rfl, m⟩
      exact ⟨⟨15, rfl⟩, ⟨BB, n, last, S, D, h1.kept0 m, h2, h3, h4, by omega, by omega, by omega, h8.trans m, h9⟩⟩
structure Pt where
  t : Int
  a : Int
  b : Int
  v : Int
def encPt (p : Pt) : List Value := [.int .i64 p.t, .int .i64 p.a, .int .i64 p.b, .int .i64 p.v]
theorem encPt_len (p : Pt) : (encPt p).length = 4 := rfl
theorem RowAt.cells_at {α : Type} {enc : α → List Value} {k : Nat} {w : World} (hk : ∀ x, (enc x).length = k) {a : Option Addr} {n c : Nat} {l : List α} (h : RowAt enc w (.slice a n c) l) {i : Nat} {x : α} (hx : l[i]? = some x) : n = l.length ∧ ∃ b o, a = some ⟨b, o, none⟩ ∧ n ≤ c ∧ w.rangeAt b (o + i * k) (enc x) := by
  obtain ⟨y, z, e⟩ := h.form
  simp only [Value.slice.injEq] at e
  obtain ⟨rfl, rfl, rfl⟩ := e
  obtain ⟨hlt, he⟩ := List.getElem?_eq_some_iff.1 hx
  obtain ⟨b, o, rfl, hc, hg⟩ := RowAt.get hk h hlt
  refine ⟨rfl, b, o, rfl, hc, fun j u hu => ?_⟩
  rw [Nat.add_assoc]
  exact hg j u (by have := (List.getElem?_eq_some_iff.1 hu).1; rw [hk] at this; exact this) (by rw [he]; exact hu)
end Go.Proofs.Ytngglpekdjhbdaa
