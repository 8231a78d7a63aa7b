/- The journal: a record comes. -/
import Derived.Test.YtnjfgbbdfdoccaaJnI
import Derived.Test.YtnjfgbbdfdoccaaShelf5
namespace Go.Proofs.Ytnjfgbbdfdoccaa
open Go.RowKit Go.ChangeMaps
set_option linter.unusedSimpArgs false
set_option linter.unusedVariables false
set_option maxRecDepth 20000

theorem Mod.ofBelow {w w' : World} (h : Below w.heap.size w w') : Mod [] w w' := ⟨h.os, h.tape, h.output, h.size, fun k hk _ => h.block k hk⟩
theorem byClone_at {w : World} {v : Value} {l : List Int} (h : RowAt enc8 w v l) (hl : l.length ≤ 1073741824) :
    Calls Try.prog 37 #[v] w fun e w' => ∃ v', e = .returned v' ∧ OwnR enc8 1 5 w' w.heap.size v' l ∧ Mod [] w w' := by
  cases h with
  | nil a cap =>
    cases a with
    | none =>
      refine (Try.bytes_Clone_nil 0 cap w).mono ?_
      rintro e w' ⟨rfl, rfl⟩
      exact ⟨_, rfl, OwnR.nil_ _ _, Mod.refl _ _⟩
    | some a =>
      refine (Try.bytes_Clone_at a 0 cap [] w rfl (by omega) (fun i hi => by omega)).mono ?_
      rintro e w' ⟨v', rfl, h1, h2, h3⟩
      exact ⟨v', rfl, h1, Mod.ofBelow h3⟩
  | at_ b o cap l hc hr =>
    refine (Try.bytes_Clone_at ⟨b, o, none⟩ l.length cap l w rfl (by omega) (fun i hi => ?_)).mono ?_
    · rw [flat8] at hr
      have := hr i (.int .u8 (l[i])) (by simp [bv, hi])
      rw [Addr.add_mid, this, List.getD_eq_getElem?_getD, List.getElem?_eq_getElem hi]
      rfl
    · rintro e w' ⟨v', rfl, h1, h2, h3⟩
      refine ⟨v', rfl, ?_, Mod.ofBelow h3⟩
      show w'.ownsRow w.heap.size 5 1 v' l.length (flat enc8 l)
      rw [flat8]
      exact h1
/-- a record comes -/
def Jk.append (J : Jk) (D : Dk) (b : List Int) : Int × Jk × Dk :=
  if J.dead = true then (16, J, D) else if b.length = 0 ∨ 65536 < b.length then (2, J, D) else if roomB J D b.length = false then (7, J, D)
  else if (J.writes D (layPlan J.at_ (frameP 0 J.epoch (J.l.length + 1) b) (manyP b.length))).1 = 0 then
    (0, { (J.writes D (layPlan J.at_ (frameP 0 J.epoch (J.l.length + 1) b) (manyP b.length))).2.1 with l := J.l ++ [b], at_ := J.at_ + manyP b.length }, (J.writes D (layPlan J.at_ (frameP 0 J.epoch (J.l.length + 1) b) (manyP b.length))).2.2)
  else J.writes D (layPlan J.at_ (frameP 0 J.epoch (J.l.length + 1) b) (manyP b.length))
theorem JAt.lt {w : World} {base j d m : Nat} {J : Jk} {D : Dk} (h : JAt w base j d m J D) : j < w.heap.size ∧ d < w.heap.size ∧ m < w.heap.size := by
  obtain ⟨⟨v, hs, e1, _⟩, hd, _⟩ := h
  exact ⟨lt_of_heap e1, lt_of_heap hd.blk, hd.map.lt⟩
theorem JAt.jmod {w w' : World} {base j d m : Nat} {J : Jk} {D : Dk} (h : JAt w base j d m J D) (hge : base ≤ d ∧ base ≤ m) (hm : Mod [j, d, m] w w') : JMod base w w' := by
  have g1 := h.ge
  obtain ⟨g2, g3⟩ := hge
  obtain ⟨t2, t3⟩ := h.disk.jt
  refine ⟨[j, d, m], hm, fun k hk => ?_⟩
  simp at hk
  rcases hk with rfl | rfl | rfl
  · exact ⟨g1, h.jblk.1⟩
  · exact ⟨g2, t2⟩
  · exact ⟨g3, t3⟩
/-- a row that lies in none of the journal's blocks -/
def OffJ (x : Value) (j d m : Nat) : Prop := ∀ bb o n c, x = .slice (some ⟨bb, o, none⟩) n c → bb ≠ j ∧ bb ≠ d ∧ bb ≠ m
theorem OffJ.row {α : Type} {enc : α → List Value} {w w' : World} {x : Value} {l : List α} {j d m : Nat} (h : OffJ x j d m) (hr : RowAt enc w x l) (hm : Mod [j, d, m] w w') : RowAt enc w' x l :=
  hr.kept_at hm (fun b o n c e hk => by
    obtain ⟨h1, h2, h3⟩ := h b o n c e
    simp at hk
    omega)
/-- a record is put behind the others -/
theorem JAt.push {w X : World} {base j d m : Nat} {J : Jk} {D : Dk} {v v' : Value} {hs : List SlH} {hd : SlH} {b : List Int} {at' : Int}
    (e1 : w.heap[j]? = some (.cells #[.pointer (some ⟨d, 0, none⟩), .int .i64 J.epoch, .int .i64 J.at_, v, .bool J.dead] 67 (0, 0))) (e2 : OwnR encH 1 33 w base v hs) (e3 : hs.length = J.l.length) (e4 : ∀ (i : Nat) (h : SlH) (l : List Int), hs[i]? = some h → J.l[i]? = some l → Rec8 w base h l) (hD : DiskAt w d m D) (hg : base ≤ j)
    (hc : Rec8 w base hd b) (ho : OwnR encH 1 33 X base v' (hs ++ [hd])) (gr : Grew w v X v') :
    JAt ((X.setCell ⟨j, 3, none⟩ v').setCell ⟨j, 2, none⟩ (.int .i64 at')) base j d m { J with l := J.l ++ [b], at_ := at' } D ∧ Mod (j :: blk v) w ((X.setCell ⟨j, 3, none⟩ v').setCell ⟨j, 2, none⟩ (.int .i64 at')) := by
  have hty : ∀ k ∈ blk v, ∃ c, w.heap[k]? = some (.cells c 33 (0, 0)) := fun k hk => by
    rw [mem_blk] at hk
    exact ownsRow_cells e2 hk
  have hjv : j ∉ blk v := fun hk => by
    obtain ⟨c, h1⟩ := hty j hk
    rw [e1] at h1
    simp only [Option.some.injEq, Obj.cells.injEq] at h1
    exact absurd h1.2.1 (by decide)
  have f1 := gr.mod.heap e1 hjv
  have g1 := heap_setCell_blk f1 3 v'
  have g2 := heap_setCell_blk g1 2 (.int .i64 at')
  have m1 : Mod [j] X (X.setCell ⟨j, 3, none⟩ v') := (Mod.refl _ _).setCell (by simp) _
  have m2 : Mod [j] X ((X.setCell ⟨j, 3, none⟩ v').setCell ⟨j, 2, none⟩ (.int .i64 at')) := m1.setCell (by simp) _
  have hrec : ∀ {h : SlH} {l : List Int}, Rec8 w base h l → Rec8 ((X.setCell ⟨j, 3, none⟩ v').setCell ⟨j, 2, none⟩ (.int .i64 at')) base h l := fun r => by
    refine (r.kept gr.mod (fun k hk cs f hc => ?_)).kept m2 (fun k hk cs f hc => ?_)
    · obtain ⟨c, h1⟩ := hty k hk
      rw [hc] at h1; cases h1
    · simp at hk; subst hk
      rw [f1] at hc; cases hc
  refine ⟨⟨⟨v', hs ++ [hd], by simpa using g2, ho.kept m2 (fun k hk hm => ?_), by simp [e3], fun i h l h1 h2 => ?_⟩, ?_, hg⟩, ?_⟩
  · simp at hm; subst hm
    obtain ⟨c, h1⟩ := ownsRow_cells ho hk
    rw [f1] at h1
    simp only [Option.some.injEq, Obj.cells.injEq] at h1
    exact absurd h1.2.1 (by decide)
  · by_cases hi : i < hs.length
    · rw [List.getElem?_append_left hi] at h1
      rw [show ({ J with l := J.l ++ [b], at_ := at' } : Jk).l = J.l ++ [b] from rfl, List.getElem?_append_left (by omega)] at h2
      exact hrec (e4 i h l h1 h2)
    · have hil : i = hs.length := by
        have := (List.getElem?_eq_some_iff.1 h1).1
        simp at this; omega
      subst hil
      rw [List.getElem?_append_right (Nat.le_refl _)] at h1
      rw [show ({ J with l := J.l ++ [b], at_ := at' } : Jk).l = J.l ++ [b] from rfl, e3, List.getElem?_append_right (Nat.le_refl _)] at h2
      simp at h1 h2
      subst h1 h2
      exact hrec hc
  · obtain ⟨td, tm⟩ := hD.jt
    have hdb : d ∉ blk v := fun hk => by
      obtain ⟨c, h1⟩ := hty d hk
      rw [hD.blk] at h1
      simp only [Option.some.injEq, Obj.cells.injEq] at h1
      exact absurd h1.2.1 (by decide)
    have hmb : m ∉ blk v := fun hk => by
      obtain ⟨c, h1⟩ := hty m hk
      obtain ⟨es, c', h2, _⟩ := hD.map
      rw [h2] at h1; cases h1
    have nd : d ≠ j := fun e => by
      subst e
      rw [hD.blk] at e1
      simp only [Option.some.injEq, Obj.cells.injEq] at e1
      exact absurd e1.2.1 (by decide)
    have nm : m ≠ j := fun e => by
      subst e
      obtain ⟨es, c', h2, _⟩ := hD.map
      rw [h2] at e1; cases e1
    exact (hD.kept gr.mod hdb hmb).kept m2 (by simpa using nd) (by simpa using nm)
  · exact (gr.mod.mono fun k hk => List.mem_cons_of_mem _ hk).trans (m2.mono (by simp))
set_option maxHeartbeats 4000000 in
theorem jAppend_at {w : World} {base j d m : Nat} {J : Jk} {D : Dk} (h : JAt w base j d m J D) (hk : JOk J D) {x : Value} {b : List Int} (hx : RowAt enc8 w x b) (hl : b.length ≤ 1073741824) (hib : IsB b) (hxo : OffJ x j d m) (hbs : base ≤ w.heap.size) (hge : base ≤ d ∧ base ≤ m) :
    Calls Try.prog 11 #[.pointer (some ⟨j, 0, none⟩), x] w fun e w' => e = .returned (.int .i64 (J.append D b).1) ∧ JAt w' base j d m (J.append D b).2.1 (J.append D b).2.2 ∧ JMod base w w' := by
  obtain ⟨xa, xc, rfl⟩ := hx.form
  have HGE := Lib.hid hge
  clear hge
  have CN := Lib.hid (jNone_at h)
  have CR := Lib.hid (jRoom_at h hk b.length)
  obtain ⟨c0, c1, c2, c4⟩ := h.cells
  have HJ := Lib.hid h
  have HK := Lib.hid hk
  have HX := Lib.hid hx
  have HXO := Lib.hid hxo
  have HIB := Lib.hid hib
  clear h hx hxo hib
  by_cases hd : J.dead = true
  · have HP := Lib.hid (show J.append D b = (16, J, D) from if_pos hd)
    rw [hd] at c4
    go_enter Try.func11, Try.ntmps11
    go_wp2_with (refine CN.out.mono ?_; rintro e w' ⟨rfl, rfl⟩)
    go_ret
    exact ⟨by rw [HP.out]; rfl, by rw [HP.out]; exact HJ.out, JMod.refl _ _⟩
  have hdf : J.dead = false := by simpa using hd
  rw [hdf] at c4
  by_cases hlen : b.length = 0 ∨ 65536 < b.length
  · have HP := Lib.hid (show J.append D b = (2, J, D) from by unfold Jk.append; rw [if_neg hd, if_pos hlen])
    rcases hlen with h0 | h0
    · have d1 : decide ((b.length : Int) < 1) = true := decide_eq_true (by omega)
      go_enter Try.func11, Try.ntmps11
      go_wp2_with (refine CN.out.mono ?_; rintro e w' ⟨rfl, rfl⟩)
      go_ret
      exact ⟨by rw [HP.out]; rfl, by rw [HP.out]; exact HJ.out, JMod.refl _ _⟩
    · have d1 : decide ((b.length : Int) < 1) = false := decide_eq_false (by omega)
      have d2 : decide (65536 < (b.length : Int)) = true := decide_eq_true (by omega)
      go_enter Try.func11, Try.ntmps11
      go_wp2_with (refine CN.out.mono ?_; rintro e w' ⟨rfl, rfl⟩)
      go_ret
      exact ⟨by rw [HP.out]; rfl, by rw [HP.out]; exact HJ.out, JMod.refl _ _⟩
  have d1 : decide ((b.length : Int) < 1) = false := decide_eq_false (by omega)
  have d2 : decide (65536 < (b.length : Int)) = false := decide_eq_false (by omega)
  by_cases hr : roomB J D b.length = false
  · have HP := Lib.hid (show J.append D b = (7, J, D) from by unfold Jk.append; rw [if_neg hd, if_neg hlen, if_pos hr])
    rw [hr] at CR
    go_enter Try.func11, Try.ntmps11
    go_wp2_with (refine CN.out.mono ?_; rintro e w' ⟨rfl, rfl⟩)
    refine CR.out.mono ?_
    rintro e w1 ⟨rfl, m1⟩
    have HM := Lib.hid m1
    clear m1
    go_wp2_with fail
    go_ret
    exact ⟨by rw [HP.out]; rfl, by rw [HP.out]; exact HJ.out.kept0 HM.out, JMod.nil HM.out⟩
  have hrt : roomB J D b.length = true := by simpa using hr
  rw [hrt] at CR
  obtain ⟨v, hs, e1, e2, e3, e4⟩ := HJ.out.ex
  have c3 : w.cell? ⟨j, 3, none⟩ = some v := by rw [cell_blk e1]; rfl
  obtain ⟨va, vc, rfl⟩ := e2.lens
  have hk' := HK.out
  obtain ⟨n0, n1, ep0, ep1, a0, a1, w0, w1', l0⟩ := hk'
  have hM : 1 ≤ manyP b.length ∧ manyP b.length ≤ 1100 := by unfold manyP; omega
  have HP := Lib.hid (show J.append D b = _ from by unfold Jk.append; rw [if_neg hd, if_neg hlen, if_neg hr])
  have HE3 := Lib.hid e3
  rw [← e3] at HP
  have hhl : hs.length ≤ 1048576 := by omega
  clear e1 e2 e4 e3
  go_enter Try.func11, Try.ntmps11
  go_wp2_with (refine CN.out.mono ?_; rintro e w' ⟨rfl, rfl⟩)
  refine CR.out.mono ?_
  rintro e wa ⟨rfl, ma⟩
  have HMA := Lib.hid ma
  have p0 := ma.cellD c0
  have p1 := ma.cellD c1
  have p2 := ma.cellD c2
  have p3 := ma.cellD c3
  have p4 := ma.cellD c4
  have CF := Lib.hid (jFrame_at (HX.out.kept0 ma.drew) (by omega) HIB.out 0 J.epoch ((hs.length : Int) + 1) ⟨by omega, by omega⟩ ⟨ep0, by omega⟩ ⟨by omega, by omega⟩)
  clear c0 c1 c2 c3 c4 ma CN CR
  go_wp2_with fail
  refine wp_plan [([0, 4, 10, 1, 5, 2, 6, 3, 7, 8, 9], 11, [])] [12] (by kernel_rfl) (by kernel_rfl) ?_
  simp only [wpSegs, opsOf, List.map_cons, List.map_nil, opN, List.getD_cons_zero, List.getD_cons_succ]
  go_wp2_with fail
  refine ⟨by first | trivial | rfl, ?_⟩
  go_wp2_with fail
  refine CF.out.mono ?_
  rintro e wb ⟨fv, rfl, hf, mb⟩
  have hmb : Mod [] w wb := HMA.out.drew.trans mb
  have hjb := HJ.out.kept0 hmb
  have hlt := HJ.out.lt
  have hfo : OffJ fv j d m := fun bb o n c e => by
    have h1 : fv.ownBlock = some bb := by rw [e]; rfl
    have h2 := (World.ownsRow.lt hf bb h1).1
    have h3 := HMA.out.drew.size
    omega
  obtain ⟨q0, q1, q2, q4⟩ := hjb.cells
  have CL := Lib.hid (jLay_at hjb J.at_ ⟨by omega, by omega⟩ hf.row ⟨hM.1, by omega⟩ (frameP_len _ _ _ _) hfo ⟨w0, by omega⟩)
  have HMB := Lib.hid hmb
  have HS := Lib.hid (Jk.writes_same (layPlan J.at_ (frameP 0 J.epoch ((hs.length : Int) + 1) b) (manyP b.length)) J D)
  generalize J.writes D (layPlan J.at_ (frameP 0 J.epoch ((hs.length : Int) + 1) b) (manyP b.length)) = r at CL HP HS
  obtain ⟨r1, J2, D2⟩ := r
  dsimp only at CL HP HS
  clear hf hjb hfo mb hmb CF p0 p1 p2 p3 p4
  go_wp2_with fail
  refine ⟨again_nil, ?_⟩
  go_wp2_with fail
  refine ⟨by first | trivial | rfl, ?_⟩
  go_wp2_with fail
  refine CL.out.mono ?_
  rintro e wc ⟨rfl, hjc, mc⟩
  have HJC := Lib.hid hjc
  have HMC := Lib.hid mc
  clear CL hjc mc q0 q1 q2 q4
  by_cases hz : r1 = 0
  · subst hz
    have HP := Lib.hid (show J.append D b = (0, { J2 with l := J.l ++ [b], at_ := J.at_ + manyP b.length }, D2) from by rw [HP.out, if_pos rfl])
    have hmz : ((manyP b.length : Nat) : Int) = ((b.length : Int) + 81) / 64 := by unfold manyP; omega
    rw [hmz] at HP
    obtain ⟨_, _, _, _, s5, s6⟩ := HS.out
    obtain ⟨v2, hs2, f1, f2, f3, f4⟩ := HJC.out.ex
    obtain ⟨va2, vc2, rfl⟩ := f2.lens
    rw [s5] at f1
    rw [s6] at f3 f4
    have md := (Mod.refl [] wc).drew
    have CC := Lib.hid (byClone_at ((HXO.out.row (HX.out.kept0 HMB.out) HMC.out).kept0 md) hl)
    have k2 : wc.cell? ⟨j, 2, none⟩ = some (.int .i64 J.at_) := by rw [cell_blk f1]; rfl
    have k3 : wc.cell? ⟨j, 3, none⟩ = some (.slice va2 hs2.length vc2) := by rw [cell_blk f1]; rfl
    have HF := Lib.hid (⟨f1, f2, f3, f4⟩ : _ ∧ _ ∧ _ ∧ _)
    have HMD := Lib.hid md
    have hbw : base ≤ wc.heap.size := by have := HMB.out.size; have := HMC.out.size; omega
    have hh2 : hs2.length ≤ 1048576 := by rw [f3, ← HE3.out]; exact hhl
    clear f1 f2 f3 f4 md hmz
    go_wp2_with fail
    refine wp_plan [([0, 1, 2, 6, 10, 14, 3, 11, 15, 4, 12, 5, 13], 7, [3, 11, 15, 4, 12, 5, 13]), ([], 8, [3, 11, 15, 4, 12, 5, 13]), ([], 9, [11, 15, 12, 13]), ([], 16, [11, 12, 13]), ([17, 18, 19], 20, [17]), ([21, 22], 23, [])] [] (by kernel_rfl) (by kernel_rfl) ?_
    simp only [wpSegs, opsOf, List.map_cons, List.map_nil, opN, List.getD_cons_zero, List.getD_cons_succ]
    go_wp2_with fail
    refine ⟨by first | trivial | rfl, ?_⟩
    go_wp2_with fail
    refine CC.out.mono ?_
    rintro e wd ⟨cv, rfl, hcv, mcl⟩
    obtain ⟨f1, f2, f3, f4⟩ := HF.out
    have mcd : Mod [] wc wd := HMD.out.trans mcl
    have g1 := mcd.heap f1 (by simp)
    have g2 := f2.kept0 mcd
    obtain ⟨ca, cc, rfl⟩ := hcv.lens
    have hrc : Rec8 wd base (⟨ca, b.length, cc⟩ : SlH) b := ⟨hcv.row, rfl, HIB.out, fun bb o n c e => by
      have h1 : (Value.slice ca b.length cc).ownBlock = some bb := by rw [show Value.slice ca b.length cc = .slice (some ⟨bb, o, none⟩) n c from e]; rfl
      obtain ⟨cs, h2⟩ := ownsRow_cells hcv h1
      have h3 := (World.ownsRow.lt hcv bb h1).1
      have h4 := HMD.out.size
      exact ⟨by omega, cs, _, h2⟩⟩
    obtain ⟨v', w', ra, ho', gr⟩ := own_append1 (P := Try.prog) (ty := 41) elemBs encH_len encH_one g2 (by have := mcd.size; omega) (⟨ca, b.length, cc⟩ : SlH) (by omega) (by omega)
    dsimp only [encH] at ra
    obtain ⟨a', n', c', rfl⟩ : ∃ a n c, v' = .slice a n c := by obtain ⟨a, c, e⟩ := ho'.lens; exact ⟨a, _, c, e⟩
    obtain ⟨hN, hM2⟩ := JAt.push (at' := J.at_ + ((b.length : Int) + 81) / 64) (J := { J2 with l := J.l, at_ := J.at_ }) g1 g2 f3 (fun i h l h1 h2 => (f4 i h l h1 h2).kept0 mcd) (HJC.out.disk.kept mcd (by simp) (by simp)) HJC.out.ge hrc ho' gr
    have hjb : j ∉ blk (.slice va2 hs2.length vc2) := fun hk => by
      rw [mem_blk] at hk
      obtain ⟨c, h1⟩ := ownsRow_cells g2 hk
      rw [g1] at h1
      simp only [Option.some.injEq, Obj.cells.injEq] at h1
      exact absurd h1.2.1 (by decide)
    have gx := gr.mod.heap g1 hjb
    have x2 := cell_blk gx 2
    have x3 := cell_blk gx 3
    have y2 := frozen_blk gx 2
    have y3 := frozen_blk gx 3
    have z2 := cell_blk g1 2
    have z3 := cell_blk g1 3
    have ga := ((Mod.refl [] wd).alloc (.cells #[.slice ca b.length cc] 33)).heap g1 (by simp)
    have t2 := cell_blk ga 2
    have t3 := cell_blk ga 3
    simp only [List.getElem?_toArray, List.getElem?_cons_succ, List.getElem?_cons_zero] at x2 x3 z2 z3 t2 t3
    have hJM : JMod base w ((w'.setCell ⟨j, 3, none⟩ (.slice a' n' c')).setCell ⟨j, 2, none⟩ (.int .i64 (J.at_ + ((b.length : Int) + 81) / 64))) := by
      refine JMod.trans (JMod.trans (JMod.trans (JMod.nil HMB.out) ((HJ.out.kept0 HMB.out).jmod HGE.out HMC.out)) (JMod.nil mcd)) ⟨_, hM2, fun k hk => ?_⟩
      rcases List.mem_cons.1 hk with rfl | hk
      · exact ⟨HJC.out.ge, fun cs E f hc => by rw [g1] at hc; cases hc; exact .inl rfl⟩
      · rw [mem_blk] at hk
        obtain ⟨c, h1⟩ := ownsRow_cells g2 hk
        exact ⟨(World.ownsRow.lt g2 k hk).1, fun cs E f hc => by rw [h1] at hc; cases hc; exact .inr (.inr rfl)⟩
    have HN := Lib.hid (⟨hN, hJM⟩ : _ ∧ _)
    have RA := Lib.hid ra
    have CM := Lib.hid (jMany_at (b.length : Int) (by omega) (by omega) w')
    clear f1 f2 f3 f4 mcd g1 g2 hrc ra ho' gr hN hM2 hjb gx ga hJM hcv mcl CC k2 k3
    go_wp2_with fail
    refine ⟨?ag1, ?_⟩
    case ag1 =>
      intro i hi hw
      simp only [List.mem_cons, List.not_mem_nil, or_false] at hi
      rcases hi with rfl | rfl | rfl | rfl | rfl | rfl | rfl
      all_goals (simp only [opN, List.getD_cons_zero, List.getD_cons_succ, slotOf]; go_simp)
    go_wp2_with fail
    refine ⟨by first | trivial | rfl, ?_⟩
    go_wp2_with fail
    refine ⟨?ag2, ?_⟩
    case ag2 =>
      intro i hi hw
      simp only [List.mem_cons, List.not_mem_nil, or_false] at hi
      rcases hi with rfl | rfl | rfl | rfl | rfl | rfl | rfl
      all_goals (simp only [opN, List.getD_cons_zero, List.getD_cons_succ, slotOf]; go_simp)
    go_wp2_with fail
    refine ⟨by first | trivial | rfl, ?_⟩
    go_wp2_with ((with_reducible refine xAppendAt RA.out rfl rfl ?_ ?_ ?_ ?_); exact rfl; exact rfl; exact rfl)
    refine ⟨?ag3, ?_⟩
    case ag3 =>
      intro i hi hw
      simp only [List.mem_cons, List.not_mem_nil, or_false] at hi
      rcases hi with rfl | rfl | rfl | rfl
      all_goals (simp only [opN, List.getD_cons_zero, List.getD_cons_succ, slotOf]; go_simp)
    go_wp2_with fail
    refine ⟨by first | trivial | rfl, ?_⟩
    go_wp2_with fail
    refine CM.out.mono ?_
    rintro e we ⟨rfl, rfl⟩
    have hwr : IntKind.i64.wrap (J.at_ + ((b.length : Int) + 81) / 64) = J.at_ + ((b.length : Int) + 81) / 64 := IntWalk.i64_in _ (by omega)
    go_wp2_with fail
    refine ⟨?ag4, ?_⟩
    case ag4 =>
      intro i hi hw
      simp only [List.mem_cons, List.not_mem_nil, or_false] at hi
      rcases hi with rfl | rfl | rfl
      all_goals (simp only [opN, List.getD_cons_zero, List.getD_cons_succ, slotOf]; go_simp)
    go_wp2_with fail
    refine ⟨by first | trivial | rfl, ?_⟩
    go_wp2_with fail
    refine ⟨?ag5, ?_⟩
    case ag5 =>
      intro i hi hw
      simp only [List.mem_cons, List.not_mem_nil, or_false] at hi
      subst hi
      all_goals (simp only [opN, List.getD_cons_zero, List.getD_cons_succ, slotOf]; go_simp)
    clear hwr
    go_wp2_with fail
    refine ⟨by first | trivial | rfl, ?_⟩
    go_wp2_with fail
    refine ⟨again_nil, ?_⟩
    go_wp2_with fail
    refine ⟨by first | trivial | rfl, ?_⟩
    go_wp2_with fail
    go_ret
    exact ⟨by rw [HP.out]; rfl, by rw [HP.out]; exact HN.out.1, HN.out.2⟩
  · have hzf : (r1 == 0) = false := by simpa using hz
    have hzf2 : decide (r1 = 0) = false := decide_eq_false hz
    have HP := Lib.hid (show J.append D b = (r1, J2, D2) from by rw [HP.out, if_neg hz])
    go_wp2_with fail
    go_ret
    exact ⟨by rw [HP.out]; rfl, by rw [HP.out]; exact HJC.out, JMod.trans (JMod.nil HMB.out) ((HJ.out.kept0 HMB.out).jmod HGE.out HMC.out)⟩
end Go.Proofs.Ytnjfgbbdfdoccaa
