/- The journal is read: records come behind the others; what opening does. -/
import Derived.Test.YtnjfgbbdfdoccaaJnQ
import Derived.Test.YtnjfgbbdfdoccaaMinMax
namespace Go.Proofs.Ytnjfgbbdfdoccaa
open Go.RowKit Go.ChangeMaps
set_option linter.unusedSimpArgs false
set_option linter.unusedVariables false
set_option maxRecDepth 20000

theorem JAt.pushes {w X : World} {base j d m : Nat} {J : Jk} {D : Dk} {v v' : Value} {hs hs2 : List SlH} {ls : List (List Int)} {at' : Int}
    (e1 : w.heap[j]? = some (.cells #[.pointer (some ⟨d, 0, none⟩), .int .i64 J.epoch, .int .i64 J.at_, v, .bool J.dead] 67 (0, 0))) (e2 : OwnR encH 1 33 w base v hs) (e3 : hs.length = J.l.length) (e4 : ∀ (i : Nat) (h : SlH) (l : List Int), hs[i]? = some h → J.l[i]? = some l → Rec8 w base h l) (hD : DiskAt w d m D) (hg : base ≤ j)
    (hl2 : hs2.length = ls.length) (hc : ∀ (i : Nat) (h : SlH) (l : List Int), hs2[i]? = some h → ls[i]? = some l → Rec8 w base h l) (ho : OwnR encH 1 33 X base v' (hs ++ hs2)) (gr : Grew w v X v') :
    JAt ((X.setCell ⟨j, 3, none⟩ v').setCell ⟨j, 2, none⟩ (.int .i64 at')) base j d m { J with l := J.l ++ ls, at_ := at' } D ∧ Mod (j :: blk v) w ((X.setCell ⟨j, 3, none⟩ v').setCell ⟨j, 2, none⟩ (.int .i64 at')) := by
  have hty : ∀ k ∈ blk v, ∃ c, w.heap[k]? = some (.cells c 33 (0, 0)) := fun k hk => by
    rw [mem_blk] at hk
    exact ownsRow_cells e2 hk
  have hjv : j ∉ blk v := fun hk => by
    obtain ⟨c, h1⟩ := hty j hk
    rw [e1] at h1
    simp only [Option.some.injEq, Obj.cells.injEq] at h1
    exact absurd h1.2.1 (by decide)
  have f1 := gr.mod.heap e1 hjv
  have g1 := heap_setCell_blk f1 3 v'
  have g2 := heap_setCell_blk g1 2 (.int .i64 at')
  have m1 : Mod [j] X (X.setCell ⟨j, 3, none⟩ v') := (Mod.refl _ _).setCell (by simp) _
  have m2 : Mod [j] X ((X.setCell ⟨j, 3, none⟩ v').setCell ⟨j, 2, none⟩ (.int .i64 at')) := m1.setCell (by simp) _
  have hrec : ∀ {h : SlH} {l : List Int}, Rec8 w base h l → Rec8 ((X.setCell ⟨j, 3, none⟩ v').setCell ⟨j, 2, none⟩ (.int .i64 at')) base h l := fun r => by
    refine (r.kept gr.mod (fun k hk cs f hc => ?_)).kept m2 (fun k hk cs f hc => ?_)
    · obtain ⟨c, h1⟩ := hty k hk
      rw [hc] at h1; cases h1
    · simp at hk; subst hk
      rw [f1] at hc; cases hc
  refine ⟨⟨⟨v', hs ++ hs2, by simpa using g2, ho.kept m2 (fun k hk hm => ?_), by simp [e3, hl2], fun i h l h1 h2 => ?_⟩, ?_, hg⟩, ?_⟩
  · simp at hm; subst hm
    obtain ⟨c, h1⟩ := ownsRow_cells ho hk
    rw [f1] at h1
    simp only [Option.some.injEq, Obj.cells.injEq] at h1
    exact absurd h1.2.1 (by decide)
  · by_cases hi : i < hs.length
    · rw [List.getElem?_append_left hi] at h1
      rw [show ({ J with l := J.l ++ ls, at_ := at' } : Jk).l = J.l ++ ls from rfl, List.getElem?_append_left (by omega)] at h2
      exact hrec (e4 i h l h1 h2)
    · rw [List.getElem?_append_right (by omega)] at h1
      rw [show ({ J with l := J.l ++ ls, at_ := at' } : Jk).l = J.l ++ ls from rfl, List.getElem?_append_right (by omega), ← e3] at h2
      exact hrec (hc _ h l h1 h2)
  · have hdb : d ∉ blk v := fun hk => by
      obtain ⟨c, h1⟩ := hty d hk
      rw [hD.blk] at h1
      simp only [Option.some.injEq, Obj.cells.injEq] at h1
      exact absurd h1.2.1 (by decide)
    have hmb : m ∉ blk v := fun hk => by
      obtain ⟨c, h1⟩ := hty m hk
      obtain ⟨es, c', h2, _⟩ := hD.map
      rw [h2] at h1; cases h1
    have nd : d ≠ j := fun e => by
      subst e
      rw [hD.blk] at e1
      simp only [Option.some.injEq, Obj.cells.injEq] at e1
      exact absurd e1.2.1 (by decide)
    have nm : m ≠ j := fun e => by
      subst e
      obtain ⟨es, c', h2, _⟩ := hD.map
      rw [h2] at e1; cases e1
    exact (hD.kept gr.mod hdb hmb).kept m2 (by simpa using nd) (by simpa using nm)
  · exact (gr.mod.mono fun k hk => List.mem_cons_of_mem _ hk).trans (m2.mono (by simp))
/-- one frame is taken in -/
def Jk.take (J : Jk) (D : Dk) : Jk := { J with l := J.l ++ (J.next D).1, at_ := J.at_ + (J.next D).2 }
/-- a journal's variable -/
def BoxJ (w : World) (B j : Nat) : Prop := w.heap[B]? = some (.cells #[.pointer (some ⟨j, 0, none⟩)] 29 (0, 0))
def TakeRet (w : World) (base B j d m : Nat) (J : Jk) (D : Dk) (e : Ending) (w' : World) : Prop :=
  e = .returned (.tuple #[.bool (decide (0 < (J.next D).2)), .int .i64 0]) ∧ JAt w' base j d m (J.take D) D ∧ JMod base w w' ∧ BoxJ w' B j
theorem next_range {J : Jk} {D : Dk} (hk : JOk J D) (hB : ∀ k, IsB (D.sec k)) : 0 ≤ (J.next D).2 ∧ (J.next D).2 ≤ 65536 := by
  have hl := leftP_range hk
  have hz := (numP_range ((hB J.at_).drop 10)).1
  unfold Jk.next
  split
  · exact ⟨by decide, by decide⟩
  · split
    · exact ⟨by decide, by decide⟩
    · dsimp only
      split
      · split
        · dsimp only; omega
        · split
          · split
            · dsimp only; omega
            · exact ⟨by decide, by decide⟩
          · exact ⟨by decide, by decide⟩
      · exact ⟨by decide, by decide⟩
set_option maxHeartbeats 4000000 in
theorem jTake_at {w : World} {base B j d m : Nat} {J : Jk} {D : Dk} (h : JAt w base j d m J D) (hb : BoxJ w B j) (hk : JOk J D) (hd : D.down = false) (hB : ∀ k, IsB (D.sec k)) (hbs : base ≤ w.heap.size) (hn : (J.next D).1.length ≤ 1048576) :
    Calls Try.prog 56 #[.pointer (some ⟨B, 0, none⟩)] w (TakeRet w base B j d m J D) := by
  have CN := Lib.hid (jNext_at h hk hd hB hbs)
  have b0 := cell_blk hb 0
  simp only [List.getElem?_toArray, List.getElem?_cons_zero] at b0
  obtain ⟨r0, r1⟩ := next_range hk hB
  have HJ := Lib.hid h
  have HBX := Lib.hid hb
  obtain ⟨n0, n1, ep0, ep1, a0, a1, w0, w1', l0⟩ := hk
  clear h hb hd hB
  go_enter Try.func56, Try.ntmps56
  go_wp2_with fail
  refine CN.out.mono ?_
  rintro e w1 ⟨lv, hs2, rfl, m1, hrec⟩
  have hj1 := HJ.out.kept0 m1
  have hb1 := m1.heap HBX.out (by simp)
  obtain ⟨v, hs, f1, f2, f3, f4⟩ := hj1.ex
  obtain ⟨va, vc, rfl⟩ := f2.lens
  obtain ⟨lva, lvc, rfl⟩ := hrec.own.lens
  have k0 := cell_blk hb1 0
  have k2 : w1.cell? ⟨j, 2, none⟩ = some (.int .i64 J.at_) := by rw [cell_blk f1]; rfl
  have k3 : w1.cell? ⟨j, 3, none⟩ = some (.slice va hs.length vc) := by rw [cell_blk f1]; rfl
  simp only [List.getElem?_toArray, List.getElem?_cons_zero] at k0
  have HR := Lib.hid (⟨m1, hrec, hj1.disk, f1, f2, f3, f4, hb1⟩ : _ ∧ _ ∧ _ ∧ _ ∧ _ ∧ _ ∧ _ ∧ _)
  have hBj : ¬ B = j := fun e => by
    subst e
    rw [hb1] at f1
    simp only [Option.some.injEq, Obj.cells.injEq] at f1
    exact absurd f1.2.1 (by decide)
  have hjB : ¬ j = B := fun e => hBj e.symm
  have hhl : hs.length ≤ 1048576 := by omega
  have hh2 : hs2.length ≤ 1048576 := by rw [hrec.len]; exact hn
  have HTK := Lib.hid (show J.take D = { J with l := J.l ++ (J.next D).1, at_ := J.at_ + (J.next D).2 } from rfl)
  have HPS := Lib.hid (show ∀ M, M = (J.next D).2 → TakeRet w base B j d m J D = fun e w' => e = .returned (.tuple #[.bool (decide (0 < M)), .int .i64 0]) ∧ JAt w' base j d m { J with l := J.l ++ (J.next D).1, at_ := J.at_ + M } D ∧ JMod base w w' ∧ BoxJ w' B j from fun M hM => by subst hM; rfl)
  obtain ⟨M, hM⟩ : ∃ M, M = (J.next D).2 := ⟨_, rfl⟩
  rw [← hM] at r0 r1 ⊢
  have HPS := Lib.hid (HPS.out M hM)
  clear m1 hrec hj1 f1 f2 f3 f4 hb1 CN hM
  have hwr : IntKind.i64.wrap (J.at_ + M) = J.at_ + M := IntWalk.i64_in _ (by omega)
  go_wp2_with fail
  refine wp_plan [([0, 1, 2, 6, 8, 12, 3, 9, 4, 10, 5, 11, 13], 7, [0, 1, 8, 9, 10, 11, 13]), ([14, 15], 16, [1, 13]), ([17, 18], 19, [])] [] (by kernel_rfl) (by kernel_rfl) ?_
  simp only [wpSegs, opsOf, List.map_cons, List.map_nil, opN, List.getD_cons_zero, List.getD_cons_succ]
  obtain ⟨D0, hD0, mD0⟩ : ∃ D, w1.drew = D ∧ Mod [] w1 D := ⟨_, rfl, (Mod.refl [] w1).drew⟩
  rw [hD0]
  obtain ⟨m1, hrec, hdk, f1, f2, f3, f4, hb1⟩ := HR.out
  have g1 := mD0.heap f1 (by simp)
  have g2 := f2.kept0 mD0
  have gb := mD0.heap hb1 (by simp)
  obtain ⟨v', w', ra, ho', gr⟩ := own_append (P := Try.prog) (ty := 41) (tx := 41) elemBs encH_len g2 (by have := (m1.trans mD0).size; omega) ((hrec.own.kept0 mD0).row.src encH_len encH_one Try.underlying41) (by omega) (by omega)
  obtain ⟨a', n', c', rfl⟩ : ∃ a n c, v' = .slice a n c := by obtain ⟨a, c, e⟩ := ho'.lens; exact ⟨a, _, c, e⟩
  obtain ⟨hN, hM2⟩ := JAt.pushes (at' := J.at_ + M) g1 g2 f3 (fun i h l h1 h2 => (f4 i h l h1 h2).kept0 mD0) (hdk.kept mD0 (by simp) (by simp)) HJ.out.ge hrec.len (fun i h l h1 h2 => (hrec.rel i h l h1 h2).kept0 mD0) ho' gr
  have hjb : j ∉ blk (.slice va hs.length vc) := fun hk => by
    rw [mem_blk] at hk
    obtain ⟨c, h1⟩ := ownsRow_cells g2 hk
    rw [g1] at h1
    simp only [Option.some.injEq, Obj.cells.injEq] at h1
    exact absurd h1.2.1 (by decide)
  have hBb : B ∉ blk (.slice va hs.length vc) := fun hk => by
    rw [mem_blk] at hk
    obtain ⟨c, h1⟩ := ownsRow_cells g2 hk
    rw [gb] at h1
    simp only [Option.some.injEq, Obj.cells.injEq] at h1
    exact absurd h1.2.1 (by decide)
  have gx := gr.mod.heap g1 hjb
  have gxb := gr.mod.heap gb hBb
  have x2 := cell_blk gx 2
  have x3 := cell_blk gx 3
  have y2 := frozen_blk gx 2
  have y3 := frozen_blk gx 3
  have xb := cell_blk gxb 0
  have z0 := cell_blk gb 0
  have z2 := cell_blk g1 2
  have z3 := cell_blk g1 3
  simp only [List.getElem?_toArray, List.getElem?_cons_succ, List.getElem?_cons_zero] at x2 x3 xb z0 z2 z3
  have hbox : BoxJ ((w'.setCell ⟨j, 3, none⟩ (.slice a' n' c')).setCell ⟨j, 2, none⟩ (.int .i64 (J.at_ + M))) B j := by
    have ms : Mod [j] w' ((w'.setCell ⟨j, 3, none⟩ (.slice a' n' c')).setCell ⟨j, 2, none⟩ (.int .i64 (J.at_ + M))) := ((Mod.refl _ _).setCell (by simp) _).setCell (by simp) _
    exact ms.heap gxb (by simpa using hBj)
  have hJM : JMod base w ((w'.setCell ⟨j, 3, none⟩ (.slice a' n' c')).setCell ⟨j, 2, none⟩ (.int .i64 (J.at_ + M))) := by
    refine JMod.trans (JMod.nil (m1.trans mD0)) ⟨_, hM2, fun k hk => ?_⟩
    rcases List.mem_cons.1 hk with rfl | hk
    · exact ⟨HJ.out.ge, fun cs E f hc => by rw [g1] at hc; cases hc; exact .inl rfl⟩
    · rw [mem_blk] at hk
      obtain ⟨c, h1⟩ := ownsRow_cells g2 hk
      exact ⟨(World.ownsRow.lt g2 k hk).1, fun cs E f hc => by rw [h1] at hc; cases hc; exact .inr (.inr rfl)⟩
  have HN := Lib.hid (⟨hN, hJM, hbox⟩ : _ ∧ _ ∧ _)
  have RA := Lib.hid ra
  clear m1 hrec hdk f1 f2 f3 f4 hb1 g1 g2 gb ra ho' gr hN hM2 hjb hBb gx gxb hbox hJM mD0 hD0 k0 k2 k3
  go_wp2_with fail
  refine ⟨by first | trivial | rfl, ?_⟩
  go_wp2_with ((with_reducible refine xAppendAt RA.out rfl rfl ?_ ?_ ?_ ?_); exact rfl; exact rfl; exact rfl)
  refine ⟨?ag1, ?_⟩
  case ag1 =>
    intro i hi hw
    simp only [List.mem_cons, List.not_mem_nil, or_false] at hi
    rcases hi with rfl | rfl | rfl | rfl | rfl | rfl | rfl
    all_goals (simp only [opN, List.getD_cons_zero, List.getD_cons_succ, slotOf]; go_simp)
  go_wp2_with fail
  refine ⟨by first | trivial | rfl, ?_⟩
  go_wp2_with fail
  refine ⟨?ag2, ?_⟩
  case ag2 =>
    intro i hi hw
    simp only [List.mem_cons, List.not_mem_nil, or_false] at hi
    rcases hi with rfl | rfl
    all_goals (simp only [opN, List.getD_cons_zero, List.getD_cons_succ, slotOf]; go_simp)
  clear hwr
  go_wp2_with fail
  refine ⟨by first | trivial | rfl, ?_⟩
  go_wp2_with fail
  refine ⟨again_nil, ?_⟩
  go_wp2_with fail
  refine ⟨by first | trivial | rfl, ?_⟩
  go_wp2_with fail
  rw [HPS.out]
  go_ret2
  exact ⟨rfl, HN.out⟩
end Go.Proofs.Ytnjfgbbdfdoccaa
