/- The journal as it lies; its writes. -/
import Derived.Test.YtnjfgbbdfdoccaaJnF
namespace Go.Proofs.Ytnjfgbbdfdoccaa
open Go.RowKit Go.ChangeMaps
set_option linter.unusedSimpArgs false
set_option linter.unusedVariables false
set_option maxRecDepth 20000

theorem elemBs : ElemOk Try.prog 41 33 1 24 := .mk' Try.underlying41 (by omega) (by kernel_rfl)
/-- a journal: its epoch, the sector behind its last frame, its records -/
structure Jk where
  epoch : Int
  at_ : Int
  l : List (List Int)
  dead : Bool
/-- a record as it lies -/
structure Rec8 (w : World) (base : Nat) (h : SlH) (l : List Int) : Prop where
  row : RowAt enc8 w h.val l
  len : h.n = l.length
  isb : IsB l
  typ : ∀ b o n c, h.val = .slice (some ⟨b, o, none⟩) n c → base ≤ b ∧ ∃ cs f, w.heap[b]? = some (.cells cs 5 f)
theorem RowAt.kept_at {α : Type} {enc : α → List Value} {w w' : World} {v : Value} {l : List α} {ks : List Nat} (h : RowAt enc w v l) (hm : Mod ks w w') (hn : ∀ b o n c, v = .slice (some ⟨b, o, none⟩) n c → b ∉ ks) : RowAt enc w' v l := by
  cases h with
  | nil a cap => exact .nil a cap
  | at_ b o cap l hc hr => exact .at_ b o cap l hc (rangeAt_mod hr hm (hn b o _ cap rfl))
theorem Rec8.kept {w w' : World} {base : Nat} {h : SlH} {l : List Int} {ks : List Nat} (r : Rec8 w base h l) (hm : Mod ks w w') (hk : ∀ k ∈ ks, ∀ cs f, w.heap[k]? ≠ some (.cells cs 5 f)) : Rec8 w' base h l := by
  have hn : ∀ b o n c, h.val = .slice (some ⟨b, o, none⟩) n c → b ∉ ks := fun b o n c e hb => by
    obtain ⟨_, cs, f, h1⟩ := r.typ b o n c e
    exact hk b hb cs f h1
  refine ⟨r.row.kept_at hm hn, r.len, r.isb, fun b o n c e => ?_⟩
  obtain ⟨h0, cs, f, h1⟩ := r.typ b o n c e
  exact ⟨h0, cs, f, hm.heap h1 (hn b o n c e)⟩
theorem Rec8.kept0 {w w' : World} {base : Nat} {h : SlH} {l : List Int} (r : Rec8 w base h l) (hm : Mod [] w w') : Rec8 w' base h l := r.kept hm (by simp)
/-- what a journal's calls turn: blocks of three types, and maps -/
def JT (w : World) (k : Nat) : Prop := ∀ cs E f, w.heap[k]? = some (.cells cs E f) → E = 67 ∨ E = 64 ∨ E = 33
def JMod (base : Nat) (w w' : World) : Prop := ∃ ks, Mod ks w w' ∧ ∀ k ∈ ks, base ≤ k ∧ JT w k
theorem JMod.refl (base : Nat) (w : World) : JMod base w w := ⟨[], Mod.refl _ _, by simp⟩
theorem JMod.nil {base : Nat} {w w' : World} (h : Mod [] w w') : JMod base w w' := ⟨[], h, by simp⟩
theorem JMod.trans {base : Nat} {w w1 w2 : World} (h : JMod base w w1) (k : JMod base w1 w2) : JMod base w w2 := by
  obtain ⟨ks, m1, h1⟩ := h
  obtain ⟨ls, m2, h2⟩ := k
  refine ⟨ks ++ ls, (m1.mono fun k hk => List.mem_append.2 (.inl hk)).trans (m2.mono fun k hk => List.mem_append.2 (.inr hk)), fun k hk => ?_⟩
  by_cases hks : k ∈ ks
  · exact h1 k hks
  · rcases List.mem_append.1 hk with hk | hk
    · exact absurd hk hks
    · obtain ⟨b, t⟩ := h2 k hk
      exact ⟨b, fun cs E f hc => t cs E f (m1.heap hc hks)⟩
theorem JMod.toNil {base : Nat} {w0 w w' : World} (h0 : Mod [] w0 w) (hb : w0.heap.size ≤ base) (h : JMod base w w') : Mod [] w0 w' := by
  obtain ⟨ks, m, h1⟩ := h
  exact Mod.into' h0 m (fun k hk => .inl (by have := (h1 k hk).1; omega))
theorem JMod.own {α : Type} {enc : α → List Value} {n : Nat} {E : TypeId} {w w' : World} {base b : Nat} {v : Value} {l : List α} (h : JMod base w w') (ho : OwnR enc n E w b v l) (hE : ¬ (E = 67 ∨ E = 64 ∨ E = 33)) : OwnR enc n E w' b v l := by
  obtain ⟨ks, m, h1⟩ := h
  refine ho.kept m fun k hk hm => ?_
  obtain ⟨c, hc⟩ := ownsRow_cells ho hk
  exact hE ((h1 k hm).2 c E _ hc)
/-- a block that a journal's calls do not turn -/
theorem JMod.heap {base : Nat} {w w' : World} (h : JMod base w w') {k : Nat} {cs : Array Value} {E : TypeId} {f : Nat × Nat} (hc : w.heap[k]? = some (.cells cs E f)) (hE : ¬ (E = 67 ∨ E = 64 ∨ E = 33)) : w'.heap[k]? = some (.cells cs E f) := by
  obtain ⟨ks, m, h1⟩ := h
  exact m.heap hc (fun hm => hE ((h1 k hm).2 cs E f hc))
theorem JMod.size {base : Nat} {w w' : World} (h : JMod base w w') : w.heap.size ≤ w'.heap.size := by
  obtain ⟨ks, m, _⟩ := h
  exact m.size
/-- a row that lies below -/
theorem JMod.below {base : Nat} {w w' : World} (h : JMod base w w') {α : Type} {enc : α → List Value} {v : Value} {l : List α} (hr : RowAt enc w v l) (hb : ∀ b o n c, v = .slice (some ⟨b, o, none⟩) n c → b < base) : RowAt enc w' v l := by
  obtain ⟨ks, m, h1⟩ := h
  exact hr.kept_at m (fun b o n c e hk => by have := hb b o n c e; have := (h1 b hk).1; omega)
theorem DiskAt.jt {w : World} {b m : Nat} {D : Dk} (h : DiskAt w b m D) : JT w b ∧ JT w m := by
  refine ⟨fun cs E f hc => ?_, fun cs E f hc => ?_⟩
  · rw [h.blk] at hc; cases hc; exact .inr (.inl rfl)
  · obtain ⟨es, c, h1, _⟩ := h.map
    rw [h1] at hc; cases hc
structure JAt (w : World) (base j d m : Nat) (J : Jk) (D : Dk) : Prop where
  ex : ∃ (v : Value) (hs : List SlH), w.heap[j]? = some (.cells #[.pointer (some ⟨d, 0, none⟩), .int .i64 J.epoch, .int .i64 J.at_, v, .bool J.dead] 67 (0, 0)) ∧ OwnR encH 1 33 w base v hs ∧ hs.length = J.l.length ∧ ∀ (i : Nat) (h : SlH) (l : List Int), hs[i]? = some h → J.l[i]? = some l → Rec8 w base h l
  disk : DiskAt w d m D
  ge : base ≤ j
theorem JAt.kept {w w' : World} {base j d m : Nat} {J : Jk} {D : Dk} {ks : List Nat} (h : JAt w base j d m J D) (hm : Mod ks w w') (h1 : j ∉ ks) (h2 : d ∉ ks) (h3 : m ∉ ks) (h4 : ∀ k ∈ ks, ∀ cs E f, w.heap[k]? = some (.cells cs E f) → ¬ (E = 5 ∨ E = 33)) : JAt w' base j d m J D := by
  obtain ⟨⟨v, hs, e1, e2, e3, e4⟩, hd, hg⟩ := h
  refine ⟨⟨v, hs, hm.heap e1 h1, e2.kept hm (fun k hk hkm => ?_), e3, fun i x l hx hl => (e4 i x l hx hl).kept hm (fun k hk cs f hc => h4 k hk cs _ f hc (.inl rfl))⟩, hd.kept hm h2 h3, hg⟩
  obtain ⟨c, hc⟩ := ownsRow_cells e2 hk
  exact h4 k hkm c _ _ hc (.inr rfl)
theorem JAt.kept0 {w w' : World} {base j d m : Nat} {J : Jk} {D : Dk} (h : JAt w base j d m J D) (hm : Mod [] w w') : JAt w' base j d m J D :=
  h.kept hm (by simp) (by simp) (by simp) (by simp)
theorem JAt.jblk {w : World} {base j d m : Nat} {J : Jk} {D : Dk} (h : JAt w base j d m J D) : JT w j ∧ j ≠ d ∧ j ≠ m := by
  obtain ⟨⟨v, hs, e1, _⟩, hd, _⟩ := h
  refine ⟨fun cs E f hc => by rw [e1] at hc; cases hc; exact .inl rfl, fun e => ?_, fun e => ?_⟩
  · subst e
    rw [hd.blk] at e1
    simp only [Option.some.injEq, Obj.cells.injEq] at e1
    exact absurd e1.2.1 (by decide)
  · subst e
    obtain ⟨es, c, h1, _⟩ := hd.map
    rw [h1] at e1; cases e1
/-- the disk is written, the journal may be dead -/
theorem JAt.turn {w w' : World} {base j d m : Nat} {J : Jk} {D D' : Dk} (h : JAt w base j d m J D) (hm : Mod [d, m] w w') (hd : DiskAt w' d m D') : JAt w' base j d m J D' := by
  obtain ⟨_, nd, nm⟩ := h.jblk
  obtain ⟨td, tm⟩ := h.disk.jt
  obtain ⟨⟨v, hs, e1, e2, e3, e4⟩, hd0, hg⟩ := h
  have hk : ∀ k ∈ [d, m], ∀ cs E f, w.heap[k]? = some (.cells cs E f) → E = 64 := fun k hk cs E f hc => by
    simp at hk
    rcases hk with rfl | rfl
    · rw [hd0.blk] at hc; cases hc; rfl
    · obtain ⟨es, c, h1, _⟩ := hd0.map
      rw [h1] at hc; cases hc
  refine ⟨⟨v, hs, hm.heap e1 (by simp; exact ⟨nd, nm⟩), e2.kept hm (fun k hk2 hkm => ?_), e3, fun i x l hx hl => (e4 i x l hx hl).kept hm (fun k hk2 cs f hc => ?_)⟩, hd, hg⟩
  · obtain ⟨c, hc⟩ := ownsRow_cells e2 hk2
    have := hk k hkm c _ _ hc
    revert this; decide
  · have := hk k hk2 cs _ f hc
    revert this; decide
def Jk.write (J : Jk) (D : Dk) (k : Int) (l : List Int) : Int × Jk × Dk :=
  if J.dead = true then (16, J, D) else ((D.write k l).1, { J with dead := !decide ((D.write k l).1 = 0) }, (D.write k l).2)
theorem Dk.write_range (D : Dk) (k : Int) (l : List Int) : 0 ≤ (D.write k l).1 ∧ (D.write k l).1 ≤ 16 := by
  unfold Dk.write Dk.asked
  repeat' split
  all_goals omega
set_option maxHeartbeats 1000000 in
theorem jWrite_at {w : World} {base j d m : Nat} {J : Jk} {D : Dk} (h : JAt w base j d m J D) (k : Int) {x : Value} {l : List Int} (hx : RowAt enc8 w x l) (hb : Off x d) (hl : l.length ≤ 1073741824) (hw : 0 ≤ D.written ∧ D.written ≤ 4611686018427387904) :
    Calls Try.prog 29 #[.pointer (some ⟨j, 0, none⟩), .int .i64 k, x] w fun e w' => e = .returned (.int .i64 (J.write D k l).1) ∧ JAt w' base j d m (J.write D k l).2.1 (J.write D k l).2.2 ∧ Mod [j, d, m] w w' := by
  obtain ⟨tj, nd, nm⟩ := h.jblk
  have H := Lib.hid h
  obtain ⟨v, hs, e1, e2, e3, e4⟩ := h.ex
  have c0 := cell_blk e1 0
  have c4 := cell_blk e1 4
  simp only [List.getElem?_toArray, List.getElem?_cons_succ, List.getElem?_cons_zero] at c0 c4
  have CW := Lib.hid (write_any h.disk k hx.bytes hb (by unfold maxLen; omega) hw.1 hw.2)
  have HE := Lib.hid e1
  clear e1 e2 e3 e4 h hw hx
  by_cases hd : J.dead = true
  · have HP := Lib.hid (show J.write D k l = (16, J, D) from if_pos hd)
    rw [hd] at c4
    go_enter Try.func29, Try.ntmps29
    go_wp2_with fail
    go_ret
    exact ⟨by rw [HP.out]; rfl, by rw [HP.out]; exact H.out, Mod.refl _ _⟩
  · have hdf : J.dead = false := by simpa using hd
    have HP := Lib.hid (show J.write D k l = ((D.write k l).1, { J with dead := !decide ((D.write k l).1 = 0) }, (D.write k l).2) from if_neg hd)
    rw [hdf] at c4
    generalize D.write k l = r at CW HP
    obtain ⟨r1, D'⟩ := r
    dsimp only at CW HP
    go_enter Try.func29, Try.ntmps29
    go_wp2_with fail
    refine CW.out.mono ?_
    rintro e w1 ⟨rfl, m1, hd1⟩
    have hJ := H.out.turn m1 hd1
    obtain ⟨v', hs', f1, f2, f3, f4⟩ := hJ.ex
    have d4 := cell_blk f1 4
    have g4 := frozen_blk f1 4
    simp only [List.getElem?_toArray, List.getElem?_cons_succ, List.getElem?_cons_zero] at d4
    have hset := heap_setCell_blk f1 4 (.bool (!decide (r1 = 0)))
    simp at hset
    have ms : Mod [j] w1 (w1.setCell ⟨j, 4, none⟩ (.bool (!decide (r1 = 0)))) := (Mod.refl _ _).setCell (by simp) _
    have hN : JAt (w1.setCell ⟨j, 4, none⟩ (.bool (!decide (r1 = 0)))) base j d m { J with dead := !decide (r1 = 0) } D' := by
      have hty : ∀ k ∈ [j], ∀ cs E f, w1.heap[k]? = some (.cells cs E f) → E = 67 := fun k hk cs E f hc => by
        simp at hk; subst hk; rw [f1] at hc; cases hc; rfl
      refine ⟨⟨v', hs', by simpa using hset, f2.kept ms (fun k hk hkm => ?_), f3, fun i x l hx hl => (f4 i x l hx hl).kept ms (fun k hk cs f hc => ?_)⟩, hJ.disk.kept ms (by simp; exact fun e => nd e.symm) (by simp; exact fun e => nm e.symm), hJ.ge⟩
      · obtain ⟨c, hc⟩ := ownsRow_cells f2 hk
        have := hty k hkm c _ _ hc
        revert this; decide
      · have := hty k hk cs _ f hc
        revert this; decide
    have HN := Lib.hid (show JAt _ _ _ _ _ _ _ ∧ Mod [j, d, m] w (w1.setCell ⟨j, 4, none⟩ (.bool (!decide (r1 = 0)))) from ⟨hN, (m1.mono (by simp)).trans (ms.mono (by simp))⟩)
    clear hset ms hN hJ f1 f2 f3 f4 hd1 m1 CW
    go_wp2_with fail
    go_ret
    exact ⟨by rw [HP.out]; rfl, by rw [HP.out]; exact HN.out.1, HN.out.2⟩
end Go.Proofs.Ytnjfgbbdfdoccaa
