/- Layer 25: bytes are read as a record. -/
import Derived.Test.YtnoookcfacmdkaaReqM
namespace Go.Proofs.Ytnoookcfacmdkaa
open Go.RowKit Go.ChangeMaps
set_option linter.unusedSimpArgs false
set_option linter.unusedVariables false
set_option maxRecDepth 20000

/-- How a reading stands: the reader, the record, the error. -/
structure Dec (w : World) (bb : Nat) (W : World) (rest : List Int) (c2 : Array Value) (c3 : Value) : Prop where
  rd : Rd W (w.heap.size + 2) bb rest
  out : W.heap[w.heap.size]? = some (.cells c2 54 (0, 0))
  err : W.heap[w.heap.size + 1]? = some (.cells #[c3] 26 (0, 0))
  mod : Mod [] w W
  ltb : bb < w.heap.size
section
variable {w : World} {bb : Nat} {W W' : World} {rest rest' : List Int} {c2 : Array Value} {c3 : Value}
theorem Dec.call (h : Dec w bb W rest c2 c3) (h1 : Rd W' (w.heap.size + 2) bb rest') (m1 : Mod [w.heap.size + 2] W W') : Dec w bb W' rest' c2 c3 :=
  ⟨h1, m1.heap h.out (by simp), m1.heap h.err (by simp), h.mod.intoNil m1 (by simp), h.ltb⟩
theorem Dec.quiet (h : Dec w bb W rest c2 c3) (m1 : Mod [] W W') : Dec w bb W' rest c2 c3 :=
  ⟨h.rd.kept0 m1, m1.heap h.out (by simp), m1.heap h.err (by simp), h.mod.trans m1, h.ltb⟩
theorem Dec.outS (h : Dec w bb W rest c2 c3) {c2' : Array Value} (m1 : Mod [w.heap.size] W W') (g : W'.heap[w.heap.size]? = some (.cells c2' 54 (0, 0))) : Dec w bb W' rest c2' c3 :=
  ⟨h.rd.kept m1 (by simp) (by have := h.ltb; simp; omega), g, m1.heap h.err (by simp), h.mod.intoNil m1 (by simp), h.ltb⟩
theorem Dec.set (h : Dec w bb W rest c2 c3) (i : Nat) (v : Value) : Dec w bb (W.setCell ⟨w.heap.size, i, none⟩ v) rest (c2.setIfInBounds i v) c3 :=
  h.outS ((Mod.refl _ _).setCell (by simp) v) (heap_setCell_blk h.out i v)
theorem Dec.setE (h : Dec w bb W rest c2 c3) (v : Value) : Dec w bb (W.setCell ⟨w.heap.size + 1, 0, none⟩ v) rest c2 v :=
  have m1 : Mod [w.heap.size + 1] W (W.setCell ⟨w.heap.size + 1, 0, none⟩ v) := (Mod.refl _ _).setCell (by simp) v
  ⟨h.rd.kept m1 (by simp) (by have := h.ltb; simp; omega), m1.heap h.out (by simp), heap_setCell_blk h.err 0 v, h.mod.intoNil m1 (by simp), h.ltb⟩
theorem Dec.to {c2' : Array Value} (h : Dec w bb W rest c2 c3) (e : c2 = c2') : Dec w bb W rest c2' c3 := e ▸ h
theorem Dec.start {sv : Value} {l : List Int} (h : RdB w bb sv l) (hb : bb < w.heap.size) :
    Dec w bb (((w.alloc (.cells #[.int .u8 0, .slice none 0 0, .int .i64 0, .int .i64 0] 54)).alloc (.cells #[.int .i64 0] 26)).alloc (.cells #[sv] 83)) l #[.int .u8 0, .slice none 0 0, .int .i64 0, .int .i64 0] (.int .i64 0) := by
  have m1 := (Mod.refl [] w).alloc (.cells #[.int .u8 0, .slice none 0 0, .int .i64 0, .int .i64 0] 54)
  have m2 := m1.alloc (.cells #[.int .i64 0] 26)
  have m3 := m2.alloc (.cells #[sv] 83)
  have g1 := heap_alloc_new w (.cells #[.int .u8 0, .slice none 0 0, .int .i64 0, .int .i64 0] 54)
  have g2 := heap_alloc_new (w.alloc (.cells #[.int .u8 0, .slice none 0 0, .int .i64 0, .int .i64 0] 54)) (.cells #[.int .i64 0] 26)
  have g3 := heap_alloc_new ((w.alloc (.cells #[.int .u8 0, .slice none 0 0, .int .i64 0, .int .i64 0] 54)).alloc (.cells #[.int .i64 0] 26)) (.cells #[sv] 83)
  simp only [World.size_alloc] at g2 g3
  refine ⟨⟨sv, g3, h.kept m3 (by simp), by omega⟩, ?_, ?_, m3, hb⟩
  · rw [heap_alloc_ne _ _ (by simp; omega), heap_alloc_ne _ _ (by simp)]
    exact g1
  · rw [heap_alloc_ne _ _ (by simp)]
    exact g2
end
/-- A part of a block is written. -/
theorem store_at {w : World} {b : Nat} {t : TypeId} (T : TypeId) (a x z y : List Value) (h : w.heap[b]? = some (.cells (a ++ (x ++ z)).toArray t (0, 0))) (hxy : x.length = y.length) (hi : (Try.prog.info? T).map (·.size) = some y.length) (h1 : (y.toArray : Array Value).all (·.oneCell') = true) :
    ∃ w', (Instr.storeAt T (.pointer (some ⟨b, a.length, none⟩)) (.agg y.toArray)).run Try.prog w = .ok () w' ∧ Mod [b] w w' ∧ w'.heap[b]? = some (.cells (a ++ (y ++ z)).toArray t (0, 0)) := by
  refine ⟨_, run_storeAt_mid w b a.length T y.toArray (there_blk h a.length y.length (by simp; omega)) (by simpa using hi) h1, (Mod.refl _ _).setCells (by simp) _ _, ?_⟩
  rw [heap_setCells_blk b y.toArray.toList a.length w h]
  have e := setRange_mid a y x z hxy
  simp only [e]
/-- What a reading that gives up answers. -/
def Wrong (w : World) (e : Ending) (w' : World) : Prop := e = .returned (.tuple #[.agg #[.int .u8 0, .slice none 0 0, .int .i64 0, .int .i64 0], .int .i64 4]) ∧ Mod [] w w'
def DecEnd (w W : World) : Prop := CallsD Try.prog 37 #[.pointer (some ⟨w.heap.size, 0, none⟩), .pointer (some ⟨w.heap.size + 1, 0, none⟩)] (.panicking wrongP) W fun e u' w' =>
      e = .returned (.tuple #[]) ∧ u' = .panicking [{ v := .iface 80 (.agg #[]), recovered := true }] ∧ Mod [] w w' ∧
      w'.heap[w.heap.size]? = some (.cells #[.int .u8 0, .slice none 0 0, .int .i64 0, .int .i64 0] 54 (0, 0)) ∧ w'.heap[w.heap.size + 1]? = some (.cells #[.int .i64 4] 26 (0, 0))
theorem wrong_end {w : World} {bb : Nat} {W W' : World} {rest : List Int} {c2 : Array Value} {c3 : Value} (h : Dec w bb W rest c2 c3) (m1 : Mod [w.heap.size + 2] W W') (hs : c2.size = 4) : DecEnd w W' :=
  (caught (m1.heap h.out (by simp)) (m1.heap h.err (by simp)) hs rfl (by omega)).mono fun e u' w' ⟨a, b, c, d, f⟩ => ⟨a, b, (h.mod.intoNil m1 (by simp)).intoNil c (by simp), d, f⟩
theorem wrong_leaves {w W : World} (h : DecEnd w W) (tmps : Array Value) (h2 : tmps[2]? = some (.pointer (some ⟨w.heap.size, 0, none⟩))) (h3 : tmps[3]? = some (.pointer (some ⟨w.heap.size + 1, 0, none⟩))) :
    bodyPostD Try.prog Try.f25 (Wrong w) (.panic wrongP) { tmps := tmps, defers := [{ target := .fn (.func 37) #[.pointer (some ⟨w.heap.size, 0, none⟩), .pointer (some ⟨w.heap.size + 1, 0, none⟩)], args := #[] }] } W := by
  refine leaves_cons (f := 37) (args := #[.pointer (some ⟨w.heap.size, 0, none⟩), .pointer (some ⟨w.heap.size + 1, 0, none⟩)]) (by simp) (by simp [go_sem]) ?_
  refine h.mono ?_
  rintro e u' w'' ⟨rfl, rfl, hm, g2, g3⟩
  have q0 := cell_blk g2 0
  have q1 := cell_blk g2 1
  have q2 := cell_blk g2 2
  have q3 := cell_blk g2 3
  have r0 := cell_blk g3 0
  simp only [List.getElem?_toArray, List.getElem?_cons_succ, List.getElem?_cons_zero] at q0 q1 q2 q3 r0
  have HM := Lib.hid hm
  clear g2 g3 hm
  simp [Leaves, settle, results, Try.results25, go_sem, h2, h3, q0, q1, q2, q3, r0]
  exact ⟨rfl, HM.out⟩
theorem dec_k {w : World} {bb : Nat} {sv : Value} {l : List Int} (h : RdB w bb sv l) (hb : bb < w.heap.size) (hB : Byt l) (E0 : Hid (pNum 1 l = none)) :
    Calls Try.prog 25 #[sv] w (Wrong w) := by
  have S0 := Lib.hid (Dec.start h hb)
  obtain ⟨a, c, rfl⟩ := h.bytes.form
  clear h
  have hmf : ∀ (fn : Fn) (first cap : Array Value) (w : World), (Instr.makeFunc fn first cap).run Try.prog w = .ok (.func fn first cap) w := fun _ _ _ _ => rfl
  go_enter_defers Try.func25, Try.ntmps25
  go_wp2_with fail
  refine (rnum_any S0.out.rd hB 1 (by omega)).mono ?_
  rintro e w1 hr
  obtain ⟨rfl, m1⟩ := reads_none hr E0.out
  have HD := Lib.hid (wrong_end S0.out m1 rfl)
  clear hr m1
  go_wp2_with fail
  refine wrong_leaves HD.out _ ?_ ?_ <;> rfl
end Go.Proofs.Ytnoookcfacmdkaa
