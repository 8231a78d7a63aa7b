/- Formulas: what is deferred. -/
import Derived.Test.YtdaokholmlpfkaaDoorPzO
import Derived.Defers
import Derived.Recover
namespace Go.Proofs.YtdaokholmlpfkaaDoor
open Go.RowKit Go.ChangeMaps Go.Deep
set_option linter.unusedSimpArgs false
set_option linter.unusedVariables false
set_option maxRecDepth 20000

theorem xIndexA {P : Program} {ops : Array Oper} {rest : List Oper} {o : Oper} {a : Act} {w w' : World} {Q : Exit → Act → World → Prop} {v : Value} {t : TypeId} {x i : Operand} {X I : Value} (ho : o.op = .index t x i) (hrun : (Instr.index t X I).run P w = .ok v w') (hx : a.eval x = X) (hi : a.eval i = I)
    (hg : Region.wanted o (yielded ops a.tmps) = true) (h : wpList P ops Q rest (a.put o.dst v) w') : wpList P ops Q (o :: rest) a w := by
  subst hx hi
  exact wpList_val hg (by unfold execOp; rw [ho]; simp [Sem.run_bind, hrun, Result.andThen]) h
/-- an array's element, of one cell -/
theorem run_index_arr {P : Program} (w : World) (t e : TypeId) (n : Nat) (d : TypeDesc) (cs : Array Value) (i : Nat) (h : P.underlying t = some (.array n e)) (he : P.underlying e = some d) (hd : d.isRow = false) (hs : (P.info? e).map (·.size) = some 1) (hi : i < n) {v : Value} (hv : cs[i]? = some v) : (Instr.index t (.agg cs) (.int .i64 i)).run P w = .ok v w := by
  have h0 : (0 ≤ (i : Int) ∧ (i : Int) < (n : Int)) := by omega
  cases hq : P.info? e with
  | none => rw [hq] at hs; cases hs
  | some j =>
    have hj : j.size = 1 := by simpa [hq] using hs
    have ha : (isAgg e).run P w = .ok false w := by
      simp only [isAgg, Sem.run_bind, run_underlying he, Result.andThen_ok]
      cases d <;> first | rfl | simp [TypeDesc.isRow] at hd
    simp [Instr.index, run_underlying h, asIntOf, h0, go_sem, part, ha, sizeOf, typeInfo, hq, hj, hv]
    intro hle
    omega
theorem row_new {α : Type} {enc : α → List Value} {w : World} {g : Nat} {l : List α} {c : Array Value} {t : TypeId} (h : w.heap[g]? = some (.cells c t (0, 0))) {n : Nat} (hc : c.toList = flat enc l := by rfl) (hn : l.length = n := by rfl) : RowAt enc w (.slice (some ⟨g, 0, none⟩) n n) l := by
  subst hn
  refine .at_ g 0 l.length l (Nat.le_refl _) (fun j v hj => ?_)
  rw [Nat.zero_add, cell_blk h, ← Array.getElem?_toList, hc]
  exact hj
theorem ops_0 : opsZ 0 = [(⟨#[111, 114]⟩, 5)] := by
  show [(bz "or", 5)] = _
  rw [show bz "or" = ⟨#[111, 114]⟩ from by decide +kernel]
set_option maxHeartbeats 2000000 in
theorem psOr_at {w : World} {p : Nat} {en : Int} {s : Pz} (hp : 9 ≤ p) (hg : Gl w) (h : PsAt w p en s) (hs : s.sum ≤ 1000000) {lev : Pz → Rz Int} (C : LevC p en lev 1 s.l.length) (S1 : LevSh lev) (T1 : LevTm lev) : Calls Tryd.prog 12 #[.pointer (some ⟨p, 0, none⟩)] w fun e w' => PsR p en w intV ((lev s).bind fun a s1 => loopZ en lev 0 (s1.l.length + 1) a s1) e w' := by
  obtain ⟨w1, hw1, n1, z1, m1⟩ := alloc_named2 w (.cells #[.string ⟨#[111, 114]⟩, .int .u8 5] 58)
  have hrow : RowAt encOp w1 (.slice (some ⟨w.heap.size, 0, none⟩) 1 1) (opsZ 0) := by
    rw [ops_0]
    exact row_new n1
  have hap : Apart w1 p (.slice (some ⟨w.heap.size, 0, none⟩) 1 1) := fun k hk => by
    obtain rfl : w.heap.size = k := by simpa [Value.ownBlock] using hk
    have := Keep.new h m1 (Nat.le_refl _) (by omega)
    exact ⟨by have := this.1; omega, this.2.1, this.2.2⟩
  have CR := Lib.hid (psRow_at hp (hg.kept0 m1) (h.kept m1) hs (n := 0) (by omega) (many := true) (by simp) C S1 T1 hrow hap)
  have HUP := Lib.hid (Up.keep m1 h.lt)
  generalize ((lev s).bind fun a s1 => loopZ en lev 0 (s1.l.length + 1) a s1) = R at CR ⊢
  clear hrow hap n1 z1 m1 hg h C S1 T1
  go_enter Tryd.func12, Tryd.ntmps12
  go_wp2_with fail
  refine CR.out.mono ?_
  intro e w3 hR
  cases R with
  | ok a s1 =>
    obtain ⟨rfl, h1, h2⟩ := hR
    have HH := Lib.hid (And.intro h1 (HUP.out.trans h2))
    clear h1 h2
    go_wp2_with fail
    first | go_ret3 | go_ret2 | go_ret
    exact PsR.mk_ok rfl rfl HH.out.1 HH.out.2
  | bad q y =>
    obtain ⟨rfl, h2⟩ := hR
    have HH := Lib.hid (HUP.out.trans h2)
    clear h2
    go_wp2_with fail
    exact ⟨rfl, PsR.mk_bad rfl rfl HH.out⟩
theorem ops_1 : opsZ 1 = [(⟨#[97, 110, 100]⟩, 6)] := by
  show [(bz "and", 6)] = _
  rw [show bz "and" = ⟨#[97, 110, 100]⟩ from by decide +kernel]
set_option maxHeartbeats 2000000 in
theorem psAnd_at {w : World} {p : Nat} {en : Int} {s : Pz} (hp : 9 ≤ p) (hg : Gl w) (h : PsAt w p en s) (hs : s.sum ≤ 1000000) {lev : Pz → Rz Int} (C : LevC p en lev 2 s.l.length) (S1 : LevSh lev) (T1 : LevTm lev) : Calls Tryd.prog 13 #[.pointer (some ⟨p, 0, none⟩)] w fun e w' => PsR p en w intV ((lev s).bind fun a s1 => loopZ en lev 1 (s1.l.length + 1) a s1) e w' := by
  obtain ⟨w1, hw1, n1, z1, m1⟩ := alloc_named2 w (.cells #[.string ⟨#[97, 110, 100]⟩, .int .u8 6] 58)
  have hrow : RowAt encOp w1 (.slice (some ⟨w.heap.size, 0, none⟩) 1 1) (opsZ 1) := by
    rw [ops_1]
    exact row_new n1
  have hap : Apart w1 p (.slice (some ⟨w.heap.size, 0, none⟩) 1 1) := fun k hk => by
    obtain rfl : w.heap.size = k := by simpa [Value.ownBlock] using hk
    have := Keep.new h m1 (Nat.le_refl _) (by omega)
    exact ⟨by have := this.1; omega, this.2.1, this.2.2⟩
  have CR := Lib.hid (psRow_at hp (hg.kept0 m1) (h.kept m1) hs (n := 1) (by omega) (many := true) (by simp) C S1 T1 hrow hap)
  have HUP := Lib.hid (Up.keep m1 h.lt)
  generalize ((lev s).bind fun a s1 => loopZ en lev 1 (s1.l.length + 1) a s1) = R at CR ⊢
  clear hrow hap n1 z1 m1 hg h C S1 T1
  go_enter Tryd.func13, Tryd.ntmps13
  go_wp2_with fail
  refine CR.out.mono ?_
  intro e w3 hR
  cases R with
  | ok a s1 =>
    obtain ⟨rfl, h1, h2⟩ := hR
    have HH := Lib.hid (And.intro h1 (HUP.out.trans h2))
    clear h1 h2
    go_wp2_with fail
    first | go_ret3 | go_ret2 | go_ret
    exact PsR.mk_ok rfl rfl HH.out.1 HH.out.2
  | bad q y =>
    obtain ⟨rfl, h2⟩ := hR
    have HH := Lib.hid (HUP.out.trans h2)
    clear h2
    go_wp2_with fail
    exact ⟨rfl, PsR.mk_bad rfl rfl HH.out⟩
theorem ops_3 : opsZ 3 = [(⟨#[61]⟩, 8), (⟨#[60, 62]⟩, 9), (⟨#[60]⟩, 10), (⟨#[60, 61]⟩, 11), (⟨#[62]⟩, 12), (⟨#[62, 61]⟩, 13)] := by
  show [(bz "=", 8), (bz "<>", 9), (bz "<", 10), (bz "<=", 11), (bz ">", 12), (bz ">=", 13)] = _
  rw [show bz "=" = ⟨#[61]⟩ from by decide +kernel, show bz "<>" = ⟨#[60, 62]⟩ from by decide +kernel, show bz "<" = ⟨#[60]⟩ from by decide +kernel, show bz "<=" = ⟨#[60, 61]⟩ from by decide +kernel, show bz ">" = ⟨#[62]⟩ from by decide +kernel, show bz ">=" = ⟨#[62, 61]⟩ from by decide +kernel]
set_option maxHeartbeats 2000000 in
theorem psCmp_at {w : World} {p : Nat} {en : Int} {s : Pz} (hp : 9 ≤ p) (hg : Gl w) (h : PsAt w p en s) (hs : s.sum ≤ 1000000) {lev : Pz → Rz Int} (C : LevC p en lev 4 s.l.length) (S1 : LevSh lev) (T1 : LevTm lev) : Calls Tryd.prog 15 #[.pointer (some ⟨p, 0, none⟩)] w fun e w' => PsR p en w intV ((lev s).bind fun a s1 => loopZ en lev 3 (s1.l.length + 1) a s1) e w' := by
  obtain ⟨w1, hw1, n1, z1, m1⟩ := alloc_named2 w (.cells #[.string ⟨#[61]⟩, .int .u8 8, .string ⟨#[60, 62]⟩, .int .u8 9, .string ⟨#[60]⟩, .int .u8 10, .string ⟨#[60, 61]⟩, .int .u8 11, .string ⟨#[62]⟩, .int .u8 12, .string ⟨#[62, 61]⟩, .int .u8 13] 58)
  have hrow : RowAt encOp w1 (.slice (some ⟨w.heap.size, 0, none⟩) 6 6) (opsZ 3) := by
    rw [ops_3]
    exact row_new n1
  have hap : Apart w1 p (.slice (some ⟨w.heap.size, 0, none⟩) 6 6) := fun k hk => by
    obtain rfl : w.heap.size = k := by simpa [Value.ownBlock] using hk
    have := Keep.new h m1 (Nat.le_refl _) (by omega)
    exact ⟨by have := this.1; omega, this.2.1, this.2.2⟩
  have CR := Lib.hid (psRow_at hp (hg.kept0 m1) (h.kept m1) hs (n := 3) (by omega) (many := false) (by simp) C S1 T1 hrow hap)
  have HUP := Lib.hid (Up.keep m1 h.lt)
  generalize ((lev s).bind fun a s1 => loopZ en lev 3 (s1.l.length + 1) a s1) = R at CR ⊢
  clear hrow hap n1 z1 m1 hg h C S1 T1
  go_enter Tryd.func15, Tryd.ntmps15
  go_wp2_with fail
  refine CR.out.mono ?_
  intro e w3 hR
  cases R with
  | ok a s1 =>
    obtain ⟨rfl, h1, h2⟩ := hR
    have HH := Lib.hid (And.intro h1 (HUP.out.trans h2))
    clear h1 h2
    go_wp2_with fail
    first | go_ret3 | go_ret2 | go_ret
    exact PsR.mk_ok rfl rfl HH.out.1 HH.out.2
  | bad q y =>
    obtain ⟨rfl, h2⟩ := hR
    have HH := Lib.hid (HUP.out.trans h2)
    clear h2
    go_wp2_with fail
    exact ⟨rfl, PsR.mk_bad rfl rfl HH.out⟩
theorem ops_4 : opsZ 4 = [(⟨#[43]⟩, 14), (⟨#[45]⟩, 15)] := by
  show [(bz "+", 14), (bz "-", 15)] = _
  rw [show bz "+" = ⟨#[43]⟩ from by decide +kernel, show bz "-" = ⟨#[45]⟩ from by decide +kernel]
set_option maxHeartbeats 2000000 in
theorem psSum_at {w : World} {p : Nat} {en : Int} {s : Pz} (hp : 9 ≤ p) (hg : Gl w) (h : PsAt w p en s) (hs : s.sum ≤ 1000000) {lev : Pz → Rz Int} (C : LevC p en lev 5 s.l.length) (S1 : LevSh lev) (T1 : LevTm lev) : Calls Tryd.prog 16 #[.pointer (some ⟨p, 0, none⟩)] w fun e w' => PsR p en w intV ((lev s).bind fun a s1 => loopZ en lev 4 (s1.l.length + 1) a s1) e w' := by
  obtain ⟨w1, hw1, n1, z1, m1⟩ := alloc_named2 w (.cells #[.string ⟨#[43]⟩, .int .u8 14, .string ⟨#[45]⟩, .int .u8 15] 58)
  have hrow : RowAt encOp w1 (.slice (some ⟨w.heap.size, 0, none⟩) 2 2) (opsZ 4) := by
    rw [ops_4]
    exact row_new n1
  have hap : Apart w1 p (.slice (some ⟨w.heap.size, 0, none⟩) 2 2) := fun k hk => by
    obtain rfl : w.heap.size = k := by simpa [Value.ownBlock] using hk
    have := Keep.new h m1 (Nat.le_refl _) (by omega)
    exact ⟨by have := this.1; omega, this.2.1, this.2.2⟩
  have CR := Lib.hid (psRow_at hp (hg.kept0 m1) (h.kept m1) hs (n := 4) (by omega) (many := true) (by simp) C S1 T1 hrow hap)
  have HUP := Lib.hid (Up.keep m1 h.lt)
  generalize ((lev s).bind fun a s1 => loopZ en lev 4 (s1.l.length + 1) a s1) = R at CR ⊢
  clear hrow hap n1 z1 m1 hg h C S1 T1
  go_enter Tryd.func16, Tryd.ntmps16
  go_wp2_with fail
  refine CR.out.mono ?_
  intro e w3 hR
  cases R with
  | ok a s1 =>
    obtain ⟨rfl, h1, h2⟩ := hR
    have HH := Lib.hid (And.intro h1 (HUP.out.trans h2))
    clear h1 h2
    go_wp2_with fail
    first | go_ret3 | go_ret2 | go_ret
    exact PsR.mk_ok rfl rfl HH.out.1 HH.out.2
  | bad q y =>
    obtain ⟨rfl, h2⟩ := hR
    have HH := Lib.hid (HUP.out.trans h2)
    clear h2
    go_wp2_with fail
    exact ⟨rfl, PsR.mk_bad rfl rfl HH.out⟩
theorem ops_5 : opsZ 5 = [(⟨#[42]⟩, 16), (⟨#[47]⟩, 17)] := by
  show [(bz "*", 16), (bz "/", 17)] = _
  rw [show bz "*" = ⟨#[42]⟩ from by decide +kernel, show bz "/" = ⟨#[47]⟩ from by decide +kernel]
set_option maxHeartbeats 2000000 in
theorem psProd_at {w : World} {p : Nat} {en : Int} {s : Pz} (hp : 9 ≤ p) (hg : Gl w) (h : PsAt w p en s) (hs : s.sum ≤ 1000000) {lev : Pz → Rz Int} (C : LevC p en lev 6 s.l.length) (S1 : LevSh lev) (T1 : LevTm lev) : Calls Tryd.prog 17 #[.pointer (some ⟨p, 0, none⟩)] w fun e w' => PsR p en w intV ((lev s).bind fun a s1 => loopZ en lev 5 (s1.l.length + 1) a s1) e w' := by
  obtain ⟨w1, hw1, n1, z1, m1⟩ := alloc_named2 w (.cells #[.string ⟨#[42]⟩, .int .u8 16, .string ⟨#[47]⟩, .int .u8 17] 58)
  have hrow : RowAt encOp w1 (.slice (some ⟨w.heap.size, 0, none⟩) 2 2) (opsZ 5) := by
    rw [ops_5]
    exact row_new n1
  have hap : Apart w1 p (.slice (some ⟨w.heap.size, 0, none⟩) 2 2) := fun k hk => by
    obtain rfl : w.heap.size = k := by simpa [Value.ownBlock] using hk
    have := Keep.new h m1 (Nat.le_refl _) (by omega)
    exact ⟨by have := this.1; omega, this.2.1, this.2.2⟩
  have CR := Lib.hid (psRow_at hp (hg.kept0 m1) (h.kept m1) hs (n := 5) (by omega) (many := true) (by simp) C S1 T1 hrow hap)
  have HUP := Lib.hid (Up.keep m1 h.lt)
  generalize ((lev s).bind fun a s1 => loopZ en lev 5 (s1.l.length + 1) a s1) = R at CR ⊢
  clear hrow hap n1 z1 m1 hg h C S1 T1
  go_enter Tryd.func17, Tryd.ntmps17
  go_wp2_with fail
  refine CR.out.mono ?_
  intro e w3 hR
  cases R with
  | ok a s1 =>
    obtain ⟨rfl, h1, h2⟩ := hR
    have HH := Lib.hid (And.intro h1 (HUP.out.trans h2))
    clear h1 h2
    go_wp2_with fail
    first | go_ret3 | go_ret2 | go_ret
    exact PsR.mk_ok rfl rfl HH.out.1 HH.out.2
  | bad q y =>
    obtain ⟨rfl, h2⟩ := hR
    have HH := Lib.hid (HUP.out.trans h2)
    clear h2
    go_wp2_with fail
    exact ⟨rfl, PsR.mk_bad rfl rfl HH.out⟩
set_option maxHeartbeats 2000000 in
theorem psNot_at {w : World} {p : Nat} {en : Int} {s : Pz} (hp : 9 ≤ p) (hg : Gl w) (h : PsAt w p en s) (hs : s.sum ≤ 1000000) {self up : Pz → Rz Int} (C1 : s.l ≠ [] → LevC p en self 2 (s.l.length - 1)) (C2 : LevC p en up 3 s.l.length) (D1 : LevDp self) (T1 : LevTm self) : Calls Tryd.prog 14 #[.pointer (some ⟨p, 0, none⟩)] w fun e w' => PsR p en w intV (aheadZ en self up (bz "not") 7 s) e w' := by
  have CR := Lib.hid (psAhead_at hp hg h hs (n := 2) (by omega) C1 C2 D1 T1 (bz "not") 7)
  rw [show bz "not" = ⟨#[110, 111, 116]⟩ from by decide +kernel] at CR ⊢
  generalize aheadZ en self up ⟨#[110, 111, 116]⟩ 7 s = R at CR ⊢
  clear hg h C1 C2 D1 T1
  go_enter Tryd.func14, Tryd.ntmps14
  go_wp2_with fail
  refine CR.out.mono ?_
  intro e w3 hR
  cases R with
  | ok a s1 =>
    obtain ⟨rfl, h1, h2⟩ := hR
    have HH := Lib.hid (And.intro h1 h2)
    clear h1 h2
    go_wp2_with fail
    first | go_ret3 | go_ret2 | go_ret
    exact PsR.mk_ok rfl rfl HH.out.1 HH.out.2
  | bad q y =>
    obtain ⟨rfl, h2⟩ := hR
    have HH := Lib.hid h2
    clear h2
    go_wp2_with fail
    exact ⟨rfl, PsR.mk_bad rfl rfl HH.out⟩
set_option maxHeartbeats 2000000 in
theorem psMinus_at {w : World} {p : Nat} {en : Int} {s : Pz} (hp : 9 ≤ p) (hg : Gl w) (h : PsAt w p en s) (hs : s.sum ≤ 1000000) {self up : Pz → Rz Int} (C1 : s.l ≠ [] → LevC p en self 6 (s.l.length - 1)) (C2 : LevC p en up 7 s.l.length) (D1 : LevDp self) (T1 : LevTm self) : Calls Tryd.prog 18 #[.pointer (some ⟨p, 0, none⟩)] w fun e w' => PsR p en w intV (aheadZ en self up (bz "-") 18 s) e w' := by
  have CR := Lib.hid (psAhead_at hp hg h hs (n := 6) (by omega) C1 C2 D1 T1 (bz "-") 18)
  rw [show bz "-" = ⟨#[45]⟩ from by decide +kernel] at CR ⊢
  generalize aheadZ en self up ⟨#[45]⟩ 18 s = R at CR ⊢
  clear hg h C1 C2 D1 T1
  go_enter Tryd.func18, Tryd.ntmps18
  go_wp2_with fail
  refine CR.out.mono ?_
  intro e w3 hR
  cases R with
  | ok a s1 =>
    obtain ⟨rfl, h1, h2⟩ := hR
    have HH := Lib.hid (And.intro h1 h2)
    clear h1 h2
    go_wp2_with fail
    first | go_ret3 | go_ret2 | go_ret
    exact PsR.mk_ok rfl rfl HH.out.1 HH.out.2
  | bad q y =>
    obtain ⟨rfl, h2⟩ := hR
    have HH := Lib.hid h2
    clear h2
    go_wp2_with fail
    exact ⟨rfl, PsR.mk_bad rfl rfl HH.out⟩
def levA (p : Nat) : Array Value := #[.func (.func 12) #[.pointer (some ⟨p, 0, none⟩)] #[], .func (.func 13) #[.pointer (some ⟨p, 0, none⟩)] #[], .func (.func 14) #[.pointer (some ⟨p, 0, none⟩)] #[], .func (.func 15) #[.pointer (some ⟨p, 0, none⟩)] #[], .func (.func 16) #[.pointer (some ⟨p, 0, none⟩)] #[], .func (.func 17) #[.pointer (some ⟨p, 0, none⟩)] #[], .func (.func 18) #[.pointer (some ⟨p, 0, none⟩)] #[], .func (.func 19) #[.pointer (some ⟨p, 0, none⟩)] #[]]
/-- what a level's method comes to -/
def MethC (fn : Nat) (p : Nat) (en : Int) (w : World) (R : Rz Int) : Prop := Calls Tryd.prog fn #[.pointer (some ⟨p, 0, none⟩)] w fun e w' => PsR p en w intV R e w'
set_option maxHeartbeats 2000000 in
theorem level_0 {w : World} {p : Nat} {en : Int} {R : Rz Int} (C : MethC 12 p en w R) : Calls Tryd.prog 9 #[.pointer (some ⟨p, 0, none⟩), .int .i64 0] w fun e w' => PsR p en w intV R e w' := by
  have CR := Lib.hid C
  unfold MethC at CR
  have hmf : ∀ (fn : Fn) (first cap : Array Value) (w : World), (Instr.makeFunc fn first cap).run Tryd.prog w = .ok (.func fn first cap) w := fun _ _ _ _ => rfl
  clear C
  have HIX := Lib.hid (show (Instr.index 51 (.agg (levA p)) (.int .i64 0)).run Tryd.prog w = .ok (.func (.func 12) #[.pointer (some ⟨p, 0, none⟩)] #[]) w from run_index_arr w 51 _ 8 _ _ 0 Tryd.underlying51 Tryd.underlying50 rfl (by kernel_rfl) (by omega) rfl)
  unfold levA at HIX
  go_enter Tryd.func9, Tryd.ntmps9
  go_wp2_with ((with_reducible refine xIndexA rfl HIX.out ?_ ?_ ?_ ?_); exact rfl; exact rfl)
  refine CR.out.mono ?_
  intro e w3 hR
  cases R with
  | ok a s1 =>
    obtain ⟨rfl, h1, h2⟩ := hR
    have HH := Lib.hid (And.intro h1 h2)
    clear h1 h2
    go_wp2_with fail
    first | go_ret3 | go_ret2 | go_ret
    exact PsR.mk_ok rfl rfl HH.out.1 HH.out.2
  | bad q y =>
    obtain ⟨rfl, h2⟩ := hR
    have HH := Lib.hid h2
    clear h2
    go_wp2_with fail
    exact ⟨rfl, PsR.mk_bad rfl rfl HH.out⟩
set_option maxHeartbeats 2000000 in
theorem level_1 {w : World} {p : Nat} {en : Int} {R : Rz Int} (C : MethC 13 p en w R) : Calls Tryd.prog 9 #[.pointer (some ⟨p, 0, none⟩), .int .i64 1] w fun e w' => PsR p en w intV R e w' := by
  have CR := Lib.hid C
  unfold MethC at CR
  have hmf : ∀ (fn : Fn) (first cap : Array Value) (w : World), (Instr.makeFunc fn first cap).run Tryd.prog w = .ok (.func fn first cap) w := fun _ _ _ _ => rfl
  clear C
  have HIX := Lib.hid (show (Instr.index 51 (.agg (levA p)) (.int .i64 1)).run Tryd.prog w = .ok (.func (.func 13) #[.pointer (some ⟨p, 0, none⟩)] #[]) w from run_index_arr w 51 _ 8 _ _ 1 Tryd.underlying51 Tryd.underlying50 rfl (by kernel_rfl) (by omega) rfl)
  unfold levA at HIX
  go_enter Tryd.func9, Tryd.ntmps9
  go_wp2_with ((with_reducible refine xIndexA rfl HIX.out ?_ ?_ ?_ ?_); exact rfl; exact rfl)
  refine CR.out.mono ?_
  intro e w3 hR
  cases R with
  | ok a s1 =>
    obtain ⟨rfl, h1, h2⟩ := hR
    have HH := Lib.hid (And.intro h1 h2)
    clear h1 h2
    go_wp2_with fail
    first | go_ret3 | go_ret2 | go_ret
    exact PsR.mk_ok rfl rfl HH.out.1 HH.out.2
  | bad q y =>
    obtain ⟨rfl, h2⟩ := hR
    have HH := Lib.hid h2
    clear h2
    go_wp2_with fail
    exact ⟨rfl, PsR.mk_bad rfl rfl HH.out⟩
set_option maxHeartbeats 2000000 in
theorem level_2 {w : World} {p : Nat} {en : Int} {R : Rz Int} (C : MethC 14 p en w R) : Calls Tryd.prog 9 #[.pointer (some ⟨p, 0, none⟩), .int .i64 2] w fun e w' => PsR p en w intV R e w' := by
  have CR := Lib.hid C
  unfold MethC at CR
  have hmf : ∀ (fn : Fn) (first cap : Array Value) (w : World), (Instr.makeFunc fn first cap).run Tryd.prog w = .ok (.func fn first cap) w := fun _ _ _ _ => rfl
  clear C
  have HIX := Lib.hid (show (Instr.index 51 (.agg (levA p)) (.int .i64 2)).run Tryd.prog w = .ok (.func (.func 14) #[.pointer (some ⟨p, 0, none⟩)] #[]) w from run_index_arr w 51 _ 8 _ _ 2 Tryd.underlying51 Tryd.underlying50 rfl (by kernel_rfl) (by omega) rfl)
  unfold levA at HIX
  go_enter Tryd.func9, Tryd.ntmps9
  go_wp2_with ((with_reducible refine xIndexA rfl HIX.out ?_ ?_ ?_ ?_); exact rfl; exact rfl)
  refine CR.out.mono ?_
  intro e w3 hR
  cases R with
  | ok a s1 =>
    obtain ⟨rfl, h1, h2⟩ := hR
    have HH := Lib.hid (And.intro h1 h2)
    clear h1 h2
    go_wp2_with fail
    first | go_ret3 | go_ret2 | go_ret
    exact PsR.mk_ok rfl rfl HH.out.1 HH.out.2
  | bad q y =>
    obtain ⟨rfl, h2⟩ := hR
    have HH := Lib.hid h2
    clear h2
    go_wp2_with fail
    exact ⟨rfl, PsR.mk_bad rfl rfl HH.out⟩
set_option maxHeartbeats 2000000 in
theorem level_3 {w : World} {p : Nat} {en : Int} {R : Rz Int} (C : MethC 15 p en w R) : Calls Tryd.prog 9 #[.pointer (some ⟨p, 0, none⟩), .int .i64 3] w fun e w' => PsR p en w intV R e w' := by
  have CR := Lib.hid C
  unfold MethC at CR
  have hmf : ∀ (fn : Fn) (first cap : Array Value) (w : World), (Instr.makeFunc fn first cap).run Tryd.prog w = .ok (.func fn first cap) w := fun _ _ _ _ => rfl
  clear C
  have HIX := Lib.hid (show (Instr.index 51 (.agg (levA p)) (.int .i64 3)).run Tryd.prog w = .ok (.func (.func 15) #[.pointer (some ⟨p, 0, none⟩)] #[]) w from run_index_arr w 51 _ 8 _ _ 3 Tryd.underlying51 Tryd.underlying50 rfl (by kernel_rfl) (by omega) rfl)
  unfold levA at HIX
  go_enter Tryd.func9, Tryd.ntmps9
  go_wp2_with ((with_reducible refine xIndexA rfl HIX.out ?_ ?_ ?_ ?_); exact rfl; exact rfl)
  refine CR.out.mono ?_
  intro e w3 hR
  cases R with
  | ok a s1 =>
    obtain ⟨rfl, h1, h2⟩ := hR
    have HH := Lib.hid (And.intro h1 h2)
    clear h1 h2
    go_wp2_with fail
    first | go_ret3 | go_ret2 | go_ret
    exact PsR.mk_ok rfl rfl HH.out.1 HH.out.2
  | bad q y =>
    obtain ⟨rfl, h2⟩ := hR
    have HH := Lib.hid h2
    clear h2
    go_wp2_with fail
    exact ⟨rfl, PsR.mk_bad rfl rfl HH.out⟩
set_option maxHeartbeats 2000000 in
theorem level_4 {w : World} {p : Nat} {en : Int} {R : Rz Int} (C : MethC 16 p en w R) : Calls Tryd.prog 9 #[.pointer (some ⟨p, 0, none⟩), .int .i64 4] w fun e w' => PsR p en w intV R e w' := by
  have CR := Lib.hid C
  unfold MethC at CR
  have hmf : ∀ (fn : Fn) (first cap : Array Value) (w : World), (Instr.makeFunc fn first cap).run Tryd.prog w = .ok (.func fn first cap) w := fun _ _ _ _ => rfl
  clear C
  have HIX := Lib.hid (show (Instr.index 51 (.agg (levA p)) (.int .i64 4)).run Tryd.prog w = .ok (.func (.func 16) #[.pointer (some ⟨p, 0, none⟩)] #[]) w from run_index_arr w 51 _ 8 _ _ 4 Tryd.underlying51 Tryd.underlying50 rfl (by kernel_rfl) (by omega) rfl)
  unfold levA at HIX
  go_enter Tryd.func9, Tryd.ntmps9
  go_wp2_with ((with_reducible refine xIndexA rfl HIX.out ?_ ?_ ?_ ?_); exact rfl; exact rfl)
  refine CR.out.mono ?_
  intro e w3 hR
  cases R with
  | ok a s1 =>
    obtain ⟨rfl, h1, h2⟩ := hR
    have HH := Lib.hid (And.intro h1 h2)
    clear h1 h2
    go_wp2_with fail
    first | go_ret3 | go_ret2 | go_ret
    exact PsR.mk_ok rfl rfl HH.out.1 HH.out.2
  | bad q y =>
    obtain ⟨rfl, h2⟩ := hR
    have HH := Lib.hid h2
    clear h2
    go_wp2_with fail
    exact ⟨rfl, PsR.mk_bad rfl rfl HH.out⟩
set_option maxHeartbeats 2000000 in
theorem level_5 {w : World} {p : Nat} {en : Int} {R : Rz Int} (C : MethC 17 p en w R) : Calls Tryd.prog 9 #[.pointer (some ⟨p, 0, none⟩), .int .i64 5] w fun e w' => PsR p en w intV R e w' := by
  have CR := Lib.hid C
  unfold MethC at CR
  have hmf : ∀ (fn : Fn) (first cap : Array Value) (w : World), (Instr.makeFunc fn first cap).run Tryd.prog w = .ok (.func fn first cap) w := fun _ _ _ _ => rfl
  clear C
  have HIX := Lib.hid (show (Instr.index 51 (.agg (levA p)) (.int .i64 5)).run Tryd.prog w = .ok (.func (.func 17) #[.pointer (some ⟨p, 0, none⟩)] #[]) w from run_index_arr w 51 _ 8 _ _ 5 Tryd.underlying51 Tryd.underlying50 rfl (by kernel_rfl) (by omega) rfl)
  unfold levA at HIX
  go_enter Tryd.func9, Tryd.ntmps9
  go_wp2_with ((with_reducible refine xIndexA rfl HIX.out ?_ ?_ ?_ ?_); exact rfl; exact rfl)
  refine CR.out.mono ?_
  intro e w3 hR
  cases R with
  | ok a s1 =>
    obtain ⟨rfl, h1, h2⟩ := hR
    have HH := Lib.hid (And.intro h1 h2)
    clear h1 h2
    go_wp2_with fail
    first | go_ret3 | go_ret2 | go_ret
    exact PsR.mk_ok rfl rfl HH.out.1 HH.out.2
  | bad q y =>
    obtain ⟨rfl, h2⟩ := hR
    have HH := Lib.hid h2
    clear h2
    go_wp2_with fail
    exact ⟨rfl, PsR.mk_bad rfl rfl HH.out⟩
set_option maxHeartbeats 2000000 in
theorem level_6 {w : World} {p : Nat} {en : Int} {R : Rz Int} (C : MethC 18 p en w R) : Calls Tryd.prog 9 #[.pointer (some ⟨p, 0, none⟩), .int .i64 6] w fun e w' => PsR p en w intV R e w' := by
  have CR := Lib.hid C
  unfold MethC at CR
  have hmf : ∀ (fn : Fn) (first cap : Array Value) (w : World), (Instr.makeFunc fn first cap).run Tryd.prog w = .ok (.func fn first cap) w := fun _ _ _ _ => rfl
  clear C
  have HIX := Lib.hid (show (Instr.index 51 (.agg (levA p)) (.int .i64 6)).run Tryd.prog w = .ok (.func (.func 18) #[.pointer (some ⟨p, 0, none⟩)] #[]) w from run_index_arr w 51 _ 8 _ _ 6 Tryd.underlying51 Tryd.underlying50 rfl (by kernel_rfl) (by omega) rfl)
  unfold levA at HIX
  go_enter Tryd.func9, Tryd.ntmps9
  go_wp2_with ((with_reducible refine xIndexA rfl HIX.out ?_ ?_ ?_ ?_); exact rfl; exact rfl)
  refine CR.out.mono ?_
  intro e w3 hR
  cases R with
  | ok a s1 =>
    obtain ⟨rfl, h1, h2⟩ := hR
    have HH := Lib.hid (And.intro h1 h2)
    clear h1 h2
    go_wp2_with fail
    first | go_ret3 | go_ret2 | go_ret
    exact PsR.mk_ok rfl rfl HH.out.1 HH.out.2
  | bad q y =>
    obtain ⟨rfl, h2⟩ := hR
    have HH := Lib.hid h2
    clear h2
    go_wp2_with fail
    exact ⟨rfl, PsR.mk_bad rfl rfl HH.out⟩
set_option maxHeartbeats 2000000 in
theorem level_7 {w : World} {p : Nat} {en : Int} {R : Rz Int} (C : MethC 19 p en w R) : Calls Tryd.prog 9 #[.pointer (some ⟨p, 0, none⟩), .int .i64 7] w fun e w' => PsR p en w intV R e w' := by
  have CR := Lib.hid C
  unfold MethC at CR
  have hmf : ∀ (fn : Fn) (first cap : Array Value) (w : World), (Instr.makeFunc fn first cap).run Tryd.prog w = .ok (.func fn first cap) w := fun _ _ _ _ => rfl
  clear C
  have HIX := Lib.hid (show (Instr.index 51 (.agg (levA p)) (.int .i64 7)).run Tryd.prog w = .ok (.func (.func 19) #[.pointer (some ⟨p, 0, none⟩)] #[]) w from run_index_arr w 51 _ 8 _ _ 7 Tryd.underlying51 Tryd.underlying50 rfl (by kernel_rfl) (by omega) rfl)
  unfold levA at HIX
  go_enter Tryd.func9, Tryd.ntmps9
  go_wp2_with ((with_reducible refine xIndexA rfl HIX.out ?_ ?_ ?_ ?_); exact rfl; exact rfl)
  refine CR.out.mono ?_
  intro e w3 hR
  cases R with
  | ok a s1 =>
    obtain ⟨rfl, h1, h2⟩ := hR
    have HH := Lib.hid (And.intro h1 h2)
    clear h1 h2
    go_wp2_with fail
    first | go_ret3 | go_ret2 | go_ret
    exact PsR.mk_ok rfl rfl HH.out.1 HH.out.2
  | bad q y =>
    obtain ⟨rfl, h2⟩ := hR
    have HH := Lib.hid h2
    clear h2
    go_wp2_with fail
    exact ⟨rfl, PsR.mk_bad rfl rfl HH.out⟩
end Go.Proofs.YtdaokholmlpfkaaDoor
namespace Go.Proofs.YtdaokholmlpfkaaDoor
open Go.RowKit Go.ChangeMaps Go.Deep
set_option linter.unusedSimpArgs false
set_option linter.unusedVariables false
set_option maxRecDepth 20000

theorem lev_row (en : Int) (f n : Nat) (h7 : n ≠ 7) (h2 : n ≠ 2) (h6 : n ≠ 6) (s : Pz) : levZ en (f + 1) n s = (levZ en f (n + 1) s).bind fun a s1 => loopZ en (levZ en f (n + 1)) n (s1.l.length + 1) a s1 := by
  conv => lhs; unfold levZ
  rw [if_neg h7, if_neg h2, if_neg h6]
theorem lev_not (en : Int) (f : Nat) (s : Pz) : levZ en (f + 1) 2 s = aheadZ en (levZ en f 2) (levZ en f 3) (bz "not") 7 s := by
  conv => lhs; unfold levZ
  rw [if_neg (by omega), if_pos rfl]
theorem lev_minus (en : Int) (f : Nat) (s : Pz) : levZ en (f + 1) 6 s = aheadZ en (levZ en f 6) (levZ en f 7) (bz "-") 18 s := by
  conv => lhs; unfold levZ
  rw [if_neg (by omega), if_neg (by omega), if_pos rfl]
theorem lev_atom (en : Int) (f : Nat) (s : Pz) : levZ en (f + 1) 7 s = atomZ en (levZ en f 0) s := by
  conv => lhs; unfold levZ
  rw [if_pos rfl]
theorem level_all {p : Nat} {en : Int} (hp : 9 ≤ p) : ∀ (f n m : Nat), n ≤ 7 → 9 * m + (7 - n) < f → LevC p en (levZ en f n) n m
  | 0, n, m, hn, hf => by omega
  | f + 1, n, m, hn, hf => by
    intro w s hg h hs hl
    have len_pos : s.l ≠ [] → 0 < s.l.length := List.length_pos_iff.2
    have h8 : n = 0 ∨ n = 1 ∨ n = 2 ∨ n = 3 ∨ n = 4 ∨ n = 5 ∨ n = 6 ∨ n = 7 := by omega
    rcases h8 with rfl | rfl | rfl | rfl | rfl | rfl | rfl | rfl
    · rw [lev_row en f 0 (by omega) (by omega) (by omega)]
      exact level_0 (psOr_at hp hg h hs (level_all hp f 1 _ (by omega) (by omega)) (levZ_sh en f 1) (levZ_tm en f 1))
    · rw [lev_row en f 1 (by omega) (by omega) (by omega)]
      exact level_1 (psAnd_at hp hg h hs (level_all hp f 2 _ (by omega) (by omega)) (levZ_sh en f 2) (levZ_tm en f 2))
    · rw [lev_not]
      exact level_2 (psNot_at hp hg h hs (fun hne => level_all hp f 2 _ (by omega) (by have := len_pos hne; omega)) (level_all hp f 3 _ (by omega) (by omega)) (levZ_dp en f 2) (levZ_tm en f 2))
    · rw [lev_row en f 3 (by omega) (by omega) (by omega)]
      exact level_3 (psCmp_at hp hg h hs (level_all hp f 4 _ (by omega) (by omega)) (levZ_sh en f 4) (levZ_tm en f 4))
    · rw [lev_row en f 4 (by omega) (by omega) (by omega)]
      exact level_4 (psSum_at hp hg h hs (level_all hp f 5 _ (by omega) (by omega)) (levZ_sh en f 5) (levZ_tm en f 5))
    · rw [lev_row en f 5 (by omega) (by omega) (by omega)]
      exact level_5 (psProd_at hp hg h hs (level_all hp f 6 _ (by omega) (by omega)) (levZ_sh en f 6) (levZ_tm en f 6))
    · rw [lev_minus]
      exact level_6 (psMinus_at hp hg h hs (fun hne => level_all hp f 6 _ (by omega) (by have := len_pos hne; omega)) (level_all hp f 7 _ (by omega) (by omega)) (levZ_dp en f 6) (levZ_tm en f 6))
    · rw [lev_atom]
      exact level_7 (psAtom_at hp hg h hs (fun hne => level_all hp f 0 _ (by omega) (by have := len_pos hne; omega)) (levZ_sh en f 0) (levZ_tm en f 0) (levZ_dp en f 0))
end Go.Proofs.YtdaokholmlpfkaaDoor
namespace Go.Proofs.YtdaokholmlpfkaaDoor
open Go.RowKit Go.ChangeMaps Go.Deep
set_option linter.unusedSimpArgs false
set_option linter.unusedVariables false
set_option maxRecDepth 20000

/-- the three results' blocks -/
structure Res3 (w : World) (b2 b3 b4 : Nat) (x y z : Value) : Prop where
  r2 : w.heap[b2]? = some (.cells #[x] 24 (0, 0))
  r3 : w.heap[b3]? = some (.cells #[y] 3 (0, 0))
  r4 : w.heap[b4]? = some (.cells #[z] 25 (0, 0))
theorem Res3.keep {w w' : World} {b2 b3 b4 : Nat} {x y z : Value} (h : Res3 w b2 b3 b4 x y z) (m : Mod [] w w') : Res3 w' b2 b3 b4 x y z := ⟨m.heap h.r2 (by simp), m.heap h.r3 (by simp), m.heap h.r4 (by simp)⟩
theorem set_one {w : World} {b : Nat} {u : Value} {t : TypeId} (h : w.heap[b]? = some (.cells #[u] t (0, 0))) (v : Value) : (w.setCell ⟨b, 0, none⟩ v).heap[b]? = some (.cells #[v] t (0, 0)) := by
  rw [heap_setCell_blk h]
  rfl
theorem Res3.set2 {w : World} {b2 b3 b4 : Nat} {x y z : Value} (h : Res3 w b2 b3 b4 x y z) (h23 : b2 ≠ b3) (h24 : b2 ≠ b4) (v : Value) : Res3 (w.setCell ⟨b2, 0, none⟩ v) b2 b3 b4 v y z := by
  have m : Mod [b2] w (w.setCell ⟨b2, 0, none⟩ v) := (Mod.refl _ _).setCell (by simp) _
  exact ⟨set_one h.r2 v, m.heap h.r3 (by simp; omega), m.heap h.r4 (by simp; omega)⟩
theorem Res3.set3 {w : World} {b2 b3 b4 : Nat} {x y z : Value} (h : Res3 w b2 b3 b4 x y z) (h23 : b2 ≠ b3) (h34 : b3 ≠ b4) (v : Value) : Res3 (w.setCell ⟨b3, 0, none⟩ v) b2 b3 b4 x v z := by
  have m : Mod [b3] w (w.setCell ⟨b3, 0, none⟩ v) := (Mod.refl _ _).setCell (by simp) _
  exact ⟨m.heap h.r2 (by simp; omega), set_one h.r3 v, m.heap h.r4 (by simp; omega)⟩
theorem Res3.set4 {w : World} {b2 b3 b4 : Nat} {x y z : Value} (h : Res3 w b2 b3 b4 x y z) (h24 : b2 ≠ b4) (h34 : b3 ≠ b4) (v : Value) : Res3 (w.setCell ⟨b4, 0, none⟩ v) b2 b3 b4 x y v := by
  have m : Mod [b4] w (w.setCell ⟨b4, 0, none⟩ v) := (Mod.refl _ _).setCell (by simp) _
  exact ⟨m.heap h.r2 (by simp; omega), m.heap h.r3 (by simp; omega), set_one h.r4 v⟩
theorem Res3.cells {w : World} {b2 b3 b4 : Nat} {x y z : Value} (h : Res3 w b2 b3 b4 x y z) : w.cell? ⟨b2, 0, none⟩ = some x ∧ w.frozen? ⟨b2, 0, none⟩ = false ∧ w.cell? ⟨b3, 0, none⟩ = some y ∧ w.frozen? ⟨b3, 0, none⟩ = false ∧ w.cell? ⟨b4, 0, none⟩ = some z ∧ w.frozen? ⟨b4, 0, none⟩ = false := by
  refine ⟨?_, frozen_blk h.r2 0, ?_, frozen_blk h.r3 0, ?_, frozen_blk h.r4 0⟩
  · rw [cell_blk h.r2 0]; rfl
  · rw [cell_blk h.r3 0]; rfl
  · rw [cell_blk h.r4 0]; rfl
set_option maxHeartbeats 2000000 in
theorem caught15 {w : World} {b2 b3 b4 : Nat} {x0 y0 z0 : Value} (h : Res3 w b2 b3 b4 x0 y0 z0) (h23 : b2 ≠ b3) (h24 : b2 ≠ b4) (h34 : b3 ≠ b4) (q x : Int) :
    CallsD Tryd.prog 8 #[.pointer (some ⟨b2, 0, none⟩), .pointer (some ⟨b3, 0, none⟩), .pointer (some ⟨b4, 0, none⟩)] (.panicking (stopP q x)) w fun e u' w' =>
      e = .returned (.tuple #[]) ∧ u' = .panicking [{ v := .iface 40 (.agg #[.int .i64 q, .int .i64 x]), recovered := true }] ∧ Mod [b2, b3, b4] w w' ∧ Res3 w' b2 b3 b4 (.slice none 0 0) (.int .i64 q) (.int .i64 x) := by
  refine callsD_of_wpS Tryd.func8 rfl fun c₀ cs hu => ?_
  obtain ⟨w1, hw1, n1, z1, m1⟩ := alloc_named2 w (.cells #[.int .i64 q, .int .i64 x] 40)
  obtain ⟨wd, hwd, md⟩ : ∃ D, w1.drew = D ∧ Mod [] w1 D := ⟨_, rfl, (Mod.refl [] w1).drew⟩
  have hd := h.keep (m1.trans md)
  have nd := md.heap n1 (by simp)
  have hb2 := lt_of_heap h.r2
  have hb3 := lt_of_heap h.r3
  have hb4 := lt_of_heap h.r4
  have ha := hd.set2 h23 h24 (.slice none 0 0)
  have ma : Mod [b2] wd (wd.setCell ⟨b2, 0, none⟩ (.slice none 0 0)) := (Mod.refl _ _).setCell (by simp) _
  obtain ⟨wa, hwa⟩ : ∃ D, wd.setCell ⟨b2, 0, none⟩ (.slice none 0 0) = D := ⟨_, rfl⟩
  rw [hwa] at ha ma
  have na := ma.heap nd (by simp; omega)
  have hb := ha.set3 h23 h34 (.int .i64 q)
  have mb : Mod [b3] wa (wa.setCell ⟨b3, 0, none⟩ (.int .i64 q)) := (Mod.refl _ _).setCell (by simp) _
  obtain ⟨wb, hwb⟩ : ∃ D, wa.setCell ⟨b3, 0, none⟩ (.int .i64 q) = D := ⟨_, rfl⟩
  rw [hwb] at hb mb
  have nb := mb.heap na (by simp; omega)
  have hc := hb.set4 h24 h34 (.int .i64 x)
  have mc : Mod [b4] wb (wb.setCell ⟨b4, 0, none⟩ (.int .i64 x)) := (Mod.refl _ _).setCell (by simp) _
  obtain ⟨wc, hwc⟩ : ∃ D, wb.setCell ⟨b4, 0, none⟩ (.int .i64 x) = D := ⟨_, rfl⟩
  rw [hwc] at hc mc
  have HC := Lib.hid hc
  have HM := Lib.hid (((((m1.trans md).nil (l := [b2, b3, b4])).trans (ma.mono (by simp))).trans (mb.mono (by simp))).trans (mc.mono (by simp)))
  have d0 := cell_blk nd 0
  have d1 := cell_blk nd 1
  have a0 := cell_blk na 0
  have a1 := cell_blk na 1
  have p0 := cell_blk nb 0
  have p1 := cell_blk nb 1
  simp only [List.getElem?_toArray, List.getElem?_cons_succ, List.getElem?_cons_zero] at d0 d1 a0 a1 p0 p1
  obtain ⟨e2, f2, -⟩ := hd.cells
  obtain ⟨-, -, e3, f3, -⟩ := ha.cells
  obtain ⟨-, -, -, -, e4, f4⟩ := hb.cells
  clear h n1 m1 md hd nd ma ha na mb hb nb hc mc
  apply wpS_seq
  apply wpS_region
  simp only [stopP] at hu
  simp [wpOpsS, go_sem, recoverD, hu, Tryd.ntmps8, Exit.thenS]
  refine wpS_of_wp ?_
  rw [show (#[Value.pointer (some ⟨b2, 0, none⟩), Value.pointer (some ⟨b3, 0, none⟩), Value.pointer (some ⟨b4, 0, none⟩)] ++ (Array.replicate 13 undef).setIfInBounds 3 (Value.iface 40 (Value.agg #[.int .i64 q, .int .i64 x]))) = #[Value.pointer (some ⟨b2, 0, none⟩), Value.pointer (some ⟨b3, 0, none⟩), Value.pointer (some ⟨b4, 0, none⟩), undef, undef, undef, Value.iface 40 (Value.agg #[.int .i64 q, .int .i64 x]), undef, undef, undef, undef, undef, undef, undef, undef, undef] from rfl]
  clear hu
  have hta : ∀ w : World, (Instr.typeAssert (.iface 40 (.agg #[.int .i64 q, .int .i64 x])) 20 40 true).run Tryd.prog w = .ok (.tuple #[.agg #[.int .i64 q, .int .i64 x], .bool true]) w := fun w => by kernel_rfl
  go_wp2_with fail
  refine wp_plan [([0, 2, 1, 3], 4, [0, 2, 1, 3]), ([], 5, [2, 3]), ([], 6, [])] [] (by kernel_rfl) (by kernel_rfl) ?_
  simp only [wpSegs, opsOf, List.map_cons, List.map_nil, opN, List.getD_cons_zero, List.getD_cons_succ]
  go_wp2_with fail
  refine ⟨by first | trivial | rfl | exact hwd.symm, ?_⟩
  go_wp2_with fail
  refine ⟨?agA, ?_⟩
  case agA =>
    intro i hi hw
    simp only [List.mem_cons, List.not_mem_nil, or_false] at hi
    rcases hi with rfl | rfl | rfl | rfl
    all_goals (simp only [opN, List.getD_cons_zero, List.getD_cons_succ, slotOf]; go_simp)
  go_wp2_with fail
  refine ⟨by first | trivial | rfl, ?_⟩
  go_wp2_with fail
  refine ⟨?agB, ?_⟩
  case agB =>
    intro i hi hw
    simp only [List.mem_cons, List.not_mem_nil, or_false] at hi
    rcases hi with rfl | rfl
    all_goals (simp only [opN, List.getD_cons_zero, List.getD_cons_succ, slotOf]; go_simp)
  go_wp2_with fail
  refine ⟨by first | trivial | rfl, ?_⟩
  go_wp2_with fail
  refine ⟨again_nil, ?_⟩
  go_wp2_with fail
  refine ⟨by first | trivial | rfl, ?_⟩
  go_wp2_with fail
  exact ⟨rfl, _, rfl, .tuple #[], by simp [results, Tryd.results8], rfl, rfl, HM.out, HC.out⟩
theorem idle15 {w : World} {b2 b3 b4 : Nat} :
    CallsD Tryd.prog 8 #[.pointer (some ⟨b2, 0, none⟩), .pointer (some ⟨b3, 0, none⟩), .pointer (some ⟨b4, 0, none⟩)] .returning w fun e u' w' => e = .returned (.tuple #[]) ∧ u' = .returning ∧ w' = w := by
  refine callsD_of_wpS Tryd.func8 rfl fun c₀ cs hu => ?_
  apply wpS_seq
  apply wpS_region
  simp [wpOpsS, go_sem, recoverD, hu, Tryd.ntmps8, Exit.thenS]
  refine wpS_of_wp ?_
  rw [show (#[Value.pointer (some ⟨b2, 0, none⟩), Value.pointer (some ⟨b3, 0, none⟩), Value.pointer (some ⟨b4, 0, none⟩)] ++ (Array.replicate 13 undef).setIfInBounds 3 Value.nilIface) = #[Value.pointer (some ⟨b2, 0, none⟩), Value.pointer (some ⟨b3, 0, none⟩), Value.pointer (some ⟨b4, 0, none⟩), undef, undef, undef, Value.nilIface, undef, undef, undef, undef, undef, undef, undef, undef, undef] from rfl]
  go_wp2_with fail
  exact ⟨rfl, .returning, by rw [← hu], .tuple #[], by simp [results, Tryd.results8], rfl, rfl, rfl⟩
end Go.Proofs.YtdaokholmlpfkaaDoor
