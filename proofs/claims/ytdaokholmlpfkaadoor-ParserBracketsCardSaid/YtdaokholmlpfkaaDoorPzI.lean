/- Formulas: whole. -/
import Derived.Test.YtdaokholmlpfkaaDoorPzH
import Derived.Test.YtdaokholmlpfkaaDoorPzB
namespace Go.Proofs.YtdaokholmlpfkaaDoor
open Go.RowKit Go.ChangeMaps Go.Deep
set_option linter.unusedSimpArgs false
set_option linter.unusedVariables false
set_option maxRecDepth 20000

def encNz (n : Nz) : List Value := [.int .u8 n.op, .int .i64 n.c, .int .i64 n.s, .string n.name, .int .i64 n.k, .int .i64 n.k0, .int .i64 n.k1, .int .i64 n.k2, .int .i64 n.at_]
theorem encNz_len (x : Nz) : (encNz x).length = 9 := rfl
theorem encNz_one (x : Nz) : ∀ v ∈ encNz x, v.oneCell' = true := by
  intro v hv
  simp only [encNz, List.mem_cons, List.not_mem_nil, or_false] at hv
  rcases hv with rfl | rfl | rfl | rfl | rfl | rfl | rfl | rfl | rfl <;> rfl
theorem elemNz : ElemOk Tryd.prog 24 34 9 80 := .mk' Tryd.underlying24 (by omega) (by kernel_rfl)
/-- the reading at block p -/
structure PsX (w : World) (p : Nat) (en : Int) (s : Pz) (la : Option Addr) (lc : Nat) (tv : Value) : Prop where
  blk : w.heap[p]? = some (.cells #[.slice la s.l.length lc, .int .i64 en, .int .i64 s.deep, tv] 43 (0, 0))
  row : RowAt encTk w (.slice la s.l.length lc) s.l
  own : OwnR encNz 9 34 w (p + 1) tv s.tree
  low : ∀ a, la = some a → a.block < p
  deep : 0 ≤ s.deep ∧ s.deep ≤ 16
  len : s.l.length ≤ 1000000
  txt : ∀ t ∈ s.l, t.text.size ≤ 1000000
def PsAt (w : World) (p : Nat) (en : Int) (s : Pz) : Prop := ∃ la lc tv, PsX w p en s la lc tv
theorem PsX.lt {w : World} {p : Nat} {en : Int} {s : Pz} {la : Option Addr} {lc : Nat} {tv : Value} (h : PsX w p en s la lc tv) : p < w.heap.size := lt_of_heap h.blk
theorem RowAt.sub {w w' : World} {la : Option Addr} {n c : Nat} {l : List Tk} {p : Nat} (h : RowAt encTk w (.slice la n c) l) (hb : ∀ k, k < p → w'.heap[k]? = w.heap[k]?) (hl : ∀ a, la = some a → a.block < p) : RowAt encTk w' (.slice la n c) l := by
  generalize hv : Value.slice la n c = v at h
  cases h with
  | nil a cap => exact .nil a cap
  | at_ b o cap l hc hr =>
    injection hv with h1 h2 h3
    have hb2 := hl _ h1
    dsimp only at hb2
    exact .at_ b o cap l hc (fun j u hu => by
      have := hr j u hu
      unfold World.cell? at this ⊢
      rw [hb b hb2]
      exact this)
theorem PsX.kept {w w' : World} {p : Nat} {en : Int} {s : Pz} {la : Option Addr} {lc : Nat} {tv : Value} (h : PsX w p en s la lc tv) (m : Mod [] w w') : PsX w' p en s la lc tv :=
  ⟨m.heap h.blk (by simp), h.row.kept0 m, h.own.kept0 m, h.low, h.deep, h.len, h.txt⟩
theorem PsAt.kept {w w' : World} {p : Nat} {en : Int} {s : Pz} (h : PsAt w p en s) (m : Mod [] w w') : PsAt w' p en s := by
  obtain ⟨la, lc, tv, h1⟩ := h
  exact ⟨la, lc, tv, h1.kept m⟩
/-- block k holds the nodes of the reading at p -/
def Tb (w : World) (p k : Nat) : Prop := ∃ v, w.cell? ⟨p, 3, none⟩ = some v ∧ v.ownBlock = some k
/-- the reading at p goes on: nothing has turned but it and its nodes -/
structure Up (p : Nat) (w w' : World) : Prop where
  os : w'.os = w.os
  tape : w'.tape = w.tape
  output : w'.output = w.output
  size : w.heap.size ≤ w'.heap.size
  block : ∀ k, k < w.heap.size → k ≠ p → ¬ Tb w p k → w'.heap[k]? = w.heap[k]?
  tb : ∀ k, k < w.heap.size → Tb w' p k → Tb w p k
theorem Up.refl (p : Nat) (w : World) : Up p w w := ⟨rfl, rfl, rfl, Nat.le_refl _, fun _ _ _ _ => rfl, fun _ _ h => h⟩
theorem Up.trans {p : Nat} {a b c : World} (h : Up p a b) (k : Up p b c) : Up p a c :=
  ⟨k.os.trans h.os, k.tape.trans h.tape, k.output.trans h.output, Nat.le_trans h.size k.size, fun i hi hp ht => (k.block i (Nat.lt_of_lt_of_le hi h.size) hp (fun hb => ht (h.tb i hi hb))).trans (h.block i hi hp ht), fun i hi ht => h.tb i hi (k.tb i (Nat.lt_of_lt_of_le hi h.size) ht)⟩
theorem Tb.of_block {w w' : World} {p k : Nat} (e : w'.heap[p]? = w.heap[p]?) (h : Tb w' p k) : Tb w p k := by
  obtain ⟨v, h1, h2⟩ := h
  refine ⟨v, ?_, h2⟩
  unfold World.cell? at h1 ⊢
  rw [← e]
  exact h1
theorem Up.keep {p : Nat} {w w' : World} (m : Mod [] w w') (hp : p < w.heap.size) : Up p w w' := ⟨m.os, m.tape, m.output, m.size, fun k hk _ _ => m.block k hk (by simp), fun k hk h => h.of_block (m.block p hp (by simp))⟩
theorem PsX.tb {w : World} {p : Nat} {en : Int} {s : Pz} {la : Option Addr} {lc : Nat} {tv : Value} (h : PsX w p en s la lc tv) (k : Nat) : Tb w p k ↔ tv.ownBlock = some k := by
  have c3 := cell_blk h.blk 3
  simp only [List.getElem?_toArray, List.getElem?_cons_succ, List.getElem?_cons_zero] at c3
  constructor
  · rintro ⟨v, h1, h2⟩
    rw [c3] at h1
    cases h1
    exact h2
  · intro h2
    exact ⟨tv, c3, h2⟩
theorem PsX.tb_lt {w : World} {p : Nat} {en : Int} {s : Pz} {la : Option Addr} {lc : Nat} {tv : Value} (h : PsX w p en s la lc tv) {k : Nat} (ht : Tb w p k) : p < k ∧ k < w.heap.size := by
  have := World.ownsRow.lt h.own k ((h.tb k).1 ht)
  omega
theorem PsAt.tb_lt {w : World} {p : Nat} {en : Int} {s : Pz} (h : PsAt w p en s) {k : Nat} (ht : Tb w p k) : p < k ∧ k < w.heap.size := by
  obtain ⟨la, lc, tv, hx⟩ := h
  exact hx.tb_lt ht
theorem Up.low {p : Nat} {w w' : World} {en : Int} {s : Pz} (h : Up p w w') (hs : PsAt w p en s) {k : Nat} (hk : k < p) : w'.heap[k]? = w.heap[k]? := by
  obtain ⟨la, lc, tv, hx⟩ := hs
  exact h.block k (Nat.lt_trans hk hx.lt) (by omega) (fun ht => by have := (hx.tb_lt ht).1; omega)
theorem Up.mod {p : Nat} {w0 w w' : World} {en : Int} {s : Pz} (h : Up p w w') (hs : PsAt w p en s) (m : Mod [] w0 w) (hp : w0.heap.size ≤ p) : Mod [] w0 w' := ⟨h.os.trans m.os, h.tape.trans m.tape, h.output.trans m.output, Nat.le_trans m.size h.size, fun k hk _ => (h.low hs (by omega)).trans (m.block k hk (by simp))⟩
theorem Up.gl {p : Nat} {w w' : World} {en : Int} {s : Pz} (h : Up p w w') (hs : PsAt w p en s) (hg : Gl w) (hp : 9 ≤ p) : Gl w' := by
  have m : Mod (List.range' p w.heap.size) w w' := ⟨h.os, h.tape, h.output, h.size, fun k hk hn => h.low hs (by
    by_cases hh : k < p
    · exact hh
    · exact absurd (List.mem_range'_1.2 ⟨by omega, by omega⟩) hn)⟩
  exact hg.kept m (fun k hk => by have := (List.mem_range'_1.1 hk).1; omega)
/-- a cell of the reading's own is written, not its nodes' -/
theorem PsX.up {w : World} {p : Nat} {en : Int} {s : Pz} {la : Option Addr} {lc : Nat} {tv : Value} (h : PsX w p en s la lc tv) {i : Nat} (hi : i ≠ 3) (v : Value) : Up p w (w.setCell ⟨p, i, none⟩ v) := by
  have m : Mod [p] w (w.setCell ⟨p, i, none⟩ v) := (Mod.refl _ _).setCell (by simp) _
  refine ⟨m.os, m.tape, m.output, m.size, fun k hk hp _ => m.block k hk (by simpa using hp), fun k hk ⟨x, h1, h2⟩ => ⟨x, ?_, h2⟩⟩
  have e := cell_blk (heap_setCell_blk h.blk i v) 3
  rw [e] at h1
  rw [cell_blk h.blk 3, ← h1, Array.getElem?_setIfInBounds_ne hi]
/-- the next word's cells -/
theorem PsX.head {w : World} {p : Nat} {en : Int} {s : Pz} {la : Option Addr} {lc : Nat} {tv : Value} (h : PsX w p en s la lc tv) {t : Tk} {r : List Tk} (hs : s.l = t :: r) : ∃ b o, la = some ⟨b, o, none⟩ ∧ b < p ∧ s.l.length ≤ lc ∧ w.cell? ⟨b, o, none⟩ = some (.int .u8 t.kind) ∧ w.cell? ⟨b, o + 1, none⟩ = some (.string t.text) ∧ w.cell? ⟨b, o + 2, none⟩ = some (.int .i64 t.c) ∧ w.cell? ⟨b, o + 3, none⟩ = some (.int .i64 t.s) ∧ w.cell? ⟨b, o + 4, none⟩ = some (.int .i64 t.at_) := by
  obtain ⟨b, o, rfl, hc, hg⟩ := h.row.get encTk_len (i := 0) (by rw [hs]; simp)
  have e : s.l[0]'(by rw [hs]; simp) = t := by simp [hs]
  rw [e] at hg
  have g := fun j u (hj : j < 5) hu => hg j u hj hu
  refine ⟨b, o, rfl, h.low _ rfl, hc, ?_, ?_, ?_, ?_, ?_⟩
  · simpa using g 0 _ (by omega) rfl
  · simpa using g 1 _ (by omega) rfl
  · simpa using g 2 _ (by omega) rfl
  · simpa using g 3 _ (by omega) rfl
  · simpa using g 4 _ (by omega) rfl
theorem psAt_at {w : World} {p : Nat} {en : Int} {s : Pz} (h : PsAt w p en s) : Calls Tryd.prog 20 #[.pointer (some ⟨p, 0, none⟩)] w fun e w' => e = .returned (.int .i64 (placeZ en s.l)) ∧ w' = w := by
  obtain ⟨la, lc, tv, hx⟩ := h
  have c0 := cell_blk hx.blk 0
  have c1 := cell_blk hx.blk 1
  simp only [List.getElem?_toArray, List.getElem?_cons_succ, List.getElem?_cons_zero] at c0 c1
  cases hs : s.l with
  | nil =>
    rw [hs] at c0
    have HP := Lib.hid (show placeZ en [] = en from rfl)
    clear hx hs
    go_enter Tryd.func20, Tryd.ntmps20
    go_wp2_with fail
    go_ret
    exact ⟨by rw [HP.out]; rfl, rfl⟩
  | cons t r =>
    obtain ⟨b, o, rfl, hb, hc, k0, k1, k2, k3, k4⟩ := hx.head hs
    rw [hs] at c0
    have HP := Lib.hid (show placeZ en (t :: r) = t.at_ from rfl)
    have d0 : decide ((0 : Int) < (((t :: r).length : Nat) : Int)) = true := decide_eq_true (by first | (simp; done) | (simp; omega))
    have d0' : 0 < (t :: r).length := by simp
    generalize (t :: r).length = n at *
    generalize t.at_ = ta at *
    clear hx hs
    go_enter Tryd.func20, Tryd.ntmps20
    go_wp2_with fail
    go_ret
    exact ⟨by rw [HP.out]; rfl, rfl⟩
end Go.Proofs.YtdaokholmlpfkaaDoor
namespace Go.Proofs.YtdaokholmlpfkaaDoor
set_option linter.unusedVariables false
set_option linter.unusedSimpArgs false

def ex1 : Int × Int × List Nz := treeZ (bz "a + 2 * b").data.toList
def ex2 : Int × Int × List Nz := treeZ (bz "not a = b").data.toList
def ex3 : Int × Int × List Nz := treeZ (bz "a < b < c").data.toList
def ex4 : Int × Int × List Nz := treeZ (bz "lag(a, 3661)").data.toList
theorem ex1_is : ex1.2.1 = 0 ∧ ex1.2.2.length = 5 ∧ (ex1.2.2[4]?.map fun n => (n.op, n.k0, n.k1, n.k2)) = some (14, 0, 3, -1) ∧ (ex1.2.2[3]?.map (·.op)) = some 16 := by decide +kernel
theorem ex2_is : ex2.2.1 = 0 ∧ ex2.2.2.length = 4 ∧ (ex2.2.2[3]?.map (·.op)) = some 7 := by decide +kernel
theorem ex3_is : ex3.2.1 = 4 ∧ ex3.1 = 6 := by decide +kernel
theorem ex4_is : ex4.2.1 = 4 ∧ ex4.1 = 7 := by decide +kernel
end Go.Proofs.YtdaokholmlpfkaaDoor
namespace Go.Proofs.YtdaokholmlpfkaaDoor
set_option linter.unusedVariables false
set_option linter.unusedSimpArgs false

/-- a word, a node, one byte further on -/
def Tk.sh (t : Tk) : Tk := { t with at_ := t.at_ + 1 }
def Nz.sh (n : Nz) : Nz := { n with at_ := n.at_ + 1 }
/-- the closing parenthesis -/
def shutT (en : Int) : Tk := ⟨3, bz ")", 0, 0, en + 1⟩
/-- the reading of a text in parentheses -/
def Pz.in (en : Int) (s : Pz) : Pz := ⟨s.l.map Tk.sh ++ [shutT en], s.deep + 1, s.tree.map Nz.sh⟩
/-- what it comes to: the same, or too deep -/
def SimR {α : Type} (en : Int) (r r' : Rz α) : Prop := ∀ a s, r = .ok a s → r' = .ok a (s.in en) ∨ ∃ p, r' = .bad p 10
theorem SimR.bind {α β : Type} {en : Int} {r r' : Rz α} {f f' : α → Pz → Rz β} (h : SimR en r r') (hf : ∀ a s, r = .ok a s → SimR en (f a s) (f' a (s.in en))) : SimR en (r.bind f) (r'.bind f') := by
  intro b s hb
  cases r with
  | ok a s1 =>
    rcases h a s1 rfl with h1 | ⟨p, h1⟩
    · rw [h1]
      exact hf a s1 rfl b s hb
    · rw [h1]
      exact .inr ⟨p, rfl⟩
  | bad p e => cases hb
theorem SimR.ok {α : Type} {en : Int} {a : α} {s : Pz} : SimR en (.ok a s) (.ok a (s.in en)) := fun b t h => by cases h; exact .inl rfl
theorem SimR.bad {α : Type} {en p e : Int} {r : Rz α} : SimR en (.bad p e) r := fun b t h => by cases h
theorem SimR.fail {α : Type} {en en2 e : Int} {s : Pz} {r : Rz α} : SimR en (failZ en2 e s) r := SimR.bad
theorem in_cons {en : Int} {s : Pz} {t : Tk} {l : List Tk} (h : s.l = t :: l) : (s.in en).l = t.sh :: (l.map Tk.sh ++ [shutT en]) := by simp [Pz.in, h]
theorem in_next {en : Int} {s : Pz} {t : Tk} {l : List Tk} (h : s.l = t :: l) : (s.in en).next = s.next.in en := by
  simp [Pz.next, Pz.in, h]
theorem isZ_cons {l : List Tk} {x : ByteArray} (h : isZ l x = true) : ∃ t r, l = t :: r := by
  cases l with
  | nil => simp [isZ] at h
  | cons t r => exact ⟨t, r, rfl⟩
theorem isZ_in {en : Int} {s : Pz} {x : ByteArray} (hx : x ≠ bz ")") : isZ (s.in en).l x = isZ s.l x := by
  cases hl : s.l with
  | nil =>
    simp only [Pz.in, hl, List.map_nil, List.nil_append, isZ, shutT]
    rw [decide_eq_false (fun e => hx e.symm)]
    rfl
  | cons t r =>
    rw [in_cons hl]
    rfl
theorem isZ_in' {en : Int} {s : Pz} {x : ByteArray} (h : isZ s.l x = true) : isZ (s.in en).l x = true := by
  obtain ⟨t, r, hl⟩ := isZ_cons h
  rw [in_cons hl]
  rw [hl] at h
  exact h
theorem place_in {en en2 : Int} {s : Pz} {t : Tk} {l : List Tk} (h : s.l = t :: l) : placeZ en2 (s.in en).l = placeZ en s.l + 1 := by
  rw [in_cons h, h]
  rfl
theorem mustZ_sim {en en2 : Int} {x : ByteArray} {s : Pz} : SimR en (mustZ en x s) (mustZ en2 x (s.in en)) := by
  unfold mustZ
  split
  · rename_i h
    obtain ⟨t, r, hl⟩ := isZ_cons h
    rw [if_pos (isZ_in' h), in_next hl]
    exact SimR.ok
  · exact SimR.fail
theorem openZ_sim {en en2 : Int} {s : Pz} : SimR en (openZ en s) (openZ en2 (s.in en)) := by
  intro a t h
  unfold openZ at *
  split at h
  · cases h
  · cases h
    by_cases h2 : (s.in en).deep = 16
    · rw [if_pos h2]
      exact .inr ⟨_, rfl⟩
    · rw [if_neg h2]
      refine .inl ?_
      simp [Pz.in]
theorem close_in {en : Int} {s : Pz} : (s.in en).close = s.close.in en := by
  simp [Pz.close, Pz.in]
theorem nodeZ_sim {en : Int} {n n' : Nz} {s : Pz} (h : n' = n.sh) : SimR en (nodeZ n s) (nodeZ n' (s.in en)) := by
  intro a t k
  unfold nodeZ at *
  cases k
  refine .inl ?_
  simp [Pz.in, h]
theorem fieldZ_sim {en en2 : Int} {s : Pz} : SimR en (fieldZ en s) (fieldZ en2 (s.in en)) := by
  unfold fieldZ
  split
  · exact SimR.fail
  · rename_i t r hl
    rw [in_cons hl]
    dsimp only
    split
    · rename_i h
      rw [if_pos (show t.sh.kind = 1 ∧ nameZ t.sh.text = true from h), in_next hl]
      exact SimR.ok
    · exact SimR.fail
theorem wholeZ_sim {en en2 most : Int} {s : Pz} : SimR en (wholeZ en most s) (wholeZ en2 most (s.in en)) := by
  unfold wholeZ
  split
  · exact SimR.fail
  · rename_i t r hl
    rw [in_cons hl]
    dsimp only
    split
    · rename_i h
      rw [if_pos (show t.sh.kind = 2 ∧ t.sh.s = 0 ∧ t.sh.c ≤ most from h), in_next hl]
      exact SimR.ok
    · exact SimR.fail
theorem findZ_in {en : Int} {s : Pz} : ∀ (os : List (ByteArray × Int)), (∀ o ∈ os, o.1 ≠ bz ")") → findZ (s.in en).l os = findZ s.l os
  | [], _ => rfl
  | o :: os, h => by
    unfold findZ
    rw [isZ_in (h o (by simp)), findZ_in os (fun o ho => h o (by simp [ho]))]
theorem infixZ_in {en : Int} {s : Pz} (n : Nat) : infixZ n (s.in en).l = infixZ n s.l := by
  refine findZ_in _ fun o ho => ?_
  unfold opsZ at ho
  split at ho <;> simp only [List.mem_cons, List.not_mem_nil, or_false] at ho
  · subst ho; decide +kernel
  · subst ho; decide +kernel
  · rcases ho with rfl | rfl | rfl | rfl | rfl | rfl <;> decide +kernel
  · rcases ho with rfl | rfl <;> decide +kernel
  · rcases ho with rfl | rfl <;> decide +kernel
theorem infix_cons {n : Nat} {l : List Tk} (h : infixZ n l ≠ 0) : ∃ t r, l = t :: r := by
  cases l with
  | nil =>
    exfalso
    apply h
    unfold infixZ
    generalize opsZ n = os
    induction os with
    | nil => rfl
    | cons o os ih => unfold findZ; rw [if_neg (by simp [isZ])]; exact ih
  | cons t r => exact ⟨t, r, rfl⟩
def LevSim (en : Int) (lev lev' : Pz → Rz Int) : Prop := ∀ s, SimR en (lev s) (lev' (s.in en))
theorem argZ_sim {en en2 : Int} {lev lev' : Pz → Rz Int} (hl : LevSim en lev lev') {most : Int} {a : Az} {x : Nz} {ks : List Int} {s : Pz} : ∀ r, argZ en lev most a x ks s = r → ∀ y s1, r = .ok y s1 → argZ en2 lev' most a x.sh ks (s.in en) = .ok (y.1.sh, y.2) (s1.in en) ∨ ∃ p, argZ en2 lev' most a x.sh ks (s.in en) = .bad p 10 := by
  intro r hr y s1 hy
  rw [hy] at hr
  cases a with
  | e =>
    unfold argZ at *
    cases h : lev s with
    | bad p e => rw [h] at hr; cases hr
    | ok k s2 =>
      rw [h] at hr
      cases hr
      rcases hl s k s1 h with h1 | ⟨p, h1⟩
      · left; rw [h1]; rfl
      · right; exact ⟨p, by rw [h1]; rfl⟩
  | f =>
    unfold argZ at *
    cases h : fieldZ en s with
    | bad p e => rw [h] at hr; cases hr
    | ok k s2 =>
      rw [h] at hr
      cases hr
      rcases fieldZ_sim (en2 := en2) k s1 h with h1 | ⟨p, h1⟩
      · left; dsimp only; rw [h1]; rfl
      · right; exact ⟨p, by dsimp only; rw [h1]; rfl⟩
  | w =>
    unfold argZ at *
    cases h : wholeZ en most s with
    | bad p e => rw [h] at hr; cases hr
    | ok k s2 =>
      rw [h] at hr
      cases hr
      rcases wholeZ_sim (en2 := en2) k s1 h with h1 | ⟨p, h1⟩
      · left; dsimp only; rw [h1]; rfl
      · right; exact ⟨p, by dsimp only; rw [h1]; rfl⟩
theorem comma_ne : bz "," ≠ bz ")" := by decide +kernel
theorem open_ne : bz "(" ≠ bz ")" := by decide +kernel
theorem argsZ_sim {en en2 : Int} {lev lev' : Pz → Rz Int} (hl : LevSim en lev lev') {most : Int} : ∀ (az : List Az) (first : Bool) (x : Nz) (ks : List Int) (s : Pz) y s1, argsZ en lev most first az x ks s = .ok y s1 → argsZ en2 lev' most first az x.sh ks (s.in en) = .ok (y.1.sh, y.2) (s1.in en) ∨ ∃ p, argsZ en2 lev' most first az x.sh ks (s.in en) = .bad p 10
  | [], first, x, ks, s, y, s1, h => by
    unfold argsZ at *
    cases h
    exact .inl rfl
  | a :: az, first, x, ks, s, y, s1, h => by
    unfold argsZ at *
    have h0 : SimR en (if first = true then .ok () s else mustZ en (bz ",") s) (if first = true then .ok () (s.in en) else mustZ en2 (bz ",") (s.in en)) := by
      cases first
      · exact mustZ_sim
      · exact SimR.ok
    generalize (if first = true then Rz.ok () s else mustZ en (bz ",") s) = r0 at h h0
    generalize (if first = true then Rz.ok () (s.in en) else mustZ en2 (bz ",") (s.in en)) = r0' at h0
    cases r0 with
    | bad p e => cases h
    | ok u s2 =>
      rw [Rz.bind_ok] at h
      rcases h0 u s2 rfl with h1 | ⟨p, h1⟩
      · rw [h1, Rz.bind_ok]
        cases hA : argZ en lev most a x ks s2 with
        | bad p e => rw [hA] at h; cases h
        | ok z s3 =>
          rw [hA, Rz.bind_ok] at h
          rcases argZ_sim (en2 := en2) hl _ hA z s3 rfl with h2 | ⟨p, h2⟩
          · rw [h2, Rz.bind_ok]
            exact argsZ_sim hl az false z.1 z.2 s3 y s1 h
          · rw [h2]
            exact .inr ⟨p, rfl⟩
      · rw [h1]
        exact .inr ⟨p, rfl⟩
theorem kids_sh (n : Nz) (ks : List Int) : kidsZ n.sh ks = (kidsZ n ks).sh := rfl
theorem callRun_sim {en en2 : Int} {lev lev' : Pz → Rz Int} (hl : LevSim en lev lev') {c : Int × List Az × Int} {s : Pz} {t : Tk} {l : List Tk} (hs : s.l = t :: l) : SimR en (callRun en lev c s) (callRun en2 lev' c (s.in en)) := by
  unfold callRun
  rw [in_next hs]
  refine SimR.bind (r := if isZ s.next.l (bz "(") = true then openZ en s.next else .ok () s.next) (r' := if isZ (s.next.in en).l (bz "(") = true then openZ en2 (s.next.in en) else .ok () (s.next.in en)) ?_ fun _ s1 _ => mustZ_sim.bind fun _ s2 _ => ?_
  · rw [isZ_in open_ne]
    split
    · exact openZ_sim
    · exact SimR.ok
  · intro b s9 h
    cases hA : argsZ en lev c.2.2 true c.2.1 (nz0 c.1 (placeZ en s.l)) [] s2 with
    | bad p e => rw [hA] at h; cases h
    | ok y s3 =>
      rw [hA, Rz.bind_ok] at h
      have hp : nz0 c.1 (placeZ en2 (s.in en).l) = (nz0 c.1 (placeZ en s.l)).sh := by rw [place_in (en := en) hs]; rfl
      rw [hp]
      rcases argsZ_sim (en2 := en2) hl _ _ _ _ _ y s3 hA with h1 | ⟨p, h1⟩
      · rw [h1, Rz.bind_ok]
        exact (mustZ_sim.bind fun _ s4 _ => by rw [close_in]; exact nodeZ_sim (kids_sh _ _)) b s9 h
      · rw [h1]
        exact .inr ⟨p, rfl⟩
theorem atomZ_sim {en en2 : Int} {lev lev' : Pz → Rz Int} (hl : LevSim en lev lev') (s : Pz) : SimR en (atomZ en lev s) (atomZ en2 lev' (s.in en)) := by
  unfold atomZ
  cases hs : s.l with
  | nil => exact SimR.fail
  | cons t l =>
    rw [in_cons hs]
    dsimp only
    have hn := in_next (en := en) hs
    rw [show t.sh.kind = t.kind from rfl, show t.sh.text = t.text from rfl]
    by_cases h1 : t.kind = 2
    · rw [if_pos h1, if_pos h1, hn]
      exact nodeZ_sim rfl
    · rw [if_neg h1, if_neg h1]
      by_cases h2 : t.text = bz "true"
      · rw [if_pos h2, if_pos h2, hn]
        exact nodeZ_sim rfl
      · rw [if_neg h2, if_neg h2]
        by_cases h3 : t.text = bz "false"
        · rw [if_pos h3, if_pos h3, hn]
          exact nodeZ_sim rfl
        · rw [if_neg h3, if_neg h3]
          cases hc : callZ t.text with
          | some c => exact callRun_sim hl hs
          | none =>
            dsimp only
            by_cases h4 : t.text = bz "("
            · rw [if_pos h4, if_pos h4]
              refine openZ_sim.bind fun _ s1 h5 => ?_
              have h6 : s1.l = t :: l := by
                unfold openZ at h5
                split at h5
                · cases h5
                · cases h5; exact hs
              rw [in_next h6]
              refine SimR.bind (hl _) fun a s2 _ => mustZ_sim.bind fun _ s3 _ => ?_
              rw [close_in]
              exact SimR.ok
            · rw [if_neg h4, if_neg h4]
              exact fieldZ_sim.bind fun x s1 _ => nodeZ_sim rfl
theorem aheadZ_sim {en en2 : Int} {self self' up up' : Pz → Rz Int} (h1 : LevSim en self self') (h2 : LevSim en up up') {x : ByteArray} (hx : x ≠ bz ")") {op : Int} (s : Pz) : SimR en (aheadZ en self up x op s) (aheadZ en2 self' up' x op (s.in en)) := by
  unfold aheadZ
  rw [isZ_in hx]
  split
  · rename_i h
    obtain ⟨t, l, hs⟩ := isZ_cons h
    refine openZ_sim.bind fun _ s1 h5 => ?_
    have h6 : s1.l = t :: l := by
      unfold openZ at h5
      split at h5
      · cases h5
      · cases h5; exact hs
    rw [in_next h6, place_in (en := en) hs]
    refine SimR.bind (h1 _) fun a s2 _ => ?_
    rw [close_in]
    exact nodeZ_sim rfl
  · exact h2 s
theorem loopZ_sim {en en2 : Int} {lev lev' : Pz → Rz Int} (hl : LevSim en lev lev') {n : Nat} : ∀ (f f' : Nat), f ≤ f' → ∀ (a : Int) (s : Pz), SimR en (loopZ en lev n f a s) (loopZ en2 lev' n f' a (s.in en))
  | 0, f', _, a, s => SimR.bad
  | f + 1, 0, h, a, s => absurd h (by omega)
  | f + 1, f' + 1, h, a, s => by
    unfold loopZ
    rw [infixZ_in]
    split
    · exact SimR.ok
    · rename_i h0
      obtain ⟨t, l, hs⟩ := infix_cons h0
      rw [in_next hs, place_in (en := en) hs]
      refine SimR.bind (hl _) fun b s1 _ => SimR.bind (nodeZ_sim rfl) fun a2 s2 _ => ?_
      split
      · exact SimR.ok
      · exact loopZ_sim hl f f' (by omega) a2 s2
theorem not_ne : bz "not" ≠ bz ")" := by decide +kernel
theorem minus_ne : bz "-" ≠ bz ")" := by decide +kernel
theorem levZ_sim (en en2 : Int) : ∀ (f f' n : Nat), f ≤ f' → LevSim en (levZ en f n) (levZ en2 f' n)
  | 0, f', n, _ => fun s => SimR.bad
  | f + 1, 0, n, h => absurd h (by omega)
  | f + 1, f' + 1, n, h => fun s => by
    have ih := fun n => levZ_sim en en2 f f' n (by omega)
    unfold levZ
    split
    · exact atomZ_sim (ih 0) s
    · split
      · exact aheadZ_sim (ih 2) (ih 3) not_ne s
      · split
        · exact aheadZ_sim (ih 6) (ih 7) minus_ne s
        · refine SimR.bind (ih (n + 1) s) fun a s1 _ => loopZ_sim (ih (n + 1)) _ _ ?_ a s1
          simp [Pz.in]
end Go.Proofs.YtdaokholmlpfkaaDoor
namespace Go.Proofs.YtdaokholmlpfkaaDoor
open Go.RowKit Go.ChangeMaps Go.Deep
set_option linter.unusedSimpArgs false
set_option linter.unusedVariables false
set_option maxRecDepth 20000

theorem str_dec (a b : ByteArray) : (a.toList == b.toList) = decide (a = b) := by
  by_cases h : a = b
  · subst h; simp
  · rw [decide_eq_false h, beq_eq_false_iff_ne]
    intro k
    rw [ByteArray.toList_eq, ByteArray.toList_eq] at k
    apply h
    apply ByteArray.ext
    apply Array.ext'
    exact k
theorem psIs_at {w : World} {p : Nat} {en : Int} {s : Pz} (h : PsAt w p en s) (x : ByteArray) : Calls Tryd.prog 44 #[.pointer (some ⟨p, 0, none⟩), .string x] w fun e w' => e = .returned (.bool (isZ s.l x)) ∧ w' = w := by
  obtain ⟨la, lc, tv, hx⟩ := h
  have c0 := cell_blk hx.blk 0
  simp only [List.getElem?_toArray, List.getElem?_cons_succ, List.getElem?_cons_zero] at c0
  cases hs : s.l with
  | nil =>
    rw [hs] at c0
    have HP := Lib.hid (show isZ [] x = false from rfl)
    clear hx hs
    go_enter Tryd.func44, Tryd.ntmps44
    go_wp2_with fail
    go_ret
    exact ⟨by rw [HP.out]; rfl, rfl⟩
  | cons t r =>
    obtain ⟨b, o, rfl, hb, hc, k0, k1, k2, k3, k4⟩ := hx.head hs
    rw [hs] at c0
    have HP := Lib.hid (show isZ (t :: r) x = (decide (t.text = x) && decide (t.kind ≠ 2)) from rfl)
    have d0' : 0 < (t :: r).length := by simp
    have de := str_dec t.text x
    generalize (t :: r).length = n at *
    generalize isZ (t :: r) x = R at HP ⊢
    obtain ⟨tk, tt, tc, ts, ta⟩ := t
    dsimp only at *
    generalize decide (tt = x) = q at de HP
    clear hx hs
    cases q with
    | false =>
      have HV := Lib.hid (show R = false by rw [HP.out]; simp)
      go_enter Tryd.func44, Tryd.ntmps44
      go_wp2_with fail
      go_ret
      exact ⟨by rw [HV.out]; first | rfl | simp [de], rfl⟩
    | true =>
      by_cases hk : tk = 2
      · have HV := Lib.hid (show R = false by rw [HP.out, hk]; simp)
        subst hk
        go_enter Tryd.func44, Tryd.ntmps44
        go_wp2_with fail
        go_ret
        exact ⟨by rw [HV.out]; first | rfl | simp [de], rfl⟩
      · have HV := Lib.hid (show R = true by rw [HP.out]; simp [hk])
        have dk : (tk == 2) = false := by simpa using hk
        have HK := Lib.hid hk
        clear hk
        go_enter Tryd.func44, Tryd.ntmps44
        go_wp2_with fail
        go_ret
        exact ⟨by rw [HV.out]; first | rfl | (simp [de, dk]; done) | (simp [de, dk]; exact HK.out), rfl⟩
/-- the state behind the next word -/
theorem PsX.step {w : World} {p : Nat} {en : Int} {s : Pz} {b o lc : Nat} {tv : Value} (o2 : Nat) (h : PsX w p en s (some ⟨b, o, none⟩) lc tv) {t : Tk} {r : List Tk} (hs : s.l = t :: r) (ho : o2 = o + 5 ∨ s.l.length ≤ 1) : PsX (w.setCell ⟨p, 0, none⟩ (.slice (some ⟨b, o2, none⟩) (s.l.length - 1) (lc - 1))) p en s.next (some ⟨b, o2, none⟩) (lc - 1) tv := by
  have m : Mod [p] w (w.setCell ⟨p, 0, none⟩ (.slice (some ⟨b, o2, none⟩) (s.l.length - 1) (lc - 1))) := (Mod.refl _ _).setCell (by simp) _
  have hn : s.next.l.length = s.l.length - 1 := next_len s
  have hb := h.low _ rfl
  dsimp only at hb
  refine ⟨?_, ?_, h.own.kept m (fun q hq hm => by have := (World.ownsRow.lt h.own q hq).1; simp at hm; omega), fun a ha => by injection ha with ha; rw [← ha]; exact hb, h.deep, by rw [hn]; have := h.len; omega, fun t ht => h.txt t (List.mem_of_mem_tail ht)⟩
  · rw [hn]
    have := heap_setCell_blk h.blk 0 (.slice (some ⟨b, o2, none⟩) (s.l.length - 1) (lc - 1))
    simpa [Pz.next] using this
  · rw [hn]
    by_cases h1 : 1 < s.l.length
    · obtain rfl : o2 = o + 5 := by omega
      have := (h.row.drop encTk_len 1 h1).kept m (fun q hq hm => by
        simp at hq
        have := hm
        simp [Value.ownBlock] at this
        omega)
      have e : s.next.l = s.l.drop 1 := by simp [Pz.next, hs]
      rw [e]
      simpa using this
    · have e : s.next.l = [] := List.eq_nil_of_length_eq_zero (by rw [hn]; omega)
      rw [e, show s.l.length - 1 = 0 by omega]
      exact .nil _ _
theorem psHas_at {w : World} {p : Nat} {en : Int} {s : Pz} (h : PsAt w p en s) (x : ByteArray) : Calls Tryd.prog 46 #[.pointer (some ⟨p, 0, none⟩), .string x] w fun e w' => e = .returned (.bool (isZ s.l x)) ∧ PsAt w' p en (if isZ s.l x = true then s.next else s) ∧ Up p w w' := by
  have CI := Lib.hid (psIs_at h x)
  cases hz : isZ s.l x with
  | false =>
    rw [hz] at CI
    rw [if_neg (by simp)]
    have HH := Lib.hid h
    clear h hz
    go_enter Tryd.func46, Tryd.ntmps46
    go_wp2_with fail
    refine CI.out.mono ?_
    rintro e w2 ⟨rfl, rfl⟩
    go_wp2_with fail
    go_ret
    exact ⟨rfl, HH.out, Up.refl _ _⟩
  | true =>
    rw [hz] at CI
    rw [if_pos rfl]
    obtain ⟨t, r, hs⟩ := isZ_cons hz
    obtain ⟨la, lc, tv, hx⟩ := h
    obtain ⟨b, o, rfl, hb, hc, -, -, -, -, -⟩ := hx.head hs
    have hlen2 := hx.len
    have hlen : 0 < s.l.length := by rw [hs]; simp
    have c0 := cell_blk hx.blk 0
    have f0 := frozen_blk hx.blk 0
    simp only [List.getElem?_toArray, List.getElem?_cons_succ, List.getElem?_cons_zero] at c0
    have HH := Lib.hid (show ∀ o2, (o2 = o + 5 ∨ s.l.length ≤ 1) → PsAt (w.setCell ⟨p, 0, none⟩ (.slice (some ⟨b, o2, none⟩) (s.l.length - 1) (lc - 1))) p en s.next ∧ Up p w (w.setCell ⟨p, 0, none⟩ (.slice (some ⟨b, o2, none⟩) (s.l.length - 1) (lc - 1))) from fun o2 ho => ⟨⟨_, _, _, hx.step o2 hs ho⟩, hx.up (by omega) _⟩)
    clear hz hs hx hb
    generalize s.l.length = n at *
    by_cases hl1 : lc = 1
    · subst hl1
      obtain rfl : n = 1 := by omega
      have HH := Lib.hid (HH.out o (.inr hc))
      go_enter Tryd.func46, Tryd.ntmps46
      go_wp2_with fail
      refine CI.out.mono ?_
      rintro e w2 ⟨rfl, rfl⟩
      go_wp2_with fail
      go_ret
      exact ⟨rfl, HH.out⟩
    · have HH := Lib.hid (HH.out (o + 5) (.inl rfl))
      go_enter Tryd.func46, Tryd.ntmps46
      go_wp2_with fail
      refine CI.out.mono ?_
      rintro e w2 ⟨rfl, rfl⟩
      go_wp2_with fail
      go_ret
      exact ⟨rfl, HH.out⟩
/-- what a reading is given up with -/
def stopP (q x : Int) : List PanicEntry := [{ v := .iface 40 (.agg #[.int .i64 q, .int .i64 x]), recovered := false }]
/-- how a reading ends: what it tells, the state; or given up -/
def PsR {α : Type} (p : Nat) (en : Int) (w : World) (val : α → Value) (r : Rz α) (e : Ending) (w' : World) : Prop :=
  match r with
  | .ok a s => e = .returned (val a) ∧ PsAt w' p en s ∧ Up p w w'
  | .bad q x => e = .panicked (stopP q x) ∧ Up p w w'
def unitV (_ : Unit) : Value := .tuple #[]
theorem psFail_at {w : World} {p : Nat} {en : Int} {s : Pz} (h : PsAt w p en s) (x : Int) : Calls Tryd.prog 10 #[.pointer (some ⟨p, 0, none⟩), .int .i64 x] w fun e w' => e = .panicked (stopP (placeZ en s.l) x) ∧ w' = w := by
  have CA := Lib.hid (psAt_at h)
  generalize placeZ en s.l = q at CA ⊢
  go_enter Tryd.func10, Tryd.ntmps10
  go_wp2_with fail
  refine CA.out.mono ?_
  rintro e w2 ⟨rfl, rfl⟩
  go_wp2_with fail
  exact ⟨rfl, rfl, rfl⟩
theorem psMust_at {w : World} {p : Nat} {en : Int} {s : Pz} (h : PsAt w p en s) (x : ByteArray) : Calls Tryd.prog 32 #[.pointer (some ⟨p, 0, none⟩), .string x] w fun e w' => PsR p en w unitV (mustZ en x s) e w' := by
  have CH := Lib.hid (psHas_at h x)
  have HM := Lib.hid (show mustZ en x s = if isZ s.l x = true then .ok () s.next else failZ en 4 s from rfl)
  have CF := Lib.hid (fun (W : World) (hW : PsAt W p en s) => psFail_at hW 4)
  cases hz : isZ s.l x with
  | true =>
    rw [hz] at CH
    have HV := Lib.hid (show mustZ en x s = .ok () s.next by rw [HM.out, if_pos hz])
    rw [HV.out]
    clear hz
    go_enter Tryd.func32, Tryd.ntmps32
    go_wp2_with fail
    refine CH.out.mono ?_
    rintro e w2 ⟨rfl, h2, h3⟩
    have HH := Lib.hid (show PsAt w2 p en s.next ∧ Up p w w2 from ⟨h2, h3⟩)
    clear h2 h3
    go_wp2_with fail
    go_end0
    exact ⟨rfl, HH.out⟩
  | false =>
    rw [hz] at CH
    have HV := Lib.hid (show mustZ en x s = .bad (placeZ en s.l) 4 by rw [HM.out, if_neg (by simp [hz])]; rfl)
    rw [HV.out]
    clear hz
    go_enter Tryd.func32, Tryd.ntmps32
    go_wp2_with fail
    refine CH.out.mono ?_
    rintro e w2 ⟨rfl, h2, h3⟩
    have HH := Lib.hid (show PsAt w2 p en s ∧ Up p w w2 from ⟨h2, h3⟩)
    clear h2 h3
    go_wp2_with fail
    refine (CF.out _ HH.out.1).mono ?_
    rintro e w3 ⟨rfl, rfl⟩
    go_wp2_with fail
    exact ⟨rfl, rfl, HH.out.2⟩
theorem PsX.deeper {w : World} {p : Nat} {en : Int} {s : Pz} {la : Option Addr} {lc : Nat} {tv : Value} (h : PsX w p en s la lc tv) (d : Int) (hd : 0 ≤ d ∧ d ≤ 16) : PsX (w.setCell ⟨p, 2, none⟩ (.int .i64 d)) p en { s with deep := d } la lc tv := by
  have m : Mod [p] w (w.setCell ⟨p, 2, none⟩ (.int .i64 d)) := (Mod.refl _ _).setCell (by simp) _
  refine ⟨?_, h.row.kept m (fun q hq hm => ?_), h.own.kept m (fun q hq hm => by have := (World.ownsRow.lt h.own q hq).1; simp at hm; omega), h.low, hd, h.len, h.txt⟩
  · have := heap_setCell_blk h.blk 2 (.int .i64 d)
    simpa using this
  · simp at hq
    subst hq
    cases la with
    | none => simp [Value.ownBlock] at hm
    | some a =>
      have := h.low a rfl
      obtain ⟨b, o, sp⟩ := a
      dsimp only at this
      have h2 : b = q := by
        have e : (Value.slice (some ⟨b, o, sp⟩) s.l.length lc).ownBlock = some b := rfl
        rw [e] at hm
        injection hm
      omega
theorem psOpen_at {w : World} {p : Nat} {en : Int} {s : Pz} (h : PsAt w p en s) : Calls Tryd.prog 31 #[.pointer (some ⟨p, 0, none⟩)] w fun e w' => PsR p en w unitV (openZ en s) e w' := by
  have CF := Lib.hid (psFail_at h 10)
  have HM := Lib.hid (show openZ en s = if s.deep = 16 then failZ en 10 s else .ok () { s with deep := s.deep + 1 } from rfl)
  obtain ⟨la, lc, tv, hx⟩ := h
  have c2 := cell_blk hx.blk 2
  have f2 := frozen_blk hx.blk 2
  simp only [List.getElem?_toArray, List.getElem?_cons_succ, List.getElem?_cons_zero] at c2
  have hdp := hx.deep
  by_cases h16 : s.deep = 16
  · have HV := Lib.hid (show openZ en s = .bad (placeZ en s.l) 10 by rw [HM.out, if_pos h16]; rfl)
    rw [HV.out]
    have d0 : (s.deep == 16) = true := by rw [h16]; rfl
    generalize s.deep = d at c2 d0
    clear hx h16 hdp
    go_enter Tryd.func31, Tryd.ntmps31
    go_wp2_with fail
    refine CF.out.mono ?_
    rintro e w3 ⟨rfl, rfl⟩
    go_wp2_with fail
    exact ⟨rfl, rfl, Up.refl _ _⟩
  · have HV := Lib.hid (show openZ en s = .ok () { s with deep := s.deep + 1 } by rw [HM.out, if_neg h16])
    rw [HV.out]
    have d0 : (s.deep == 16) = false := by simpa using h16
    have HH := Lib.hid (show PsAt (w.setCell ⟨p, 2, none⟩ (.int .i64 (s.deep + 1))) p en { s with deep := s.deep + 1 } ∧ Up p w (w.setCell ⟨p, 2, none⟩ (.int .i64 (s.deep + 1))) from ⟨⟨_, _, _, hx.deeper _ (by omega)⟩, hx.up (by omega) _⟩)
    have hwr : IntKind.i64.wrap (s.deep + 1) = s.deep + 1 := by rw [IntKind.wrap_i64]; omega
    generalize hdd : s.deep = d at c2 d0 hwr HH hdp
    clear hx h16
    go_enter Tryd.func31, Tryd.ntmps31
    go_wp2_with fail
    go_end0
    exact ⟨rfl, HH.out⟩
end Go.Proofs.YtdaokholmlpfkaaDoor
namespace Go.Proofs.YtdaokholmlpfkaaDoor
open Go.RowKit Go.ChangeMaps Go.Deep
set_option linter.unusedSimpArgs false
set_option linter.unusedVariables false
set_option maxRecDepth 20000

def intV (n : Int) : Value := .int .i64 n
theorem PsR.fail {α : Type} {p : Nat} {en : Int} {w w' : World} {val : α → Value} {s : Pz} {x : Int} {r : Rz α} (hr : r = failZ en x s) {e : Ending} (he : e = .panicked (stopP (placeZ en s.l) x)) (hu : Up p w w') : PsR p en w val r e w' := by
  rw [hr]
  exact ⟨he, hu⟩
/-- the next word, and the state behind it -/
theorem PsX.two {w : World} {p : Nat} {en : Int} {s : Pz} {b o lc : Nat} {tv : Value} (h : PsX w p en s (some ⟨b, o, none⟩) lc tv) {t : Tk} {r : List Tk} (hs : s.l = t :: r) : ∀ o2, (o2 = o + 5 ∨ s.l.length ≤ 1) → PsAt (w.setCell ⟨p, 0, none⟩ (.slice (some ⟨b, o2, none⟩) (s.l.length - 1) (lc - 1))) p en s.next ∧ Up p w (w.setCell ⟨p, 0, none⟩ (.slice (some ⟨b, o2, none⟩) (s.l.length - 1) (lc - 1))) :=
  fun o2 ho => ⟨⟨_, _, _, h.step o2 hs ho⟩, h.up (by omega) _⟩
set_option maxHeartbeats 2000000 in
theorem psWhole_at {w : World} {p : Nat} {en : Int} {s : Pz} (h : PsAt w p en s) (most : Int) : Calls Tryd.prog 45 #[.pointer (some ⟨p, 0, none⟩), .int .i64 most] w fun e w' => PsR p en w intV (wholeZ en most s) e w' := by
  have CF := Lib.hid (psFail_at h 4)
  obtain ⟨la, lc, tv, hx⟩ := h
  have c0 := cell_blk hx.blk 0
  have f0 := frozen_blk hx.blk 0
  simp only [List.getElem?_toArray, List.getElem?_cons_succ, List.getElem?_cons_zero] at c0
  cases hs : s.l with
  | nil =>
    rw [hs] at c0
    have HR := Lib.hid (show wholeZ en most s = failZ en 4 s by unfold wholeZ; rw [hs])
    clear hx
    go_enter Tryd.func45, Tryd.ntmps45
    go_wp2_with fail
    refine CF.out.mono ?_
    rintro e w3 ⟨rfl, rfl⟩
    go_wp2_with fail
    exact ⟨rfl, PsR.fail HR.out (by rw [hs]) (Up.refl _ _)⟩
  | cons t r =>
    obtain ⟨b, o, rfl, hb, hc, k0, k1, k2, k3, k4⟩ := hx.head hs
    have hlen : 0 < s.l.length := by rw [hs]; simp
    have hlen2 := hx.len
    have HT := Lib.hid (hx.two hs)
    have HW := Lib.hid (show wholeZ en most s = if t.kind = 2 ∧ t.s = 0 ∧ t.c ≤ most then .ok t.c s.next else failZ en 4 s by unfold wholeZ; rw [hs])
    obtain ⟨tk, tt, tc, ts, ta⟩ := t
    dsimp only at k0 k1 k2 k3 k4 HW
    clear hx hs hb
    generalize s.l.length = n at *
    have key : ¬ (tk = 2 ∧ ts = 0 ∧ tc ≤ most) → (¬ tk = 2 ∨ (tk = 2 ∧ ¬ ts = 0) ∨ (tk = 2 ∧ ts = 0 ∧ most < tc)) := fun hn => by
      by_cases h1 : tk = 2
      · by_cases h2 : ts = 0
        · exact .inr (.inr ⟨h1, h2, by omega⟩)
        · exact .inr (.inl ⟨h1, h2⟩)
      · exact .inl h1
    have hn0 : ¬ n = 0 := by omega
    by_cases hall : tk = 2 ∧ ts = 0 ∧ tc ≤ most
    · have HR := Lib.hid (HW.out.trans (if_pos hall))
      obtain ⟨rfl, rfl, hm⟩ := hall
      have dm : ¬ most < tc := by omega
      rw [HR.out]
      clear key hm
      by_cases hl1 : lc = 1
      · subst hl1
        obtain rfl : n = 1 := by omega
        have HH := Lib.hid (HT.out o (.inr (Nat.le_refl _)))
        go_enter Tryd.func45, Tryd.ntmps45
        go_wp2_with fail
        go_ret
        exact ⟨rfl, HH.out⟩
      · have HH := Lib.hid (HT.out (o + 5) (.inl rfl))
        go_enter Tryd.func45, Tryd.ntmps45
        go_wp2_with fail
        go_ret
        exact ⟨rfl, HH.out⟩
    · have HR := Lib.hid (HW.out.trans (if_neg hall))
      rcases key hall with d1 | ⟨rfl, d1⟩ | ⟨rfl, rfl, d1⟩
      all_goals
        clear key hall
        go_enter Tryd.func45, Tryd.ntmps45
        go_wp2_with fail
        refine CF.out.mono ?_
        rintro e w3 ⟨rfl, rfl⟩
        go_wp2_with fail
        exact ⟨rfl, PsR.fail HR.out rfl (Up.refl _ _)⟩
end Go.Proofs.YtdaokholmlpfkaaDoor
