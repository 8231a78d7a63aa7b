/- Formulas: what a call keeps of its own while the reading goes on. -/
import Derived.Test.YtdaokholmlpfkaaDoorPzL
import Derived.Lib.OthersKept
namespace Go.Proofs.YtdaokholmlpfkaaDoor
open Go.RowKit Go.ChangeMaps Go.Deep
set_option linter.unusedSimpArgs false
set_option linter.unusedVariables false
set_option maxRecDepth 20000

/-- a block that the reading leaves alone -/
def Keep (w : World) (p k : Nat) : Prop := p < k ∧ k < w.heap.size ∧ ¬ Tb w p k
theorem Keep.up {w w' : World} {p k : Nat} (h : Keep w p k) (u : Up p w w') : Keep w' p k :=
  ⟨h.1, Nat.lt_of_lt_of_le h.2.1 u.size, fun ht => h.2.2 (u.tb k h.2.1 ht)⟩
theorem Keep.same {w w' : World} {p k : Nat} (h : Keep w p k) (u : Up p w w') : w'.heap[k]? = w.heap[k]? := u.block k h.2.1 (by have := h.1; omega) h.2.2
/-- a block that is new is left alone -/
theorem Keep.new {w w' : World} {p k : Nat} {en : Int} {s : Pz} (hs : PsAt w p en s) (m : Mod [] w w') (hk : w.heap.size ≤ k) (hk2 : k < w'.heap.size) : Keep w' p k := by
  obtain ⟨la, lc, tv, hx⟩ := hs
  refine ⟨Nat.lt_of_lt_of_le hx.lt hk, hk2, fun ht => ?_⟩
  have := (hx.tb_lt (ht.of_block (m.block p hx.lt (by simp)))).2
  omega
/-- blocks of its own are written -/
theorem Keep.mod {w w' : World} {p k : Nat} {ks : List Nat} (h : Keep w p k) (m : Mod ks w w') (hp : p ∉ ks) (hlt : p < w.heap.size) : Keep w' p k :=
  ⟨h.1, Nat.lt_of_lt_of_le h.2.1 m.size, fun ht => h.2.2 (ht.of_block (m.block p hlt hp))⟩
theorem Up.own {w0 w w' : World} {p : Nat} {ks : List Nat} (u : Up p w0 w) (m : Mod ks w w') (hk : ∀ k ∈ ks, w0.heap.size ≤ k) (hp : p ∉ ks) (hlt : p < w.heap.size) : Up p w0 w' :=
  ⟨m.os.trans u.os, m.tape.trans u.tape, m.output.trans u.output, Nat.le_trans u.size m.size,
    fun k hk0 hkp ht => (m.block k (Nat.lt_of_lt_of_le hk0 u.size) (fun hm => by have := hk k hm; omega)).trans (u.block k hk0 hkp ht),
    fun k hk0 ht => u.tb k hk0 (ht.of_block (m.block p hlt hp))⟩
theorem PsX.own_mod {w w' : World} {p : Nat} {en : Int} {s : Pz} {la : Option Addr} {lc : Nat} {tv : Value} (h : PsX w p en s la lc tv) {ks : List Nat} (m : Mod ks w w') (hk : ∀ k ∈ ks, Keep w p k) : PsX w' p en s la lc tv := by
  refine ⟨m.heap h.blk (fun hm => by have := (hk p hm).1; omega), ?_, h.own.kept m (fun q hq hm => (hk q hm).2.2 ((h.tb q).2 hq)), h.low, h.deep, h.len, h.txt⟩
  refine h.row.sub (fun k hkp => m.block k (Nat.lt_trans hkp h.lt) (fun hm => by have := (hk k hm).1; omega)) h.low
theorem PsAt.own_mod {w w' : World} {p : Nat} {en : Int} {s : Pz} (h : PsAt w p en s) {ks : List Nat} (m : Mod ks w w') (hk : ∀ k ∈ ks, Keep w p k) : PsAt w' p en s := by
  obtain ⟨la, lc, tv, hx⟩ := h
  exact ⟨la, lc, tv, hx.own_mod m hk⟩
theorem PsAt.lt {w : World} {p : Nat} {en : Int} {s : Pz} (h : PsAt w p en s) : p < w.heap.size := by
  obtain ⟨_, _, _, hx⟩ := h
  exact hx.lt
theorem PsAt.deep {w : World} {p : Nat} {en : Int} {s : Pz} (h : PsAt w p en s) : 0 ≤ s.deep ∧ s.deep ≤ 16 := by
  obtain ⟨_, _, _, hx⟩ := h
  exact hx.deep
theorem gl_own {w w' : World} (h : Gl w) {ks : List Nat} (m : Mod ks w w') (hk : ∀ k ∈ ks, 9 ≤ k) : Gl w' := h.kept m hk
/-- the level is closed -/
theorem PsAt.shut {w : World} {p : Nat} {en : Int} {s : Pz} (h : PsAt w p en s) (h1 : 1 ≤ s.deep) : PsAt (w.setCell ⟨p, 2, none⟩ (.int .i64 (s.deep - 1))) p en s.close ∧ Up p w (w.setCell ⟨p, 2, none⟩ (.int .i64 (s.deep - 1))) := by
  obtain ⟨la, lc, tv, hx⟩ := h
  have := hx.deep
  exact ⟨⟨_, _, _, hx.deeper (s.deep - 1) (by omega)⟩, hx.up (by omega) _⟩
theorem PsAt.cells {w : World} {p : Nat} {en : Int} {s : Pz} (h : PsAt w p en s) : w.cell? ⟨p, 2, none⟩ = some (.int .i64 s.deep) ∧ w.frozen? ⟨p, 2, none⟩ = false := by
  obtain ⟨la, lc, tv, hx⟩ := h
  have c2 := cell_blk hx.blk 2
  simp only [List.getElem?_toArray, List.getElem?_cons_succ, List.getElem?_cons_zero] at c2
  exact ⟨c2, frozen_blk hx.blk 2⟩
theorem Up.toMod {w w' : World} {p : Nat} {en : Int} {s : Pz} (u : Up p w w') (hs : PsAt w p en s) : ∃ L, Mod L w w' ∧ ∀ k ∈ L, ¬ Keep w p k := by
  obtain ⟨la, lc, tv, hx⟩ := hs
  refine ⟨p :: blk tv, ⟨u.os, u.tape, u.output, u.size, fun k hk hn => ?_⟩, fun k hk hK => ?_⟩
  · simp only [List.mem_cons, not_or] at hn
    exact u.block k hk hn.1 (fun ht => hn.2 (mem_blk.2 ((hx.tb k).1 ht)))
  · rcases List.mem_cons.1 hk with rfl | hk
    · have := hK.1; omega
    · exact hK.2.2 ((hx.tb k).2 (mem_blk.1 hk))
/-- a call's own: the box of its kind, the node, the iterator over its arguments, the kids -/
structure CallF (w W : World) (p : Nat) (en : Int) (co : Int) (az : List Az) (mo : Int) (IB j : Nat) (n : Nz) (st : Pz) (kv : Value) (ks : List Int) : Prop where
  gl : Gl W
  at_ : PsAt W p en st
  up : Up p w W
  box : W.heap[w.heap.size]? = some (.cells #[.int .u8 co, .string (azT az), .int .i64 mo] 61 (0, 0))
  boxK : Keep W p w.heap.size
  node : W.heap[w.heap.size + 1]? = some (.cells (encNz n).toArray 34 (0, 0))
  nodeK : Keep W p (w.heap.size + 1)
  iter : W.heap[IB]? = some (.stringIter (azT az) j)
  iterK : Keep W p IB
  kids : OwnR encI 1 3 W (IB + 1) kv ks
  kidsK : ∀ k, kv.ownBlock = some k → Keep W p k
  ib : w.heap.size + 1 < IB
theorem CallF.go {w W W' : World} {p : Nat} {en co mo : Int} {az : List Az} {IB j : Nat} {n : Nz} {st st' : Pz} {kv : Value} {ks : List Int} (hp : 9 ≤ p) (h : CallF w W p en co az mo IB j n st kv ks) (u : Up p W W') (hs : PsAt W' p en st') : CallF w W' p en co az mo IB j n st' kv ks := by
  obtain ⟨L, m, hL⟩ := u.toMod h.at_
  exact ⟨u.gl h.at_ h.gl hp, hs, h.up.trans u, m.heap h.box (fun hm => hL _ hm h.boxK), h.boxK.up u, m.heap h.node (fun hm => hL _ hm h.nodeK), h.nodeK.up u, m.heap h.iter (fun hm => hL _ hm h.iterK), h.iterK.up u,
    h.kids.kept m (fun q hq hm => hL q hm (h.kidsK q hq)), fun k hk => (h.kidsK k hk).up u, h.ib⟩
/-- new blocks -/
theorem CallF.new {w W W' : World} {p : Nat} {en co mo : Int} {az : List Az} {IB j : Nat} {n : Nz} {st : Pz} {kv : Value} {ks : List Int} (hp : 9 ≤ p) (h : CallF w W p en co az mo IB j n st kv ks) (m : Mod [] W W') : CallF w W' p en co az mo IB j n st kv ks :=
  h.go hp (Up.keep m h.at_.lt) (h.at_.kept m)
/-- the iterator goes on -/
theorem CallF.iterate {w W : World} {p : Nat} {en co mo : Int} {az : List Az} {IB j : Nat} {n : Nz} {st : Pz} {kv : Value} {ks : List Int} (hp : 9 ≤ p) (h : CallF w W p en co az mo IB j n st kv ks) (j2 : Nat) : CallF w (W.iterAt IB (azT az) j2) p en co az mo IB j2 n st kv ks := by
  have m : Mod [IB] W (W.iterAt IB (azT az) j2) := (Mod.refl [IB] W).setBlock (by simp) (.stringIter (azT az) j2)
  have hne : p ∉ [IB] := by have := h.iterK.1; simp; omega
  have kk : ∀ k ∈ [IB], Keep W p k := by intro k hk; simp only [List.mem_singleton] at hk; subst hk; exact h.iterK
  have hib := h.ib
  have hlt := h.at_.lt
  refine ⟨gl_own h.gl m (by intro k hk; have := (kk k hk).1; omega), h.at_.own_mod m kk, h.up.own m (by intro k hk; simp only [List.mem_singleton] at hk; omega) hne hlt, m.heap h.box (by simp; omega), h.boxK.mod m hne hlt, m.heap h.node (by simp; omega), h.nodeK.mod m hne hlt, ?_, h.iterK.mod m hne hlt, h.kids.kept m (fun q hq hm => ?_), fun k hk => (h.kidsK k hk).mod m hne hlt, hib⟩
  · exact Lib.iterAt_heap W IB (azT az) j j2 h.iter
  · have := (World.ownsRow.lt h.kids q hq).1
    simp at hm
    omega
/-- the node is written -/
theorem CallF.write {w W : World} {p : Nat} {en co mo : Int} {az : List Az} {IB j : Nat} {n n2 : Nz} {st : Pz} {kv : Value} {ks : List Int} (hp : 9 ≤ p) (h : CallF w W p en co az mo IB j n st kv ks) (i : Nat) (v : Value) (hn : (encNz n2).toArray = (encNz n).toArray.setIfInBounds i v) : CallF w (W.setCell ⟨w.heap.size + 1, i, none⟩ v) p en co az mo IB j n2 st kv ks := by
  have m : Mod [w.heap.size + 1] W (W.setCell ⟨w.heap.size + 1, i, none⟩ v) := (Mod.refl _ _).setCell (by simp) _
  have hne : p ∉ [w.heap.size + 1] := by have := h.nodeK.1; simp; omega
  have kk : ∀ k ∈ [w.heap.size + 1], Keep W p k := by intro k hk; simp only [List.mem_singleton] at hk; subst hk; exact h.nodeK
  have hib := h.ib
  have hlt := h.at_.lt
  refine ⟨gl_own h.gl m (by intro k hk; have := (kk k hk).1; omega), h.at_.own_mod m kk, h.up.own m (by intro k hk; simp only [List.mem_singleton] at hk; omega) hne hlt, m.heap h.box (by simp), h.boxK.mod m hne hlt, ?_, h.nodeK.mod m hne hlt, m.heap h.iter (by simp; omega), h.iterK.mod m hne hlt, h.kids.kept m (fun q hq hm => ?_), fun k hk => (h.kidsK k hk).mod m hne hlt, hib⟩
  · rw [hn]
    exact heap_setCell_blk h.node i v
  · have := (World.ownsRow.lt h.kids q hq).1
    simp at hm
    omega
/-- a kid more -/
theorem CallF.push {w W W2 : World} {p : Nat} {en co mo : Int} {az : List Az} {IB j : Nat} {n : Nz} {st : Pz} {kv kv2 : Value} {ks ks2 : List Int} (hp : 9 ≤ p) (h : CallF w W p en co az mo IB j n st kv ks) (gr : Grew W kv W2 kv2) (hk2 : OwnR encI 1 3 W2 (IB + 1) kv2 ks2) : CallF w W2 p en co az mo IB j n st kv2 ks2 := by
  have m := gr.mod
  have hib := h.ib
  have hlt := h.at_.lt
  have kk : ∀ k ∈ blk kv, Keep W p k := fun k hk => h.kidsK k (mem_blk.1 hk)
  have hlow : ∀ k ∈ blk kv, IB + 1 ≤ k := fun k hk => (World.ownsRow.lt h.kids k (mem_blk.1 hk)).1
  have hne : p ∉ blk kv := fun hm => by have := (kk p hm).1; omega
  refine ⟨gl_own h.gl m (by intro k hk; have := (kk k hk).1; omega), h.at_.own_mod m kk, h.up.own m (by intro k hk; have := hlow k hk; omega) hne hlt, m.heap h.box (fun hm => by have := hlow _ hm; omega), h.boxK.mod m hne hlt, m.heap h.node (fun hm => by have := hlow _ hm; omega), h.nodeK.mod m hne hlt, m.heap h.iter (fun hm => by have := hlow _ hm; omega), h.iterK.mod m hne hlt, hk2, fun k hk => ?_, hib⟩
  rcases gr.heir with e | e
  · exact (h.kidsK k (e ▸ hk)).mod m hne hlt
  · have h1 := (World.ownsRow.lt hk2 k hk).2
    have h2 := e k hk
    exact ⟨by omega, h1, fun ht => by
      have := (h.at_.tb_lt (ht.of_block (m.block p hlt hne))).2
      omega⟩
end Go.Proofs.YtdaokholmlpfkaaDoor
