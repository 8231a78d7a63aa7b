/- Layer 25: bytes are read as a transaction: the ways that give up. -/
import Derived.Test.YtnoookcfacmdkaaReqO
import Derived.Deep.RegionWith
namespace Go.Proofs.Ytnoookcfacmdkaa
open Go.RowKit Go.ChangeMaps
set_option linter.unusedSimpArgs false
set_option linter.unusedVariables false
set_option maxRecDepth 20000

def prepend (ds : List DoR) (o : Option (List DoR × List Int)) : Option (List DoR × List Int) := match o with | none => none | some (x, t) => some (ds ++ x, t)
def flatD (ds : List DoR) : List Value := ds.flatMap DoR.cells
theorem flatD_len : ∀ ds : List DoR, (flatD ds).length = ds.length * 11
  | [] => rfl
  | d :: ds => by
    have h := flatD_len ds
    simp only [flatD, List.flatMap_cons, List.length_append, List.length_cons, cells_len] at h ⊢
    omega
theorem flatD_app (a b : List DoR) : flatD (a ++ b) = flatD a ++ flatD b := by simp [flatD]
theorem flatD_get : ∀ (ds : List DoR) (i : Nat) (d : DoR), ds[i]? = some d → ∀ j v, d.cells[j]? = some v → (flatD ds)[i * 11 + j]? = some v
  | [], i, d, h, j, v, hv => by simp at h
  | x :: ds, 0, d, h, j, v, hv => by
    simp at h
    subst h
    have hj := (List.getElem?_eq_some_iff.1 hv).1
    simp only [flatD, List.flatMap_cons, Nat.zero_mul, Nat.zero_add]
    rw [List.getElem?_append_left hj]
    exact hv
  | x :: ds, i + 1, d, h, j, v, hv => by
    simp at h
    have ih := flatD_get ds i d h j v hv
    simp only [flatD, List.flatMap_cons] at ih ⊢
    rw [List.getElem?_append_right (by simp only [cells_len]; omega)]
    rw [cells_len, show (i + 1) * 11 + j - 11 = i * 11 + j by omega]
    exact ih
theorem dos_own {w : World} {base : Nat} {v : Value} {ds : List DoR} (h : w.ownsRow base 78 11 v ds.length (flatD ds)) : DosAt w v ds := by
  obtain ⟨h1, h2⟩ := h
  rcases h2 with ⟨rfl, h0⟩ | ⟨g, cap, cur, rfl, _, hg, hn, hc, hsz, ht⟩
  · refine ⟨none, 0, by rw [h0], fun i d hd => ?_⟩
    have h5 := (List.getElem?_eq_some_iff.1 hd).1
    omega
  · refine ⟨_, cap, rfl, fun i d hd => ⟨g, 0, rfl, fun j u hu => ?_⟩⟩
    have hf := flatD_get ds i d hd j u hu
    have hlt : i * 11 + j < ds.length * 11 := by
      have h3 := (List.getElem?_eq_some_iff.1 hf).1
      rw [flatD_len] at h3
      exact h3
    rw [← ht, List.getElem?_take, if_pos hlt] at hf
    rw [Nat.zero_add, cell_blk hg, ← Array.getElem?_toList]
    exact hf
theorem infoDo2 : ∃ i z, Try.prog.info? 78 = some i ∧ i.zero = some z ∧ i.size = 11 ∧ i.bytes = 104 ∧ z.cells.size = 11 := by
  have h : (Try.prog.info? 78).map (fun i => (i.zero.map (·.cells.size), i.size, i.bytes)) = some (some 11, 11, 104) := by kernel_rfl
  cases hi : Try.prog.info? 78 with
  | none => rw [hi] at h; cases h
  | some i =>
    rw [hi] at h
    simp only [Option.map_some, Option.some.injEq, Prod.mk.injEq] at h
    obtain ⟨h1, h2, h3⟩ := h
    cases hz : i.zero with
    | none => rw [hz] at h1; cases h1
    | some z => rw [hz] at h1; exact ⟨i, z, rfl, hz, h2, h3, by simpa using h1⟩
theorem app_do {w : World} {base : Nat} {v : Value} {ds : List DoR} (h : w.ownsRow base 78 11 v ds.length (flatD ds)) (hb : base ≤ w.heap.size) (d : DoR) (hlen : ds.length ≤ 1000) {g : Nat} (hg : g = w.heap.size) :
    ∃ v' w', (Builtin.append_ #[50, 50] 50 #[v, .slice (some ⟨g, 0, none⟩) 1 1]).run Try.prog (w.alloc (.cells d.cells.toArray 78)) = .ok v' w' ∧ w'.ownsRow base 78 11 v' (ds ++ [d]).length (flatD (ds ++ [d])) ∧ Grew w v w' v' := by
  subst hg
  obtain ⟨i, z, hi, hz, hs1, hby, hzs⟩ := infoDo2
  have hm := (Mod.refl [] w).alloc (.cells d.cells.toArray 78)
  have hsrc : Src Try.prog 11 50 (.slice (some ⟨w.heap.size, 0, none⟩) 1 1) 1 d.cells (w.alloc (.cells d.cells.toArray 78)) :=
    Src.ofSlice (P := Try.prog) (w.alloc (.cells d.cells.toArray 78)) Try.underlying50 ⟨w.heap.size, 0, none⟩ 1 1 d.cells rfl (fun j u hu => by
      rw [Addr.add_mid, Nat.zero_add, cell_blk (heap_alloc_new w _)]
      simpa using hu) (by simp [DoR.cells, Value.oneCell'])
  obtain ⟨v', w', h1, h2, h3⟩ := append_own (P := Try.prog) base 50 50 50 78 i z 11 104 Try.underlying50 hi hz hs1 hby hzs (by omega) (ownsRow_kept0 h hm) hsrc (by unfold maxLen; omega) (by omega) (Nat.le_trans hb hm.size)
  refine ⟨v', w', h1, ?_, (Grew.of v hm).trans h3⟩
  rw [List.length_append, flatD_app]
  simpa [flatD] using h2
/-! ### an operation is appended: the way on which its reading gives up -/
theorem wpOp_call {P : Program} {ops : Array Oper} {Q : Exit → Act → World → Prop} {K : Act → World → Prop} {i : Nat} {o : Oper} {a : Act} {w w' : World} {f : FuncId} {args : Array Value} (ho : ops[i]? = some o) (hw : Region.wanted o (yielded ops a.tmps) = true) (hrun : (execOp a.eval o).run P w = .ok (.enter f args) w')
    (h : Calls P f args w' fun e w2 => match e with | .returned v => K (a.put o.dst v) w2 | .panicked chain => Q (.panic chain) a w2 | .outgrown => LetsOut Q) : wpOp P ops Q i K a w := by
  unfold wpOp
  rw [ho]
  simp only [hw, if_true]
  left
  unfold Oper.wp
  rw [hrun]
  exact h.mono fun e w2 he => by cases e <;> exact he
theorem wpAny_inv0 {P : Program} {ops : Array Oper} {Q : Exit → Act → World → Prop} {md : Region.Mode} (J : Act → Array Bool → Act → World → Prop) (fuel : Nat) (listed0 : Array Bool) (a0 : Act) (w0 : World) (step : ∀ listed a w i, i ∈ Region.ready md ops listed → J a0 listed a w → wpOp P ops Q i (J a0 (listed.setIfInBounds i true)) a w)
    (fin : ∀ listed a w, Region.ready md ops listed = [] → J a0 listed a w → Q .normal a w) (hsz : ∀ listed a w, J a0 listed a w → listed.size = ops.size) (hc : left_ listed0 ops.size ≤ fuel) (h : J a0 listed0 a0 w0) : wpAny P md ops Q fuel listed0 a0 w0 :=
  wpAny_inv (J a0) step fin hsz fuel listed0 a0 w0 hc h
theorem exec_do {a : Act} {o : Oper} {x : Operand} {X : Value} {w : World} {ts : Array TypeId} (ho : o.op = .call { callee := .value (.func 39), args := #[x], argTypes := ts }) (hx : a.eval x = X) : (execOp a.eval o).run Try.prog w = .ok (.enter 39 #[X]) w := by
  subst hx
  unfold execOp
  rw [ho]
  go_simp
theorem ownsRow_one_cell {w : World} {base : Nat} {e : TypeId} {size : Nat} {v : Value} {n : Nat} {xs : List Value} (h : w.ownsRow base e size v n xs) : (#[v] : Array Value).all (·.oneCell') = true ∧ v.cells = #[v] := by
  rcases h.2 with ⟨rfl, _⟩ | ⟨g, cap, cur, rfl, _⟩ <;> simp [Value.oneCell', Value.cells]
theorem store_one {w : World} {b : Nat} {t : TypeId} (T : TypeId) (a : List Value) (x : Value) (z : List Value) (y : Value) (h : w.heap[b]? = some (.cells (a ++ (x :: z)).toArray t (0, 0))) (hi : (Try.prog.info? T).map (·.size) = some 1) (h1 : (#[y] : Array Value).all (·.oneCell') = true ∧ y.cells = #[y]) :
    ∃ w', (Instr.storeAt T (.pointer (some ⟨b, a.length, none⟩)) y).run Try.prog w = .ok () w' ∧ Mod [b] w w' ∧ w'.heap[b]? = some (.cells (a ++ (y :: z)).toArray t (0, 0)) := by
  refine ⟨_, run_storeAt_blk h (by simp) T hi h1.2 (by simpa using h1.1), (Mod.refl _ _).setCell (by simp) _, ?_⟩
  rw [heap_setCell_blk h]
  congr 2
  apply Array.ext'
  simp
set_option maxHeartbeats 1000000 in
theorem build_do (d : DoR) (w : World) : (Instr.buildSlice 50 1 #[(0, .agg d.cells.toArray)]).run Try.prog w = .ok (.slice (some ⟨w.heap.size, 0, none⟩) 1 1) (w.alloc (.cells d.cells.toArray 78)) := by
  obtain ⟨k, f, nm, fk, a, b, vk, c, s, e, tx⟩ := d
  unfold DoR.cells
  go_simp
theorem xBuildSlice {P : Program} {ops : Array Oper} {rest : List Oper} {o : Oper} {a : Act} {w w' : World} {Q : Exit → Act → World → Prop} {v : Value} {t : TypeId} {n : Nat} {parts : Array (Nat × Operand)} {ps : Array (Nat × Value)} (hrun : (Instr.buildSlice t n ps).run P w = .ok v w') (ho : o.op = .buildSlice t n parts) (hp : (parts.map fun (i, x) => (i, a.eval x)) = ps)
    (hg : Region.wanted o (yielded ops a.tmps) = true) (h : wpList P ops Q rest (a.put o.dst v) w') : wpList P ops Q (o :: rest) a w := by
  subst hp
  exact wpList_val hg (by unfold execOp; rw [ho]; simp [Sem.run_bind, hrun, Result.andThen]) h
structure PInv (a0 : Act) (W0 : World) (p q : Value) (listed : Array Bool) (a : Act) (w : World) : Prop where
  size : listed.size = 8
  world : w = W0
  low : ∀ j, listed.getD j false = true → j < 3
  tmps : a.tmps.size = 48
  defers : a.defers = a0.defers
  same : ∀ s, s ≠ 21 → s ≠ 22 → s ≠ 23 → a.tmps[s]? = a0.tmps[s]?
  s21 : listed.getD 0 false = true → a.tmps[21]? = some p
  s23 : listed.getD 2 false = true → a.tmps[23]? = some q
theorem set8 {listed : Array Bool} {i j : Nat} (h : listed.size = 8) (hi : i < 8) : (listed.setIfInBounds i true).getD j false = true ↔ (listed.getD j false = true ∨ j = i) := by
  simp only [Array.getD_eq_getD_getElem?, Array.getElem?_setIfInBounds]
  by_cases e : i = j
  · subst e; simp [h, hi]
  · simp [e, Ne.symm e]
theorem PInv.put {a0 : Act} {W0 : World} {p q : Value} {listed : Array Bool} {a : Act} {w : World} (h : PInv a0 W0 p q listed a w) {i d : Nat} {v : Value} (hi : i = 0 ∧ d = 21 ∧ v = p ∨ i = 1 ∧ d = 22 ∨ i = 2 ∧ d = 23 ∧ v = q) :
    PInv a0 W0 p q (listed.setIfInBounds i true) (a.put (some d) v) w := by
  have hs : ∀ k, (listed.setIfInBounds i true).getD k false = true ↔ (listed.getD k false = true ∨ k = i) := fun k => set8 h.size (by omega)
  refine ⟨by simp [h.size], h.world, fun j hj => ?_, by rw [put_size, h.tmps], by rw [put_defers, h.defers], fun s h1 h2 h3 => ?_, fun h0 => ?_, fun h2 => ?_⟩
  · rcases (hs j).1 hj with hj | hj
    · exact h.low j hj
    · omega
  · rw [put_other _ _ (by omega)]; exact h.same s h1 h2 h3
  · rcases (hs 0).1 h0 with h0 | h0
    · by_cases e : d = 21
      · have : v = p := by rcases hi with hi | hi | hi
                           · exact hi.2.2
                           · omega
                           · omega
        subst e; subst this
        exact put_slot_eq _ _ _ (by rw [h.tmps]; omega)
      · rw [put_other _ _ e]; exact h.s21 h0
    · have : d = 21 ∧ v = p := by rcases hi with hi | hi | hi
                                  · exact hi.2
                                  · omega
                                  · omega
      obtain ⟨rfl, rfl⟩ := this
      exact put_slot_eq _ _ _ (by rw [h.tmps]; omega)
  · rcases (hs 2).1 h2 with h2 | h2
    · by_cases e : d = 23
      · have : v = q := by rcases hi with hi | hi | hi
                           · omega
                           · omega
                           · exact hi.2.2
        subst e; subst this
        exact put_slot_eq _ _ _ (by rw [h.tmps]; omega)
      · rw [put_other _ _ e]; exact h.s23 h2
    · have : d = 23 ∧ v = q := by rcases hi with hi | hi | hi
                                  · omega
                                  · omega
                                  · exact hi.2
      obtain ⟨rfl, rfl⟩ := this
      exact put_slot_eq _ _ _ (by rw [h.tmps]; omega)
/-- Texts are no longer than what they are read of. -/
theorem pText_len {m : Nat} {l r : List Int} {s : ByteArray} (h : pText m l = some (s, r)) : s.size ≤ l.length ∧ r.length ≤ l.length := by
  unfold pText at h
  split at h
  · cases h
  · rename_i n r1 e
    obtain ⟨_, _, e1⟩ := pNum_some e
    split at h
    · cases h
    · rename_i x r2 e2
      obtain ⟨h1, h2, h3⟩ := tk_some e2
      simp at h
      rw [← h.1, ← h.2, str_size, h2, h3, e1]
      simp
      omega
theorem pSpan_len {l r : List Int} {x : Int × Int} (h : pSpan l = some (x, r)) : r.length ≤ l.length := by
  unfold pSpan at h
  split at h
  · cases h
  · rename_i n r1 e
    obtain ⟨_, _, e1⟩ := pNum_some e
    split at h
    · cases h
    · rename_i b r2 e2
      obtain ⟨_, _, e3⟩ := pNum_some e2
      simp at h
      rw [← h.2, e3, e1]
      simp <;> omega
theorem pVal_len {l r : List Int} {x : Int × Int × Int} (h : pVal l = some (x, r)) : r.length ≤ l.length := by
  unfold pVal at h
  split at h
  · cases h
  · rename_i k r1 e
    obtain ⟨_, _, e1⟩ := pNum_some e
    split at h
    · split at h
      · cases h
      · rename_i c r2 e2
        obtain ⟨_, _, e3⟩ := pNum_some e2
        split at h
        · cases h
        · rename_i s r3 e4
          obtain ⟨_, _, e5⟩ := pNum_some e4
          simp at h
          rw [← h.2, e5, e3, e1]
          simp <;> omega
    · simp at h
      rw [← h.2, e1]
      simp
theorem pDo_len {l r : List Int} {d : DoR} (h : pDo l = some (d, r)) : d.nm.size ≤ l.length ∧ d.tx.size ≤ l.length ∧ r.length ≤ l.length := by
  have hz : DoR.zero.nm.size = 0 ∧ DoR.zero.tx.size = 0 := ⟨rfl, rfl⟩
  unfold pDo at h
  split at h
  · cases h
  · rename_i k r1 e
    obtain ⟨_, _, e1⟩ := pNum_some e
    have l1 : r1.length ≤ l.length := by rw [e1]; simp
    split at h
    · split at h
      · cases h
      · rename_i nm r2 e2
        obtain ⟨h3, h4⟩ := pText_len e2
        split at h
        · cases h
        · rename_i fk r3 e3
          obtain ⟨_, _, e4⟩ := pNum_some e3
          simp at h
          rw [← h.1, ← h.2, e4]
          simp only [hz.2, List.length_drop]
          omega
    · split at h
      · cases h
      · rename_i f r2 e2
        obtain ⟨_, _, e3⟩ := pNum_some e2
        have l2 : r2.length ≤ l.length := by rw [e3]; simp <;> omega
        split at h
        · split at h
          · cases h
          · rename_i x r3 e4
            have l3 := pSpan_len e4
            split at h
            · cases h
            · rename_i v r4 e5
              have l4 := pVal_len e5
              simp at h
              rw [← h.1, ← h.2]
              simp only [hz.1, hz.2]
              omega
        · split at h
          · split at h
            · cases h
            · rename_i x r3 e4
              have l3 := pSpan_len e4
              simp at h
              rw [← h.1, ← h.2]
              simp only [hz.1, hz.2]
              omega
          · split at h
            · split at h
              · cases h
              · rename_i x r3 e4
                obtain ⟨l3, l4⟩ := pText_len e4
                simp at h
                rw [← h.1, ← h.2]
                simp only [hz.1]
                omega
            · simp at h
              rw [← h.1, ← h.2]
              simp only [hz.1, hz.2]
              omega

set_option maxHeartbeats 1000000 in
theorem dec_n_none {w : World} {bb : Nat} {sv : Value} {l : List Int} (h : RdB w bb sv l) (hb : bb < w.heap.size) (hB : Byt l) {r1 : List Int} (B1 : Byt r1) (E0 : Hid (pNum 1 l = some (1, r1))) (E1 : Hid (pNum 1 r1 = none)) :
    Calls Try.prog 25 #[sv] w (Wrong w) := by
  have S0 := Lib.hid (Dec.start h hb)
  have HI := Lib.hid h
  obtain ⟨a, c, hform⟩ := h.bytes.form
  subst hform
  clear h
  have hmf : ∀ (fn : Fn) (first cap : Array Value) (w : World), (Instr.makeFunc fn first cap).run Try.prog w = .ok (.func fn first cap) w := fun _ _ _ _ => rfl
  go_enter_defers Try.func25, Try.ntmps25
  go_wp2_with fail
  refine (rnum_any S0.out.rd hB 1 (by omega)).mono ?_
  rintro e w1 hr
  obtain ⟨rfl, h1, m1⟩ := reads_some hr E0.out
  have S1 := Lib.hid (S0.out.call h1 m1)
  have S2 := Lib.hid ((S1.out.set 0 (.int .u8 1)).to (c2' := #[.int .u8 1, .slice none 0 0, .int .i64 0, .int .i64 0]) (by simp))
  have q := cell_blk S1.out.out 0
  have fz := frozen_blk S1.out.out 0
  have p0 := cell_blk S2.out.out 0
  simp only [List.getElem?_toArray, List.getElem?_cons_zero] at q p0
  clear hr h1 m1
  go_wp2_with fail
  clear q fz p0
  refine (rnum_any S2.out.rd B1 1 (by omega)).mono ?_
  rintro e w2 hr
  obtain ⟨rfl, mx⟩ := reads_none hr E1.out
  have HD := Lib.hid (wrong_end S2.out mx rfl)
  clear hr mx
  go_wp2_with fail
  refine wrong_leaves HD.out _ ?_ ?_ <;> rfl

set_option maxHeartbeats 4000000 in
theorem dec_commit {w : World} {bb : Nat} {sv : Value} {l : List Int} (h : RdB w bb sv l) (hb : bb < w.heap.size) (hB : Byt l) {r1 r2 : List Int} {n : Nat} (B1 : Byt r1) (E0 : Hid (pNum 1 l = some (1, r1))) (hn : n < 256) (B2 : Hid (Byt r2)) (L2 : Hid (r2.length ≤ l.length)) (L9 : Hid (l.length ≤ 140737488355328)) (E1 : Hid (pNum 1 r1 = some ((n : Int), r2))) (NO : Hid (∀ ds t, pDos n r2 = some (ds, t) → ¬ (RecR.may ⟨1, ds, 0, 0⟩ = true ∧ RecR.enc ⟨1, ds, 0, 0⟩ = l))) :
    Calls Try.prog 25 #[sv] w (Wrong w) := by
  have S0 := Lib.hid (Dec.start h hb)
  have HI := Lib.hid h
  obtain ⟨a, c, hform⟩ := h.bytes.form
  subst hform
  clear h
  have hmf : ∀ (fn : Fn) (first cap : Array Value) (w : World), (Instr.makeFunc fn first cap).run Try.prog w = .ok (.func fn first cap) w := fun _ _ _ _ => rfl
  go_enter_defers Try.func25, Try.ntmps25
  go_wp2_with fail
  refine (rnum_any S0.out.rd hB 1 (by omega)).mono ?_
  rintro e w1 hr
  obtain ⟨rfl, h1, m1⟩ := reads_some hr E0.out
  have S1 := Lib.hid (S0.out.call h1 m1)
  have S2 := Lib.hid ((S1.out.set 0 (.int .u8 1)).to (c2' := #[.int .u8 1, .slice none 0 0, .int .i64 0, .int .i64 0]) (by simp))
  have q := cell_blk S1.out.out 0
  have fz := frozen_blk S1.out.out 0
  have p0 := cell_blk S2.out.out 0
  simp only [List.getElem?_toArray, List.getElem?_cons_zero] at q p0
  clear hr h1 m1
  go_wp2_with fail
  clear q fz p0
  refine (rnum_any S2.out.rd B1 1 (by omega)).mono ?_
  rintro e w2 hr
  obtain ⟨rfl, h2, m2⟩ := reads_some hr E1.out
  have S3 := Lib.hid (S2.out.call h2 m2)
  clear hr h2 m2
  go_wp2_with fail
  go_loopw [19] (fun s19 W => ∃ (i : Nat) (ds : List DoR) (rest : List Int) (v : Value), s19 = .int .u64 i ∧ i ≤ n ∧ Hid (ds.length = i) ∧ Hid (Dec w bb W rest #[.int .u8 1, v, .int .i64 0, .int .i64 0] (.int .i64 0)) ∧
      Hid (W.ownsRow (w.heap.size + 3) 78 11 v ds.length (flatD ds)) ∧ Hid (pDos n r2 = prepend ds (pDos (n - i) rest)) ∧ Hid (Byt rest) ∧ Hid (rest.length ≤ l.length) ∧ Hid (∀ d ∈ ds, d.Wf ∧ d.Fit)) (fun s19 _ => n - (intOf s19).toNat)
  case atStart => exact ⟨0, [], r2, .slice none 0 0, rfl, by omega, Lib.hid rfl, S3, Lib.hid (World.ownsRow_nil _ _ _ _), Lib.hid (by
    cases h : pDos n r2 with
    | none => simp [h, prepend]
    | some x => simp [h, prepend]), B2, L2, Lib.hid (by simp)⟩
  case round =>
    obtain ⟨i, ds, rest, v, rfl, hi, hdl, hS, hown, hpd, hbt, hrl, hds⟩ := hrel
    by_cases hlt : i < n
    · obtain ⟨m, hm⟩ : ∃ m, n - i = m + 1 := ⟨n - i - 1, by omega⟩
      rw [hm] at hpd
      cases hq : pDo rest with
      | none =>
        have HQ := Lib.hid hq
        clear hq hm
        have q1 := cell_blk hS.out.out 1
        simp only [List.getElem?_toArray, List.getElem?_cons_succ, List.getElem?_cons_zero] at q1
        have hform := (dos_own hown.out)
        obtain ⟨da, dc, hdv, _⟩ := hform
        subst hdv
        go_wp2_with fail
        have HD : Hid (∀ W2, Mod [w.heap.size + 2] wr.drew W2 → DecEnd w W2) := Lib.hid fun W2 mx => wrong_end (hS.out.quiet ((Mod.refl [] _).drew)) mx rfl
        have HC := Lib.hid (rdo_any ((hS.out.quiet ((Mod.refl [] _).drew)).rd) hbt.out)
        have HLD := Lib.hid q1
        clear q1
        refine wp_region_any (by kernel_rfl) ?_
        refine wpAny_inv0 (fun a0 => PInv a0 wr.drew (.pointer (some ⟨w.heap.size, 1, none⟩)) (.pointer (some ⟨w.heap.size + 2, 0, none⟩))) _ _ _ _ ?step ?fin ?sz ?cnt ?ini
        case sz => exact fun _ _ _ h => h.size
        case cnt => decide +kernel
        case ini =>
          have hf : ∀ i, (Array.replicate 8 false).getD i false = false := fun i => by
            rw [Array.getD_eq_getD_getElem?, Array.getElem?_replicate]; split <;> rfl
          refine ⟨by simp, rfl, fun j h => ?_, rfl, rfl, fun _ _ _ _ => rfl, fun h => ?_, fun h => ?_⟩
          · exact absurd (hf j) (by rw [show (Array.replicate 8 false).getD j false = true from h]; simp)
          · exact absurd (hf 0) (by rw [show (Array.replicate 8 false).getD 0 false = true from h]; simp)
          · exact absurd (hf 2) (by rw [show (Array.replicate 8 false).getD 2 false = true from h]; simp)
        case fin =>
          intro listed a1 w1 hr hI
          have hsz : listed.size = 8 := hI.size
          have l2 := listed_of hr (i := 2) rfl hsz (by simp)
          have l3 := listed_of hr (i := 3) rfl hsz (by simpa using l2)
          have := hI.low 3 l3
          omega
        case step =>
          intro listed a1 w1 j hj hI
          obtain ⟨h1, h2, h3⟩ := ready_mem hj
          have hw1 := hI.world
          subst hw1
          have h1' : j < 8 := h1
          have h15 : j = 0 ∨ j = 1 ∨ j = 2 ∨ j = 3 ∨ j = 4 ∨ j = 5 ∨ j = 6 ∨ j = 7 := by omega
          clear hj h1 h1' h2
          have e2 : a1.tmps[2]? = some (.pointer (some ⟨w.heap.size, 0, none⟩)) := (hI.same 2 (by omega) (by omega) (by omega)).trans rfl
          have e3 : a1.tmps[3]? = some (.pointer (some ⟨w.heap.size + 1, 0, none⟩)) := (hI.same 3 (by omega) (by omega) (by omega)).trans rfl
          have e4 : a1.tmps[4]? = some (.pointer (some ⟨w.heap.size + 2, 0, none⟩)) := (hI.same 4 (by omega) (by omega) (by omega)).trans rfl
          rcases h15 with rfl | rfl | rfl | rfl | rfl | rfl | rfl | rfl
          · refine wpOp_val rfl rfl (v := .pointer (some ⟨w.heap.size, 1, none⟩)) (w' := wr.drew) ?_ (hI.put (.inl ⟨rfl, rfl, rfl⟩))
            unfold execOp
            simp only [eval_tmp e2]
            go_simp
          · have e1 := hI.s21 (h3 _ rfl _ List.mem_cons_self rfl)
            refine wpOp_val rfl rfl (exec_load rfl (eval_tmp e1) (w' := wr.drew) (v := .slice da ds.length dc) ?_) (hI.put (.inr (.inl ⟨rfl, rfl⟩)))
            have hq := HLD.out
            go_simp
          · exact wpOp_val rfl rfl (exec_move (.inl rfl) (eval_tmp e4)) (hI.put (.inr (.inr ⟨rfl, rfl, rfl⟩)))
          · have e5 := hI.s23 (h3 _ rfl _ List.mem_cons_self rfl)
            refine wpOp_call rfl rfl (f := 39) (args := #[.pointer (some ⟨w.heap.size + 2, 0, none⟩)]) (w' := wr.drew) ?_ (HC.out.mono ?_)
            · exact exec_do rfl (eval_tmp e5)
            · intro e W2 hr
              obtain ⟨rfl, mx⟩ := reads_none hr HQ.out
              have hdf := hI.defers
              obtain ⟨tm, df⟩ := a1
              dsimp only at hdf e2 e3
              subst hdf
              exact wrong_leaves (HD.out W2 mx) tm e2 e3
          · exact absurd (hI.low 3 (h3 _ rfl _ List.mem_cons_self rfl)) (by omega)
          · exact absurd (hI.low 4 (h3 _ rfl _ (List.mem_cons_of_mem _ List.mem_cons_self) rfl)) (by omega)
          · exact absurd (hI.low 3 (h3 _ rfl _ (List.mem_cons_of_mem _ (List.mem_cons_of_mem _ (List.mem_cons_of_mem _ List.mem_cons_self))) rfl)) (by omega)
          · exact absurd (hI.low 6 (h3 _ rfl _ List.mem_cons_self rfl)) (by omega)
      | some y =>
        obtain ⟨d, rest'⟩ := y
        obtain ⟨hwf, hbt'⟩ := pDo_byt hbt.out hq
        obtain ⟨hn1, hn2, hn3⟩ := pDo_len hq
        have hfit : d.Fit := ⟨by have := hrl.out; have := L9.out; omega, by have := hrl.out; have := L9.out; omega⟩
        have HQ := Lib.hid hq
        have HN := Lib.hid (show pDos n r2 = prepend (ds ++ [d]) (pDos (n - (i + 1)) rest') by
          rw [hpd.out, show n - (i + 1) = m by omega]
          simp only [pDos, hq]
          cases pDos m rest' with
          | none => rfl
          | some x => simp [prepend])
        have HBT := Lib.hid hbt'
        have HRL := Lib.hid (show rest'.length ≤ l.length from Nat.le_trans hn3 hrl.out)
        have HDS : Hid (∀ y ∈ ds ++ [d], y.Wf ∧ y.Fit) := Lib.hid (by
          intro y hy
          rcases List.mem_append.1 hy with hy | hy
          · exact hds.out y hy
          · rw [List.mem_singleton.1 hy]; exact ⟨hwf, hfit⟩)
        have HDL := Lib.hid (show (ds ++ [d]).length = i + 1 by simp [hdl.out])
        have hi1000 : ds.length ≤ 1000 := by rw [hdl.out]; omega
        clear hq hm hwf hfit hn1 hn2 hn3 hbt'
        have q1 := cell_blk hS.out.out 1
        simp only [List.getElem?_toArray, List.getElem?_cons_succ, List.getElem?_cons_zero] at q1
        have hfo := dos_own hown.out
        obtain ⟨da, dc, hdv, hfo2⟩ := hfo
        clear hfo2
        subst hdv
        go_wp2_with fail
        refine wp_plan [([0, 2, 1], 3, [0, 1]), ([], 4, [0, 1]), ([], 5, []), ([6], 7, [])] [] (by kernel_rfl) (by kernel_rfl) ?_
        simp only [wpSegs, opsOf, List.map_cons, List.map_nil, opN, List.getD_cons_zero, List.getD_cons_succ]
        go_wp2_with fail
        refine ⟨by first | trivial | rfl, ?_⟩
        go_wp2_with fail
        refine (rdo_any ((hS.out.quiet ((Mod.refl [] _).drew)).rd) hbt.out).mono ?_
        intro e W2 hr
        obtain ⟨rfl, h2, m2⟩ := reads_some hr HQ.out
        have S5 := Lib.hid ((hS.out.quiet ((Mod.refl [] _).drew)).call h2 m2)
        have hmd := (((Mod.refl [] wr).drew).nil (l := [w.heap.size + 2])).trans m2
        have ho2 := ownsRow_kept hown.out hmd (fun k hk => by
          have := (World.ownsRow.lt hown.out k hk).1
          simp; omega)
        have q2 := cell_blk S5.out.out 1
        have q21 := cell_blk ((heap_alloc_ne W2 (.cells d.cells.toArray 78) (lt_of_heap S5.out.out)).trans S5.out.out) 1
        simp only [List.getElem?_toArray, List.getElem?_cons_succ, List.getElem?_cons_zero] at q2 q21
        have hsz2 := lt_of_heap S5.out.err
        have hrb2 := S5.out.rd.lt
        obtain ⟨v6, w6, r6, o6, g6⟩ := app_do ho2 (by omega) d hi1000 rfl
        have hS6 : Dec w bb w6 rest' #[.int .u8 1, .slice da ds.length dc, .int .i64 0, .int .i64 0] (.int .i64 0) := by
          have hno : ∀ k, k < w.heap.size + 3 → k ∉ blk (.slice da ds.length dc) := fun k hk hm => by
            rw [mem_blk] at hm
            have := (World.ownsRow.lt ho2 k hm).1
            omega
          exact ⟨S5.out.rd.kept g6.mod (hno _ (by omega)) (hno _ (by have := S5.out.ltb; omega)), g6.mod.heap S5.out.out (hno _ (by omega)), g6.mod.heap S5.out.err (hno _ (by omega)), g6.intoNil ho2 (by omega) S5.out.mod, S5.out.ltb⟩
        obtain ⟨w7, hst, mst, gst⟩ := store_one 50 [.int .u8 1] (.slice da ds.length dc) [.int .i64 0, .int .i64 0] v6 hS6.out (by kernel_rfl) (ownsRow_one_cell o6)
        have S7 := Lib.hid (hS6.outS mst gst)
        have HO7 := Lib.hid (ownsRow_kept o6 mst (fun k hk => by
          have := (World.ownsRow.lt o6 k hk).1
          simp; omega))
        have HR6 := Lib.hid r6
        have HST : Hid ((Instr.storeAt 50 (.pointer (some ⟨w.heap.size, 1, none⟩)) v6).run Try.prog w6 = .ok () w7) := Lib.hid hst
        clear hr h2 m2 hmd ho2 r6 o6 g6 hS6 hst mst gst hsz2 hrb2
        go_wp2_with fail
        refine ⟨?agC1, ?_⟩
        case agC1 =>
          intro i hi hw
          simp only [List.mem_cons, List.not_mem_nil, or_false] at hi
          rcases hi with rfl | rfl
          all_goals (simp only [opN, List.getD_cons_zero, List.getD_cons_succ, slotOf]; go_simp)
        go_wp2_with fail
        refine ⟨by first | trivial | rfl, ?_⟩
        refine xBuildSlice (build_do d W2) rfl (by simp [Act.eval]) rfl ?_
        go_wp2_with fail
        refine ⟨?agC2, ?_⟩
        case agC2 =>
          intro i hi hw
          simp only [List.mem_cons, List.not_mem_nil, or_false] at hi
          rcases hi with rfl | rfl
          all_goals (simp only [opN, List.getD_cons_zero, List.getD_cons_succ, slotOf]; go_simp)
        go_wp2_with fail
        refine ⟨by first | trivial | rfl, ?_⟩
        go_wp2_with ((with_reducible refine xAppendAt HR6.out rfl rfl ?_ ?_ ?_ ?_); exact rfl; exact rfl; exact rfl)
        refine ⟨again_nil, ?_⟩
        go_wp2_with fail
        refine ⟨by first | trivial | rfl, ?_⟩
        go_wp2_with ((with_reducible refine xStoreAt rfl HST.out ?_ ?_ ?_ ?_); exact rfl; exact rfl; exact rfl)
        refine ⟨again_nil, ?_⟩
        go_wp2_with fail
        refine ⟨by first | trivial | rfl, ?_⟩
        go_wp2_with fail
        go_roundw
        case rel => exact ⟨i + 1, ds ++ [d], rest', v6, by go_num, by omega, HDL, S7, HO7, HN, HBT, HRL, HDS⟩
        case measure => simp [intOf]; omega
    · have hin : i = n := by omega
      have HPD : Hid (pDos n r2 = some (ds, rest)) := Lib.hid (by
        rw [hpd.out, hin, Nat.sub_self]
        simp [pDos, prepend])
      have hno := NO.out ds rest HPD.out
      have NO2 := Lib.hid hno
      have hge : n ≤ i := by omega
      have hi1000 : ds.length ≤ 1000 := by rw [hdl.out]; omega
      have WF : Hid (RecR.Wf ⟨1, ds, 0, 0⟩) := Lib.hid ⟨⟨by simp, by simp⟩, fun d hd => (hds.out d hd).1⟩
      have hfo := dos_own hown.out
      have HDO := Lib.hid hfo
      obtain ⟨da, dc, hdv, hfo2⟩ := hfo
      clear hfo2 hno hin
      subst hdv
      have HL := Lib.hid (load_blk (P := Try.prog) 54 hS.out.out Try.underlying54 rfl sizeRecord)
      go_wp2_with ((with_reducible refine xLoadAt rfl HL.out ?_ ?_ ?_); exact rfl; exact rfl)
      by_cases hm : RecR.may ⟨1, ds, 0, 0⟩ = true
      · refine (encode_yes ⟨1, ds, 0, 0⟩ (.slice da ds.length dc) _ HDO.out (fun d hd => (hds.out d hd).2) (by dsimp only; omega) hm).mono ?_
        rintro e w5 ⟨v5, rfl, o5, m5⟩
        have S5 := Lib.hid (hS.out.quiet m5)
        have S6 := Lib.hid (S5.out.setE (.int .i64 0))
        have qe := cell_blk S5.out.err 0
        have fe := frozen_blk S5.out.err 0
        have pe := cell_blk S6.out.err 0
        simp only [List.getElem?_toArray, List.getElem?_cons_zero] at qe pe
        have hne : ¬ RecR.enc ⟨1, ds, 0, 0⟩ = l := fun e => NO2.out ⟨hm, e⟩
        have hi5 : RdB w5 bb (.slice a l.length c) l := (HI.out.kept hS.out.mod (by simp)).kept m5 (by simp)
        have hmE : Mod [w.heap.size + 1] w5 (w5.setCell ⟨w.heap.size + 1, 0, none⟩ (.int .i64 0)) := (Mod.refl _ _).setCell (by simp) _
        have hi6 := hi5.kept hmE (by simp; omega)
        have ho6 : OwnB (w5.setCell ⟨w.heap.size + 1, 0, none⟩ (.int .i64 0)) wr.heap.size v5 (RecR.enc ⟨1, ds, 0, 0⟩) := ownsRow_kept o5 hmE (fun k hk => by
          have := (World.ownsRow.lt o5 k hk).1
          have := lt_of_heap hS.out.err
          simp
          omega)
        have HQ := Lib.hid (equal_any ho6.bytes hi6.bytes (rec_byt WF.out) hB)
        have hdc : decide (RecR.enc ⟨1, ds, 0, 0⟩ = l) = false := decide_eq_false hne
        rw [hdc] at HQ
        have HD := Lib.hid (wrong_end S6.out (Mod.refl _ _) rfl)
        clear o5 m5 hne hi5 hmE hi6 ho6 hdc hm
        go_wp2_with fail
        refine HQ.out.mono ?_
        rintro e w6 ⟨rfl, rfl⟩
        go_wp2_with fail
        refine wrong_leaves HD.out _ ?_ ?_ <;> rfl
      · have hmf' : RecR.may ⟨1, ds, 0, 0⟩ = false := by simpa using hm
        refine (encode_no ⟨1, ds, 0, 0⟩ (.slice da ds.length dc) _ HDO.out (fun d hd => (hds.out d hd).2) (by dsimp only; omega) hmf').mono ?_
        rintro e w5 ⟨rfl, m5⟩
        have S5 := Lib.hid (hS.out.quiet m5)
        have S6 := Lib.hid (S5.out.setE (.int .i64 2))
        have qe := cell_blk S5.out.err 0
        have fe := frozen_blk S5.out.err 0
        have pe := cell_blk S6.out.err 0
        simp only [List.getElem?_toArray, List.getElem?_cons_zero] at qe pe
        have HD := Lib.hid (wrong_end S6.out (Mod.refl _ _) rfl)
        clear m5 hm hmf'
        go_wp2_with fail
        refine wrong_leaves HD.out _ ?_ ?_ <;> rfl

end Go.Proofs.Ytnoookcfacmdkaa
