/- The document's disk: a sector is laid. -/
import Derived.Test.YtnoookcfacmdkaaDiskR
namespace Go.Proofs.Ytnoookcfacmdkaa
open Go.RowKit Go.ChangeMaps
set_option linter.unusedSimpArgs false
set_option linter.unusedVariables false

theorem Mod.grown {w w' : World} {row : Option Nat} {l : List Nat} (h : w.grownBy w' row) (hl : ∀ k, row = some k → k ∈ l ∨ w.heap.size ≤ k) : Mod l w w' :=
  ⟨h.os, h.tape, h.output, h.size, fun k hk hn => h.block k hk fun e => by
    rcases hl k e.symm with h1 | h1
    · exact hn h1
    · omega⟩
theorem wpList_append {P : Program} {ops : Array Oper} {rest : List Oper} {o : Oper} {a : Act} {w w' : World} {Q : Exit → Act → World → Prop} {v : Value} {s x : Operand} {t : TypeId} {V X : Value}
    (hg : Region.wanted o (yielded ops a.tmps) = true) (ho : o.op = .call { callee := .builtin .append, args := #[s, x], argTypes := #[t, t] }) (hs : a.eval s = V) (hx : a.eval x = X)
    (hrun : (Builtin.append_ #[t, t] o.type #[V, X]).run P w = .ok v w') (h : wpList P ops Q rest (a.put o.dst v) w') : wpList P ops Q (o :: rest) a w := by
  subst hs; subst hx
  exact wpList_val hg (by unfold execOp; simp only [ho, resolve, invoke, builtin, Sem.run_bind, Sem.run_pure, Result.andThen_ok, List.map_toArray, List.map_cons, List.map_nil, hrun]) h
theorem infoRow : ∃ i z, Try.prog.info? 71 = some i ∧ i.zero = some z ∧ i.size = 2 ∧ i.bytes = 24 ∧ z.cells.size = 2 := by
  have h : (Try.prog.info? 71).map (fun i => (i.zero.map (·.cells.size), i.size, i.bytes)) = some (some 2, 2, 24) := by kernel_rfl
  cases hi : Try.prog.info? 71 with
  | none => rw [hi] at h; cases h
  | some i =>
    rw [hi] at h
    simp only [Option.map_some, Option.some.injEq, Prod.mk.injEq] at h
    obtain ⟨h1, h2, h3⟩ := h
    cases hz : i.zero with
    | none => rw [hz] at h1; cases h1
    | some z => rw [hz] at h1; exact ⟨i, z, rfl, hz, h2, h3, by simpa using h1⟩
def Rk.lay (R : Rk) (k : Int) (b : ByteArray) : Rk := { R with rows := (k, b) :: R.rows.filter (fun r => !(r.1 == k)) }
theorem oneCell_rows : ∀ (l : List (Int × ByteArray)), ∀ u ∈ rowCells l, u.oneCell' = true
  | [], u, h => by simp [rowCells] at h
  | r :: rs, u, h => by
    simp only [rowCells, List.mem_cons] at h
    rcases h with rfl | rfl | h
    · rfl
    · rfl
    · exact oneCell_rows rs u h
/-- A row is laid behind rows of the call's own. -/
theorem append_row {w : World} {base : Nat} {v : Value} {l : List (Int × ByteArray)} (hown : w.ownsRow base 71 2 v l.length (rowCells l)) (r : Int × ByteArray) {c : Nat} {g0 : Nat}
    (hc : w.rangeAt g0 0 (rowCells [r])) (hl : l.length ≤ 1000000) (hb : base ≤ w.heap.size) :
    ∃ v' w', (Builtin.append_ #[39, 39] 39 #[v, .slice (some ⟨g0, 0, none⟩) 1 c]).run Try.prog w = .ok v' w' ∧ w'.ownsRow base 71 2 v' (l ++ [r]).length (rowCells (l ++ [r])) ∧ Mod v.ownBlock.toList w w' := by
  obtain ⟨i, z, hi, hz, hs, hby, hzs⟩ := infoRow
  obtain ⟨v', w', h1, h2, h3, _⟩ := run_append_own (P := Try.prog) w base 39 39 71 i z 2 24 (by kernel_rfl) hi hz hs hby hzs (by omega) v l.length (rowCells l) hown ⟨g0, 0, none⟩ 1 c (rowCells [r]) rfl
    (fun j u hu => by have := hc j u hu; rw [Addr.add_lit]; simpa using this) (oneCell_rows [r]) (by unfold maxLen; omega) (by omega) hb
  refine ⟨v', w', h1, by rw [rowCells_append]; simpa using h2, Mod.grown h3 fun k hk => .inl (by simp [hk])⟩
theorem RowsAt.of_own {w : World} {base : Nat} {v : Value} {l : List (Int × ByteArray)} (h : w.ownsRow base 71 2 v l.length (rowCells l)) (hl : l.length ≤ 1000000) : ∃ g, base ≤ g ∧ RowsAt w v g l := by
  obtain ⟨hlen, h⟩ := h
  rcases h with ⟨rfl, h0⟩ | ⟨g, cap, cur, rfl, hb, hg, hn, hm, hsz, htk⟩
  · have : l = [] := List.length_eq_zero_iff.1 h0
    subst this
    exact ⟨base, Nat.le_refl _, ⟨⟨none, 0, rfl, .inl rfl⟩, fun j u hu => by simp [rowCells] at hu, by simp⟩⟩
  · refine ⟨g, by omega, ⟨⟨_, cap, rfl, .inr rfl⟩, fun j u hu => ?_, by unfold maxLen; omega⟩⟩
    rw [← htk, List.getElem?_take] at hu
    split at hu
    · rw [cell_blk hg]; simpa using hu
    · cases hu
theorem RefAt.ne {w : World} {b : Nat} {v : Value} {g : Nat} {R : Rk} (h : RefAt w b v g R) (hr : R.rows ≠ []) : b ≠ g := fun e => by
  subst e
  obtain ⟨a, cap, hv, _⟩ := h.rows.form
  have h1 := (h.rows.row (i := 0) (List.length_pos_iff.2 hr)).2
  have h2 := h.c1
  rw [hv] at h2
  simp only [Nat.zero_mul, Nat.zero_add] at h1
  rw [h2] at h1
  cases h1
theorem Mod.toNil {l : List Nat} {w0 w w' : World} (h0 : Mod [] w0 w) (h : Mod l w w') (hl : ∀ k ∈ l, w0.heap.size ≤ k) : Mod [] w0 w' :=
  ⟨h.os.trans h0.os, h.tape.trans h0.tape, h.output.trans h0.output, Nat.le_trans h0.size h.size, fun k hk _ => (h.block k (Nat.lt_of_lt_of_le hk h0.size) fun hn => by have := hl k hn; omega).trans (h0.block k hk (by simp))⟩
theorem ownsRow_one (w : World) (r : Int × ByteArray) : (w.alloc (.cells #[.int .i64 r.1, .string r.2] 71)).ownsRow w.heap.size 71 2 (.slice (some ⟨w.heap.size, 0, none⟩) 1 1) 1 (rowCells [r]) :=
  ⟨rfl, .inr ⟨w.heap.size, 1, #[.int .i64 r.1, .string r.2], rfl, Nat.le_refl _, heap_alloc_new w _, Nat.le_refl _, by unfold maxLen; omega, rfl, rfl⟩⟩
theorem load_row {w : World} {g i : Nat} {r : Int × ByteArray} (h1 : w.cell? ⟨g, i * 2, none⟩ = some (.int .i64 r.1)) (h2 : w.cell? ⟨g, i * 2 + 1, none⟩ = some (.string r.2)) :
    (Instr.loadAt 71 (.pointer (some ⟨g, i * 2, none⟩))).run Try.prog w = .ok (.agg #[.int .i64 r.1, .string r.2]) w := by
  obtain ⟨ti, z, hi, _, hs, _⟩ := infoRow
  refine run_loadAt_mid (P := Try.prog) w g (i * 2) 71 [.int .i64 r.1, .string r.2] _ ?_ Try.underlying71 rfl (by rw [hi]; simp [hs])
  intro j u hu
  match j, hu with
  | 0, hu => simp only [List.getElem?_cons_zero, Option.some.injEq] at hu; subst hu; exact h1
  | 1, hu => simp only [List.getElem?_cons_succ, List.getElem?_cons_zero, Option.some.injEq] at hu; subst hu; exact h2
  | n + 2, hu => simp at hu
set_option maxRecDepth 10000 in
theorem lay_any {w : World} {b : Nat} {v : Value} {g : Nat} {R : Rk} (h : RefAt w b v g R) (hl : R.rows.length ≤ 999999) (k : Int) (s : ByteArray) :
    Calls Try.prog 35 #[.pointer (some ⟨b, 0, none⟩), .int .i64 k, .string s] w fun e w' => e = .returned (.tuple #[]) ∧ Mod [b] w w' ∧ ∃ v' g', w.heap.size ≤ g' ∧ RefAt w' b v' g' (R.lay k s) := by
  have c1 := h.c1
  have hbl := lt_of_heap h.blk
  obtain ⟨a, cap, hv, ha2⟩ := h.rows.form
  subst hv
  have H := Lib.hid h
  have HA := Lib.hid ha2
  clear h ha2
  go_enter Try.func35, Try.ntmps35
  go_wp2_with fail
  go_loopw [6, 7] (fun v6 v7 wr => ∃ i : Nat, i ≤ R.rows.length ∧ v7 = .int .i64 i ∧ Mod [] w wr ∧ Hid (wr.ownsRow w.heap.size 71 2 v6 ((k, s) :: (R.rows.take i).filter (fun r => !(r.1 == k))).length (rowCells ((k, s) :: (R.rows.take i).filter (fun r => !(r.1 == k)))))) (fun _ v7 _ => R.rows.length - (intOf v7).toNat)
  case atStart => exact ⟨0, by omega, rfl, (Mod.refl _ _).alloc _, Lib.hid (ownsRow_one w (k, s))⟩
  case round =>
    obtain ⟨i, hi, rfl, hm, hown⟩ := hrel
    have H2 := Lib.hid (H.out.kept hm (by simp) (by simp))
    have c1' := H2.out.c1
    by_cases hlt : i < R.rows.length
    · have ha3 : a = some ⟨g, 0, none⟩ := by
        rcases HA.out with ha2 | ha2
        · rw [ha2] at hlt; simp at hlt
        · exact ha2
      subst ha3
      obtain ⟨cA, cB⟩ := H2.out.rows.row hlt
      have hg : R.rows[i]? = some R.rows[i] := by simp [hlt]
      have htk : R.rows.take (i + 1) = R.rows.take i ++ [R.rows[i]] := by rw [List.take_add_one, hg]; rfl
      generalize R.rows[i] = r at cA cB hg htk
      have HG := Lib.hid hg
      have HT := Lib.hid htk
      clear hg htk
      by_cases hk : r.1 = k
      · have hq : (r.1 != k) = false := by simp [hk]
        have HK := Lib.hid hk
        clear hk
        go_wp2_with fail
        go_roundw
        case rel =>
          refine ⟨i + 1, by omega, by go_num, hm, ?_⟩
          rw [HT.out, List.filter_append]
          simpa [HK.out] using hown
        case measure => simp [intOf]; omega
      · have hq : (r.1 != k) = true := by simp [hk]
        have HK := Lib.hid hk
        have hlr := Lib.hid (load_row cA cB)
        have hown2 := hown.out.alloc (.cells #[.int .i64 r.1, .string r.2] 71)
        obtain ⟨v', w', hrun, ho2, hm2⟩ := append_row (r := r) (c := 1) (g0 := wr.heap.size) hown2 (rangeAt_blk (c := [.int .i64 r.1, .string r.2]) (heap_alloc_new wr _)) (by have := List.length_filter_le (fun r : Int × ByteArray => !(r.1 == k)) (R.rows.take i); simp [List.length_take] at this ⊢; omega) (by have := hm.size; simp; omega)
        have HRUN := Lib.hid hrun
        have HO := Lib.hid ho2
        have HM := Lib.hid ((hm.alloc _).toNil hm2 (fun k hk => by simp at hk; exact (hown2.lt k hk).1))
        clear hk hrun ho2 hm2 hown2
        go_wp2_with first
          | (refine wpList_load rfl (t := 71) rfl rfl hlr.out ?_)
          | (refine wpList_append rfl (t := 39) rfl rfl rfl HRUN.out ?_)
        go_roundw
        case rel =>
          refine ⟨i + 1, by omega, by go_num, HM.out, Lib.hid ?_⟩
          rw [HT.out, List.filter_append]
          have := HO.out
          simpa [HK.out] using this
        case measure => simp [intOf]; omega
    · have hil : i = R.rows.length := by omega
      subst hil
      rw [List.take_length] at hown
      obtain ⟨g', hg', hro⟩ := RowsAt.of_own hown.out (by have := List.length_filter_le (fun r : Int × ByteArray => !(r.1 == k)) R.rows; simp; omega)
      obtain ⟨a', cap', hv', _⟩ := hro.form
      subst hv'
      have HO := Lib.hid hro
      have HG := Lib.hid hg'
      have f1 := frozen_blk H2.out.blk 1
      clear hown hro hg'
      go_wp2_with fail
      go_end0
      have hblk := heap_setCell_blk H2.out.blk 1 (Value.slice a' ((k, s) :: R.rows.filter (fun r => !(r.1 == k))).length cap')
      have hmm : Mod [b] wr (wr.setCell ⟨b, 1, none⟩ (Value.slice a' ((k, s) :: R.rows.filter (fun r => !(r.1 == k))).length cap')) := (Mod.refl _ _).setCell (by simp) _
      refine ⟨rfl, hm.nil.trans hmm, _, g', HG.out, ⟨?_, HO.out.kept hmm (by simp; have := HG.out; omega), H.out.after⟩⟩
      exact hblk
end Go.Proofs.Ytnoookcfacmdkaa
