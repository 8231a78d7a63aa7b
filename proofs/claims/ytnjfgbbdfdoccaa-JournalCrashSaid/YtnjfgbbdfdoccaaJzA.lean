/- The plain law: the program's disk and the document's answer alike. -/
import Derived.Test.YtnjfgbbdfdoccaaDiskD
namespace Go.Proofs.Ytnjfgbbdfdoccaa
open Go.RowKit Go.ChangeMaps
set_option linter.unusedSimpArgs false
set_option linter.unusedVariables false

/-- The example's disk, step by step. -/
def ex1 : Dk := ((Dk.new 4).crash 1 (full 9)).2
def ex2 : Dk := (ex1.write 0 (full 1)).2
def ex3 : Dk := (ex2.write 1 (full 2)).2
def ex4 : Dk := { ex3 with down := false }
theorem exa1 : ((Dk.new 4).crash 1 (full 9)).1 = 0 := by kernel_rfl
theorem exa2 : (ex1.write 0 (full 1)).1 = 0 := by kernel_rfl
theorem exa3 : (ex2.write 1 (full 2)).1 = 16 := by kernel_rfl
theorem exd3 : ex3.down = true := by kernel_rfl
theorem exr3 : ex3.asked 0 = 16 := by kernel_rfl
theorem exr4 : ex4.asked 0 = 0 := by kernel_rfl
theorem exr5 : ex4.asked 1 = 0 := by kernel_rfl
theorem exs4 : ex4.sec 0 = full 1 := by kernel_rfl
theorem exs5 : ex4.sec 1 = full 9 := by kernel_rfl
theorem exw4 : ex4.written = 1 := by kernel_rfl
theorem exw1 : ex1.written = 0 := by kernel_rfl
theorem exw2 : ex2.written = 1 := by kernel_rfl
theorem full_length (x : Int) : (full x).length = 64 := by simp [full]
theorem full_max (x : Int) : (full x).length ≤ maxLen := by rw [full_length]; unfold maxLen; omega

end Go.Proofs.Ytnjfgbbdfdoccaa
namespace Go.Proofs.Ytnjfgbbdfdoccaa
open Go.RowKit Go.ChangeMaps
set_option linter.unusedSimpArgs false
set_option linter.unusedVariables false

structure Rk where
  n : Int
  rows : List (Int × ByteArray)
  written : Int
  down : Bool
  set : Bool
  after : Int
  torn : ByteArray
def rowCells : List (Int × ByteArray) → List Value
  | [] => []
  | r :: rs => .int .i64 r.1 :: .string r.2 :: rowCells rs
theorem rowCells_length : ∀ l : List (Int × ByteArray), (rowCells l).length = 2 * l.length
  | [] => rfl
  | r :: rs => by simp [rowCells, rowCells_length rs]; omega
theorem rowCells_append : ∀ a b : List (Int × ByteArray), rowCells (a ++ b) = rowCells a ++ rowCells b
  | [], b => rfl
  | r :: rs, b => by simp [rowCells, rowCells_append rs b]
theorem rowCells_at : ∀ (l : List (Int × ByteArray)) (i : Nat) (r : Int × ByteArray), l[i]? = some r → (rowCells l)[i * 2]? = some (.int .i64 r.1) ∧ (rowCells l)[i * 2 + 1]? = some (.string r.2)
  | [], i, r, h => by simp at h
  | x :: xs, 0, r, h => by simp at h; subst h; exact ⟨rfl, rfl⟩
  | x :: xs, i + 1, r, h => by
    have h' : xs[i]? = some r := by simpa using h
    obtain ⟨h1, h2⟩ := rowCells_at xs i r h'
    have e1 : (i + 1) * 2 = i * 2 + 1 + 1 := by omega
    rw [e1]
    exact ⟨h1, h2⟩
/-- A slice value whose elements are rows, in block g. -/
structure RowsAt (w : World) (v : Value) (g : Nat) (l : List (Int × ByteArray)) : Prop where
  form : ∃ a cap, v = .slice a l.length cap ∧ (l = [] ∨ a = some ⟨g, 0, none⟩)
  cells : w.rangeAt g 0 (rowCells l)
  max : l.length ≤ maxLen
  typ : l = [] ∨ ∃ c, w.heap[g]? = some (.cells c 53 (0, 0))
def rcells (v : Value) (R : Rk) : Array Value := #[.int .i64 R.n, v, .int .i64 R.written, .bool R.down, .bool R.set, .int .i64 R.after, .string R.torn]
/-- Block b is the document's disk R, its rows in block g. -/
structure RefAt (w : World) (b : Nat) (v : Value) (g : Nat) (R : Rk) : Prop where
  blk : w.heap[b]? = some (.cells (rcells v R) 46 (0, 0))
  rows : RowsAt w v g R.rows
  after : 0 ≤ R.after ∧ R.after ≤ 9223372036854775807
theorem RowsAt.kept {w w' : World} {v : Value} {g : Nat} {l : List (Int × ByteArray)} {ks : List Nat} (h : RowsAt w v g l) (hm : Mod ks w w') (hn : g ∉ ks) : RowsAt w' v g l :=
  ⟨h.form, rangeAt_mod h.cells hm hn, h.max, h.typ.imp id fun ⟨c, hc⟩ => ⟨c, hm.heap hc hn⟩⟩
theorem RefAt.kept {w w' : World} {b : Nat} {v : Value} {g : Nat} {R : Rk} {ks : List Nat} (h : RefAt w b v g R) (hm : Mod ks w w') (h1 : b ∉ ks) (h2 : g ∉ ks) : RefAt w' b v g R :=
  ⟨hm.heap h.blk h1, h.rows.kept hm h2, h.after⟩
theorem RowsAt.row {w : World} {v : Value} {g : Nat} {l : List (Int × ByteArray)} (h : RowsAt w v g l) {i : Nat} (hi : i < l.length) :
    w.cell? ⟨g, i * 2, none⟩ = some (.int .i64 l[i].1) ∧ w.cell? ⟨g, i * 2 + 1, none⟩ = some (.string l[i].2) := by
  obtain ⟨h1, h2⟩ := rowCells_at l i l[i] (by simp [hi])
  have e1 := h.cells _ _ h1
  have e2 := h.cells _ _ h2
  simp only [Nat.zero_add] at e1 e2
  exact ⟨e1, e2⟩
theorem RefAt.c0 {w : World} {b : Nat} {v : Value} {g : Nat} {R : Rk} (h : RefAt w b v g R) : w.cell? ⟨b, 0, none⟩ = some (.int .i64 R.n) := by rw [cell_blk h.blk]; rfl
theorem RefAt.c1 {w : World} {b : Nat} {v : Value} {g : Nat} {R : Rk} (h : RefAt w b v g R) : w.cell? ⟨b, 1, none⟩ = some v := by rw [cell_blk h.blk]; rfl
theorem RefAt.c2 {w : World} {b : Nat} {v : Value} {g : Nat} {R : Rk} (h : RefAt w b v g R) : w.cell? ⟨b, 2, none⟩ = some (.int .i64 R.written) := by rw [cell_blk h.blk]; rfl
theorem RefAt.c3 {w : World} {b : Nat} {v : Value} {g : Nat} {R : Rk} (h : RefAt w b v g R) : w.cell? ⟨b, 3, none⟩ = some (.bool R.down) := by rw [cell_blk h.blk]; rfl
theorem RefAt.c4 {w : World} {b : Nat} {v : Value} {g : Nat} {R : Rk} (h : RefAt w b v g R) : w.cell? ⟨b, 4, none⟩ = some (.bool R.set) := by rw [cell_blk h.blk]; rfl
theorem RefAt.c5 {w : World} {b : Nat} {v : Value} {g : Nat} {R : Rk} (h : RefAt w b v g R) : w.cell? ⟨b, 5, none⟩ = some (.int .i64 R.after) := by rw [cell_blk h.blk]; rfl
theorem RefAt.c6 {w : World} {b : Nat} {v : Value} {g : Nat} {R : Rk} (h : RefAt w b v g R) : w.cell? ⟨b, 6, none⟩ = some (.string R.torn) := by rw [cell_blk h.blk]; rfl

/-- What stands against a call on a sector. -/
def Rk.asked (R : Rk) (k : Int) : Int := if R.down = true then 16 else if k < 0 ∨ R.n ≤ k then 2 else 0
/-- The first row of a sector. -/
def findRow (k : Int) : List (Int × ByteArray) → Option ByteArray
  | [] => none
  | r :: rs => if r.1 = k then some r.2 else findRow k rs
def Rk.sec (R : Rk) (k : Int) : ByteArray := (findRow k R.rows).getD (strOfNums zeros64)
theorem findRow_skip {k : Int} : ∀ {l : List (Int × ByteArray)} {i : Nat}, (∀ j r, j < i → l[j]? = some r → r.1 ≠ k) → findRow k l = findRow k (l.drop i)
  | l, 0, _ => rfl
  | [], i + 1, _ => rfl
  | r :: rs, i + 1, h => by
    have h0 := h 0 r (by omega) rfl
    simp only [findRow, if_neg h0, List.drop_succ_cons]
    exact findRow_skip fun j r' hj hr => h (j + 1) r' (by omega) (by simpa using hr)

theorem rread_refused {w : World} {b : Nat} {v : Value} {g : Nat} {R : Rk} (h : RefAt w b v g R) (k : Int) (ha : R.asked k ≠ 0) :
    Calls Try.prog 71 #[.pointer (some ⟨b, 0, none⟩), .int .i64 k] w fun e w' => e = .returned (.tuple #[.string ByteArray.empty, .int .i64 (R.asked k)]) ∧ w = w' := by
  have c0 := h.c0
  have c3 := h.c3
  by_cases h1 : R.down = true
  · have hv : R.asked k = 16 := by simp [Rk.asked, h1]
    rw [hv]
    rw [h1] at c3
    clear h ha hv
    go_enter Try.func71, Try.ntmps71
    go_wp2
    go_ret2
    exact ⟨rfl, rfl⟩
  · have h1' : R.down = false := by simpa using h1
    rw [h1'] at c3
    by_cases h2 : k < 0
    · have hv : R.asked k = 2 := by simp [Rk.asked, h1', h2]
      rw [hv]
      clear h ha hv
      go_enter Try.func71, Try.ntmps71
      go_wp2
      go_ret2
      exact ⟨rfl, rfl⟩
    · by_cases h3 : R.n ≤ k
      · have hv : R.asked k = 2 := by simp [Rk.asked, h1', h3]
        rw [hv]
        clear h ha hv
        go_enter Try.func71, Try.ntmps71
        go_wp2
        go_ret2
        exact ⟨rfl, rfl⟩
      · exact absurd (by simp [Rk.asked, h1', h2, h3]) ha
theorem asked_zero {R : Rk} {k : Int} (h : R.asked k = 0) : R.down = false ∧ 0 ≤ k ∧ k < R.n := by
  unfold Rk.asked at h
  by_cases h1 : R.down = true
  · simp [h1] at h
  · have h1' : R.down = false := by simpa using h1
    simp only [h1', Bool.false_eq_true, if_false] at h
    split at h
    · cases h
    · exact ⟨h1', by omega, by omega⟩
set_option maxRecDepth 10000 in
theorem rread_done {w : World} {b : Nat} {v : Value} {g : Nat} {R : Rk} (h : RefAt w b v g R) (k : Int) (ha : R.asked k = 0) :
    Calls Try.prog 71 #[.pointer (some ⟨b, 0, none⟩), .int .i64 k] w fun e w' => e = .returned (.tuple #[.string (R.sec k), .int .i64 0]) ∧ Mod [] w w' := by
  obtain ⟨hd, hk0, hkn⟩ := asked_zero ha
  have c0 := h.c0
  have c1 := h.c1
  have c3 := h.c3
  rw [hd] at c3
  obtain ⟨a, cap, hv, ha2⟩ := h.rows.form
  subst hv
  have hmx := h.rows.max
  unfold maxLen at hmx
  have H := Lib.hid h
  have HD := Lib.hid hd
  clear h ha hd
  go_enter Try.func71, Try.ntmps71
  go_wp2_with fail
  go_loop [6] (fun v6 => ∃ i : Nat, i ≤ R.rows.length ∧ v6 = .int .i64 i ∧ Hid (∀ j r, j < i → R.rows[j]? = some r → r.1 ≠ k)) (fun v6 => R.rows.length - (intOf v6).toNat)
  case atStart => exact ⟨0, by omega, rfl, fun j r hj => by omega⟩
  case round =>
    obtain ⟨i, hi, rfl, hall⟩ := hrel
    by_cases hlt : i < R.rows.length
    · have ha3 : a = some ⟨g, 0, none⟩ := by
        rcases ha2 with ha2 | ha2
        · rw [ha2] at hlt; simp at hlt
        · exact ha2
      clear ha2
      subst ha3
      obtain ⟨cA, cB⟩ := H.out.rows.row hlt
      have hg : R.rows[i]? = some R.rows[i] := by simp [hlt]
      generalize R.rows[i] = r at cA cB hg
      have HG := Lib.hid hg
      clear hg
      by_cases hk : r.1 = k
      · have hq : (r.1 == k) = true := beq_iff_eq.2 hk
        have HK := Lib.hid hk
        clear hk
        go_wp2_with fail
        go_ret2
        refine ⟨?_, Mod.refl _ _⟩
        have e : R.sec k = r.2 := by
          unfold Rk.sec
          rw [findRow_skip (i := i) fun j r' hj hr => hall.out j r' hj hr, List.drop_eq_getElem_cons hlt]
          have h1 : R.rows[i] = r := by have := HG.out; rw [List.getElem?_eq_getElem hlt] at this; exact Option.some.inj this
          simp only [findRow, h1, if_pos HK.out]
          rfl
        rw [e]
        rfl
      · have hq : (r.1 == k) = false := beq_eq_false_iff_ne.2 hk
        have HK := Lib.hid hk
        clear hk
        go_wp2_with fail
        go_round
        case rel =>
          refine ⟨i + 1, by omega, by go_num, fun j r' hj hr => ?_⟩
          by_cases hji : j = i
          · subst hji
            rw [HG.out] at hr
            cases hr
            exact HK.out
          · exact hall.out j r' (by omega) hr
        case measure => simp [intOf]; omega
    · have hil : i = R.rows.length := by omega
      have e : R.sec k = strOfNums zeros64 := by
        unfold Rk.sec
        rw [findRow_skip (i := i) fun j r' hj hr => hall.out j r' hj hr, hil, List.drop_length]
        rfl
      have hmk := run_make_row' (P := Try.prog) 33 5 (.int .u8 0) 1 Try.underlying33 info5 rfl .i64 .i64 64 (by omega) (by omega) w
      rw [made64 0, show ((64 : Nat) : Int) = 64 from rfl] at hmk
      have hz : fillTo 0 0 = zeros64 := by kernel_rfl
      rw [hz] at hmk
      have hcv := conv_bytes (bytes_new w zeros64 5)
      have e64 : zeros64.length = 64 := by simp [zeros64]
      rw [e64] at hcv
      have HM := Lib.hid hmk
      have HC := Lib.hid hcv
      have HE := Lib.hid e
      clear hmk hcv e hz e64 hil
      go_wp2_with first
        | (refine wpList_makeSlice rfl (t := 33) rfl rfl rfl HM.out ?_)
        | (refine wpList_convert rfl (s := 33) rfl rfl HC.out ?_)
      go_ret2
      exact ⟨by rw [HE.out]; rfl, (Mod.refl _ _).alloc _⟩
end Go.Proofs.Ytnjfgbbdfdoccaa
namespace Go.Proofs.Ytnjfgbbdfdoccaa
open Go.RowKit Go.ChangeMaps
set_option linter.unusedSimpArgs false
set_option linter.unusedVariables false

theorem Mod.grown {w w' : World} {row : Option Nat} {l : List Nat} (h : w.grownBy w' row) (hl : ∀ k, row = some k → k ∈ l ∨ w.heap.size ≤ k) : Mod l w w' :=
  ⟨h.os, h.tape, h.output, h.size, fun k hk hn => h.block k hk fun e => by
    rcases hl k e.symm with h1 | h1
    · exact hn h1
    · omega⟩
theorem wpList_append {P : Program} {ops : Array Oper} {rest : List Oper} {o : Oper} {a : Act} {w w' : World} {Q : Exit → Act → World → Prop} {v : Value} {s x : Operand} {t : TypeId} {V X : Value}
    (hg : Region.wanted o (yielded ops a.tmps) = true) (ho : o.op = .call { callee := .builtin .append, args := #[s, x], argTypes := #[t, t] }) (hs : a.eval s = V) (hx : a.eval x = X)
    (hrun : (Builtin.append_ #[t, t] o.type #[V, X]).run P w = .ok v w') (h : wpList P ops Q rest (a.put o.dst v) w') : wpList P ops Q (o :: rest) a w := by
  subst hs; subst hx
  exact wpList_val hg (by unfold execOp; simp only [ho, resolve, invoke, builtin, Sem.run_bind, Sem.run_pure, Result.andThen_ok, List.map_toArray, List.map_cons, List.map_nil, hrun]) h
theorem infoRow : ∃ i z, Try.prog.info? 53 = some i ∧ i.zero = some z ∧ i.size = 2 ∧ i.bytes = 24 ∧ z.cells.size = 2 := by
  have h : (Try.prog.info? 53).map (fun i => (i.zero.map (·.cells.size), i.size, i.bytes)) = some (some 2, 2, 24) := by kernel_rfl
  cases hi : Try.prog.info? 53 with
  | none => rw [hi] at h; cases h
  | some i =>
    rw [hi] at h
    simp only [Option.map_some, Option.some.injEq, Prod.mk.injEq] at h
    obtain ⟨h1, h2, h3⟩ := h
    cases hz : i.zero with
    | none => rw [hz] at h1; cases h1
    | some z => rw [hz] at h1; exact ⟨i, z, rfl, hz, h2, h3, by simpa using h1⟩
def Rk.lay (R : Rk) (k : Int) (b : ByteArray) : Rk := { R with rows := (k, b) :: R.rows.filter (fun r => !(r.1 == k)) }
theorem oneCell_rows : ∀ (l : List (Int × ByteArray)), ∀ u ∈ rowCells l, u.oneCell' = true
  | [], u, h => by simp [rowCells] at h
  | r :: rs, u, h => by
    simp only [rowCells, List.mem_cons] at h
    rcases h with rfl | rfl | h
    · rfl
    · rfl
    · exact oneCell_rows rs u h
/-- A row is laid behind rows of the call's own. -/
theorem append_row {w : World} {base : Nat} {v : Value} {l : List (Int × ByteArray)} (hown : w.ownsRow base 53 2 v l.length (rowCells l)) (r : Int × ByteArray) {c : Nat} {g0 : Nat}
    (hc : w.rangeAt g0 0 (rowCells [r])) (hl : l.length ≤ 1000000) (hb : base ≤ w.heap.size) :
    ∃ v' w', (Builtin.append_ #[44, 44] 44 #[v, .slice (some ⟨g0, 0, none⟩) 1 c]).run Try.prog w = .ok v' w' ∧ w'.ownsRow base 53 2 v' (l ++ [r]).length (rowCells (l ++ [r])) ∧ Mod v.ownBlock.toList w w' := by
  obtain ⟨i, z, hi, hz, hs, hby, hzs⟩ := infoRow
  obtain ⟨v', w', h1, h2, h3, _⟩ := run_append_own (P := Try.prog) w base 44 44 53 i z 2 24 (by kernel_rfl) hi hz hs hby hzs (by omega) v l.length (rowCells l) hown ⟨g0, 0, none⟩ 1 c (rowCells [r]) rfl
    (fun j u hu => by have := hc j u hu; rw [Addr.add_lit]; simpa using this) (oneCell_rows [r]) (by unfold maxLen; omega) (by omega) hb
  refine ⟨v', w', h1, by rw [rowCells_append]; simpa using h2, Mod.grown h3 fun k hk => .inl (by simp [hk])⟩
theorem RowsAt.of_own {w : World} {base : Nat} {v : Value} {l : List (Int × ByteArray)} (h : w.ownsRow base 53 2 v l.length (rowCells l)) (hl : l.length ≤ 1000000) : ∃ g, base ≤ g ∧ RowsAt w v g l := by
  obtain ⟨hlen, h⟩ := h
  rcases h with ⟨rfl, h0⟩ | ⟨g, cap, cur, rfl, hb, hg, hn, hm, hsz, htk⟩
  · have : l = [] := List.length_eq_zero_iff.1 h0
    subst this
    exact ⟨base, Nat.le_refl _, ⟨⟨none, 0, rfl, .inl rfl⟩, fun j u hu => by simp [rowCells] at hu, by simp, .inl rfl⟩⟩
  · refine ⟨g, by omega, ⟨⟨_, cap, rfl, .inr rfl⟩, fun j u hu => ?_, by unfold maxLen; omega, .inr ⟨_, hg⟩⟩⟩
    rw [← htk, List.getElem?_take] at hu
    split at hu
    · rw [cell_blk hg]; simpa using hu
    · cases hu
theorem RefAt.ne {w : World} {b : Nat} {v : Value} {g : Nat} {R : Rk} (h : RefAt w b v g R) (hr : R.rows ≠ []) : b ≠ g := fun e => by
  subst e
  obtain ⟨a, cap, hv, _⟩ := h.rows.form
  have h1 := (h.rows.row (i := 0) (List.length_pos_iff.2 hr)).2
  have h2 := h.c1
  rw [hv] at h2
  simp only [Nat.zero_mul, Nat.zero_add] at h1
  rw [h2] at h1
  cases h1
theorem Mod.toNil {l : List Nat} {w0 w w' : World} (h0 : Mod [] w0 w) (h : Mod l w w') (hl : ∀ k ∈ l, w0.heap.size ≤ k) : Mod [] w0 w' :=
  ⟨h.os.trans h0.os, h.tape.trans h0.tape, h.output.trans h0.output, Nat.le_trans h0.size h.size, fun k hk _ => (h.block k (Nat.lt_of_lt_of_le hk h0.size) fun hn => by have := hl k hn; omega).trans (h0.block k hk (by simp))⟩
theorem ownsRow_one (w : World) (r : Int × ByteArray) : (w.alloc (.cells #[.int .i64 r.1, .string r.2] 53)).ownsRow w.heap.size 53 2 (.slice (some ⟨w.heap.size, 0, none⟩) 1 1) 1 (rowCells [r]) :=
  ⟨rfl, .inr ⟨w.heap.size, 1, #[.int .i64 r.1, .string r.2], rfl, Nat.le_refl _, heap_alloc_new w _, Nat.le_refl _, by unfold maxLen; omega, rfl, rfl⟩⟩
theorem load_row {w : World} {g i : Nat} {r : Int × ByteArray} (h1 : w.cell? ⟨g, i * 2, none⟩ = some (.int .i64 r.1)) (h2 : w.cell? ⟨g, i * 2 + 1, none⟩ = some (.string r.2)) :
    (Instr.loadAt 53 (.pointer (some ⟨g, i * 2, none⟩))).run Try.prog w = .ok (.agg #[.int .i64 r.1, .string r.2]) w := by
  obtain ⟨ti, z, hi, _, hs, _⟩ := infoRow
  refine run_loadAt_mid (P := Try.prog) w g (i * 2) 53 [.int .i64 r.1, .string r.2] _ ?_ Try.underlying53 rfl (by rw [hi]; simp [hs])
  intro j u hu
  match j, hu with
  | 0, hu => simp only [List.getElem?_cons_zero, Option.some.injEq] at hu; subst hu; exact h1
  | 1, hu => simp only [List.getElem?_cons_succ, List.getElem?_cons_zero, Option.some.injEq] at hu; subst hu; exact h2
  | n + 2, hu => simp at hu
set_option maxRecDepth 10000 in
theorem lay_any {w : World} {b : Nat} {v : Value} {g : Nat} {R : Rk} (h : RefAt w b v g R) (hl : R.rows.length ≤ 999999) (k : Int) (s : ByteArray) :
    Calls Try.prog 63 #[.pointer (some ⟨b, 0, none⟩), .int .i64 k, .string s] w fun e w' => e = .returned (.tuple #[]) ∧ Mod [b] w w' ∧ ∃ v' g', w.heap.size ≤ g' ∧ RefAt w' b v' g' (R.lay k s) := by
  have c1 := h.c1
  have hbl := lt_of_heap h.blk
  obtain ⟨a, cap, hv, ha2⟩ := h.rows.form
  subst hv
  have H := Lib.hid h
  have HA := Lib.hid ha2
  clear h ha2
  go_enter Try.func63, Try.ntmps63
  go_wp2_with fail
  go_loopw [6, 7] (fun v6 v7 wr => ∃ i : Nat, i ≤ R.rows.length ∧ v7 = .int .i64 i ∧ Mod [] w wr ∧ Hid (wr.ownsRow w.heap.size 53 2 v6 ((k, s) :: (R.rows.take i).filter (fun r => !(r.1 == k))).length (rowCells ((k, s) :: (R.rows.take i).filter (fun r => !(r.1 == k)))))) (fun _ v7 _ => R.rows.length - (intOf v7).toNat)
  case atStart => exact ⟨0, by omega, rfl, (Mod.refl _ _).alloc _, Lib.hid (ownsRow_one w (k, s))⟩
  case round =>
    obtain ⟨i, hi, rfl, hm, hown⟩ := hrel
    have H2 := Lib.hid (H.out.kept hm (by simp) (by simp))
    have c1' := H2.out.c1
    by_cases hlt : i < R.rows.length
    · have ha3 : a = some ⟨g, 0, none⟩ := by
        rcases HA.out with ha2 | ha2
        · rw [ha2] at hlt; simp at hlt
        · exact ha2
      subst ha3
      obtain ⟨cA, cB⟩ := H2.out.rows.row hlt
      have hg : R.rows[i]? = some R.rows[i] := by simp [hlt]
      have htk : R.rows.take (i + 1) = R.rows.take i ++ [R.rows[i]] := by rw [List.take_add_one, hg]; rfl
      generalize R.rows[i] = r at cA cB hg htk
      have HG := Lib.hid hg
      have HT := Lib.hid htk
      clear hg htk
      by_cases hk : r.1 = k
      · have hq : (r.1 != k) = false := by simp [hk]
        have HK := Lib.hid hk
        clear hk
        go_wp2_with fail
        go_roundw
        case rel =>
          refine ⟨i + 1, by omega, by go_num, hm, ?_⟩
          rw [HT.out, List.filter_append]
          simpa [HK.out] using hown
        case measure => simp [intOf]; omega
      · have hq : (r.1 != k) = true := by simp [hk]
        have HK := Lib.hid hk
        have hlr := Lib.hid (load_row cA cB)
        have hown2 := hown.out.alloc (.cells #[.int .i64 r.1, .string r.2] 53)
        obtain ⟨v', w', hrun, ho2, hm2⟩ := append_row (r := r) (c := 1) (g0 := wr.heap.size) hown2 (rangeAt_blk (c := [.int .i64 r.1, .string r.2]) (heap_alloc_new wr _)) (by have := List.length_filter_le (fun r : Int × ByteArray => !(r.1 == k)) (R.rows.take i); simp [List.length_take] at this ⊢; omega) (by have := hm.size; simp; omega)
        have HRUN := Lib.hid hrun
        have HO := Lib.hid ho2
        have HM := Lib.hid ((hm.alloc _).toNil hm2 (fun k hk => by simp at hk; exact (hown2.lt k hk).1))
        clear hk hrun ho2 hm2 hown2
        go_wp2_with first
          | (refine wpList_load rfl (t := 53) rfl rfl hlr.out ?_)
          | (refine wpList_append rfl (t := 44) rfl rfl rfl HRUN.out ?_)
        go_roundw
        case rel =>
          refine ⟨i + 1, by omega, by go_num, HM.out, Lib.hid ?_⟩
          rw [HT.out, List.filter_append]
          have := HO.out
          simpa [HK.out] using this
        case measure => simp [intOf]; omega
    · have hil : i = R.rows.length := by omega
      subst hil
      rw [List.take_length] at hown
      obtain ⟨g', hg', hro⟩ := RowsAt.of_own hown.out (by have := List.length_filter_le (fun r : Int × ByteArray => !(r.1 == k)) R.rows; simp; omega)
      obtain ⟨a', cap', hv', _⟩ := hro.form
      subst hv'
      have HO := Lib.hid hro
      have HG := Lib.hid hg'
      have f1 := frozen_blk H2.out.blk 1
      clear hown hro hg'
      go_wp2_with fail
      go_end0
      have hblk := heap_setCell_blk H2.out.blk 1 (Value.slice a' ((k, s) :: R.rows.filter (fun r => !(r.1 == k))).length cap')
      have hmm : Mod [b] wr (wr.setCell ⟨b, 1, none⟩ (Value.slice a' ((k, s) :: R.rows.filter (fun r => !(r.1 == k))).length cap')) := (Mod.refl _ _).setCell (by simp) _
      refine ⟨rfl, hm.nil.trans hmm, _, g', HG.out, ⟨?_, HO.out.kept hmm (by simp; have := HG.out; omega), H.out.after⟩⟩
      exact hblk
end Go.Proofs.Ytnjfgbbdfdoccaa
namespace Go.Proofs.Ytnjfgbbdfdoccaa
open Go.RowKit Go.ChangeMaps
set_option linter.unusedSimpArgs false
set_option linter.unusedVariables false

def Rk.write (R : Rk) (k : Int) (l : List Int) : Int × Rk :=
  if R.asked k ≠ 0 then (R.asked k, R) else if l.length ≠ 64 then (2, R)
  else if R.set = true then
    if R.after = 0 then (16, { R.lay k R.torn with set := false, down := true })
    else (0, { ({ R with after := R.after - 1 } : Rk).lay k (strOfNums l) with written := R.written + 1 })
  else (0, { R.lay k (strOfNums l) with written := R.written + 1 })
def Rk.crash (R : Rk) (after : Int) (l : List Int) : Int × Rk :=
  if R.down = true then (16, R) else if after < 0 ∨ l.length ≠ 64 then (2, R) else (0, { R with set := true, after := after, torn := strOfNums l })
theorem RefAt.setCell {w : World} {b : Nat} {v : Value} {g : Nat} {R R' : Rk} (h : RefAt w b v g R) (hne : b ≠ g) (i : Nat) (u : Value) (e : (rcells v R).setIfInBounds i u = rcells v R') (e1 : R'.rows = R.rows) (e3 : 0 ≤ R'.after ∧ R'.after ≤ 9223372036854775807) :
    RefAt (w.setCell ⟨b, i, none⟩ u) b v g R' ∧ Mod [b] w (w.setCell ⟨b, i, none⟩ u) := by
  have hm := (Mod.refl [b] w).setCell (p := ⟨b, i, none⟩) (by simp) u
  exact ⟨⟨by rw [heap_setCell_blk h.blk, e], e1 ▸ h.rows.kept hm (by simp; omega), e3⟩, hm⟩
theorem RefAt.written {w : World} {b : Nat} {v : Value} {g : Nat} {R : Rk} (h : RefAt w b v g R) (hne : b ≠ g) (n : Int) : RefAt (w.setCell ⟨b, 2, none⟩ (.int .i64 n)) b v g { R with written := n } ∧ Mod [b] w (w.setCell ⟨b, 2, none⟩ (.int .i64 n)) :=
  h.setCell hne 2 _ rfl rfl h.after
theorem RefAt.afters {w : World} {b : Nat} {v : Value} {g : Nat} {R : Rk} (h : RefAt w b v g R) (hne : b ≠ g) (n : Int) (hn : 0 ≤ n ∧ n ≤ 9223372036854775807) : RefAt (w.setCell ⟨b, 5, none⟩ (.int .i64 n)) b v g { R with after := n } ∧ Mod [b] w (w.setCell ⟨b, 5, none⟩ (.int .i64 n)) :=
  h.setCell hne 5 _ rfl rfl hn
theorem RefAt.downs {w : World} {b : Nat} {v : Value} {g : Nat} {R : Rk} (h : RefAt w b v g R) (hne : b ≠ g) (x : Bool) : RefAt (w.setCell ⟨b, 3, none⟩ (.bool x)) b v g { R with down := x } ∧ Mod [b] w (w.setCell ⟨b, 3, none⟩ (.bool x)) :=
  h.setCell hne 3 _ rfl rfl h.after
theorem RefAt.sets {w : World} {b : Nat} {v : Value} {g : Nat} {R : Rk} (h : RefAt w b v g R) (hne : b ≠ g) (x : Bool) : RefAt (w.setCell ⟨b, 4, none⟩ (.bool x)) b v g { R with set := x } ∧ Mod [b] w (w.setCell ⟨b, 4, none⟩ (.bool x)) :=
  h.setCell hne 4 _ rfl rfl h.after
theorem rwrite_refused {w : World} {b : Nat} {v : Value} {g : Nat} {R : Rk} (h : RefAt w b v g R) (k : Int) (x : Value) (ha : R.asked k ≠ 0) :
    Calls Try.prog 52 #[.pointer (some ⟨b, 0, none⟩), .int .i64 k, x] w fun e w' => e = .returned (.int .i64 (R.asked k)) ∧ w = w' := by
  have c0 := h.c0
  have c3 := h.c3
  by_cases h1 : R.down = true
  · have hv : R.asked k = 16 := by simp [Rk.asked, h1]
    rw [hv]
    rw [h1] at c3
    clear h ha hv
    go_enter Try.func52, Try.ntmps52
    go_wp2_with fail
    go_ret
    exact ⟨rfl, rfl⟩
  · have h1' : R.down = false := by simpa using h1
    rw [h1'] at c3
    by_cases h2 : k < 0
    · have hv : R.asked k = 2 := by simp [Rk.asked, h1', h2]
      rw [hv]
      clear h ha hv
      go_enter Try.func52, Try.ntmps52
      go_wp2_with fail
      go_ret
      exact ⟨rfl, rfl⟩
    · by_cases h3 : R.n ≤ k
      · have hv : R.asked k = 2 := by simp [Rk.asked, h1', h3]
        rw [hv]
        clear h ha hv
        go_enter Try.func52, Try.ntmps52
        go_wp2_with fail
        go_ret
        exact ⟨rfl, rfl⟩
      · exact absurd (by simp [Rk.asked, h1', h2, h3]) ha
theorem rwrite_arg {w : World} {b : Nat} {v : Value} {g : Nat} {R : Rk} (h : RefAt w b v g R) (k : Int) {x : Value} {l : List Int} (hx : BytesAt w x l) (ha : R.asked k = 0) (hn : l.length ≠ 64) (hm : l.length ≤ maxLen) :
    Calls Try.prog 52 #[.pointer (some ⟨b, 0, none⟩), .int .i64 k, x] w fun e w' => e = .returned (.int .i64 2) ∧ w = w' := by
  obtain ⟨h1, hk0, hkn⟩ := asked_zero ha
  have c0 := h.c0
  have c3 := h.c3
  rw [h1] at c3
  obtain ⟨a, cap, rfl⟩ := hx.form
  have hq : ((l.length : Int) != 64) = true := by simp; omega
  unfold maxLen at hm
  have HN := Lib.hid h1
  clear h ha hx hn h1
  go_enter Try.func52, Try.ntmps52
  go_wp2_with fail
  go_ret
  exact ⟨rfl, rfl⟩
set_option maxRecDepth 10000 in
theorem rwrite_plain {w : World} {b : Nat} {v : Value} {g : Nat} {R : Rk} (h : RefAt w b v g R) (hr : R.rows.length ≤ 999998) (k : Int) {x : Value} {l : List Int} (hx : BytesAt w x l) (ha : R.asked k = 0) (h64 : l.length = 64) (hs : R.set = false) (hw : 0 ≤ R.written) (hw2 : R.written ≤ 4611686018427387904) :
    Calls Try.prog 52 #[.pointer (some ⟨b, 0, none⟩), .int .i64 k, x] w fun e w' => e = .returned (.int .i64 0) ∧ Mod [b] w w' ∧ ∃ v' g', w.heap.size ≤ g' ∧ RefAt w' b v' g' { R.lay k (strOfNums l) with written := R.written + 1 } := by
  obtain ⟨h1, hk0, hkn⟩ := asked_zero ha
  have hbl := lt_of_heap h.blk
  have c0 := h.c0
  have c3 := h.c3
  have c4 := h.c4
  rw [h1] at c3
  rw [hs] at c4
  have hcv := conv_bytes hx
  obtain ⟨a, cap, rfl⟩ := hx.form
  rw [h64] at hcv ⊢
  have HC := Lib.hid hcv
  have H := Lib.hid h
  have HN := Lib.hid (And.intro h1 hs)
  have H6 := Lib.hid h64
  clear h ha hx h1 hs hcv h64
  go_enter Try.func52, Try.ntmps52
  go_wp2_with first
    | (refine wpList_convert rfl (s := 33) rfl rfl HC.out ?_)
  refine (lay_any H.out (by omega) k (strOfNums l)).mono ?_
  rintro e w1 ⟨rfl, hm, v', g', hg', hk⟩
  have c2 := hk.c2
  have f2 := frozen_blk hk.blk 2
  have HK := Lib.hid hk
  have HG := Lib.hid hg'
  clear hk hg'
  dsimp only [Rk.lay] at c2
  go_wp2_with fail
  go_ret
  obtain ⟨k1, k2⟩ := HK.out.written (by have := HG.out; omega) (R.written + 1)
  exact ⟨rfl, hm.trans k2, v', g', HG.out, k1⟩
end Go.Proofs.Ytnjfgbbdfdoccaa
namespace Go.Proofs.Ytnjfgbbdfdoccaa
open Go.RowKit Go.ChangeMaps
set_option linter.unusedSimpArgs false
set_option linter.unusedVariables false

set_option maxHeartbeats 1000000 in
set_option maxRecDepth 10000 in
theorem rwrite_less {w : World} {b : Nat} {v : Value} {g : Nat} {R : Rk} (h : RefAt w b v g R) (hne : b ≠ g) (hr : R.rows.length ≤ 999998) (k : Int) {x : Value} {l : List Int} (hx : BytesAt w x l) (hb : Off x b) (ha : R.asked k = 0) (h64 : l.length = 64) (hs : R.set = true) (hz : R.after ≠ 0) (hw : 0 ≤ R.written) (hw2 : R.written ≤ 4611686018427387904) :
    Calls Try.prog 52 #[.pointer (some ⟨b, 0, none⟩), .int .i64 k, x] w fun e w' => e = .returned (.int .i64 0) ∧ Mod [b] w w' ∧ ∃ v' g', w.heap.size ≤ g' ∧ RefAt w' b v' g' { ({ R with after := R.after - 1 } : Rk).lay k (strOfNums l) with written := R.written + 1 } := by
  obtain ⟨h1, hk0, hkn⟩ := asked_zero ha
  have hbl := lt_of_heap h.blk
  obtain ⟨ha1, ha2⟩ := h.after
  obtain ⟨d1, m1⟩ := h.afters hne (R.after - 1) ⟨by omega, by omega⟩
  have c0 := h.c0
  have c3 := h.c3
  have c4 := h.c4
  have c5 := h.c5
  have f5 := frozen_blk h.blk 5
  rw [h1] at c3
  rw [hs] at c4
  have hx' := hx.kept m1 (by simpa using hb)
  have hcv := conv_bytes hx'
  obtain ⟨a, cap, rfl⟩ := hx.form
  rw [h64] at hcv ⊢
  have hz' : (R.after == 0) = false := beq_eq_false_iff_ne.2 hz
  have HC := Lib.hid hcv
  have H := Lib.hid d1
  have HM := Lib.hid m1
  have HN := Lib.hid (And.intro h1 hs)
  have H6 := Lib.hid h64
  clear h ha hx hx' h1 hs hcv h64 hz d1 m1
  go_enter Try.func52, Try.ntmps52
  go_wp2_with first
    | (refine wpList_convert rfl (s := 33) rfl rfl HC.out ?_)
  refine (lay_any H.out (by dsimp only; omega) k (strOfNums l)).mono ?_
  rintro e w1 ⟨rfl, hm, v', g', hg', hk⟩
  have c2 := hk.c2
  have f2 := frozen_blk hk.blk 2
  have HK := Lib.hid hk
  have HG := Lib.hid hg'
  clear hk hg'
  dsimp only [Rk.lay] at c2
  go_wp2_with fail
  go_ret
  have hgs : w.heap.size ≤ g' := Nat.le_trans HM.out.size HG.out
  obtain ⟨k1, k2⟩ := HK.out.written (by omega) (R.written + 1)
  exact ⟨rfl, (HM.out.trans hm).trans k2, v', g', hgs, k1⟩
set_option maxRecDepth 10000 in
theorem rwrite_crash {w : World} {b : Nat} {v : Value} {g : Nat} {R : Rk} (h : RefAt w b v g R) (hr : R.rows.length ≤ 999998) (k : Int) {x : Value} {l : List Int} (hx : BytesAt w x l) (ha : R.asked k = 0) (h64 : l.length = 64) (hs : R.set = true) (hz : R.after = 0) :
    Calls Try.prog 52 #[.pointer (some ⟨b, 0, none⟩), .int .i64 k, x] w fun e w' => e = .returned (.int .i64 16) ∧ Mod [b] w w' ∧ ∃ v' g', w.heap.size ≤ g' ∧ RefAt w' b v' g' { R.lay k R.torn with set := false, down := true } := by
  obtain ⟨h1, hk0, hkn⟩ := asked_zero ha
  have hbl := lt_of_heap h.blk
  have c0 := h.c0
  have c3 := h.c3
  have c4 := h.c4
  have c5 := h.c5
  have c6 := h.c6
  rw [h1] at c3
  rw [hs] at c4
  rw [hz] at c5
  obtain ⟨a, cap, rfl⟩ := hx.form
  rw [h64]
  have H := Lib.hid h
  have HN := Lib.hid (And.intro h1 hs)
  have H6 := Lib.hid h64
  have HZ := Lib.hid hz
  clear h ha hx h1 hs h64 hz
  go_enter Try.func52, Try.ntmps52
  go_wp2_with fail
  refine (lay_any H.out (by omega) k R.torn).mono ?_
  rintro e w1 ⟨rfl, hm, v', g', hg', hk⟩
  have hne' : b ≠ g' := by omega
  obtain ⟨k1, k2⟩ := hk.sets hne' false
  obtain ⟨k3, k4⟩ := k1.downs hne' true
  have f4 := frozen_blk hk.blk 4
  have f3 := frozen_blk k1.blk 3
  have HK := Lib.hid (And.intro (hm.trans (k2.trans k4)) k3)
  have HG := Lib.hid hg'
  have d4 := hk.c4
  have d3 := k1.c3
  clear hk hg' k1 k2 k3 k4 hm
  go_wp2_with fail
  go_ret
  exact ⟨rfl, HK.out.1, v', g', HG.out, HK.out.2⟩
theorem rwrite_any {w : World} {b : Nat} {v : Value} {g : Nat} {R : Rk} (h : RefAt w b v g R) (hne : b ≠ g) (hr : R.rows.length ≤ 999998) (k : Int) {x : Value} {l : List Int} (hx : BytesAt w x l) (hb : l ≠ [] → Off x b) (hl : l.length ≤ maxLen) (hw : 0 ≤ R.written) (hw2 : R.written ≤ 4611686018427387904) :
    Calls Try.prog 52 #[.pointer (some ⟨b, 0, none⟩), .int .i64 k, x] w fun e w' => e = .returned (.int .i64 (R.write k l).1) ∧ Mod [b] w w' ∧ ∃ v' g', (g' = g ∨ w.heap.size ≤ g') ∧ RefAt w' b v' g' (R.write k l).2 := by
  unfold Rk.write
  by_cases ha : R.asked k = 0
  · rw [if_neg (by simpa using ha)]
    by_cases h64 : l.length = 64
    · rw [if_neg (by simpa using h64)]
      by_cases hs : R.set = true
      · rw [if_pos hs]
        by_cases hz : R.after = 0
        · rw [if_pos hz]
          exact (rwrite_crash h hr k hx ha h64 hs hz).mono fun e w' ⟨he, hm, v', g', hg, hk⟩ => ⟨he, hm, v', g', .inr hg, hk⟩
        · rw [if_neg hz]
          exact (rwrite_less h hne hr k hx (hb (fun e => by rw [e] at h64; simp at h64)) ha h64 hs hz hw hw2).mono fun e w' ⟨he, hm, v', g', hg, hk⟩ => ⟨he, hm, v', g', .inr hg, hk⟩
      · rw [if_neg hs]
        exact (rwrite_plain h hr k hx ha h64 (by simpa using hs) hw hw2).mono fun e w' ⟨he, hm, v', g', hg, hk⟩ => ⟨he, hm, v', g', .inr hg, hk⟩
    · rw [if_pos h64]
      exact (rwrite_arg h k hx ha h64 hl).mono fun e w' ⟨he, hw⟩ => ⟨he, hw ▸ Mod.refl _ _, v, g, .inl rfl, hw ▸ h⟩
  · rw [if_pos ha]
    exact (rwrite_refused h k x ha).mono fun e w' ⟨he, hw⟩ => ⟨he, hw ▸ Mod.refl _ _, v, g, .inl rfl, hw ▸ h⟩
theorem rcrash_down {w : World} {b : Nat} {v : Value} {g : Nat} {R : Rk} (h : RefAt w b v g R) (k : Int) (x : Value) (h1 : R.down = true) :
    Calls Try.prog 18 #[.pointer (some ⟨b, 0, none⟩), .int .i64 k, x] w fun e w' => e = .returned (.int .i64 16) ∧ w = w' := by
  have c3 := h.c3
  rw [h1] at c3
  clear h h1
  go_enter Try.func18, Try.ntmps18
  go_wp2_with fail
  go_ret
  exact ⟨rfl, rfl⟩
theorem rcrash_arg {w : World} {b : Nat} {v : Value} {g : Nat} {R : Rk} (h : RefAt w b v g R) (k : Int) {x : Value} {l : List Int} (hx : BytesAt w x l) (h1 : R.down = false) (hn : k < 0 ∨ l.length ≠ 64) (hm : l.length ≤ maxLen) :
    Calls Try.prog 18 #[.pointer (some ⟨b, 0, none⟩), .int .i64 k, x] w fun e w' => e = .returned (.int .i64 2) ∧ w = w' := by
  have c3 := h.c3
  rw [h1] at c3
  obtain ⟨a, cap, rfl⟩ := hx.form
  unfold maxLen at hm
  have HX := Lib.hid (And.intro h hx)
  clear h h1 hx
  by_cases hk : k < 0
  · go_enter Try.func18, Try.ntmps18
    go_wp2_with fail
    go_ret
    exact ⟨rfl, rfl⟩
  · have hq : ((l.length : Int) != 64) = true := by simp; omega
    clear hn
    go_enter Try.func18, Try.ntmps18
    go_wp2_with fail
    go_ret
    exact ⟨rfl, rfl⟩
set_option maxRecDepth 10000 in
theorem rcrash_done {w : World} {b : Nat} {v : Value} {g : Nat} {R : Rk} (h : RefAt w b v g R) (hne : b ≠ g) (k : Int) {x : Value} {l : List Int} (hx : BytesAt w x l) (h1 : R.down = false) (hk : 0 ≤ k) (hk2 : k ≤ 9223372036854775807) (h64 : l.length = 64) :
    Calls Try.prog 18 #[.pointer (some ⟨b, 0, none⟩), .int .i64 k, x] w fun e w' => e = .returned (.int .i64 0) ∧ Mod [b] w w' ∧ RefAt w' b v g { R with set := true, after := k, torn := strOfNums l } := by
  have c3 := h.c3
  rw [h1] at c3
  obtain ⟨d1, m1⟩ := h.sets hne true
  obtain ⟨d2, m2⟩ := d1.afters hne k ⟨hk, hk2⟩
  obtain ⟨d3, m3⟩ := d2.setCell hne 6 (.string (strOfNums l)) (R' := { R with set := true, after := k, torn := strOfNums l }) rfl rfl ⟨hk, hk2⟩
  have f4 := frozen_blk h.blk 4
  have f5 := frozen_blk h.blk 5
  have f6 := frozen_blk h.blk 6
  have c4 := h.c4
  have c5 := h.c5
  have c6 := h.c6
  have hcv := conv_bytes hx
  obtain ⟨a, cap, rfl⟩ := hx.form
  rw [h64] at hcv ⊢
  have HC := Lib.hid hcv
  have HK := Lib.hid (And.intro (m1.trans (m2.trans m3)) d3)
  have HX := Lib.hid (And.intro h hx)
  have H1 := Lib.hid (And.intro h1 h64)
  clear h h1 hx hcv d1 d2 d3 m1 m2 m3 h64
  go_enter Try.func18, Try.ntmps18
  go_wp2_with first
    | (refine wpList_convert rfl (s := 33) rfl rfl HC.out ?_)
  go_ret
  exact ⟨rfl, HK.out.1, HK.out.2⟩
theorem rcrash_any {w : World} {b : Nat} {v : Value} {g : Nat} {R : Rk} (h : RefAt w b v g R) (hne : b ≠ g) (k : Int) {x : Value} {l : List Int} (hx : BytesAt w x l) (hl : l.length ≤ maxLen) (hk2 : k ≤ 9223372036854775807) :
    Calls Try.prog 18 #[.pointer (some ⟨b, 0, none⟩), .int .i64 k, x] w fun e w' => e = .returned (.int .i64 (R.crash k l).1) ∧ Mod [b] w w' ∧ RefAt w' b v g (R.crash k l).2 := by
  unfold Rk.crash
  by_cases h1 : R.down = true
  · rw [if_pos h1]
    exact (rcrash_down h k x h1).mono fun e w' ⟨he, hw⟩ => ⟨he, hw ▸ Mod.refl _ _, hw ▸ h⟩
  · rw [if_neg h1]
    have h1' : R.down = false := by simpa using h1
    by_cases hn : k < 0 ∨ l.length ≠ 64
    · rw [if_pos hn]
      exact (rcrash_arg h k hx h1' hn hl).mono fun e w' ⟨he, hw⟩ => ⟨he, hw ▸ Mod.refl _ _, hw ▸ h⟩
    · rw [if_neg hn]
      exact rcrash_done h hne k hx h1' (by omega) hk2 (by omega)
end Go.Proofs.Ytnjfgbbdfdoccaa
namespace Go.Proofs.Ytnjfgbbdfdoccaa
open Go.RowKit Go.ChangeMaps
set_option linter.unusedSimpArgs false
set_option linter.unusedVariables false

theorem load_whole {P : Program} {w : World} {b : Nat} {c : Array Value} {t : TypeId} {f : Nat × Nat} (T : TypeId) {d : TypeDesc} (h : w.heap[b]? = some (.cells c t f)) (hu : P.underlying T = some d) (hd : d.isRow = true) (hi : (P.info? T).map (·.size) = some c.size) :
    (Instr.loadAt T (.pointer (some ⟨b, 0, none⟩))).run P w = .ok (.agg c) w := by
  have h1 := run_loadAt_mid (P := P) w b 0 T c.toList d (rangeAt_blk (c := c.toList) (by simpa using h)) hu hd (by simpa using hi)
  simpa using h1
theorem store_whole {P : Program} {w : World} {b : Nat} {c c0 : Array Value} {t : TypeId} (T : TypeId) (h : w.heap[b]? = some (.cells c0 t (0, 0))) (hs : c0.size = c.size) (hi : (P.info? T).map (·.size) = some c.size) (h1 : c.all (·.oneCell') = true) :
    (Instr.storeAt T (.pointer (some ⟨b, 0, none⟩)) (.agg c)).run P w = .ok () (w.setCells b 0 c.toList) ∧ Mod [b] w (w.setCells b 0 c.toList) ∧ (w.setCells b 0 c.toList).heap[b]? = some (.cells c t (0, 0)) := by
  refine ⟨run_storeAt_mid w b 0 T c (there_blk h 0 c.size (by omega)) hi h1, (Mod.refl _ _).setCells (by simp) _ _, ?_⟩
  rw [heap_setCells_blk b c.toList 0 w h]
  have e := setRange_mid [] c.toList c0.toList [] (by simp [hs])
  simp only [List.nil_append, List.append_nil, List.length_nil] at e
  rw [e]
/-- A block of the call's own in which a slice begins. -/
def OwnCells (w : World) (base : Nat) (e : TypeId) (size : Nat) (v : Value) (n : Nat) (xs : List Value) : Prop :=
  ∃ g cap cur, v = .slice (some ⟨g, 0, none⟩) n cap ∧ base ≤ g ∧ w.heap[g]? = some (.cells cur e (0, 0)) ∧ n ≤ cap ∧ cap ≤ maxLen ∧ cur.size = cap * size ∧ cur.toList.take (n * size) = xs
theorem append_all {P : Program} {w : World} (base : Nat) (t e : TypeId) (i : TypeInfo) (z : Value) (size bytes : Nat) (ht : P.underlying t = some (.slice e)) (hi : P.info? e = some i) (hz : i.zero = some z)
    (hsize : i.size = size) (hby : i.bytes = bytes) (hzs : z.cells.size = size) (hsz : 0 < size) {g0 : Nat} (h0 : w.heap[g0]? = some (.cells #[] e (0, 0))) (hb0 : base ≤ g0)
    {x : Value} {n : Nat} {news : List Value} (hx : (∃ ad c, x = .slice (some ad) n c ∧ ∀ j u, news[j]? = some u → w.cell? (ad.add j) = some u) ∨ (∃ c, x = .slice none 0 c ∧ n = 0)) (hl : news.length = n * size) (h1 : ∀ u ∈ news, u.oneCell' = true) (h63 : n ≤ maxLen) (hbytes : n * bytes ≤ 140737488355328) (ty : TypeId) :
    ∃ v' w', (Builtin.append_ #[t, t] ty #[.slice (some ⟨g0, 0, none⟩) 0 0, x]).run P w = .ok v' w' ∧ OwnCells w' base e size v' n news ∧ Mod [g0] w w' := by
  have hlt := lt_of_heap h0
  have hown : w.ownsRow base e size (.slice (some ⟨g0, 0, none⟩) 0 0) 0 [] := ⟨by simp, .inr ⟨g0, 0, #[], rfl, hb0, h0, Nat.le_refl _, by simp, by simp, by simp⟩⟩
  rcases hx with ⟨ad, c, rfl, hc⟩ | ⟨c, rfl, rfl⟩
  · obtain ⟨v', w', k1, k2, k3, k4⟩ := run_append_own (P := P) w base t ty e i z size bytes ht hi hz hsize hby hzs hsz _ 0 [] hown ad n c news hl
      hc h1 (by omega) (by simpa using hbytes) (by omega)
    refine ⟨v', w', k1, ?_, Mod.grown k3 fun k hk => .inl (by simpa [Value.ownBlock] using hk.symm)⟩
    rw [Nat.zero_add, List.nil_append] at k2
    rcases k2.2 with ⟨hv, hn⟩ | hr
    · have := (k4.1 hv).1
      cases this
    · exact hr
  · have hn : news = [] := List.length_eq_zero_iff.1 (by simpa using hl)
    subst hn
    refine ⟨.slice (some ⟨g0, 0, none⟩) 0 0, w, ?_, ⟨g0, 0, #[], rfl, hb0, h0, Nat.le_refl _, by simp, by simp, by simp⟩, Mod.refl _ _⟩
    simp [Builtin.append_, run_underlying ht, sizeOf, typeInfo, hi, Builtin.lenOf, Builtin.firstCells, storeCells, Result.andThen]
end Go.Proofs.Ytnjfgbbdfdoccaa
namespace Go.Proofs.Ytnjfgbbdfdoccaa
open Go.RowKit Go.ChangeMaps
set_option linter.unusedSimpArgs false
set_option linter.unusedVariables false

theorem sizeDisk : (Try.prog.info? 64).map (·.size) = some 70 := by kernel_rfl
theorem infoDisk : (Try.prog.info? 64).map (fun i => (i.zero.map (·.cells.size), i.size)) = some (some 70, 70) := by kernel_rfl
theorem zeroDisk : ∃ z, (∀ w, (zeroValue 64).run Try.prog w = .ok z w) ∧ z.cells.size = 70 := by
  have h := infoDisk
  cases hi : Try.prog.info? 64 with
  | none => rw [hi] at h; cases h
  | some i =>
    rw [hi] at h
    simp only [Option.map_some, Option.some.injEq, Prod.mk.injEq] at h
    obtain ⟨h1, h2⟩ := h
    cases hz : i.zero with
    | none => rw [hz] at h1; cases h1
    | some z =>
      rw [hz] at h1
      exact ⟨z, fun w => by simp [zeroValue, typeInfo, hi, hz, go_sem], by simpa using h1⟩
theorem dcells_one (m : Nat) (D : Dk) : (dcells m D).all (·.oneCell') = true := by
  unfold dcells
  rw [Array.all_append, oneCell_bv]
  simp [Value.oneCell']
theorem dcells_size {w : World} {b m : Nat} {D : Dk} (h : DiskAt w b m D) : (dcells m D).size = 70 := by simp [dcells, bv_length, h.torn]
/-! ### the document's -/
theorem infoRef : (Try.prog.info? 46).map (fun i => (i.zero.map (·.cells.size), i.size)) = some (some 7, 7) := by kernel_rfl
theorem sizeRef : (Try.prog.info? 46).map (·.size) = some 7 := by kernel_rfl
theorem zeroRef : ∃ z, (∀ w, (zeroValue 46).run Try.prog w = .ok z w) ∧ z.cells.size = 7 := by
  have h := infoRef
  cases hi : Try.prog.info? 46 with
  | none => rw [hi] at h; cases h
  | some i =>
    rw [hi] at h
    simp only [Option.map_some, Option.some.injEq, Prod.mk.injEq] at h
    obtain ⟨h1, h2⟩ := h
    cases hz : i.zero with
    | none => rw [hz] at h1; cases h1
    | some z =>
      rw [hz] at h1
      exact ⟨z, fun w => by simp [zeroValue, typeInfo, hi, hz, go_sem], by simpa using h1⟩
theorem rows_src {w : World} {v : Value} {g : Nat} {l : List (Int × ByteArray)} (h : RowsAt w v g l) : (∃ ad c, v = .slice (some ad) l.length c ∧ ∀ j u, (rowCells l)[j]? = some u → w.cell? (ad.add j) = some u) ∨ (∃ c, v = .slice none 0 c ∧ l.length = 0) := by
  obtain ⟨a, cap, hv, ha⟩ := h.form
  rcases ha with rfl | rfl
  · cases a with
    | none => exact .inr ⟨cap, hv, rfl⟩
    | some ad => exact .inl ⟨ad, cap, hv, fun j u hu => by simp [rowCells] at hu⟩
  · exact .inl ⟨_, cap, hv, fun j u hu => by rw [Addr.add_lit]; exact h.cells j u hu⟩
theorem RowsAt.of_cells {w : World} {base : Nat} {v : Value} {l : List (Int × ByteArray)} (h : OwnCells w base 53 2 v l.length (rowCells l)) : ∃ g, base ≤ g ∧ RowsAt w v g l := by
  obtain ⟨g, cap, cur, rfl, hb, hg, hn, hm, hsz, htk⟩ := h
  refine ⟨g, hb, ⟨⟨_, cap, rfl, .inr rfl⟩, fun j u hu => ?_, by omega, .inr ⟨_, hg⟩⟩⟩
  rw [← htk, List.getElem?_take] at hu
  split at hu
  · rw [cell_blk hg]; simpa using hu
  · cases hu
set_option maxRecDepth 10000 in
theorem rcopy_any {w : World} {b : Nat} {v : Value} {g : Nat} {R : Rk} (h : RefAt w b v g R) (hl : R.rows.length ≤ 1000000) :
    Calls Try.prog 51 #[.pointer (some ⟨b, 0, none⟩)] w fun e w' => ∃ b' v' g', e = .returned (.pointer (some ⟨b', 0, none⟩)) ∧ Mod [] w w' ∧ RefAt w' b' v' g' R ∧ w.heap.size ≤ b' ∧ w.heap.size ≤ g' ∧ b' ≠ g' := by
  obtain ⟨z, hz, hzs⟩ := zeroRef
  obtain ⟨a0, cap0, hv0, _⟩ := h.rows.form
  have hld := load_whole (P := Try.prog) 46 h.blk Try.underlying46 rfl sizeRef
  obtain ⟨hst, hm1, hb1⟩ := store_whole (P := Try.prog) (w := w.alloc (.cells z.cells 46)) (b := w.heap.size) (c := rcells v R) (c0 := z.cells) 46 (heap_alloc_new w _) (by rw [hzs]; rfl) sizeRef (by rw [hv0]; simp [rcells, Value.oneCell'])
  generalize hw1 : (w.alloc (.cells z.cells 46)).setCells w.heap.size 0 (rcells v R).toList = w1 at hst hm1 hb1
  have hm : Mod [] w w1 := ((Mod.refl [] w).alloc _).toNil hm1 (by simp)
  have hs1 : w.heap.size < w1.heap.size := lt_of_heap hb1
  have hbl := lt_of_heap h.blk
  have h' := h.kept hm (by simp) (by simp)
  have h2 := h'.kept ((Mod.refl [] w1).alloc (.cells #[] 53)) (by simp) (by simp)
  obtain ⟨i, zr, hi, hzr, hs, hby, hzsr⟩ := infoRow
  obtain ⟨v', w', hrun, ho, hma⟩ := append_all (P := Try.prog) (w := w1.alloc (.cells #[] 53)) w1.heap.size 44 53 i zr 2 24 (by kernel_rfl) hi hzr hs hby hzsr (by omega) (heap_alloc_new w1 _) (Nat.le_refl _)
    (rows_src h2.rows) (rowCells_length _ |>.trans (Nat.mul_comm _ _)) (oneCell_rows _) h.rows.max (by omega) 44
  obtain ⟨g', hg', hro⟩ := RowsAt.of_cells ho
  have hb1' := hma.heap ((heap_alloc_ne w1 (.cells #[] 53) hs1).trans hb1) (by simp only [List.mem_singleton]; omega)
  have f1 := frozen_blk hb1' 1
  have e1 : w'.cell? ⟨w.heap.size, 1, none⟩ = some v := by rw [cell_blk hb1']; rfl
  have hb3 := heap_setCell_blk hb1' 1 v'
  have hm3 := (Mod.refl [w.heap.size] w').setCell (p := ⟨w.heap.size, 1, none⟩) (by simp) v'
  have hmm : Mod [] w w' := ((hm.alloc _).toNil hma (by simp; omega))
  have HK := Lib.hid (show Mod [] w _ ∧ RefAt _ w.heap.size v' g' R from ⟨hmm.toNil hm3 (by simp), hb3, hro.kept hm3 (by simp; omega), h.after⟩)
  obtain ⟨a3, cap3, hv3, _⟩ := hro.form
  subst hv3
  subst hv0
  have c1 := h2.c1
  have HL := Lib.hid hld
  have HS := Lib.hid hst
  have HZ := Lib.hid hz
  have HW := Lib.hid hw1
  have HR := Lib.hid hrun
  clear h h' h2 hld hst hb1 hz hw1 hzs hm hm1 hrun ho hma hro hb1' hb3 hm3 hmm hi hzr hs hby hzsr
  go_enter Try.func51, Try.ntmps51
  go_wp2_with first
    | (refine wpList_load rfl (t := 46) rfl rfl HL.out ?_)
    | (refine wpList_alloc rfl (t := 46) rfl HZ.out ?_)
    | (refine wpList_store rfl (t := 46) rfl rfl rfl HS.out ?_)
    | (refine wpList_append rfl (t := 44) rfl rfl rfl HR.out ?_)
  go_ret
  exact ⟨w.heap.size, _, g', rfl, HK.out.1, HK.out.2, Nat.le_refl _, by omega, by omega⟩
end Go.Proofs.Ytnjfgbbdfdoccaa
namespace Go.Proofs.Ytnjfgbbdfdoccaa
open Go.RowKit Go.ChangeMaps
set_option linter.unusedSimpArgs false
set_option linter.unusedVariables false

structure Same (D : Dk) (R : Rk) : Prop where
  n : D.n = R.n
  pos : 1 ≤ D.n
  written : D.written = R.written
  down : D.down = R.down
  set : D.set = R.set
  after : D.after = R.after
  torn : D.set = true → strOfNums D.torn = R.torn
  rows : ∀ k, findRow k R.rows = (D.by_ k).map strOfNums
theorem findRow_filter {k k2 : Int} (h : k2 ≠ k) : ∀ l : List (Int × ByteArray), findRow k2 (l.filter fun r => !(r.1 == k)) = findRow k2 l
  | [] => rfl
  | r :: rs => by
    by_cases hr : r.1 = k
    · have h2 : r.1 ≠ k2 := fun e => h (e.symm.trans hr)
      rw [List.filter_cons_of_neg (by simp [hr]), findRow_filter h rs]
      simp only [findRow, if_neg h2]
    · rw [List.filter_cons_of_pos (by simp [hr])]
      simp only [findRow, findRow_filter h rs]
theorem findRow_lay (R : Rk) (k : Int) (s : ByteArray) (k2 : Int) : findRow k2 (R.lay k s).rows = if k2 = k then some s else findRow k2 R.rows := by
  simp only [Rk.lay, findRow]
  by_cases h : k2 = k
  · subst h; simp
  · rw [if_neg (fun e => h e.symm), if_neg h, findRow_filter h]
theorem Same.asked {D : Dk} {R : Rk} (h : Same D R) (k : Int) : D.asked k = R.asked k := by
  unfold Dk.asked Rk.asked
  rw [h.down, h.n]
theorem Same.sec {D : Dk} {R : Rk} (h : Same D R) (k : Int) : strOfNums (D.sec k) = R.sec k := by
  unfold Dk.sec Rk.sec
  rw [h.rows k]
  cases D.by_ k <;> rfl
theorem Same.laid {D : Dk} {R : Rk} (h : Same D R) (k : Int) {l : List Int} {s : ByteArray} (e : strOfNums l = s) (k2 : Int) : findRow k2 (R.lay k s).rows = ((D.lay k l).by_ k2).map strOfNums := by
  rw [findRow_lay]
  simp only [Dk.lay]
  by_cases hk : k2 = k
  · rw [if_pos hk, if_pos hk, ← e]; rfl
  · rw [if_neg hk, if_neg hk]; exact h.rows k2
theorem Same.write {D : Dk} {R : Rk} (h : Same D R) (k : Int) (l : List Int) : (D.write k l).1 = (R.write k l).1 ∧ Same (D.write k l).2 (R.write k l).2 := by
  have ha := h.asked k
  have hs := h.set
  have hf := h.after
  by_cases h1 : R.asked k = 0
  · rw [h1] at ha
    by_cases h2 : l.length = 64
    · by_cases h3 : R.set = true
      · rw [h3] at hs
        by_cases h4 : R.after = 0
        · rw [h4] at hf
          have e1 : D.write k l = (16, { D.lay k D.torn with set := false, down := true }) := by simp [Dk.write, ha, h2, hs, hf]
          have e2 : R.write k l = (16, { R.lay k R.torn with set := false, down := true }) := by simp [Rk.write, h1, h2, h3, h4]
          rw [e1, e2]
          exact ⟨rfl, h.n, h.pos, h.written, rfl, rfl, h.after, fun e => by simp at e, h.laid k (h.torn hs)⟩
        · have h4' : ¬ D.after = 0 := fun e => h4 (hf ▸ e)
          have e1 : D.write k l = (0, { D.lay k l with after := D.after - 1, written := D.written + 1 }) := by simp [Dk.write, ha, h2, hs, h4']
          have e2 : R.write k l = (0, { ({ R with after := R.after - 1 } : Rk).lay k (strOfNums l) with written := R.written + 1 }) := by simp [Rk.write, h1, h2, h3, h4]
          rw [e1, e2]
          exact ⟨rfl, h.n, h.pos, by simp [Dk.lay, h.written], h.down, h.set, by simp [Dk.lay, Rk.lay, h.after], h.torn, h.laid k rfl⟩
      · have h3' : R.set = false := by simpa using h3
        rw [h3'] at hs
        have e1 : D.write k l = (0, { D.lay k l with written := D.written + 1 }) := by simp [Dk.write, ha, h2, hs]; rfl
        have e2 : R.write k l = (0, { R.lay k (strOfNums l) with written := R.written + 1 }) := by simp [Rk.write, h1, h2, h3']
        rw [e1, e2]
        exact ⟨rfl, h.n, h.pos, by simp [Dk.lay, h.written], h.down, h.set, h.after, h.torn, h.laid k rfl⟩
    · have e1 : D.write k l = (2, D) := by simp [Dk.write, ha, h2]
      have e2 : R.write k l = (2, R) := by simp [Rk.write, h1, h2]
      rw [e1, e2]
      exact ⟨rfl, h⟩
  · have h1' : ¬ D.asked k = 0 := by rw [ha]; exact h1
    have e1 : D.write k l = (R.asked k, D) := by simp [Dk.write, h1', ha, h1]
    have e2 : R.write k l = (R.asked k, R) := by simp [Rk.write, h1]
    rw [e1, e2]
    exact ⟨rfl, h⟩
theorem Same.crash {D : Dk} {R : Rk} (h : Same D R) (k : Int) (l : List Int) : (D.crash k l).1 = (R.crash k l).1 ∧ Same (D.crash k l).2 (R.crash k l).2 := by
  have hp := h.pos
  by_cases h1 : R.down = true
  · have ha : D.asked 0 = 16 := by simp [Dk.asked, h.down, h1]
    have e1 : D.crash k l = (16, D) := by simp [Dk.crash, ha]
    have e2 : R.crash k l = (16, R) := by simp [Rk.crash, h1]
    rw [e1, e2]
    exact ⟨rfl, h⟩
  · have ha : D.asked 0 = 0 := by
      unfold Dk.asked
      rw [if_neg (show ¬ D.down = true by rw [h.down]; exact h1), if_neg (show ¬ ((0 : Int) < 0 ∨ D.n ≤ 0) by omega)]
    have h1' : R.down = false := by simpa using h1
    by_cases h2 : k < 0 ∨ l.length ≠ 64
    · have e1 : D.crash k l = (2, D) := by
        unfold Dk.crash
        rw [if_neg (show ¬ D.asked 0 ≠ 0 by rw [ha]; simp), if_pos h2]
      have e2 : R.crash k l = (2, R) := by
        unfold Rk.crash
        rw [if_neg h1, if_pos h2]
      rw [e1, e2]
      exact ⟨rfl, h⟩
    · have e1 : D.crash k l = (0, { D with set := true, after := k, torn := l }) := by
        unfold Dk.crash
        rw [if_neg (show ¬ D.asked 0 ≠ 0 by rw [ha]; simp), if_neg h2]
      have e2 : R.crash k l = (0, { R with set := true, after := k, torn := strOfNums l }) := by
        unfold Rk.crash
        rw [if_neg h1, if_neg h2]
      rw [e1, e2]
      exact ⟨rfl, h.n, h.pos, h.written, h.down, rfl, rfl, fun _ => rfl, h.rows⟩
theorem Same.up {D : Dk} {R : Rk} (h : Same D R) : Same { D with down := false } { R with down := false } :=
  ⟨h.n, h.pos, h.written, rfl, h.set, h.after, h.torn, h.rows⟩
def Rk.new (n : Int) : Rk := { n := n, rows := [], written := 0, down := false, set := false, after := 0, torn := ByteArray.empty }
theorem Same.new (n : Int) (h : 1 ≤ n) : Same (Dk.new n) (Rk.new n) :=
  ⟨rfl, h, rfl, rfl, rfl, rfl, fun e => by simp [Dk.new] at e, fun k => rfl⟩
theorem rows_write (R : Rk) (k : Int) (l : List Int) : (R.write k l).2.rows.length ≤ R.rows.length + 1 := by
  have hf := List.length_filter_le (fun r : Int × ByteArray => !(r.1 == k)) R.rows
  unfold Rk.write
  repeat' split
  all_goals simp [Rk.lay]
  all_goals omega
theorem rows_crash (R : Rk) (k : Int) (l : List Int) : (R.crash k l).2.rows = R.rows := by
  unfold Rk.crash
  repeat' split
  all_goals rfl
theorem written_write (R : Rk) (k : Int) (l : List Int) : R.written ≤ (R.write k l).2.written ∧ (R.write k l).2.written ≤ R.written + 1 := by
  unfold Rk.write
  repeat' split
  all_goals simp [Rk.lay]
  all_goals omega
theorem written_crash (R : Rk) (k : Int) (l : List Int) : (R.crash k l).2.written = R.written := by
  unfold Rk.crash
  repeat' split
  all_goals rfl
end Go.Proofs.Ytnjfgbbdfdoccaa
