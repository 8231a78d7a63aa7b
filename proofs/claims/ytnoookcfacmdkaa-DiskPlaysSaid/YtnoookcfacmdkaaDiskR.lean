/- The document's disk (package corrodyref30): a model, and how it lies in memory; Read. -/
import Derived.Test.YtnoookcfacmdkaaDiskE
namespace Go.Proofs.Ytnoookcfacmdkaa
open Go.RowKit Go.ChangeMaps
set_option linter.unusedSimpArgs false
set_option linter.unusedVariables false

structure Rk where
  n : Int
  rows : List (Int × ByteArray)
  written : Int
  down : Bool
  set : Bool
  after : Int
  torn : ByteArray
def rowCells : List (Int × ByteArray) → List Value
  | [] => []
  | r :: rs => .int .i64 r.1 :: .string r.2 :: rowCells rs
theorem rowCells_length : ∀ l : List (Int × ByteArray), (rowCells l).length = 2 * l.length
  | [] => rfl
  | r :: rs => by simp [rowCells, rowCells_length rs]; omega
theorem rowCells_append : ∀ a b : List (Int × ByteArray), rowCells (a ++ b) = rowCells a ++ rowCells b
  | [], b => rfl
  | r :: rs, b => by simp [rowCells, rowCells_append rs b]
theorem rowCells_at : ∀ (l : List (Int × ByteArray)) (i : Nat) (r : Int × ByteArray), l[i]? = some r → (rowCells l)[i * 2]? = some (.int .i64 r.1) ∧ (rowCells l)[i * 2 + 1]? = some (.string r.2)
  | [], i, r, h => by simp at h
  | x :: xs, 0, r, h => by simp at h; subst h; exact ⟨rfl, rfl⟩
  | x :: xs, i + 1, r, h => by
    have h' : xs[i]? = some r := by simpa using h
    obtain ⟨h1, h2⟩ := rowCells_at xs i r h'
    have e1 : (i + 1) * 2 = i * 2 + 1 + 1 := by omega
    rw [e1]
    exact ⟨h1, h2⟩
/-- A slice value whose elements are rows, in block g. -/
structure RowsAt (w : World) (v : Value) (g : Nat) (l : List (Int × ByteArray)) : Prop where
  form : ∃ a cap, v = .slice a l.length cap ∧ (l = [] ∨ a = some ⟨g, 0, none⟩)
  cells : w.rangeAt g 0 (rowCells l)
  max : l.length ≤ maxLen
def rcells (v : Value) (R : Rk) : Array Value := #[.int .i64 R.n, v, .int .i64 R.written, .bool R.down, .bool R.set, .int .i64 R.after, .string R.torn]
/-- Block b is the document's disk R, its rows in block g. -/
structure RefAt (w : World) (b : Nat) (v : Value) (g : Nat) (R : Rk) : Prop where
  blk : w.heap[b]? = some (.cells (rcells v R) 41 (0, 0))
  rows : RowsAt w v g R.rows
  after : 0 ≤ R.after ∧ R.after ≤ 9223372036854775807
theorem RowsAt.kept {w w' : World} {v : Value} {g : Nat} {l : List (Int × ByteArray)} {ks : List Nat} (h : RowsAt w v g l) (hm : Mod ks w w') (hn : g ∉ ks) : RowsAt w' v g l :=
  ⟨h.form, rangeAt_mod h.cells hm hn, h.max⟩
theorem RefAt.kept {w w' : World} {b : Nat} {v : Value} {g : Nat} {R : Rk} {ks : List Nat} (h : RefAt w b v g R) (hm : Mod ks w w') (h1 : b ∉ ks) (h2 : g ∉ ks) : RefAt w' b v g R :=
  ⟨hm.heap h.blk h1, h.rows.kept hm h2, h.after⟩
theorem RowsAt.row {w : World} {v : Value} {g : Nat} {l : List (Int × ByteArray)} (h : RowsAt w v g l) {i : Nat} (hi : i < l.length) :
    w.cell? ⟨g, i * 2, none⟩ = some (.int .i64 l[i].1) ∧ w.cell? ⟨g, i * 2 + 1, none⟩ = some (.string l[i].2) := by
  obtain ⟨h1, h2⟩ := rowCells_at l i l[i] (by simp [hi])
  have e1 := h.cells _ _ h1
  have e2 := h.cells _ _ h2
  simp only [Nat.zero_add] at e1 e2
  exact ⟨e1, e2⟩
theorem RefAt.c0 {w : World} {b : Nat} {v : Value} {g : Nat} {R : Rk} (h : RefAt w b v g R) : w.cell? ⟨b, 0, none⟩ = some (.int .i64 R.n) := by rw [cell_blk h.blk]; rfl
theorem RefAt.c1 {w : World} {b : Nat} {v : Value} {g : Nat} {R : Rk} (h : RefAt w b v g R) : w.cell? ⟨b, 1, none⟩ = some v := by rw [cell_blk h.blk]; rfl
theorem RefAt.c2 {w : World} {b : Nat} {v : Value} {g : Nat} {R : Rk} (h : RefAt w b v g R) : w.cell? ⟨b, 2, none⟩ = some (.int .i64 R.written) := by rw [cell_blk h.blk]; rfl
theorem RefAt.c3 {w : World} {b : Nat} {v : Value} {g : Nat} {R : Rk} (h : RefAt w b v g R) : w.cell? ⟨b, 3, none⟩ = some (.bool R.down) := by rw [cell_blk h.blk]; rfl
theorem RefAt.c4 {w : World} {b : Nat} {v : Value} {g : Nat} {R : Rk} (h : RefAt w b v g R) : w.cell? ⟨b, 4, none⟩ = some (.bool R.set) := by rw [cell_blk h.blk]; rfl
theorem RefAt.c5 {w : World} {b : Nat} {v : Value} {g : Nat} {R : Rk} (h : RefAt w b v g R) : w.cell? ⟨b, 5, none⟩ = some (.int .i64 R.after) := by rw [cell_blk h.blk]; rfl
theorem RefAt.c6 {w : World} {b : Nat} {v : Value} {g : Nat} {R : Rk} (h : RefAt w b v g R) : w.cell? ⟨b, 6, none⟩ = some (.string R.torn) := by rw [cell_blk h.blk]; rfl

/-- What stands against a call on a sector. -/
def Rk.asked (R : Rk) (k : Int) : Int := if R.down = true then 16 else if k < 0 ∨ R.n ≤ k then 2 else 0
/-- The first row of a sector. -/
def findRow (k : Int) : List (Int × ByteArray) → Option ByteArray
  | [] => none
  | r :: rs => if r.1 = k then some r.2 else findRow k rs
def Rk.sec (R : Rk) (k : Int) : ByteArray := (findRow k R.rows).getD (strOfNums zeros64)
theorem findRow_skip {k : Int} : ∀ {l : List (Int × ByteArray)} {i : Nat}, (∀ j r, j < i → l[j]? = some r → r.1 ≠ k) → findRow k l = findRow k (l.drop i)
  | l, 0, _ => rfl
  | [], i + 1, _ => rfl
  | r :: rs, i + 1, h => by
    have h0 := h 0 r (by omega) rfl
    simp only [findRow, if_neg h0, List.drop_succ_cons]
    exact findRow_skip fun j r' hj hr => h (j + 1) r' (by omega) (by simpa using hr)

theorem rread_refused {w : World} {b : Nat} {v : Value} {g : Nat} {R : Rk} (h : RefAt w b v g R) (k : Int) (ha : R.asked k ≠ 0) :
    Calls Try.prog 18 #[.pointer (some ⟨b, 0, none⟩), .int .i64 k] w fun e w' => e = .returned (.tuple #[.string ByteArray.empty, .int .i64 (R.asked k)]) ∧ w = w' := by
  have c0 := h.c0
  have c3 := h.c3
  by_cases h1 : R.down = true
  · have hv : R.asked k = 16 := by simp [Rk.asked, h1]
    rw [hv]
    rw [h1] at c3
    clear h ha hv
    go_enter Try.func18, Try.ntmps18
    go_wp2
    go_ret2
    exact ⟨rfl, rfl⟩
  · have h1' : R.down = false := by simpa using h1
    rw [h1'] at c3
    by_cases h2 : k < 0
    · have hv : R.asked k = 2 := by simp [Rk.asked, h1', h2]
      rw [hv]
      clear h ha hv
      go_enter Try.func18, Try.ntmps18
      go_wp2
      go_ret2
      exact ⟨rfl, rfl⟩
    · by_cases h3 : R.n ≤ k
      · have hv : R.asked k = 2 := by simp [Rk.asked, h1', h3]
        rw [hv]
        clear h ha hv
        go_enter Try.func18, Try.ntmps18
        go_wp2
        go_ret2
        exact ⟨rfl, rfl⟩
      · exact absurd (by simp [Rk.asked, h1', h2, h3]) ha
theorem asked_zero {R : Rk} {k : Int} (h : R.asked k = 0) : R.down = false ∧ 0 ≤ k ∧ k < R.n := by
  unfold Rk.asked at h
  by_cases h1 : R.down = true
  · simp [h1] at h
  · have h1' : R.down = false := by simpa using h1
    simp only [h1', Bool.false_eq_true, if_false] at h
    split at h
    · cases h
    · exact ⟨h1', by omega, by omega⟩
set_option maxRecDepth 10000 in
theorem rread_done {w : World} {b : Nat} {v : Value} {g : Nat} {R : Rk} (h : RefAt w b v g R) (k : Int) (ha : R.asked k = 0) :
    Calls Try.prog 18 #[.pointer (some ⟨b, 0, none⟩), .int .i64 k] w fun e w' => e = .returned (.tuple #[.string (R.sec k), .int .i64 0]) ∧ Mod [] w w' := by
  obtain ⟨hd, hk0, hkn⟩ := asked_zero ha
  have c0 := h.c0
  have c1 := h.c1
  have c3 := h.c3
  rw [hd] at c3
  obtain ⟨a, cap, hv, ha2⟩ := h.rows.form
  subst hv
  have hmx := h.rows.max
  unfold maxLen at hmx
  have H := Lib.hid h
  have HD := Lib.hid hd
  clear h ha hd
  go_enter Try.func18, Try.ntmps18
  go_wp2_with fail
  go_loop [6] (fun v6 => ∃ i : Nat, i ≤ R.rows.length ∧ v6 = .int .i64 i ∧ Hid (∀ j r, j < i → R.rows[j]? = some r → r.1 ≠ k)) (fun v6 => R.rows.length - (intOf v6).toNat)
  case atStart => exact ⟨0, by omega, rfl, fun j r hj => by omega⟩
  case round =>
    obtain ⟨i, hi, rfl, hall⟩ := hrel
    by_cases hlt : i < R.rows.length
    · have ha3 : a = some ⟨g, 0, none⟩ := by
        rcases ha2 with ha2 | ha2
        · rw [ha2] at hlt; simp at hlt
        · exact ha2
      clear ha2
      subst ha3
      obtain ⟨cA, cB⟩ := H.out.rows.row hlt
      have hg : R.rows[i]? = some R.rows[i] := by simp [hlt]
      generalize R.rows[i] = r at cA cB hg
      have HG := Lib.hid hg
      clear hg
      by_cases hk : r.1 = k
      · have hq : (r.1 == k) = true := beq_iff_eq.2 hk
        have HK := Lib.hid hk
        clear hk
        go_wp2_with fail
        go_ret2
        refine ⟨?_, Mod.refl _ _⟩
        have e : R.sec k = r.2 := by
          unfold Rk.sec
          rw [findRow_skip (i := i) fun j r' hj hr => hall.out j r' hj hr, List.drop_eq_getElem_cons hlt]
          have h1 : R.rows[i] = r := by have := HG.out; rw [List.getElem?_eq_getElem hlt] at this; exact Option.some.inj this
          simp only [findRow, h1, if_pos HK.out]
          rfl
        rw [e]
        rfl
      · have hq : (r.1 == k) = false := beq_eq_false_iff_ne.2 hk
        have HK := Lib.hid hk
        clear hk
        go_wp2_with fail
        go_round
        case rel =>
          refine ⟨i + 1, by omega, by go_num, fun j r' hj hr => ?_⟩
          by_cases hji : j = i
          · subst hji
            rw [HG.out] at hr
            cases hr
            exact HK.out
          · exact hall.out j r' (by omega) hr
        case measure => simp [intOf]; omega
    · have hil : i = R.rows.length := by omega
      have e : R.sec k = strOfNums zeros64 := by
        unfold Rk.sec
        rw [findRow_skip (i := i) fun j r' hj hr => hall.out j r' hj hr, hil, List.drop_length]
        rfl
      have hmk := run_make_row' (P := Try.prog) 23 5 (.int .u8 0) 1 Try.underlying23 info5 rfl .i64 .i64 64 (by omega) (by omega) w
      rw [made64 0, show ((64 : Nat) : Int) = 64 from rfl] at hmk
      have hz : fillTo 0 0 = zeros64 := by kernel_rfl
      rw [hz] at hmk
      have hcv := conv_bytes (bytes_new w zeros64 5)
      have e64 : zeros64.length = 64 := by simp [zeros64]
      rw [e64] at hcv
      have HM := Lib.hid hmk
      have HC := Lib.hid hcv
      have HE := Lib.hid e
      clear hmk hcv e hz e64 hil
      go_wp2_with first
        | (refine wpList_makeSlice rfl (t := 23) rfl rfl rfl HM.out ?_)
        | (refine wpList_convert rfl (s := 23) rfl rfl HC.out ?_)
      go_ret2
      exact ⟨by rw [HE.out]; rfl, (Mod.refl _ _).alloc _⟩
end Go.Proofs.Ytnoookcfacmdkaa
