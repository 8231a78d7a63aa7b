/- The document's journal: Append. -/
import Derived.Test.YtnjfgbbdfdoccaaJzB
import Derived.Test.YtnjfgbbdfdoccaaJnH
import Derived.Test.YtnjfgbbdfdoccaaJzA
import Derived.Test.YtnjfgbbdfdoccaaJnT
import Derived.Test.YtnjfgbbdfdoccaaJnI
namespace Go.Proofs.Ytnjfgbbdfdoccaa
open Go.RowKit Go.ChangeMaps
set_option linter.unusedSimpArgs false
set_option linter.unusedVariables false
set_option maxRecDepth 20000

def encRw (r : Int × ByteArray) : List Value := [.int .i64 r.1, .string r.2]
theorem encRw_len (x : Int × ByteArray) : (encRw x).length = 2 := rfl
theorem encRw_one (x : Int × ByteArray) : ∀ v ∈ encRw x, v.oneCell' = true := by
  intro v hv; simp [encRw] at hv; rcases hv with rfl | rfl <;> rfl
theorem elemRw : ElemOk Try.prog 44 53 2 24 := .mk' Try.underlying44 (by omega) (by kernel_rfl)
def rowsOf (l : List (Int × List Int)) : List (Int × ByteArray) := l.map fun x => (x.1, strOfNums x.2)
theorem own_lit {α : Type} {enc : α → List Value} {w' : World} {base k b n : Nat} {E : TypeId} {l : List α} {c : Array Value} (h : w'.heap[b]? = some (.cells c E (0, 0))) (hc : c = (flat enc l).toArray) (hn : n = l.length) (hk : ∀ x, (enc x).length = k) (hb : base ≤ b) (hm : l.length ≤ 1073741824) : OwnR enc k E w' base (.slice (some ⟨b, 0, none⟩) n n) l := by
  subst hc hn
  refine ⟨flat_length hk l, .inr ⟨b, l.length, (flat enc l).toArray, rfl, hb, h, Nat.le_refl _, by unfold maxLen; omega, by simpa using flat_length hk l, ?_⟩⟩
  rw [← flat_length hk l]
  exact List.take_of_length_le (Nat.le_refl _)
theorem layPlan_last (at_ : Int) (b : List Int) (M : Nat) (h : 1 ≤ M) : layPlan at_ b M = (layPlan at_ b M).take (M + 1) ++ [(at_, b.take 64)] := by
  have h2 := layPlan_take at_ b M M h (Nat.le_refl _)
  rw [List.take_of_length_le (by rw [layPlan_len]; omega)] at h2
  rw [Nat.mod_self] at h2
  simpa using h2
theorem str_slice (l : List Int) (i j : Nat) (h : i ≤ j) (hj : j ≤ l.length) : (strOfNums l).extract i j = strOfNums ((l.drop i).take (j - i)) := by
  apply ByteArray.ext
  rw [ByteArray.data_extract]
  apply Array.ext'
  simp [strOfNums, List.map_take, List.map_drop]
set_option maxHeartbeats 8000000 in
theorem mjPlan_at (at_ : Int) (ha : 0 ≤ at_ ∧ at_ ≤ 1099511627776) (b : List Int) (M : Nat) (hM : 1 ≤ M ∧ M ≤ 16777216) (hb : b.length = M * 64) (w : World) :
    Calls Try.prog 48 #[.int .i64 at_, .string (strOfNums b)] w fun e w' => ∃ v, e = .returned v ∧ OwnR encRw 2 53 w' w.heap.size v (rowsOf (layPlan at_ b M)) ∧ Mod [] w w' := by
  obtain ⟨ha0, ha1⟩ := ha
  obtain ⟨hM1, hM2⟩ := hM
  have CP := Lib.hid (show ∀ u, Calls Try.prog 40 #[.string ⟨#[]⟩, .int .i64 64] u fun e w' => e = .returned (.string (strOfNums zeros64)) ∧ Mod [] u w' from fun u => mjPadded_at [] 64 (by decide) (by omega) u)
  have hs : (strOfNums b).size = M * 64 := by rw [strs_len, hb]
  have HS := Lib.hid (show ∀ i j : Nat, i ≤ j → j ≤ M * 64 → (strOfNums b).extract i j = strOfNums ((b.drop i).take (j - i)) from fun i j h1 h2 => str_slice b i j h1 (by omega))
  have HT := Lib.hid (show ∀ i : Nat, 1 ≤ i → i < M → rowsOf ((layPlan at_ b M).take (i + 2)) = rowsOf ((layPlan at_ b M).take (i + 1)) ++ [(at_ + (i : Int), strOfNums ((b.drop (i * 64)).take 64))] from fun i h1 h2 => by
    rw [layPlan_take at_ b M i h1 (by omega), Nat.mod_eq_of_lt h2]
    simp [rowsOf])
  have HL := Lib.hid (show rowsOf (layPlan at_ b M) = rowsOf ((layPlan at_ b M).take (M + 1)) ++ [(at_, strOfNums (b.take 64))] from by
    conv => lhs; rw [layPlan_last at_ b M hM1]
    simp [rowsOf])
  have H2 := Lib.hid (show rowsOf ((layPlan at_ b M).take 2) = [(at_, strOfNums zeros64), (at_ + M, strOfNums zeros64)] from rfl)
  have HLL := Lib.hid (show ∀ i, (rowsOf ((layPlan at_ b M).take i)).length ≤ i from fun i => by unfold rowsOf; rw [List.length_map, List.length_take]; omega)
  generalize strOfNums b = s at *
  clear hb
  go_enter Try.func48, Try.ntmps48
  go_wp2_with fail
  refine (CP.out _).mono ?_
  rintro e w1 ⟨rfl, m1⟩
  have HM := Lib.hid m1
  clear m1
  go_wp2_with fail
  refine (CP.out _).mono ?_
  rintro e w2 ⟨rfl, m2⟩
  have HM := Lib.hid (HM.out.trans m2)
  clear m2
  obtain ⟨W3, hAl, kA, zA, mA⟩ := alloc_named2 w2 (.cells #[.int .i64 at_, .string (strOfNums zeros64), .int .i64 (at_ + M), .string (strOfNums zeros64)] 53)
  obtain ⟨g, hg⟩ : ∃ g, w2.heap.size = g := ⟨_, rfl⟩
  rw [hg] at kA
  have hO := own_lit (enc := encRw) (k := 2) (base := w.heap.size) (l := rowsOf ((layPlan at_ b M).take 2)) kA (by rw [H2.out]; rfl) (n := 2) (by rw [H2.out]; rfl) encRw_len (by rw [← hg]; exact HM.out.size) (by have := HLL.out 2; omega)
  have HM := Lib.hid (HM.out.trans mA)
  have HO := Lib.hid hO
  have HAl := Lib.hid hAl
  have Hg := Lib.hid hg
  clear hAl kA zA mA hg hO
  generalize strOfNums zeros64 = z at *
  go_wp2_with fail
  rw [HAl.out, Hg.out]
  go_loopw [6, 7] (fun s6 s7 W => ∃ i : Nat, 1 ≤ i ∧ i ≤ M ∧ s7 = .int .i64 i ∧ Hid (OwnR encRw 2 53 W w.heap.size s6 (rowsOf ((layPlan at_ b M).take (i + 1))) ∧ Mod [] w W)) (fun _ s7 _ => M - (intOf s7).toNat)
  case atStart => exact ⟨1, by omega, by omega, rfl, Lib.hid ⟨HO.out, HM.out⟩⟩
  case round =>
    obtain ⟨i, hi1, hi2, rfl, hS⟩ := hrel
    obtain ⟨hO, hM⟩ := hS.out
    have HO := Lib.hid hO
    have HM := Lib.hid hM
    clear hS hO hM
    by_cases hlt : i < M
    · have d1 : decide ((i : Int) < (M : Int)) = true := decide_eq_true (by omega)
      have HX := Lib.hid (HS.out (i * 64) (i * 64 + 64) (by omega) (by omega))
      have HT1 := Lib.hid (HT.out i hi1 hlt)
      have e1 : i * 64 + 64 - i * 64 = 64 := by omega
      rw [e1] at HX
      have hle := HLL.out (i + 1)
      obtain ⟨v', w', ra, ho', gr⟩ := own_append1 (P := Try.prog) (ty := 44) elemRw encRw_len encRw_one HO.out HM.out.size (at_ + (i : Int), s.extract (i * 64) (i * 64 + 64)) (by omega) (by omega)
      have HM2 := Lib.hid (gr.intoNil HO.out (Nat.le_refl _) HM.out)
      dsimp only [encRw] at ra
      rw [HX.out, ← HT1.out] at ho'
      have HO2 := Lib.hid ho'
      have RA := Lib.hid ra
      clear ra ho' gr e1 hle HT1
      go_wp2_with ((with_reducible refine xAppendAt RA.out rfl rfl ?_ ?_ ?_ ?_); exact rfl; exact rfl; exact rfl)
      go_roundw
      case rel => exact ⟨i + 1, by omega, by omega, by go_num, Lib.hid ⟨HO2.out, HM2.out⟩⟩
      case measure => simp [intOf]; omega
    · obtain rfl : i = M := by omega
      have d1 : decide ((i : Int) < (i : Int)) = false := decide_eq_false (by omega)
      have HX := Lib.hid (HS.out 0 64 (by omega) (by omega))
      rw [List.drop_zero] at HX
      have hle := HLL.out (i + 1)
      obtain ⟨v', w', ra, ho', gr⟩ := own_append1 (P := Try.prog) (ty := 44) elemRw encRw_len encRw_one HO.out HM.out.size (at_, s.extract 0 64) (by omega) (by omega)
      have HM2 := Lib.hid (gr.intoNil HO.out (Nat.le_refl _) HM.out)
      dsimp only [encRw] at ra
      rw [HX.out, ← HL.out] at ho'
      have HO2 := Lib.hid ho'
      have RA := Lib.hid ra
      have h64 : (64 : Int) ≤ s.size := by omega
      clear ra ho' gr hle
      go_wp2_with ((with_reducible refine xAppendAt RA.out rfl rfl ?_ ?_ ?_ ?_); exact rfl; exact rfl; exact rfl)
      go_ret
      exact ⟨_, rfl, HO2.out, HM2.out⟩
end Go.Proofs.Ytnjfgbbdfdoccaa
namespace Go.Proofs.Ytnjfgbbdfdoccaa
open Go.RowKit Go.ChangeMaps
set_option linter.unusedSimpArgs false
set_option linter.unusedVariables false
set_option maxRecDepth 20000

/-- '[]byte(s)' -/
theorem conv_str (l : List Int) (hb : IsB l) (w : World) : ∃ c w', (convert 9 33 (.string (strOfNums l))).run Try.prog w = .ok (.slice (some ⟨w.heap.size, 0, none⟩) l.length c) w' ∧ Mod [] w w' ∧ RowAt enc8 w' (.slice (some ⟨w.heap.size, 0, none⟩) l.length c) l ∧ l.length ≤ c := by
  have h := run_bytes_of_string (P := Try.prog) w 9 33 5 (strOfNums l) Try.underlying9 Try.underlying33 Try.underlying5
  rw [strs_len] at h
  have hc : l.length ≤ grownCap w l.length 0 5 := by
    first
      | exact grownCap_ge _ _ _ _
      | (unfold grownCap; split <;> omega)
      | (unfold grownCap; omega)
  refine ⟨_, _, h, ((Mod.refl [] w).drew).alloc _, .at_ _ 0 _ l hc (fun j u hu => ?_), hc⟩
  have hn : ∀ o : Obj, (w.drew.alloc o).heap[w.heap.size]? = some o := fun o => heap_alloc_new w.drew o
  rw [Nat.zero_add, cell_blk (hn _)]
  rw [flat8] at hu
  simp only [bv, List.getElem?_map, Option.map_eq_some_iff] at hu
  obtain ⟨x, hx, rfl⟩ := hu
  have hj := (List.getElem?_eq_some_iff.1 hx).1
  have hxb := hb x (List.mem_of_getElem? hx)
  have e : (strOfNums l).data[j]? = some (UInt8.ofNat x.toNat) := by
    simp [strOfNums, hx]
  unfold bytesRow
  rw [Array.getElem?_append_left (by rw [Array.size_map]; show j < (strOfNums l).size; rw [strs_len]; exact hj), Array.getElem?_map, e]
  simp only [Option.map_some, Option.some.injEq, Value.int.injEq, true_and]
  rw [UInt8.toNat_ofNat']
  omega
/-- the document's journal: its epoch, the sector behind the last frame, its records, the writes that were asked -/
structure Mj where
  epoch : Int
  at_ : Int
  l : List (List Int)
  dead : Bool
  asked : List (Int × ByteArray)
/-- the document's disk -/
def DkAt (w : World) (b : Nat) (R : Rk) : Prop := ∃ v g, RefAt w b v g R ∧ b ≠ g
theorem RefAt.nil {w : World} {b : Nat} {v : Value} {g : Nat} {R : Rk} (h : RefAt w b v g R) (h0 : R.rows = []) (g' : Nat) : RefAt w b v g' R := by
  obtain ⟨⟨a, cap, f1, f2⟩, _, f3, _⟩ := h.rows
  refine ⟨h.blk, ⟨⟨a, cap, f1, .inl h0⟩, ?_, f3, .inl h0⟩, h.after⟩
  rw [h0]
  intro j u hu
  simp [rowCells] at hu
theorem fresh_nat (ks : List Nat) (b : Nat) : ∃ g, b ≠ g ∧ g ∉ ks := by
  have h : ∀ ks : List Nat, ∃ m, ∀ k ∈ ks, k < m := fun ks => by
    induction ks with
    | nil => exact ⟨0, by simp⟩
    | cons k ks ih =>
      obtain ⟨m, hm⟩ := ih
      refine ⟨max m (k + 1), fun x hx => ?_⟩
      rcases List.mem_cons.1 hx with rfl | hx
      · omega
      · have := hm x hx; omega
  obtain ⟨m, hm⟩ := h (b :: ks)
  exact ⟨m, by have := hm b (by simp); omega, fun hx => by have := hm m (List.mem_cons_of_mem _ hx); omega⟩
theorem DkAt.kept {w w' : World} {b : Nat} {R : Rk} {ks : List Nat} (h : DkAt w b R) (hm : Mod ks w w') (hb : b ∉ ks) (ht : ∀ k ∈ ks, ∀ cs f, w.heap[k]? ≠ some (.cells cs 53 f)) : DkAt w' b R := by
  obtain ⟨v, g, h1, h2⟩ := h
  rcases h1.rows.typ with h0 | ⟨c, hc⟩
  · obtain ⟨g', n1, n2⟩ := fresh_nat ks b
    exact ⟨v, g', (h1.nil h0 g').kept hm hb n2, n1⟩
  · exact ⟨v, g, h1.kept hm hb (fun hg => ht g hg c _ hc), h2⟩
theorem DkAt.kept0 {w w' : World} {b : Nat} {R : Rk} (h : DkAt w b R) (hm : Mod [] w w') : DkAt w' b R := h.kept hm (by simp) (by simp)
theorem DkAt.cell {w : World} {b : Nat} {R : Rk} (h : DkAt w b R) : ∃ v, w.heap[b]? = some (.cells (rcells v R) 46 (0, 0)) := by
  obtain ⟨v, g, h1, h2⟩ := h
  exact ⟨v, h1.blk⟩
structure MAt (w : World) (base j b : Nat) (J : Mj) (R : Rk) : Prop where
  ex : ∃ lv av : Value, w.heap[j]? = some (.cells #[.pointer (some ⟨b, 0, none⟩), .int .i64 J.epoch, .int .i64 J.at_, lv, .bool J.dead, av] 55 (0, 0)) ∧ OwnR encStr 1 9 w base lv (J.l.map strOfNums) ∧ OwnR encRw 2 53 w base av J.asked
  disk : DkAt w b R
theorem MAt.kept {w w' : World} {base j b : Nat} {J : Mj} {R : Rk} {ks : List Nat} (h : MAt w base j b J R) (hm : Mod ks w w') (hj : j ∉ ks) (hb : b ∉ ks) (ht : ∀ k ∈ ks, ∀ cs E f, w.heap[k]? = some (.cells cs E f) → E ≠ 53 ∧ E ≠ 9) : MAt w' base j b J R := by
  obtain ⟨⟨lv, av, e1, e2, e3⟩, hd⟩ := h
  refine ⟨⟨lv, av, hm.heap e1 hj, e2.kept hm (fun k hk hkm => ?_), e3.kept hm (fun k hk hkm => ?_)⟩, hd.kept hm hb (fun k hk cs f hc => (ht k hk cs _ f hc).1 rfl)⟩
  · obtain ⟨c, hc⟩ := ownsRow_cells e2 hk
    exact (ht k hkm c _ _ hc).2 rfl
  · obtain ⟨c, hc⟩ := ownsRow_cells e3 hk
    exact (ht k hkm c _ _ hc).1 rfl
theorem MAt.kept0 {w w' : World} {base j b : Nat} {J : Mj} {R : Rk} (h : MAt w base j b J R) (hm : Mod [] w w') : MAt w' base j b J R := h.kept hm (by simp) (by simp) (by simp)
theorem MAt.ne {w : World} {base j b : Nat} {J : Mj} {R : Rk} (h : MAt w base j b J R) : j ≠ b ∧ j < w.heap.size ∧ b < w.heap.size := by
  obtain ⟨⟨lv, av, e1, _⟩, hd⟩ := h
  obtain ⟨v, e2⟩ := hd.cell
  refine ⟨fun e => ?_, lt_of_heap e1, lt_of_heap e2⟩
  subst e
  rw [e1] at e2
  simp only [Option.some.injEq, Obj.cells.injEq] at e2
  exact absurd e2.2.1 (by decide)
/-- the document's writes, up to one that is refused -/
def Rk.does (R : Rk) : List (Int × List Int) → Int × Rk
  | [] => (0, R)
  | x :: r => if (R.write x.1 x.2).1 = 0 then Rk.does (R.write x.1 x.2).2 r else R.write x.1 x.2
/-- those that were asked -/
def Rk.asks (R : Rk) : List (Int × List Int) → List (Int × List Int)
  | [] => []
  | x :: r => x :: if (R.write x.1 x.2).1 = 0 then Rk.asks (R.write x.1 x.2).2 r else []
theorem Rk.does_snoc (p : List (Int × List Int)) (x : Int × List Int) : ∀ R : Rk, R.does (p ++ [x]) = if (R.does p).1 = 0 then (R.does p).2.write x.1 x.2 else R.does p := by
  induction p with
  | nil =>
    intro R
    simp only [List.nil_append, Rk.does, if_true]
    split
    · rename_i h
      exact (Prod.ext h.symm rfl)
    · rfl
  | cons y p ih =>
    intro R
    simp only [List.cons_append, Rk.does]
    by_cases h : (R.write y.1 y.2).1 = 0
    · simp only [if_pos h]; exact ih _
    · simp only [if_neg h]
theorem Rk.asks_snoc (p : List (Int × List Int)) (x : Int × List Int) : ∀ R : Rk, R.asks (p ++ [x]) = if (R.does p).1 = 0 then R.asks p ++ [x] else R.asks p := by
  induction p with
  | nil => intro R; simp [Rk.asks, Rk.does]
  | cons y p ih =>
    intro R
    simp only [List.cons_append, Rk.does, Rk.asks]
    by_cases h : (R.write y.1 y.2).1 = 0
    · simp only [if_pos h]
      rw [ih]
      split <;> simp
    · simp only [if_neg h, List.cons_append, List.nil_append]
theorem Rk.does_stop {R : Rk} {p : List (Int × List Int)} (h : (R.does p).1 ≠ 0) : ∀ q, R.does (p ++ q) = R.does p ∧ R.asks (p ++ q) = R.asks p := by
  intro q
  obtain ⟨n, hn⟩ : ∃ n, q.length = n := ⟨_, rfl⟩
  induction n generalizing q with
  | zero => rw [List.length_eq_zero_iff] at hn; subst hn; rw [List.append_nil]; exact ⟨rfl, rfl⟩
  | succ n ih =>
    rcases List.eq_nil_or_concat q with e | ⟨q', x, e⟩
    · subst e; simp at hn
    · rw [List.concat_eq_append] at e
      subst e
      obtain ⟨h1, h2⟩ := ih q' (by simpa using hn)
      rw [← List.append_assoc, Rk.does_snoc, Rk.asks_snoc, h1, if_neg h, if_neg h]
      exact ⟨rfl, h2⟩
theorem Rk.asks_all : ∀ (p : List (Int × List Int)) {R : Rk}, (R.does p).1 = 0 → R.asks p = p
  | [], R, _ => rfl
  | x :: p, R, h => by
    unfold Rk.does at h
    unfold Rk.asks
    split at h
    · rename_i h1
      rw [if_pos h1, Rk.asks_all p h]
    · rename_i h1
      exact absurd h h1
theorem Rk.does_bound (p : List (Int × List Int)) : ∀ R : Rk, R.written ≤ (R.does p).2.written ∧ (R.does p).2.written ≤ R.written + p.length ∧ (R.does p).2.rows.length ≤ R.rows.length + p.length := by
  induction p with
  | nil => intro R; exact ⟨Int.le_refl _, by simp [Rk.does], by simp [Rk.does]⟩
  | cons x p ih =>
    intro R
    obtain ⟨a1, a2⟩ := written_write R x.1 x.2
    have a3 := rows_write R x.1 x.2
    simp only [Rk.does, List.length_cons]
    split
    · obtain ⟨b1, b2, b3⟩ := ih (R.write x.1 x.2).2
      exact ⟨by omega, by omega, by omega⟩
    · exact ⟨a1, by omega, by omega⟩
end Go.Proofs.Ytnjfgbbdfdoccaa
namespace Go.Proofs.Ytnjfgbbdfdoccaa
open Go.RowKit Go.ChangeMaps
set_option linter.unusedSimpArgs false
set_option linter.unusedVariables false
set_option maxRecDepth 20000

theorem load_rowO {w : World} {g o i : Nat} {k : Int} {s : ByteArray} (h1 : w.cell? ⟨g, o + i * 2, none⟩ = some (.int .i64 k)) (h2 : w.cell? ⟨g, o + i * 2 + 1, none⟩ = some (.string s)) :
    (Instr.loadAt 53 (.pointer (some ⟨g, o + i * 2, none⟩))).run Try.prog w = .ok (.agg #[.int .i64 k, .string s]) w := by
  obtain ⟨ti, z, hi, _, hs, _⟩ := infoRow
  refine run_loadAt_mid (P := Try.prog) w g (o + i * 2) 53 [.int .i64 k, .string s] _ ?_ Try.underlying53 rfl (by rw [hi]; simp [hs])
  intro j u hu
  match j, hu with
  | 0, hu => simp only [List.getElem?_cons_zero, Option.some.injEq] at hu; subst hu; exact h1
  | 1, hu => simp only [List.getElem?_cons_succ, List.getElem?_cons_zero, Option.some.injEq] at hu; subst hu; exact h2
  | n + 2, hu => simp at hu
/-- the disk is written -/
theorem MAt.turn {w w' : World} {base j b : Nat} {J : Mj} {R R' : Rk} (h : MAt w base j b J R) (hm : Mod [b] w w') (hd : DkAt w' b R') : MAt w' base j b J R' := by
  obtain ⟨hjb, _, _⟩ := h.ne
  obtain ⟨⟨lv, av, e1, e2, e3⟩, hd0⟩ := h
  obtain ⟨v0, eb⟩ := hd0.cell
  refine ⟨⟨lv, av, hm.heap e1 (by simpa using hjb), e2.kept hm (fun k hk hkm => ?_), e3.kept hm (fun k hk hkm => ?_)⟩, hd⟩
  · simp only [List.mem_singleton] at hkm
    exact own_ne e2 eb (by decide) k hk hkm
  · simp only [List.mem_singleton] at hkm
    exact own_ne e3 eb (by decide) k hk hkm
set_option maxHeartbeats 8000000 in
theorem mjDo_at {w : World} {base j b : Nat} {J : Mj} {R : Rk} (h : MAt w base j b J R) {v : Value} {b2 : Nat} {p : List (Int × List Int)} (hv : OwnR encRw 2 53 w b2 v (rowsOf p)) (hp : ∀ x ∈ p, IsB x.2 ∧ x.2.length ≤ 65536)
    (hbs : base ≤ w.heap.size) (hr : R.rows.length + p.length ≤ 999998) (hw : 0 ≤ R.written ∧ R.written ≤ 1152921504606846976) (hA : J.asked.length + p.length ≤ 100000000) (hpl : p.length ≤ 1000000) :
    Calls Try.prog 41 #[.pointer (some ⟨j, 0, none⟩), v] w fun e w' => e = .returned (.int .i64 (R.does p).1) ∧ MAt w' base j b { J with dead := J.dead || !decide ((R.does p).1 = 0), asked := J.asked ++ rowsOf (R.asks p) } (R.does p).2 ∧ Mod [j, b] w w' := by
  obtain ⟨va, vc, rfl⟩ := hv.lens
  have hrl : (rowsOf p).length = p.length := by simp [rowsOf]
  rw [hrl]
  obtain ⟨hjb, hjl, hbl⟩ := h.ne
  obtain ⟨n0, hn0⟩ : ∃ n0, p.length = n0 := ⟨_, rfl⟩
  have HN := Lib.hid hn0
  have HPP := Lib.hid hp
  have HV := Lib.hid hv
  have HW := Lib.hid hw
  rw [hn0] at hpl
  have HA := Lib.hid hA
  have HR := Lib.hid hr
  rw [hn0]
  have hvb : ∀ k, (Value.slice va (rowsOf p).length vc).ownBlock = some k → k ∉ [j, b] := fun k hk hm => by
    obtain ⟨c, hc⟩ := ownsRow_cells hv hk
    obtain ⟨⟨lv, av, e1, _⟩, hd⟩ := h
    obtain ⟨u, e2⟩ := hd.cell
    simp at hm
    rcases hm with rfl | rfl
    · rw [e1] at hc
      simp only [Option.some.injEq, Obj.cells.injEq] at hc
      exact absurd hc.2.1 (by decide)
    · rw [e2] at hc
      simp only [Option.some.injEq, Obj.cells.injEq] at hc
      exact absurd hc.2.1 (by decide)
  have HVB := Lib.hid hvb
  have HST := Lib.hid (show MAt w base j b { J with dead := J.dead, asked := J.asked ++ rowsOf (p.take 0) } (R.does (p.take 0)).2 ∧ Mod [j, b] w w from ⟨by simpa [rowsOf, Rk.does] using h, Mod.refl _ _⟩)
  have HZ0 := Lib.hid (show (R.does (p.take 0)).1 = 0 from rfl)
  clear h hv hp hw hn0 hvb hrl hA hr
  go_enter Try.func41, Try.ntmps41
  go_wp2_with fail
  go_loopw [5] (fun s5 W => ∃ i : Nat, i ≤ n0 ∧ s5 = .int .i64 i ∧ Hid (MAt W base j b { J with dead := J.dead, asked := J.asked ++ rowsOf (p.take i) } (R.does (p.take i)).2 ∧ Mod [j, b] w W) ∧ Hid ((R.does (p.take i)).1 = 0)) (fun s5 _ => n0 - (intOf s5).toNat)
  case atStart => exact ⟨0, by omega, rfl, HST, HZ0⟩
  case round =>
    clear HST HZ0
    obtain ⟨i, hi, rfl, hS, HZ⟩ := hrel
    obtain ⟨hMA, hMM⟩ := hS.out
    have hws := Rk.does_bound (p.take i) R
    rw [List.length_take] at hws
    by_cases hlt : i < n0
    · have hlt2 : i < p.length := by rw [HN.out]; exact hlt
      have htk : p.take (i + 1) = p.take i ++ [p[i]] := List.take_succ_eq_append_getElem hlt2
      have hdo := Rk.does_snoc (p.take i) p[i] R
      rw [← htk, if_pos HZ.out] at hdo
      have hx := HPP.out p[i] (List.getElem_mem hlt2)
      have hpi : p[i]? = some p[i] := List.getElem?_eq_getElem hlt2
      generalize p[i] = x at htk hdo hx hpi
      obtain ⟨xk, xl⟩ := x
      have hvr := HV.out.kept hMM HVB.out
      obtain ⟨q, o, heq, hc, hg⟩ := RowAt.get encRw_len hvr.row (i := i) (by simp [rowsOf]; exact hlt2)
      cases heq
      have hre : (rowsOf p)[i]'(by simp [rowsOf]; exact hlt2) = (xk, strOfNums xl) := by
        have : (rowsOf p)[i]? = some (xk, strOfNums xl) := by simp [rowsOf, hpi]
        rw [List.getElem?_eq_getElem (by simp [rowsOf]; exact hlt2)] at this
        exact Option.some.inj this
      have p0 := hg 0 (.int .i64 xk) (by omega) (by rw [hre]; rfl)
      have p1 := hg 1 (.string (strOfNums xl)) (by omega) (by rw [hre]; rfl)
      simp only [Nat.add_zero] at p0
      obtain ⟨⟨lv, av, e1, e2, e3⟩, hd⟩ := hMA
      have d1 : decide ((i : Int) < (n0 : Int)) = true := decide_eq_true (by omega)
      have d2 : decide ((i : Int) < 0) = false := decide_eq_false (by omega)
      have d3 : decide ((n0 : Int) ≤ (i : Int)) = false := decide_eq_false (by omega)
      -- REGION 4
      go_wp2_with fail
      have C5 := Lib.hid (show wr.cell? ⟨j, 5, none⟩ = some av from by rw [cell_blk e1]; rfl)
      have E1 := Lib.hid e1
      have LD := Lib.hid (show ∀ W, Mod [] wr W → W.cell? ⟨q, o + i * 2, none⟩ = some (.int .i64 xk) ∧ W.cell? ⟨q, o + i * 2 + 1, none⟩ = some (.string (strOfNums xl)) from fun W hm => ⟨hm.cellD p0, hm.cellD p1⟩)
      have HAS := Lib.hid e3
      have HAL := Lib.hid (show J.asked.length + (rowsOf (p.take i)).length ≤ 1073741823 from by simp [rowsOf]; have := HA.out; omega)
      have HREC := Lib.hid e2
      have HDK := Lib.hid hd
      have HXB0 := Lib.hid hx
      have HTK := Lib.hid htk
      have HRE := Lib.hid hre
      have HDO := Lib.hid hdo
      have HWS := Lib.hid hws
      clear e1 e2 e3 hd hx htk hdo hws p0 p1 hc hg hre hpi hvr hS
      have HBW := Lib.hid (show base ≤ wr.heap.size from Nat.le_trans hbs hMM.size)
      have HMM := Lib.hid hMM
      clear hMM
      go_cut [5] from 13 to 27 (fun s5 wx => s5 = .int .i64 i ∧ Hid (∃ av', wx.heap[j]? = some (.cells #[.pointer (some ⟨b, 0, none⟩), .int .i64 J.epoch, .int .i64 J.at_, lv, .bool J.dead, av'] 55 (0, 0)) ∧ OwnR encRw 2 53 wx base av' (J.asked ++ rowsOf (p.take i) ++ [(xk, strOfNums xl)]) ∧ Mod [j] wr wx))
      case first =>
        refine wp_sched (by kernel_rfl) (sched_either 1 11 (by decide) (sched_either 6 11 (by decide) (sched_plan2 [([0, 2, 7, 8, 3, 4, 9, 5, 10], 1, [3, 4, 9, 5, 10]), ([], 6, [9, 10]), ([], 11, []), ([], 12, []), ([13, 14], 15, [])] [] (by kernel_rfl) ?L1) (sched_plan2 [([0, 2, 7, 8, 3, 4, 9, 5, 10], 1, [3, 4, 9, 5, 10]), ([], 11, [3, 4, 5]), ([], 6, [9, 10]), ([], 12, []), ([13, 14], 15, [])] [] (by kernel_rfl) ?L2)) (sched_plan1 [([0, 2, 7, 8, 3, 4, 9, 5, 10], 11, [3, 4, 5]), ([], 1, [3, 4, 9, 5, 10]), ([], 6, [9, 10]), ([], 12, []), ([13, 14], 15, [])] [] (by kernel_rfl) ?L3))
        case L1 =>
          simp only [wpSegs, opsOf, List.map_cons, List.map_nil, opN, List.getD_cons_zero, List.getD_cons_succ]
          obtain ⟨W0, hW0, mW0⟩ : ∃ D, wr.drew = D ∧ Mod [] wr D := ⟨_, rfl, (Mod.refl [] wr).drew⟩
          rw [hW0]
          have HQ := Lib.hid mW0
          clear hW0 mW0
          have c5 := HQ.out.cellD C5.out
          obtain ⟨q0, q1⟩ := LD.out _ HQ.out
          go_wp2_with fail
          refine ⟨by first | trivial | rfl, ?_⟩
          obtain ⟨W1, hAl, kA, zA, mA⟩ := alloc_named2 W0 (.cells #[] 53)
          obtain ⟨gE, hgE⟩ : ∃ g, W0.heap.size = g := ⟨_, rfl⟩
          rw [hgE] at kA
          have HG := Lib.hid (show wr.heap.size ≤ gE from by rw [← hgE]; exact HQ.out.size)
          have HE := Lib.hid (show OwnR encRw 2 53 W1 wr.heap.size (.slice (some ⟨gE, 0, none⟩) 0 0) [] from own_lit kA rfl rfl encRw_len HG.out (by simp))
          have HEB := Lib.hid kA
          have HQ := Lib.hid (HQ.out.trans mA)
          go_wp2_with fail
          try rw [hgE]
          try rw [hAl]
          clear hAl zA mA hgE kA c5 q0 q1
          have c5 := HQ.out.cellD C5.out
          obtain ⟨q0, q1⟩ := LD.out _ HQ.out
          refine ⟨?agL10, ?_⟩
          case agL10 =>
            intro i hi hw
            simp only [List.mem_cons, List.not_mem_nil, or_false] at hi
            rcases hi with rfl | rfl | rfl | rfl | rfl
            all_goals (simp only [opN, List.getD_cons_zero, List.getD_cons_succ, slotOf]; go_simp)
          obtain ⟨v1, W2, ra, ho, gr⟩ := own_append (P := Try.prog) (ty := 44) (tx := 44) elemRw encRw_len HE.out HQ.out.size ((HAS.out.kept0 HQ.out).row.src encRw_len encRw_one Try.underlying44) (by simp; have := HAL.out; omega) (by omega)
          have HRA := Lib.hid ra
          rw [List.nil_append] at ho
          have HQ := Lib.hid (gr.intoNil HE.out (Nat.le_refl _) HQ.out)
          have HE := Lib.hid ho
          have c5n := HQ.out.cellD C5.out
          obtain ⟨q0n, q1n⟩ := LD.out _ HQ.out
          clear ra ho gr
          go_wp2_with fail
          refine ⟨by first | trivial | rfl, ?_⟩
          go_wp2_with ((with_reducible refine xAppendAt HRA.out rfl rfl ?_ ?_ ?_ ?_); exact rfl; exact rfl; exact rfl)
          clear HRA c5 q0 q1
          have c5 := c5n
          have q0 := q0n
          have q1 := q1n
          clear c5n q0n q1n
          refine ⟨?agL11, ?_⟩
          case agL11 =>
            intro i hi hw
            simp only [List.mem_cons, List.not_mem_nil, or_false] at hi
            rcases hi with rfl | rfl
            all_goals (simp only [opN, List.getD_cons_zero, List.getD_cons_succ, slotOf]; go_simp)
          go_wp2_with fail
          refine ⟨by first | trivial | rfl, ?_⟩
          obtain ⟨W3, hAl, kA, zA, mA⟩ := alloc_named2 W2 (.cells #[.int .i64 xk, .string (strOfNums xl)] 53)
          obtain ⟨gX, hgX⟩ : ∃ g, W2.heap.size = g := ⟨_, rfl⟩
          rw [hgX] at kA
          have HE := Lib.hid (HE.out.kept0 mA)
          have HX := Lib.hid (show RowAt encRw W3 (.slice (some ⟨gX, 0, none⟩) 1 1) [(xk, strOfNums xl)] from row_litJ kA rfl rfl)
          have HXB := Lib.hid kA
          have HXS := Lib.hid (show W2.heap.size = gX from hgX)
          have HQ := Lib.hid (HQ.out.trans mA)
          go_wp2_with fail
          try rw [hgX]
          try rw [hAl]
          clear hAl zA mA hgX kA c5 q0 q1
          have c5 := HQ.out.cellD C5.out
          obtain ⟨q0, q1⟩ := LD.out _ HQ.out
          refine ⟨again_nil, ?_⟩
          obtain ⟨v2, W4, ra, ho, gr⟩ := own_append (P := Try.prog) (ty := 44) (tx := 44) elemRw encRw_len HE.out HQ.out.size (HX.out.src encRw_len encRw_one Try.underlying44) (by simp; have := HAL.out; omega) (by omega)
          have HRA := Lib.hid ra
          have HQ := Lib.hid (gr.intoNil HE.out (Nat.le_refl _) HQ.out)
          obtain ⟨a2, c2, hv2⟩ := ho.lens
          obtain ⟨n2, hn2⟩ : ∃ n, (J.asked ++ rowsOf (p.take i) ++ [(xk, strOfNums xl)]).length = n := ⟨_, rfl⟩
          rw [hn2] at hv2
          subst hv2
          clear hn2
          have hj2 := HQ.out.heap E1.out (by simp)
          have ms : Mod [j] W4 (W4.setCell ⟨j, 5, none⟩ (.slice a2 n2 c2)) := (Mod.refl _ _).setCell (by simp) _
          have HN := Lib.hid (ho.kept ms (fun k hk hm => by simp only [List.mem_singleton] at hm; exact own_ne ho hj2 (by decide) k hk hm))
          have HQS := Lib.hid ((HQ.out.nil (l := [j])).trans ms)
          have c5n := HQ.out.cellD C5.out
          have g5 := frozen_blk hj2 5
          have hset := heap_setCell_blk hj2 5 (.slice a2 n2 c2)
          simp at hset
          have HSET := Lib.hid hset
          clear ra ho gr hset hj2 ms
          go_wp2_with fail
          refine ⟨by first | trivial | rfl, ?_⟩
          go_wp2_with ((with_reducible refine xAppendAt HRA.out rfl rfl ?_ ?_ ?_ ?_); exact rfl; exact rfl; exact rfl)
          clear HRA c5 q0 q1
          refine ⟨again_nil, ?_⟩
          go_wp2_with fail
          refine ⟨by first | trivial | rfl, ?_⟩
          go_wp2_with fail
          refine ⟨again_nil, ?_⟩
          go_wp2_with fail
          refine ⟨by first | trivial | rfl, ?_⟩
          go_wp2_with fail
          go_meet
          case rel => exact ⟨rfl, Lib.hid ⟨_, HSET.out, HN.out.mono HBW.out, HQS.out⟩⟩
        case L2 =>
          simp only [wpSegs, opsOf, List.map_cons, List.map_nil, opN, List.getD_cons_zero, List.getD_cons_succ]
          obtain ⟨W0, hW0, mW0⟩ : ∃ D, wr.drew = D ∧ Mod [] wr D := ⟨_, rfl, (Mod.refl [] wr).drew⟩
          rw [hW0]
          have HQ := Lib.hid mW0
          clear hW0 mW0
          have c5 := HQ.out.cellD C5.out
          obtain ⟨q0, q1⟩ := LD.out _ HQ.out
          go_wp2_with fail
          refine ⟨by first | trivial | rfl, ?_⟩
          obtain ⟨W1, hAl, kA, zA, mA⟩ := alloc_named2 W0 (.cells #[] 53)
          obtain ⟨gE, hgE⟩ : ∃ g, W0.heap.size = g := ⟨_, rfl⟩
          rw [hgE] at kA
          have HG := Lib.hid (show wr.heap.size ≤ gE from by rw [← hgE]; exact HQ.out.size)
          have HE := Lib.hid (show OwnR encRw 2 53 W1 wr.heap.size (.slice (some ⟨gE, 0, none⟩) 0 0) [] from own_lit kA rfl rfl encRw_len HG.out (by simp))
          have HEB := Lib.hid kA
          have HQ := Lib.hid (HQ.out.trans mA)
          go_wp2_with fail
          try rw [hgE]
          try rw [hAl]
          clear hAl zA mA hgE kA c5 q0 q1
          have c5 := HQ.out.cellD C5.out
          obtain ⟨q0, q1⟩ := LD.out _ HQ.out
          refine ⟨?agL20, ?_⟩
          case agL20 =>
            intro i hi hw
            simp only [List.mem_cons, List.not_mem_nil, or_false] at hi
            rcases hi with rfl | rfl | rfl | rfl | rfl
            all_goals (simp only [opN, List.getD_cons_zero, List.getD_cons_succ, slotOf]; go_simp)
          go_wp2_with fail
          refine ⟨by first | trivial | rfl, ?_⟩
          obtain ⟨W2, hAl, kA, zA, mA⟩ := alloc_named2 W1 (.cells #[.int .i64 xk, .string (strOfNums xl)] 53)
          obtain ⟨gX, hgX⟩ : ∃ g, W1.heap.size = g := ⟨_, rfl⟩
          rw [hgX] at kA
          have HE := Lib.hid (HE.out.kept0 mA)
          have HX := Lib.hid (show RowAt encRw W2 (.slice (some ⟨gX, 0, none⟩) 1 1) [(xk, strOfNums xl)] from row_litJ kA rfl rfl)
          have HXB := Lib.hid kA
          have HD := Lib.hid (show gX ≠ gE from by have := (lt_of_heap HEB.out); omega)
          have HXS := Lib.hid (show W1.heap.size = gX from hgX)
          have HQ := Lib.hid (HQ.out.trans mA)
          go_wp2_with fail
          try rw [hgX]
          try rw [hAl]
          clear hAl zA mA hgX kA c5 q0 q1
          have c5 := HQ.out.cellD C5.out
          obtain ⟨q0, q1⟩ := LD.out _ HQ.out
          refine ⟨?agL21, ?_⟩
          case agL21 =>
            intro i hi hw
            simp only [List.mem_cons, List.not_mem_nil, or_false] at hi
            rcases hi with rfl | rfl | rfl
            all_goals (simp only [opN, List.getD_cons_zero, List.getD_cons_succ, slotOf]; go_simp)
          obtain ⟨v1, W3, ra, ho, gr⟩ := own_append (P := Try.prog) (ty := 44) (tx := 44) elemRw encRw_len HE.out HQ.out.size ((HAS.out.kept0 HQ.out).row.src encRw_len encRw_one Try.underlying44) (by simp; have := HAL.out; omega) (by omega)
          have HRA := Lib.hid ra
          rw [List.nil_append] at ho
          have HX := Lib.hid (HX.out.kept gr.mod (fun b hb hn => by simp [Value.ownBlock, blk] at hb hn; have := HD.out; omega))
          have HQ := Lib.hid (gr.intoNil HE.out (Nat.le_refl _) HQ.out)
          have HE := Lib.hid ho
          have c5n := HQ.out.cellD C5.out
          obtain ⟨q0n, q1n⟩ := LD.out _ HQ.out
          clear ra ho gr
          go_wp2_with fail
          refine ⟨by first | trivial | rfl, ?_⟩
          go_wp2_with ((with_reducible refine xAppendAt HRA.out rfl rfl ?_ ?_ ?_ ?_); exact rfl; exact rfl; exact rfl)
          clear HRA c5 q0 q1
          have c5 := c5n
          have q0 := q0n
          have q1 := q1n
          clear c5n q0n q1n
          refine ⟨?agL22, ?_⟩
          case agL22 =>
            intro i hi hw
            simp only [List.mem_cons, List.not_mem_nil, or_false] at hi
            rcases hi with rfl | rfl
            all_goals (simp only [opN, List.getD_cons_zero, List.getD_cons_succ, slotOf]; go_simp)
          obtain ⟨v2, W4, ra, ho, gr⟩ := own_append (P := Try.prog) (ty := 44) (tx := 44) elemRw encRw_len HE.out HQ.out.size (HX.out.src encRw_len encRw_one Try.underlying44) (by simp; have := HAL.out; omega) (by omega)
          have HRA := Lib.hid ra
          have HQ := Lib.hid (gr.intoNil HE.out (Nat.le_refl _) HQ.out)
          obtain ⟨a2, c2, hv2⟩ := ho.lens
          obtain ⟨n2, hn2⟩ : ∃ n, (J.asked ++ rowsOf (p.take i) ++ [(xk, strOfNums xl)]).length = n := ⟨_, rfl⟩
          rw [hn2] at hv2
          subst hv2
          clear hn2
          have hj2 := HQ.out.heap E1.out (by simp)
          have ms : Mod [j] W4 (W4.setCell ⟨j, 5, none⟩ (.slice a2 n2 c2)) := (Mod.refl _ _).setCell (by simp) _
          have HN := Lib.hid (ho.kept ms (fun k hk hm => by simp only [List.mem_singleton] at hm; exact own_ne ho hj2 (by decide) k hk hm))
          have HQS := Lib.hid ((HQ.out.nil (l := [j])).trans ms)
          have c5n := HQ.out.cellD C5.out
          have g5 := frozen_blk hj2 5
          have hset := heap_setCell_blk hj2 5 (.slice a2 n2 c2)
          simp at hset
          have HSET := Lib.hid hset
          clear ra ho gr hset hj2 ms
          go_wp2_with fail
          refine ⟨by first | trivial | rfl, ?_⟩
          go_wp2_with ((with_reducible refine xAppendAt HRA.out rfl rfl ?_ ?_ ?_ ?_); exact rfl; exact rfl; exact rfl)
          clear HRA c5 q0 q1
          refine ⟨again_nil, ?_⟩
          go_wp2_with fail
          refine ⟨by first | trivial | rfl, ?_⟩
          go_wp2_with fail
          refine ⟨again_nil, ?_⟩
          go_wp2_with fail
          refine ⟨by first | trivial | rfl, ?_⟩
          go_wp2_with fail
          go_meet
          case rel => exact ⟨rfl, Lib.hid ⟨_, HSET.out, HN.out.mono HBW.out, HQS.out⟩⟩
        case L3 =>
          simp only [wpSegs, opsOf, List.map_cons, List.map_nil, opN, List.getD_cons_zero, List.getD_cons_succ]
          obtain ⟨W0, hW0, mW0⟩ : ∃ D, wr.drew = D ∧ Mod [] wr D := ⟨_, rfl, (Mod.refl [] wr).drew⟩
          rw [hW0]
          have HQ := Lib.hid mW0
          clear hW0 mW0
          have c5 := HQ.out.cellD C5.out
          obtain ⟨q0, q1⟩ := LD.out _ HQ.out
          go_wp2_with fail
          refine ⟨by first | trivial | rfl, ?_⟩
          obtain ⟨W1, hAl, kA, zA, mA⟩ := alloc_named2 W0 (.cells #[.int .i64 xk, .string (strOfNums xl)] 53)
          obtain ⟨gX, hgX⟩ : ∃ g, W0.heap.size = g := ⟨_, rfl⟩
          rw [hgX] at kA
          have HX := Lib.hid (show RowAt encRw W1 (.slice (some ⟨gX, 0, none⟩) 1 1) [(xk, strOfNums xl)] from row_litJ kA rfl rfl)
          have HXB := Lib.hid kA
          have HQ := Lib.hid (HQ.out.trans mA)
          go_wp2_with fail
          try rw [hgX]
          try rw [hAl]
          clear hAl zA mA hgX kA c5 q0 q1
          have c5 := HQ.out.cellD C5.out
          obtain ⟨q0, q1⟩ := LD.out _ HQ.out
          refine ⟨?agL30, ?_⟩
          case agL30 =>
            intro i hi hw
            simp only [List.mem_cons, List.not_mem_nil, or_false] at hi
            rcases hi with rfl | rfl | rfl
            all_goals (simp only [opN, List.getD_cons_zero, List.getD_cons_succ, slotOf]; go_simp)
          go_wp2_with fail
          refine ⟨by first | trivial | rfl, ?_⟩
          obtain ⟨W2, hAl, kA, zA, mA⟩ := alloc_named2 W1 (.cells #[] 53)
          obtain ⟨gE, hgE⟩ : ∃ g, W1.heap.size = g := ⟨_, rfl⟩
          rw [hgE] at kA
          have HX := Lib.hid (HX.out.kept0 mA)
          have HD := Lib.hid (show gX ≠ gE from by have := (lt_of_heap HXB.out); omega)
          have HG := Lib.hid (show wr.heap.size ≤ gE from by rw [← hgE]; exact HQ.out.size)
          have HE := Lib.hid (show OwnR encRw 2 53 W2 wr.heap.size (.slice (some ⟨gE, 0, none⟩) 0 0) [] from own_lit kA rfl rfl encRw_len HG.out (by simp))
          have HEB := Lib.hid kA
          have HQ := Lib.hid (HQ.out.trans mA)
          go_wp2_with fail
          try rw [hgE]
          try rw [hAl]
          clear hAl zA mA hgE kA c5 q0 q1
          have c5 := HQ.out.cellD C5.out
          obtain ⟨q0, q1⟩ := LD.out _ HQ.out
          refine ⟨?agL31, ?_⟩
          case agL31 =>
            intro i hi hw
            simp only [List.mem_cons, List.not_mem_nil, or_false] at hi
            rcases hi with rfl | rfl | rfl | rfl | rfl
            all_goals (simp only [opN, List.getD_cons_zero, List.getD_cons_succ, slotOf]; go_simp)
          obtain ⟨v1, W3, ra, ho, gr⟩ := own_append (P := Try.prog) (ty := 44) (tx := 44) elemRw encRw_len HE.out HQ.out.size ((HAS.out.kept0 HQ.out).row.src encRw_len encRw_one Try.underlying44) (by simp; have := HAL.out; omega) (by omega)
          have HRA := Lib.hid ra
          rw [List.nil_append] at ho
          have HX := Lib.hid (HX.out.kept gr.mod (fun b hb hn => by simp [Value.ownBlock, blk] at hb hn; have := HD.out; omega))
          have HQ := Lib.hid (gr.intoNil HE.out (Nat.le_refl _) HQ.out)
          have HE := Lib.hid ho
          have c5n := HQ.out.cellD C5.out
          obtain ⟨q0n, q1n⟩ := LD.out _ HQ.out
          clear ra ho gr
          go_wp2_with fail
          refine ⟨by first | trivial | rfl, ?_⟩
          go_wp2_with ((with_reducible refine xAppendAt HRA.out rfl rfl ?_ ?_ ?_ ?_); exact rfl; exact rfl; exact rfl)
          clear HRA c5 q0 q1
          have c5 := c5n
          have q0 := q0n
          have q1 := q1n
          clear c5n q0n q1n
          refine ⟨?agL32, ?_⟩
          case agL32 =>
            intro i hi hw
            simp only [List.mem_cons, List.not_mem_nil, or_false] at hi
            rcases hi with rfl | rfl
            all_goals (simp only [opN, List.getD_cons_zero, List.getD_cons_succ, slotOf]; go_simp)
          obtain ⟨v2, W4, ra, ho, gr⟩ := own_append (P := Try.prog) (ty := 44) (tx := 44) elemRw encRw_len HE.out HQ.out.size (HX.out.src encRw_len encRw_one Try.underlying44) (by simp; have := HAL.out; omega) (by omega)
          have HRA := Lib.hid ra
          have HQ := Lib.hid (gr.intoNil HE.out (Nat.le_refl _) HQ.out)
          obtain ⟨a2, c2, hv2⟩ := ho.lens
          obtain ⟨n2, hn2⟩ : ∃ n, (J.asked ++ rowsOf (p.take i) ++ [(xk, strOfNums xl)]).length = n := ⟨_, rfl⟩
          rw [hn2] at hv2
          subst hv2
          clear hn2
          have hj2 := HQ.out.heap E1.out (by simp)
          have ms : Mod [j] W4 (W4.setCell ⟨j, 5, none⟩ (.slice a2 n2 c2)) := (Mod.refl _ _).setCell (by simp) _
          have HN := Lib.hid (ho.kept ms (fun k hk hm => by simp only [List.mem_singleton] at hm; exact own_ne ho hj2 (by decide) k hk hm))
          have HQS := Lib.hid ((HQ.out.nil (l := [j])).trans ms)
          have c5n := HQ.out.cellD C5.out
          have g5 := frozen_blk hj2 5
          have hset := heap_setCell_blk hj2 5 (.slice a2 n2 c2)
          simp at hset
          have HSET := Lib.hid hset
          clear ra ho gr hset hj2 ms
          go_wp2_with fail
          refine ⟨by first | trivial | rfl, ?_⟩
          go_wp2_with ((with_reducible refine xAppendAt HRA.out rfl rfl ?_ ?_ ?_ ?_); exact rfl; exact rfl; exact rfl)
          clear HRA c5 q0 q1
          refine ⟨again_nil, ?_⟩
          go_wp2_with fail
          refine ⟨by first | trivial | rfl, ?_⟩
          go_wp2_with fail
          refine ⟨again_nil, ?_⟩
          go_wp2_with fail
          refine ⟨by first | trivial | rfl, ?_⟩
          go_wp2_with fail
          go_meet
          case rel => exact ⟨rfl, Lib.hid ⟨_, HSET.out, HN.out.mono HBW.out, HQS.out⟩⟩
      case rest =>
        obtain ⟨rfl, hC⟩ := hcut
        obtain ⟨av', k1, k2, k3⟩ := hC.out
        have hMc : MAt wc base j b { J with dead := J.dead, asked := J.asked ++ rowsOf (p.take (i + 1)) } (R.does (p.take i)).2 := by
          refine ⟨⟨lv, av', k1, HREC.out.kept k3 (fun k hk hm => ?_), ?_⟩, HDK.out.kept k3 (by simp; omega) (fun k hk cs f hc => ?_)⟩
          · simp only [List.mem_singleton] at hm
            exact own_ne HREC.out E1.out (by decide) k hk hm
          · have e : J.asked ++ rowsOf (p.take (i + 1)) = J.asked ++ rowsOf (p.take i) ++ [(xk, strOfNums xl)] := by rw [HTK.out]; simp [rowsOf]
            rw [e]; exact k2
          · simp only [List.mem_singleton] at hk
            subst hk
            rw [E1.out] at hc
            simp only [Option.some.injEq, Obj.cells.injEq] at hc
            exact absurd hc.2.1 (by decide)
        have hMwc : Mod [j, b] w wc := HMM.out.trans (k3.mono (by simp))
        have hvr := HV.out.kept hMwc HVB.out
        obtain ⟨_, _, heq, hc, hg⟩ := RowAt.get encRw_len hvr.row (i := i) (by simp [rowsOf]; omega)
        cases heq
        have hre : (rowsOf p)[i]'(by simp [rowsOf]; omega) = (xk, strOfNums xl) := HRE.out
        have p0 := hg 0 (.int .i64 xk) (by omega) (by rw [hre]; rfl)
        have p1 := hg 1 (.string (strOfNums xl)) (by omega) (by rw [hre]; rfl)
        simp only [Nat.add_zero] at p0
        have c0 : wc.cell? ⟨j, 0, none⟩ = some (.pointer (some ⟨b, 0, none⟩)) := by rw [cell_blk k1]; rfl
        obtain ⟨D0, hD0, mD0⟩ : ∃ D, wc.drew = D ∧ Mod [] wc D := ⟨_, rfl, (Mod.refl [] wc).drew⟩
        obtain ⟨cc, W1, hcv, mW1, hrow, hcc⟩ := conv_str xl HXB0.out.1 D0
        have hgb : b < D0.heap.size := Nat.lt_of_lt_of_le hMc.ne.2.2 mD0.size
        obtain ⟨gS, hgS⟩ : ∃ g, D0.heap.size = g := ⟨_, rfl⟩
        rw [hgS] at hcv hrow hgb
        have HCV := Lib.hid hcv
        have mX := mD0.trans mW1
        have HM1 := Lib.hid (hMc.kept0 mX)
        have HMW := Lib.hid (hMwc.trans (mX.nil (l := [j, b])))
        have c0a := mD0.cellD c0
        have p0a := mD0.cellD p0
        have p1a : D0.cell? ⟨q, o + i * 2 + 1, none⟩ = some (.string (strOfNums xl)) := mD0.cellD p1
        have c0b := mX.cellD c0
        have p0b := mX.cellD p0
        obtain ⟨dv, dg, hRef, hne⟩ := HM1.out.disk
        have hwsX := HWS.out
        have CW := Lib.hid (rwrite_any hRef hne (by have := HR.out; have := HN.out; omega) xk hrow.bytes (fun _ bb o n c e => by
          cases e; omega) (by have := HXB0.out.2; unfold maxLen; omega) (by have := HW.out; omega) (by have := HW.out; have := HR.out; omega))
        rw [← HDO.out] at CW
        clear hMc hMwc hvr hc hg hre c0 p0 p1 mD0 hcv mW1 hrow mX hwsX k1 k2 k3 hC
        go_wp2_with fail
        refine wp_plan [([0, 4, 5, 9, 10, 1, 2, 6, 11, 3, 7, 12, 8, 13], 14, [1, 2, 6, 3, 7, 8]), ([], 15, [])] [16] (by kernel_rfl) (by kernel_rfl) ?_
        simp only [wpSegs, opsOf, List.map_cons, List.map_nil, opN, List.getD_cons_zero, List.getD_cons_succ]
        rw [hD0]
        go_wp2_with fail
        refine ⟨by first | trivial | rfl, ?_⟩
        go_wp2_with ((with_reducible refine xConvertAt rfl HCV.out ?_ ?_ ?_); exact rfl; exact rfl)
        refine ⟨?agC, ?_⟩
        case agC =>
          intro i hi hw
          simp only [List.mem_cons, List.not_mem_nil, or_false] at hi
          rcases hi with rfl | rfl | rfl | rfl | rfl | rfl
          all_goals (simp only [opN, List.getD_cons_zero, List.getD_cons_succ, slotOf]; go_simp)
        go_wp2_with fail
        refine ⟨by first | trivial | rfl, ?_⟩
        go_wp2_with fail
        refine CW.out.mono ?_
        rintro e w2 ⟨rfl, mw, v', g', hg', hR2⟩
        have hne2 : b ≠ g' := by
          rcases hg' with e | e
          · rw [e]; exact hne
          · have := HM1.out.ne.2.2; omega
        have HM2 := Lib.hid (HM1.out.turn mw ⟨v', g', hR2, hne2⟩)
        have HMW2 := Lib.hid (HMW.out.trans (mw.mono (by simp)))
        clear hR2 hne2 hg' mw CW hRef hne
        go_wp2_with fail
        refine ⟨again_nil, ?_⟩
        go_wp2_with fail
        refine ⟨by first | trivial | rfl, ?_⟩
        obtain ⟨err, herr⟩ : ∃ e, (R.does (p.take (i + 1))).1 = e := ⟨_, rfl⟩
        rw [herr]
        have HERR := Lib.hid herr
        clear herr
        by_cases h0 : err = 0
        · have t1 : (err != 0) = false := by simpa using h0
          have HZ2 := Lib.hid (show (R.does (p.take (i + 1))).1 = 0 from by rw [HERR.out, h0])
          have HMN := Lib.hid (show MAt w2 base j b { J with dead := J.dead, asked := J.asked ++ rowsOf (p.take (i + 1)) } (R.does (p.take (i + 1))).2 from HM2.out)
          clear h0
          go_wp2_with fail
          go_roundw
          case rel => exact ⟨i + 1, by omega, by go_num, Lib.hid ⟨HMN.out, HMW2.out⟩, HZ2⟩
          case measure => simp [intOf]; omega
        · have t1 : (err != 0) = true := by simpa using h0
          have HST := Lib.hid (show (R.does (p.take (i + 1))).1 ≠ 0 from by rw [HERR.out]; exact h0)
          have HALL := Lib.hid (show R.does p = R.does (p.take (i + 1)) ∧ R.asks p = p.take (i + 1) from by
            obtain ⟨s1, s2⟩ := Rk.does_stop HST.out (p.drop (i + 1))
            rw [List.take_append_drop] at s1 s2
            refine ⟨s1, s2.trans ?_⟩
            rw [HTK.out, Rk.asks_snoc, if_pos HZ.out, Rk.asks_all _ HZ.out])
          have HR2 := Lib.hid (show (R.does p).2 = (R.does (p.take (i + 1))).2 from by rw [HALL.out.1])
          obtain ⟨⟨lv2, av2, f1, f2, f3⟩, fd⟩ := HM2.out
          have c4 : w2.cell? ⟨j, 4, none⟩ = some (.bool J.dead) := by rw [cell_blk f1]; rfl
          have g4 := frozen_blk f1 4
          have hset := heap_setCell_blk f1 4 (.bool true)
          simp at hset
          have ms : Mod [j] w2 (w2.setCell ⟨j, 4, none⟩ (.bool true)) := (Mod.refl _ _).setCell (by simp) _
          have HMN := Lib.hid (show MAt (w2.setCell ⟨j, 4, none⟩ (.bool true)) base j b { J with dead := J.dead || !decide ((R.does p).1 = 0), asked := J.asked ++ rowsOf (R.asks p) } (R.does p).2 from by
            have hdd : (J.dead || !decide ((R.does p).1 = 0)) = true := by
              rw [HALL.out.1, decide_eq_false HST.out]; simp
            rw [hdd, HR2.out, HALL.out.2]
            refine ⟨⟨lv2, av2, hset, f2.kept ms (fun k hk hm => ?_), f3.kept ms (fun k hk hm => ?_)⟩, fd.kept ms (by simp; omega) (fun k hk cs f hc => ?_)⟩
            · simp only [List.mem_singleton] at hm
              exact own_ne f2 f1 (by decide) k hk hm
            · simp only [List.mem_singleton] at hm
              exact own_ne f3 f1 (by decide) k hk hm
            · simp only [List.mem_singleton] at hk
              subst hk
              rw [f1] at hc
              simp only [Option.some.injEq, Obj.cells.injEq] at hc
              exact absurd hc.2.1 (by decide))
          have HMW3 := Lib.hid (HMW2.out.trans (ms.mono (by simp)))
          have HE := Lib.hid (show (R.does p).1 = err from by rw [HALL.out.1, HERR.out])
          clear h0 hset ms f1 f2 f3 fd HM2
          go_wp2_with fail
          go_ret
          exact ⟨by rw [HE.out]; rfl, HMN.out, HMW3.out⟩
      -- END 4
    · obtain rfl : i = n0 := by omega
      have d1 : decide ((i : Int) < (i : Int)) = false := decide_eq_false (by omega)
      have htk : p.take i = p := by rw [List.take_of_length_le (by rw [HN.out]; omega)]
      have hz := HZ.out
      rw [htk] at hz
      have HMN := Lib.hid (show MAt wr base j b { J with dead := J.dead || !decide ((R.does p).1 = 0), asked := J.asked ++ rowsOf (R.asks p) } (R.does p).2 from by
        rw [hz, Rk.asks_all p hz]
        rw [htk] at hMA
        simpa using hMA)
      have HE := Lib.hid hz
      have HMM := Lib.hid hMM
      clear hS hMA hMM hws htk hz HZ
      go_wp2_with fail
      go_ret
      exact ⟨by rw [HE.out]; rfl, HMN.out, HMM.out⟩
end Go.Proofs.Ytnjfgbbdfdoccaa
namespace Go.Proofs.Ytnjfgbbdfdoccaa
open Go.RowKit Go.ChangeMaps
set_option linter.unusedSimpArgs false
set_option linter.unusedVariables false
set_option maxRecDepth 20000

structure MOk (J : Mj) (R : Rk) : Prop where
  n0 : 8 ≤ R.n
  n1 : R.n ≤ 65536
  e0 : 0 ≤ J.epoch
  e1 : J.epoch ≤ 4294967295
  a0 : 2 ≤ J.at_
  a1 : J.at_ ≤ 65536
  w0 : 0 ≤ R.written
  w1 : R.written ≤ 1152921504606846
  l0 : J.l.length ≤ 1048576
  r0 : R.rows.length ≤ 65536
  k0 : J.asked.length ≤ 90000000
def Mj.left (J : Mj) (R : Rk) : Int := beginP R.n J.epoch + halfP R.n - J.at_
def mroomB (J : Mj) (R : Rk) (n : Int) : Bool := decide (1 ≤ n ∧ n ≤ 65536 ∧ (n + 81) / 64 + 1 ≤ J.left R)
theorem MAt.cells {w : World} {base j b : Nat} {J : Mj} {R : Rk} (h : MAt w base j b J R) : w.cell? ⟨j, 0, none⟩ = some (.pointer (some ⟨b, 0, none⟩)) ∧ w.cell? ⟨j, 1, none⟩ = some (.int .i64 J.epoch) ∧ w.cell? ⟨j, 2, none⟩ = some (.int .i64 J.at_) ∧ w.cell? ⟨j, 4, none⟩ = some (.bool J.dead) ∧ w.cell? ⟨b, 0, none⟩ = some (.int .i64 R.n) := by
  obtain ⟨⟨lv, av, e1, _⟩, v, g, hd, _⟩ := h
  exact ⟨by rw [cell_blk e1]; rfl, by rw [cell_blk e1]; rfl, by rw [cell_blk e1]; rfl, by rw [cell_blk e1]; rfl, hd.c0⟩
set_option maxHeartbeats 1000000 in
theorem mjLeft_at {w : World} {base j b : Nat} {J : Mj} {R : Rk} (h : MAt w base j b J R) (hk : MOk J R) :
    Calls Try.prog 62 #[.pointer (some ⟨j, 0, none⟩)] w fun e w' => e = .returned (.int .i64 (J.left R)) ∧ Mod [] w w' := by
  obtain ⟨n0, n1, e0, e1, a0, a1, _, _, _, _, _⟩ := hk
  obtain ⟨D0, hD0, mD0⟩ : ∃ D, w.drew = D ∧ Mod [] w D := ⟨_, rfl, (Mod.refl [] w).drew⟩
  obtain ⟨c0, c1, c2, _, b0⟩ := (h.kept0 mD0).cells
  have CB := Lib.hid (mjBegin_at R.n J.epoch (by omega) n1 e0 (by omega) D0)
  have CH := Lib.hid (mjHalf_at R.n (by omega) n1 D0)
  have hh : 0 ≤ halfP R.n ∧ halfP R.n ≤ 32767 := by unfold halfP; omega
  have hb : 2 ≤ beginP R.n J.epoch ∧ beginP R.n J.epoch ≤ 32769 := by
    unfold beginP
    have : J.epoch % 2 = 0 ∨ J.epoch % 2 = 1 := by omega
    rcases this with h | h <;> rw [h] <;> omega
  have HE := Lib.hid (show J.left R = beginP R.n J.epoch + halfP R.n - J.at_ from rfl)
  generalize beginP R.n J.epoch = bg at CB hb HE
  generalize halfP R.n = hf at CH hh HE
  generalize J.epoch = ep at c1 CB
  generalize J.at_ = at_ at c2 a0 a1 HE
  obtain ⟨hh0, hh1⟩ := hh
  obtain ⟨hb0, hb1⟩ := hb
  have HM := Lib.hid mD0
  clear h e0 e1 n0 n1 mD0
  go_enter Try.func62, Try.ntmps62
  go_wp2_with fail
  refine wp_plan [([0, 7, 12, 21, 1, 8, 13, 22, 2, 9, 14, 23, 3, 10, 15, 24, 4, 16, 5, 17, 6, 18], 11, [13, 22, 14, 23, 15, 24, 16, 17, 18]), ([], 19, [22, 23, 24])] [20, 25, 26] (by kernel_rfl) (by kernel_rfl) ?_
  simp only [wpSegs, opsOf, List.map_cons, List.map_nil, opN, List.getD_cons_zero, List.getD_cons_succ]
  rw [hD0]
  go_wp2_with fail
  refine ⟨by first | trivial | rfl, ?_⟩
  go_wp2_with fail
  refine CB.out.mono ?_
  rintro e w1 ⟨rfl, rfl⟩
  go_wp2_with fail
  refine ⟨?ag1, ?_⟩
  case ag1 =>
    intro i hi hw
    simp only [List.mem_cons, List.not_mem_nil, or_false] at hi
    rcases hi with rfl | rfl | rfl | rfl | rfl | rfl | rfl | rfl | rfl
    all_goals (simp only [opN, List.getD_cons_zero, List.getD_cons_succ, slotOf]; go_simp)
  go_wp2_with fail
  refine ⟨by first | trivial | rfl, ?_⟩
  go_wp2_with fail
  refine CH.out.mono ?_
  rintro e w1 ⟨rfl, rfl⟩
  go_wp2_with fail
  refine ⟨?ag2, ?_⟩
  case ag2 =>
    intro i hi hw
    simp only [List.mem_cons, List.not_mem_nil, or_false] at hi
    rcases hi with rfl | rfl | rfl
    all_goals (simp only [opN, List.getD_cons_zero, List.getD_cons_succ, slotOf]; go_simp)
  go_wp2_with fail
  refine ⟨by first | trivial | rfl, ?_⟩
  go_wp2_with fail
  go_ret
  exact ⟨by rw [HE.out]; rfl, HM.out⟩
theorem mleft_range {J : Mj} {R : Rk} (hk : MOk J R) : -65536 ≤ J.left R ∧ J.left R ≤ 65536 := by
  obtain ⟨n0, n1, e0, e1, a0, a1, _, _, _, _, _⟩ := hk
  have hh : 0 ≤ halfP R.n ∧ halfP R.n ≤ 32767 := by unfold halfP; omega
  have hb : 2 ≤ beginP R.n J.epoch ∧ beginP R.n J.epoch ≤ 32769 := by
    unfold beginP
    have : J.epoch % 2 = 0 ∨ J.epoch % 2 = 1 := by omega
    rcases this with h | h <;> rw [h] <;> omega
  unfold Mj.left
  omega
set_option maxHeartbeats 1000000 in
theorem mjRoom_at {w : World} {base j b : Nat} {J : Mj} {R : Rk} (h : MAt w base j b J R) (hk : MOk J R) (n : Nat) :
    Calls Try.prog 50 #[.pointer (some ⟨j, 0, none⟩), .int .i64 n] w fun e w' => e = .returned (.bool (mroomB J R n)) ∧ Mod [] w w' := by
  have CL := Lib.hid (mjLeft_at h hk)
  obtain ⟨hl0, hl1⟩ := mleft_range hk
  clear h hk
  by_cases h1 : 1 ≤ n
  · have d1 : decide (1 ≤ (n : Int)) = true := decide_eq_true (by omega)
    by_cases h2 : n ≤ 65536
    · have d2 : decide ((n : Int) ≤ 65536) = true := decide_eq_true (by omega)
      have CM := Lib.hid (mjMany_at n (by omega) w)
      have hm : ((manyP n : Nat) : Int) = ((n : Int) + 81) / 64 := by unfold manyP; omega
      rw [hm] at CM
      by_cases h3 : ((n : Int) + 81) / 64 + 1 ≤ J.left R
      · have HR := Lib.hid (show mroomB J R n = true from decide_eq_true ⟨by omega, by omega, h3⟩)
        generalize J.left R = lf at CL hl0 hl1 h3
        have d3 : decide (((n : Int) + 81) / 64 < lf) = true := decide_eq_true (by omega)
        go_enter Try.func50, Try.ntmps50
        go_wp2_with (first | (refine CM.out.mono ?_; rintro e w' ⟨rfl, rfl⟩))
        refine CL.out.mono ?_
        rintro e w1 ⟨rfl, m1⟩
        have HM := Lib.hid m1
        clear m1
        go_wp2_with fail
        go_ret
        exact ⟨by rw [HR.out]; rfl, HM.out⟩
      · have HR := Lib.hid (show mroomB J R n = false from decide_eq_false fun h => h3 h.2.2)
        generalize J.left R = lf at CL hl0 hl1 h3
        have d3 : decide (((n : Int) + 81) / 64 < lf) = false := decide_eq_false (by omega)
        go_enter Try.func50, Try.ntmps50
        go_wp2_with (first | (refine CM.out.mono ?_; rintro e w' ⟨rfl, rfl⟩))
        refine CL.out.mono ?_
        rintro e w1 ⟨rfl, m1⟩
        have HM := Lib.hid m1
        clear m1
        go_wp2_with fail
        go_ret
        exact ⟨by rw [HR.out]; rfl, HM.out⟩
    · have d2 : decide ((n : Int) ≤ 65536) = false := decide_eq_false (by omega)
      have HR := Lib.hid (show mroomB J R n = false from decide_eq_false fun h => h2 (by omega))
      go_enter Try.func50, Try.ntmps50
      go_wp2_with fail
      go_ret
      exact ⟨by rw [HR.out]; rfl, Mod.refl _ _⟩
  · have d1 : decide (1 ≤ (n : Int)) = false := decide_eq_false (by omega)
    have HR := Lib.hid (show mroomB J R n = false from decide_eq_false fun h => h1 (by omega))
    go_enter Try.func50, Try.ntmps50
    go_wp2_with fail
    go_ret
    exact ⟨by rw [HR.out]; rfl, Mod.refl _ _⟩
end Go.Proofs.Ytnjfgbbdfdoccaa
namespace Go.Proofs.Ytnjfgbbdfdoccaa
open Go.RowKit Go.ChangeMaps
set_option linter.unusedSimpArgs false
set_option linter.unusedVariables false
set_option maxRecDepth 20000

theorem elemStrJ : ElemOk Try.prog 32 9 1 16 := .mk' Try.underlying32 (by omega) (by kernel_rfl)
def Mj.done (J : Mj) (R : Rk) (p : List (Int × List Int)) : Mj := { J with dead := J.dead || !decide ((R.does p).1 = 0), asked := J.asked ++ rowsOf (R.asks p) }
def Mj.append (J : Mj) (R : Rk) (s : List Int) : Int × Mj × Rk :=
  if J.dead = true then (16, J, R) else if s.length = 0 ∨ 65536 < s.length then (2, J, R) else if mroomB J R s.length = false then (7, J, R)
  else if (R.does (layPlan J.at_ (frameP 0 J.epoch (J.l.length + 1) s) (manyP s.length))).1 = 0 then
    (0, { J.done R (layPlan J.at_ (frameP 0 J.epoch (J.l.length + 1) s) (manyP s.length)) with l := J.l ++ [s], at_ := J.at_ + manyP s.length }, (R.does (layPlan J.at_ (frameP 0 J.epoch (J.l.length + 1) s) (manyP s.length))).2)
  else ((R.does (layPlan J.at_ (frameP 0 J.epoch (J.l.length + 1) s) (manyP s.length))).1, J.done R (layPlan J.at_ (frameP 0 J.epoch (J.l.length + 1) s) (manyP s.length)), (R.does (layPlan J.at_ (frameP 0 J.epoch (J.l.length + 1) s) (manyP s.length))).2)
theorem layPlan_isM {at_ : Int} {b : List Int} {M : Nat} (hb : IsB b) : ∀ x ∈ layPlan at_ b M, IsB x.2 ∧ x.2.length ≤ 65536 := by
  intro x hx
  unfold layPlan at hx
  have hz : IsB zeros64 := isB_zeros 64
  have hz2 : zeros64.length = 64 := rfl
  rcases List.mem_cons.1 hx with rfl | hx
  · exact ⟨hz, by rw [hz2]; omega⟩
  · rcases List.mem_cons.1 hx with rfl | hx
    · exact ⟨hz, by rw [hz2]; omega⟩
    · obtain ⟨i, hi, rfl⟩ := List.mem_map.1 hx
      refine ⟨fun y hy => hb y (List.mem_of_mem_drop (List.mem_of_mem_take hy)), ?_⟩
      show ((b.drop (i % M * 64)).take 64).length ≤ 65536
      rw [List.length_take]
      omega
/-- records put anew -/
theorem MAt.setL {w : World} {base j b : Nat} {J : Mj} {R : Rk} (h : MAt w base j b J R) {v : Value} {l : List (List Int)} (ho : OwnR encStr 1 9 w base v (l.map strOfNums)) : MAt (w.setCell ⟨j, 3, none⟩ v) base j b { J with l := l } R ∧ Mod [j] w (w.setCell ⟨j, 3, none⟩ v) := by
  obtain ⟨hjb, _, _⟩ := h.ne
  obtain ⟨⟨lv, av, e1, e2, e3⟩, hd⟩ := h
  have hset := heap_setCell_blk e1 3 v
  simp at hset
  have ms : Mod [j] w (w.setCell ⟨j, 3, none⟩ v) := (Mod.refl _ _).setCell (by simp) _
  refine ⟨⟨⟨v, av, hset, ho.kept ms (fun k hk hm => ?_), e3.kept ms (fun k hk hm => ?_)⟩, hd.kept ms (by simp; omega) (fun k hk cs f hc => ?_)⟩, ms⟩
  · simp only [List.mem_singleton] at hm
    exact own_ne ho e1 (by decide) k hk hm
  · simp only [List.mem_singleton] at hm
    exact own_ne e3 e1 (by decide) k hk hm
  · simp only [List.mem_singleton] at hk
    subst hk
    rw [e1] at hc
    simp only [Option.some.injEq, Obj.cells.injEq] at hc
    exact absurd hc.2.1 (by decide)
theorem MAt.setAt {w : World} {base j b : Nat} {J : Mj} {R : Rk} (h : MAt w base j b J R) (n : Int) : MAt (w.setCell ⟨j, 2, none⟩ (.int .i64 n)) base j b { J with at_ := n } R ∧ Mod [j] w (w.setCell ⟨j, 2, none⟩ (.int .i64 n)) := by
  obtain ⟨hjb, _, _⟩ := h.ne
  obtain ⟨⟨lv, av, e1, e2, e3⟩, hd⟩ := h
  have hset := heap_setCell_blk e1 2 (.int .i64 n)
  simp at hset
  have ms : Mod [j] w (w.setCell ⟨j, 2, none⟩ (.int .i64 n)) := (Mod.refl _ _).setCell (by simp) _
  refine ⟨⟨⟨lv, av, hset, e2.kept ms (fun k hk hm => ?_), e3.kept ms (fun k hk hm => ?_)⟩, hd.kept ms (by simp; omega) (fun k hk cs f hc => ?_)⟩, ms⟩
  · simp only [List.mem_singleton] at hm
    exact own_ne e2 e1 (by decide) k hk hm
  · simp only [List.mem_singleton] at hm
    exact own_ne e3 e1 (by decide) k hk hm
  · simp only [List.mem_singleton] at hk
    subst hk
    rw [e1] at hc
    simp only [Option.some.injEq, Obj.cells.injEq] at hc
    exact absurd hc.2.1 (by decide)
theorem MAt.setEp {w : World} {base j b : Nat} {J : Mj} {R : Rk} (h : MAt w base j b J R) (n : Int) : MAt (w.setCell ⟨j, 1, none⟩ (.int .i64 n)) base j b { J with epoch := n } R ∧ Mod [j] w (w.setCell ⟨j, 1, none⟩ (.int .i64 n)) := by
  obtain ⟨hjb, _, _⟩ := h.ne
  obtain ⟨⟨lv, av, e1, e2, e3⟩, hd⟩ := h
  have hset := heap_setCell_blk e1 1 (.int .i64 n)
  simp at hset
  have ms : Mod [j] w (w.setCell ⟨j, 1, none⟩ (.int .i64 n)) := (Mod.refl _ _).setCell (by simp) _
  refine ⟨⟨⟨lv, av, hset, e2.kept ms (fun k hk hm => ?_), e3.kept ms (fun k hk hm => ?_)⟩, hd.kept ms (by simp; omega) (fun k hk cs f hc => ?_)⟩, ms⟩
  · simp only [List.mem_singleton] at hm
    exact own_ne e2 e1 (by decide) k hk hm
  · simp only [List.mem_singleton] at hm
    exact own_ne e3 e1 (by decide) k hk hm
  · simp only [List.mem_singleton] at hk
    subst hk
    rw [e1] at hc
    simp only [Option.some.injEq, Obj.cells.injEq] at hc
    exact absurd hc.2.1 (by decide)
/-- the journal's records lie in a block that is new -/
def FreshL (w w' : World) (j : Nat) : Prop := ∃ c lv, w'.heap[j]? = some (.cells c 55 (0, 0)) ∧ c[3]? = some lv ∧ ∀ k, lv.ownBlock = some k → w.heap.size ≤ k
set_option maxHeartbeats 8000000 in
theorem mjAppend_at {w : World} {base j b : Nat} {J : Mj} {R : Rk} (h : MAt w base j b J R) (hk : MOk J R) (s : List Int) (hs : IsB s) (hl : s.length ≤ 1073741824) (hbs : base ≤ w.heap.size) :
    Calls Try.prog 21 #[.pointer (some ⟨j, 0, none⟩), .string (strOfNums s)] w fun e w' => e = .returned (.int .i64 (J.append R s).1) ∧ MAt w' base j b (J.append R s).2.1 (J.append R s).2.2 ∧ Mod [j, b] w w' ∧ ((J.append R s).1 = 0 → FreshL w w' j) := by
  have hsz := strs_len s
  have H := Lib.hid h
  obtain ⟨c0, c1, c2, c4, _⟩ := h.cells
  by_cases hd : J.dead = true
  · have HP := Lib.hid (show J.append R s = (16, J, R) from if_pos hd)
    rw [hd] at c4
    clear h
    go_enter Try.func21, Try.ntmps21
    go_wp2_with fail
    go_ret
    exact ⟨by rw [HP.out]; rfl, by rw [HP.out]; exact H.out, Mod.refl _ _, by rw [HP.out]; exact fun h => absurd h (by simp)⟩
  · have hdf : J.dead = false := by simpa using hd
    by_cases hl1 : s.length = 0 ∨ 65536 < s.length
    · have HP := Lib.hid (show J.append R s = (2, J, R) from by unfold Mj.append; rw [if_neg hd, if_pos hl1])
      rw [hdf] at c4
      rw [← hsz] at hl1 hl
      generalize strOfNums s = t at *
      clear h hsz
      rcases hl1 with h0 | h1
      · have d1 : decide ((t.size : Int) < 1) = true := decide_eq_true (by omega)
        go_enter Try.func21, Try.ntmps21
        go_wp2_with fail
        go_ret
        exact ⟨by rw [HP.out]; rfl, by rw [HP.out]; exact H.out, Mod.refl _ _, by rw [HP.out]; exact fun h => absurd h (by simp)⟩
      · have d1 : decide ((t.size : Int) < 1) = false := decide_eq_false (by omega)
        have d2 : decide (65536 < (t.size : Int)) = true := decide_eq_true (by omega)
        go_enter Try.func21, Try.ntmps21
        go_wp2_with fail
        go_ret
        exact ⟨by rw [HP.out]; rfl, by rw [HP.out]; exact H.out, Mod.refl _ _, by rw [HP.out]; exact fun h => absurd h (by simp)⟩
    · have CR := Lib.hid (mjRoom_at h hk s.length)
      by_cases hr : mroomB J R s.length = false
      · have HP := Lib.hid (show J.append R s = (7, J, R) from by unfold Mj.append; rw [if_neg hd, if_neg hl1, if_pos hr])
        rw [hr] at CR
        rw [hdf] at c4
        rw [← hsz] at hl1 hl CR
        generalize strOfNums s = t at *
        have d1 : decide ((t.size : Int) < 1) = false := decide_eq_false (by omega)
        have d2 : decide (65536 < (t.size : Int)) = false := decide_eq_false (by omega)
        clear h hsz
        go_enter Try.func21, Try.ntmps21
        go_wp2_with fail
        refine CR.out.mono ?_
        rintro e w1 ⟨rfl, m1⟩
        have HM := Lib.hid m1
        have HN := Lib.hid (H.out.kept0 m1)
        clear m1 CR
        go_wp2_with fail
        go_ret
        exact ⟨by rw [HP.out]; rfl, by rw [HP.out]; exact HN.out, HM.out.nil, by rw [HP.out]; exact fun h => absurd h (by simp)⟩
      · have hrt : mroomB J R s.length = true := by simpa using hr
        rw [hrt] at CR
        rw [hdf] at c4
        have HRM := Lib.hid (of_decide_eq_true hrt)
        obtain ⟨P, hP⟩ : ∃ P, layPlan J.at_ (frameP 0 J.epoch (J.l.length + 1) s) (manyP s.length) = P := ⟨_, rfl⟩
        have HPL := Lib.hid hP
        have HAP := Lib.hid (show J.append R s = if (R.does P).1 = 0 then (0, { J.done R P with l := J.l ++ [s], at_ := J.at_ + manyP s.length }, (R.does P).2) else ((R.does P).1, J.done R P, (R.does P).2) from by
          rw [← hP]; unfold Mj.append; rw [if_neg hd, if_neg hl1, if_neg hr])
        have hfb : IsB (frameP 0 J.epoch (J.l.length + 1) s) := frameP_isB (by omega) hs
        have HPB := Lib.hid (show ∀ x ∈ P, IsB x.2 ∧ x.2.length ≤ 65536 from by rw [← hP]; exact layPlan_isM hfb)
        have hM : 1 ≤ manyP s.length ∧ manyP s.length ≤ 1026 := by unfold manyP; omega
        have hPn : P.length ≤ 1028 := by rw [← hP, layPlan_len]; omega
        have HPN := Lib.hid hPn
        have HS := Lib.hid hs
        have HK := Lib.hid hk
        have hk2 := hk
        obtain ⟨n0, n1, e0, e1, a0, a1, q0, q1, q2, q3, q4⟩ := hk2
        have HFR := Lib.hid (show ∀ u, Calls Try.prog 49 #[.int .i64 0, .int .i64 J.epoch, .int .i64 ((J.l.length : Int) + 1), .string (strOfNums s)] u fun e w' => e = .returned (.string (strOfNums (frameP 0 J.epoch (J.l.length + 1) s))) ∧ Mod [] u w' from fun u => mjFrame_at 0 J.epoch (J.l.length + 1) s (by omega) hs (by omega) (by omega) (by omega) u)
        have HPLN := Lib.hid (show ∀ u, Calls Try.prog 48 #[.int .i64 J.at_, .string (strOfNums (frameP 0 J.epoch (J.l.length + 1) s))] u fun e w' => ∃ v, e = .returned v ∧ OwnR encRw 2 53 w' u.heap.size v (rowsOf P) ∧ Mod [] u w' from fun u => by
          rw [← hP]; exact mjPlan_at J.at_ (by omega) _ (manyP s.length) (by omega) (frameP_len _ _ _ _) u)
        have HMN := Lib.hid (show ∀ u, Calls Try.prog 45 #[.int .i64 (strOfNums s).size] u fun e w' => e = .returned (.int .i64 (manyP s.length)) ∧ u = w' from fun u => by rw [hsz]; exact mjMany_at s.length (by omega) u)
        rw [← hsz] at hl1 hl CR
        have HSS := Lib.hid (show (strOfNums s) = strOfNums s from rfl)
        generalize htt : strOfNums s = t at *
        have HT := Lib.hid htt
        have d1 : decide ((t.size : Int) < 1) = false := decide_eq_false (by omega)
        have d2 : decide (65536 < (t.size : Int)) = false := decide_eq_false (by omega)
        generalize hff : strOfNums (frameP 0 J.epoch (J.l.length + 1) s) = ff at *
        clear h hsz hs hk hP hPn hfb htt hff HSS q0 q1 q3 q4 hrt hr
        go_enter Try.func21, Try.ntmps21
        go_wp2_with fail
        refine CR.out.mono ?_
        rintro e w1 ⟨rfl, m1⟩
        have HM := Lib.hid m1
        have HN := Lib.hid (H.out.kept0 m1)
        clear m1 CR c0 c1 c2 c4
        obtain ⟨D0, hD0, mD0⟩ : ∃ D, w1.drew = D ∧ Mod [] w1 D := ⟨_, rfl, (Mod.refl [] w1).drew⟩
        have hN0 := HN.out.kept0 mD0
        have HND := Lib.hid hN0
        obtain ⟨⟨lv, av, f1, f2, f3⟩, fd⟩ := hN0
        obtain ⟨la, lc, hlv⟩ := f2.lens
        rw [List.length_map] at hlv
        subst hlv
        have q1 : D0.cell? ⟨j, 1, none⟩ = some (.int .i64 J.epoch) := by rw [cell_blk f1]; rfl
        have q2 : D0.cell? ⟨j, 2, none⟩ = some (.int .i64 J.at_) := by rw [cell_blk f1]; rfl
        have q3 : D0.cell? ⟨j, 3, none⟩ = some (.slice la J.l.length lc) := by rw [cell_blk f1]; rfl
        have HM := Lib.hid (HM.out.trans mD0)
        clear f1 f2 f3 fd mD0 HN
        go_wp2_with fail
        refine wp_plan [([0, 1, 5, 9, 15, 2, 6, 10, 3, 7, 11, 4, 8, 12, 13, 14], 16, [2, 3, 4]), ([], 17, []), ([], 18, [])] [19] (by kernel_rfl) (by kernel_rfl) ?_
        simp only [wpSegs, opsOf, List.map_cons, List.map_nil, opN, List.getD_cons_zero, List.getD_cons_succ]
        rw [hD0]
        go_wp2_with fail
        refine ⟨by first | trivial | rfl, ?_⟩
        go_wp2_with fail
        refine (HFR.out _).mono ?_
        rintro e w2 ⟨rfl, m2⟩
        have q2' := m2.cellD q2
        have HM := Lib.hid (HM.out.trans m2)
        have HN := Lib.hid (HND.out.kept0 m2)
        clear m2 HND q1 q2 q3 hD0
        go_wp2_with fail
        refine ⟨?ag1, ?_⟩
        case ag1 =>
          intro i hi hw
          simp only [List.mem_cons, List.not_mem_nil, or_false] at hi
          rcases hi with rfl | rfl | rfl
          all_goals (simp only [opN, List.getD_cons_zero, List.getD_cons_succ, slotOf]; go_simp)
        go_wp2_with fail
        refine ⟨by first | trivial | rfl, ?_⟩
        go_wp2_with fail
        refine (HPLN.out _).mono ?_
        rintro e w3 ⟨pv, rfl, ho3, m3⟩
        have HM := Lib.hid (HM.out.trans m3)
        have hN3 := HN.out.kept0 m3
        have CD := Lib.hid (mjDo_at hN3 ho3 HPB.out (Nat.le_trans hbs HM.out.size) (by have := HK.out.r0; have := HPN.out; omega) (by have := HK.out.w0; have := HK.out.w1; omega) (by have := HK.out.k0; have := HPN.out; omega) (by have := HPN.out; omega))
        clear m3 HN ho3 hN3 q2'
        go_wp2_with fail
        refine ⟨again_nil, ?_⟩
        go_wp2_with fail
        refine ⟨by first | trivial | rfl, ?_⟩
        go_wp2_with fail
        refine CD.out.mono ?_
        rintro e w4 ⟨rfl, hM4, m4⟩
        have HM4 := Lib.hid (show MAt w4 base j b (J.done R P) (R.does P).2 from hM4)
        have HMM := Lib.hid (HM.out.nil.trans m4)
        clear hM4 m4 CD
        go_wp2_with fail
        refine ⟨again_nil, ?_⟩
        go_wp2_with fail
        refine ⟨by first | trivial | rfl, ?_⟩
        obtain ⟨err, herr⟩ : ∃ e, (R.does P).1 = e := ⟨_, rfl⟩
        have HERR := Lib.hid herr
        rw [herr]
        clear herr
        by_cases hz : err = 0
        · have t1 : (err == 0) = true := by simpa using hz
          have HAP2 := Lib.hid (show J.append R s = (0, { J.done R P with l := J.l ++ [s], at_ := J.at_ + manyP s.length }, (R.does P).2) from by
            rw [HAP.out, if_pos (by rw [HERR.out]; exact hz)])
          subst hz
          obtain ⟨⟨lv, av, f1, f2, f3⟩, fd⟩ := HM4.out
          have q3 : w4.cell? ⟨j, 3, none⟩ = some lv := by rw [cell_blk f1]; rfl
          obtain ⟨W1, hAl, kA, zA, mA⟩ := alloc_named2 w4 (.cells #[] 9)
          obtain ⟨gE, hgE⟩ : ∃ g, w4.heap.size = g := ⟨_, rfl⟩
          rw [hgE] at kA
          have hOE : OwnR encStr 1 9 W1 w4.heap.size (.slice (some ⟨gE, 0, none⟩) 0 0) [] := own_lit kA rfl rfl encStr_len (by omega) (by simp)
          have q3a := mA.cellD q3
          have hll : (J.l.map strOfNums).length ≤ 1048576 := by rw [List.length_map]; exact HK.out.l0
          obtain ⟨v1, W2, ra, ho, gr⟩ := own_append (P := Try.prog) (ty := 32) (tx := 32) elemStrJ encStr_len hOE mA.size ((f2.kept0 mA).row.src encStr_len encStr_one Try.underlying32) (by simp at hll ⊢; exact Nat.le_trans hll (by omega)) (by omega)
          have HRA := Lib.hid ra
          rw [List.nil_append] at ho
          have hm2 := gr.intoNil hOE (Nat.le_refl _) mA
          obtain ⟨v2, W3, rb, ho3, gr3⟩ := own_append1 (P := Try.prog) (ty := 32) elemStrJ encStr_len encStr_one ho hm2.size t (Nat.lt_of_le_of_lt hll (by omega)) (by omega)
          have HRB := Lib.hid rb
          dsimp only [encStr] at HRB
          have hm3 := gr3.intoNil ho (Nat.le_refl _) hm2
          have ho4 : OwnR encStr 1 9 W3 base v2 ((J.l ++ [s]).map strOfNums) := by
            rw [List.map_append, List.map_singleton, HT.out]
            exact ho3.mono (Nat.le_trans hbs HMM.out.size)
          obtain ⟨va2, vc2, hv2⟩ := ho4.lens
          obtain ⟨n2, hn2⟩ : ∃ n, ((J.l ++ [s]).map strOfNums).length = n := ⟨_, rfl⟩
          rw [hn2] at hv2
          subst hv2
          clear hn2
          have hM5 := HM4.out.kept0 hm3
          obtain ⟨hM6, ms⟩ := hM5.setL ho4
          have f3' : ∃ lv av : Value, W3.heap[j]? = some (.cells #[.pointer (some ⟨b, 0, none⟩), .int .i64 (J.done R P).epoch, .int .i64 (J.done R P).at_, lv, .bool (J.done R P).dead, av] 55 (0, 0)) := by
            obtain ⟨⟨lv, av, e1, _⟩, _⟩ := hM5
            exact ⟨lv, av, e1⟩
          obtain ⟨lv5, av5, e5⟩ := f3'
          have p3 : W3.cell? ⟨j, 3, none⟩ = some lv5 := by rw [cell_blk e5]; rfl
          have g3 := frozen_blk e5 3
          have HAl := Lib.hid hAl
          have HGE := Lib.hid hgE
          have HF5 := Lib.hid (show ∃ c, (W3.setCell ⟨j, 3, none⟩ (.slice va2 n2 vc2)).heap[j]? = some (.cells c 55 (0, 0)) ∧ c[3]? = some (.slice va2 n2 vc2) from ⟨_, heap_setCell_blk e5 3 _, by simp⟩)
          have HOK := Lib.hid (show ∀ k, (Value.slice va2 n2 vc2).ownBlock = some k → w.heap.size ≤ k from fun k hk => Nat.le_trans HMM.out.size ((World.ownsRow.lt ho3 k hk).1))
          have HM6 := Lib.hid hM6
          have HMM := Lib.hid ((HMM.out.trans hm3.nil).trans (ms.mono (by simp)))
          clear kA zA mA hOE ra ho gr hm2 rb ho3 gr3 hm3 ho4 hM5 hM6 ms f1 f2 f3 fd hll e5 HM4
          go_wp2_with (first | ((with_reducible refine xAppendAt HRA.out rfl rfl ?_ ?_ ?_ ?_); exact rfl; exact rfl; exact rfl) | ((with_reducible refine xAppendAt HRB.out rfl rfl ?_ ?_ ?_ ?_); exact rfl; exact rfl; exact rfl))
          obtain ⟨D1, hD1, mD1⟩ : ∃ D, (W3.setCell ⟨j, 3, none⟩ (.slice va2 n2 vc2)).drew = D ∧ Mod [] (W3.setCell ⟨j, 3, none⟩ (.slice va2 n2 vc2)) D := ⟨_, rfl, (Mod.refl [] _).drew⟩
          have hM7 := HM6.out.kept0 mD1
          have r2 : D1.cell? ⟨j, 2, none⟩ = some (.int .i64 J.at_) := hM7.cells.2.2.1
          have g2 : D1.frozen? ⟨j, 2, none⟩ = false := by
            obtain ⟨⟨lv, av, e1, _⟩, _⟩ := hM7
            exact frozen_blk e1 2
          obtain ⟨hM8, ms8⟩ := hM7.setAt (J.at_ + manyP s.length)
          have HM8 := Lib.hid hM8
          have HMM := Lib.hid ((HMM.out.trans mD1.nil).trans (ms8.mono (by simp)))
          have HFL := Lib.hid (show FreshL w (D1.setCell ⟨j, 2, none⟩ (.int .i64 (J.at_ + manyP s.length))) j from by
            obtain ⟨c, f1, f2⟩ := HF5.out
            exact ⟨_, _, heap_setCell_blk (mD1.heap f1 (by simp)) 2 _, by simp only [Array.getElem?_setIfInBounds]; simpa using f2, HOK.out⟩)
          have hmm : (manyP s.length : Int) ≤ 1026 := by omega
          clear mD1 hM7 hM8 ms8 HRA HRB p3 g3 q3a q3
          generalize manyP s.length = mm at *
          refine wp_plan [([0, 1, 5, 2, 6, 3, 4], 7, [2, 3, 4]), ([8, 9, 10], 11, [])] [] (by kernel_rfl) (by kernel_rfl) ?_
          simp only [wpSegs, opsOf, List.map_cons, List.map_nil, opN, List.getD_cons_zero, List.getD_cons_succ]
          rw [hD1]
          go_wp2_with fail
          refine (HMN.out _).mono ?_
          rintro e w9 ⟨rfl, rfl⟩
          go_wp2_with fail
          refine ⟨?ag2, ?_⟩
          case ag2 =>
            intro i hi hw
            simp only [List.mem_cons, List.not_mem_nil, or_false] at hi
            rcases hi with rfl | rfl | rfl
            all_goals (simp only [opN, List.getD_cons_zero, List.getD_cons_succ, slotOf]; go_simp)
          go_wp2_with fail
          refine ⟨by first | trivial | rfl, ?_⟩
          go_wp2_with fail
          refine ⟨again_nil, ?_⟩
          go_wp2_with fail
          refine ⟨by first | trivial | rfl, ?_⟩
          go_wp2_with fail
          go_ret
          exact ⟨by rw [HAP2.out]; rfl, by rw [HAP2.out]; exact HM8.out, HMM.out, fun _ => HFL.out⟩
        · have t1 : (err == 0) = false := by simpa using hz
          have HAP2 := Lib.hid (show J.append R s = (err, J.done R P, (R.does P).2) from by
            rw [HAP.out, if_neg (by rw [HERR.out]; exact hz), HERR.out])
          have HZN := Lib.hid hz
          clear hz
          go_wp2_with fail
          go_ret
          exact ⟨by rw [HAP2.out]; rfl, by rw [HAP2.out]; exact HM4.out, HMM.out, by rw [HAP2.out]; exact fun h => absurd h HZN.out⟩
end Go.Proofs.Ytnjfgbbdfdoccaa
