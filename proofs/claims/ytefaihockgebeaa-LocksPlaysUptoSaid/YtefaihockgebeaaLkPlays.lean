/- Whatever is submitted, reopened, copied: each answer of locks, the locked days behind it, and whether any days meet them, are the document's. Condition: the arguments are of bounded bulk (the second form; the first is false by size). -/
import Derived.Test.YtefaihockgebeaaRows
import Derived.Test.YtefaihockgebeaaArgR
import Derived.Test.YtefaihockgebeaaArgRun
import Derived.Test.YtefaihockgebeaaSpC
import Derived.Test.YtefaihockgebeaaLkE
import Derived.Test.YtefaihockgebeaaLkC
import Derived.Test.YtefaihockgebeaaLkP
import Derived.Deep.Cut
import Derived.Deep.CutRange
import Derived.Test.YtefaihockgebeaaLkM
import Derived.Test.YtefaihockgebeaaArgSp
import Derived.Test.YtefaihockgebeaaLift
import Derived.JoinedCond
import Derived.Deep.CondSized
namespace Go.Proofs.Ytefaihockgebeaa
open Go.ChangeShapes Go.WideShapes Go.ChangeAt Go.RowKit Go.Deep
set_option linter.unusedSimpArgs false
set_option linter.unusedVariables false
theorem bulk_one {H : Type} (d : DataW H) : 1 ≤ Rows.uptoBulk d := by
  cases d with
  | lit l => cases l <;> simp [Rows.uptoBulk]
  | nil => simp [Rows.uptoBulk]
  | ptr d => simp [Rows.uptoBulk]
  | slice elems spare => simp [Rows.uptoBulk]
  | agg parts => simp [Rows.uptoBulk]
  | iface t d => simp [Rows.uptoBulk]
  | map entries => simp [Rows.uptoBulk]
  | held h => simp [Rows.uptoBulk]
theorem bulk_part {H : Type} {d : DataW H} {l : List (DataW H)} (h : d ∈ l) : Rows.uptoBulk d ≤ Rows.uptoBulkAll l := by
  induction l with
  | nil => cases h
  | cons x r ih =>
    simp only [Rows.uptoBulkAll]
    cases List.mem_cons.1 h with
    | inl e => subst e; omega
    | inr e => have := ih e; omega
theorem bulk_bound {H : Type} {l : List (DataW H)} (hk : Rows.uptoSmall H l = true) : Rows.uptoBulkAll l ≤ 1048576 := of_decide_eq_true hk
theorem bulk_sum {H : Type} {α : Type} (m : α → Nat) (D : Nat → DataW H) (X : Nat → α) : ∀ (n : Nat) (s : Nat), (∀ i, s ≤ i → i < s + n → m (X i) ≤ Rows.uptoBulk (D i)) → (((List.range' s n).map X).map m).sum ≤ Rows.uptoBulkAll ((List.range' s n).map D)
  | 0, s, _ => by simp [Rows.uptoBulkAll]
  | n + 1, s, h => by
    have h1 := h s (Nat.le_refl _) (by omega)
    have h2 := bulk_sum m D X n (s + 1) fun i a b => h i (by omega) (by omega)
    simp only [List.range'_succ, List.map_cons, List.sum_cons, Rows.uptoBulkAll]
    omega
section
variable {H : Type} {henc : TypeId × Value → H} {P : Program} {w : World}
/-- A slice reads as a row, if each element does; what is measured of its elements lies below its bulk. -/
theorem rows_bulk {α : Type} [Inhabited α] {enc : α → List Value} {Q : α → Prop} {m : α → Nat} {t e : TypeId} (ht : P.underlying t = some (.slice e)) (hc : 0 < P.cellsOf e) (hk : ∀ x, (enc x).length = P.cellsOf e)
    (hdec : ∀ n xs d pl, DataW.trod henc P w 0 (fun _ => true) true n e xs = some (d, pl) → Lite P e d → xs.length = P.cellsOf e → ∃ x, xs = enc x ∧ Q x ∧ m x ≤ Rows.uptoBulk d)
    {fuel : Nat} {cs : List Value} {d : DataW H} {ps : List MemPlace} (h : DataW.trod henc P w 0 (fun _ => true) true fuel t cs = some (d, ps)) (hw : Lite P t d) :
    ∃ v l, cs = [v] ∧ RowAt enc w v l ∧ (∀ x ∈ l, Q x) ∧ l.length * P.bytesOf e ≤ reachBytes ∧ (l.map m).sum + 1 ≤ Rows.uptoBulk d := by
  rcases open_slice ht h with ⟨rfl, h2⟩ | ⟨a, len, cap, mm, n, D, Pl, rfl, _, hl, hm, hmm, hx, hi⟩
  · obtain ⟨rfl, _⟩ := Prod.mk.inj h2
    exact ⟨_, [], rfl, .nil none 0, by simp, by simp, by simp [Rows.uptoBulk]⟩
  · simp only [if_true] at hmm
    subst hmm
    obtain ⟨rfl, rfl⟩ := Prod.mk.inj hx
    have each : ∀ i, i < len → ∃ x : α, (Q x ∧ m x ≤ Rows.uptoBulk (D i)) ∧ ∃ b o, some a = some ⟨b, o, none⟩ ∧ w.rangeAt b (o + i * P.cellsOf e) (enc x) := fun i hlt => by
      obtain ⟨xs, h1, h2⟩ := hi i (by omega)
      obtain ⟨b, o, ha, hr, hl'⟩ := range_of_cells h1 hc
      obtain ⟨xs0, h10, _⟩ := hi 0 (by omega)
      obtain ⟨b0, o0, ha0, _, _⟩ := range_of_cells h10 hc
      rw [Nat.zero_mul] at ha0
      have ha00 : a = ⟨b0, o0, none⟩ := ha0
      subst ha00
      rw [Addr.add_mid] at ha
      simp only [Addr.mk.injEq] at ha
      obtain ⟨rfl, rfl, _⟩ := ha
      obtain ⟨x, rfl, hq, hmx⟩ := hdec n xs (D i) (Pl i) h2 (hw.elem ht (List.mem_map.2 ⟨i, List.mem_range.2 hlt, rfl⟩)) hl'
      exact ⟨x, ⟨hq, hmx⟩, b0, o0, rfl, hr⟩
    obtain ⟨X, hX⟩ := choose_lt each
    refine ⟨_, (List.range len).map X, rfl, ?_, ?_, ?_, ?_⟩
    · by_cases hn : len = 0
      · subst hn; exact .nil (some a) mm
      · obtain ⟨_, b, o, ha, _⟩ := hX 0 (by omega)
        simp only [Option.some.injEq] at ha
        subst ha
        have hlen : ((List.range len).map X).length = len := by simp
        have : RowAt enc w (.slice (some ⟨b, o, none⟩) ((List.range len).map X).length mm) ((List.range len).map X) := .at_ b o mm _ (by rw [hlen]; exact hl) (fun j u hj => by
          have hjl : j < len * P.cellsOf e := by
            have := (List.getElem?_eq_some_iff.1 hj).1
            rw [flat_length hk, hlen] at this
            exact this
          have hdm : j / P.cellsOf e < len := Nat.div_lt_of_lt_mul (by rw [Nat.mul_comm]; exact hjl)
          have hmm : j % P.cellsOf e < P.cellsOf e := Nat.mod_lt _ hc
          have e1 := flat_get hk ((List.range len).map X) (j / P.cellsOf e) (j % P.cellsOf e) (by rw [hlen]; exact hdm) hmm
          have e2 : j / P.cellsOf e * P.cellsOf e + j % P.cellsOf e = j := by rw [Nat.mul_comm]; exact Nat.div_add_mod j _
          rw [e2] at e1
          rw [e1] at hj
          obtain ⟨_, b', o', ha', hr⟩ := hX (j / P.cellsOf e) hdm
          simp only [Option.some.injEq, Addr.mk.injEq, and_true] at ha'
          obtain ⟨rfl, rfl⟩ := ha'
          have := hr (j % P.cellsOf e) u (by simpa using hj)
          rwa [Nat.add_assoc, e2] at this)
        rwa [hlen] at this
    · intro x hx
      obtain ⟨i, hi, rfl⟩ := List.mem_map.1 hx
      exact (hX i (List.mem_range.1 hi)).1.1
    · simp only [List.length_map, List.length_range]
      have := hw.len ht
      simp only [List.length_map, List.length_range] at this
      exact Nat.le_trans (Nat.mul_le_mul_right _ (by omega)) this
    · have := bulk_sum m D X len 0 fun i _ hi => (hX i (by omega)).1.2
      rw [← List.range_eq_range'] at this
      simp only [Rows.uptoBulk]
      omega
end
end Go.Proofs.Ytefaihockgebeaa
namespace Go.Proofs.Ytefaihockgebeaa
open Go.ChangeShapes Go.WideShapes Go.ChangeAt Go.RowKit Go.Deep
set_option linter.unusedSimpArgs false
set_option linter.unusedVariables false
def runsN (rs : List Rn) : Nat := (rs.map fun r => r.segs.length + 1).sum
def opsN (xs : List OpX) : Nat := (xs.map fun x => runsN x.runs).sum
theorem sum_ones {α : Type} : ∀ l : List α, (l.map fun _ => 1).sum = l.length
  | [] => rfl
  | x :: l => by rw [List.map_cons, List.sum_cons, sum_ones l, List.length_cons]; omega
theorem cT_Runs : Try.prog.cellsOf 65 = 1 := by kernel_rfl
theorem cT_Op28 : Try.prog.cellsOf 68 = 4 := by kernel_rfl
theorem bT_Op28 : Try.prog.bytesOf 68 = 48 := by kernel_rfl
theorem RowAt.map {α β : Type} {enc : β → List Value} {g : α → β} {w : World} {v : Value} {l : List α} (h : RowAt (fun x => enc (g x)) w v l) : RowAt enc w v (l.map g) := by
  have e : ∀ l : List α, flat (fun x => enc (g x)) l = flat enc (l.map g) := fun l => by simp [flat, List.flatMap_map]
  cases h with
  | nil a cap => exact .nil a cap
  | at_ b o cap l hc h =>
    have := RowAt.at_ (enc := enc) (w := w) b o cap (l.map g) (by simpa using hc) (by rw [← e]; exact h)
    simpa using this
theorem list4 {l : List Value} (h : l.length = 4) : ∃ a b c d, l = [a, b, c, d] := by
  match l, h with
  | [a, b, c, d], _ => exact ⟨a, b, c, d, rfl⟩
instance : Inhabited (Int × Value × List Sg) := ⟨(0, .slice none 0 0, [])⟩
instance : Inhabited ((Int × Int × Int) × Value × List (Int × Value) × List Rn) := ⟨((0, 0, 0), .slice none 0 0, [], [])⟩
section
variable {H : Type} {enc : TypeId × Value → H} {w : World}
theorem segs_bulk {n : Nat} {cs : List Value} {d : DataW H} {pl : List MemPlace} (h : DataW.trod enc Try.prog w 0 (fun _ => true) true n 78 cs = some (d, pl)) (hw : Lite Try.prog 78 d) :
    ∃ (v : Value) (l : List Sg), cs = [v] ∧ SegsAt w v l ∧ l.length + 1 ≤ Rows.uptoBulk d := by
  obtain ⟨v, l, e, hr, _, _, hb⟩ := rows_bulk (enc := encG) (Q := fun _ => True) (m := fun _ => 1) Try.underlying78 (by rw [cT_Seg]; omega) (fun x => by rw [cT_Seg]; rfl) (fun n xs d pl h hw hl => by
    obtain ⟨x, rfl⟩ := seg_cells h (by rw [cT_Seg] at hl; exact hl)
    exact ⟨x, rfl, trivial, bulk_one d⟩) h hw
  refine ⟨v, l, e, hr, ?_⟩
  rwa [sum_ones] at hb
theorem run_bulk {n : Nat} {xs : List Value} {d : DataW H} {pl : List MemPlace} (h : DataW.trod enc Try.prog w 0 (fun _ => true) true n 80 xs = some (d, pl)) (hw : Lite Try.prog 80 d) (hl : xs.length = 2) : ∃ x : Int × Value × List Sg, xs = encU (x.1, x.2.1) ∧ SegsAt w x.2.1 x.2.2 ∧ x.2.2.length + 1 ≤ Rows.uptoBulk d := by
  obtain ⟨a, b, rfl⟩ := list_two hl
  obtain ⟨y0, y1, m, he, _, h0, h1⟩ := trod_struct2 Try.underlying80 h
  simp only [cS_int, cT_Segs, List.drop_zero, List.drop_succ_cons, List.take_succ_cons, List.take_zero] at h0 h1
  simp only [Prod.mk.injEq] at he
  obtain ⟨rfl, _⟩ := he
  obtain ⟨u, e0, _, _⟩ := DataW.trod_int Try.underlying3 h0
  obtain ⟨y1d, y1p⟩ := y1
  obtain ⟨v, l, e1, hs, hn⟩ := segs_bulk h1 (hw.field (j := 1) Try.underlying80 rfl rfl)
  simp at e0 e1
  subst e0 e1
  refine ⟨(u, b, l), rfl, hs, ?_⟩
  simp only [Rows.uptoBulk, Rows.uptoBulkAll]
  omega
theorem runs_bulk {n : Nat} {cs : List Value} {d : DataW H} {pl : List MemPlace} (h : DataW.trod enc Try.prog w 0 (fun _ => true) true n 65 cs = some (d, pl)) (hw : Lite Try.prog 65 d) :
    ∃ (v : Value) (us : List (Int × Value)) (rs : List Rn), cs = [v] ∧ RunsAt w v us rs ∧ runsN rs + 1 ≤ Rows.uptoBulk d := by
  obtain ⟨v, l, e, hr, hq, _, hb⟩ := rows_bulk (enc := fun x : Int × Value × List Sg => encU (x.1, x.2.1)) (Q := fun x => SegsAt w x.2.1 x.2.2) (m := fun x => x.2.2.length + 1) Try.underlying65 (by rw [cT_Run]; omega) (fun x => by rw [cT_Run]; rfl) (fun n xs d pl h hw hl => run_bulk h hw (by rw [cT_Run] at hl; exact hl)) h hw
  refine ⟨v, l.map fun x => (x.1, x.2.1), l.map fun x => ⟨x.1, x.2.2⟩, e, ⟨RowAt.map (g := fun x : Int × Value × List Sg => (x.1, x.2.1)) hr, by simp, fun j h1 h2 => ?_⟩, ?_⟩
  · simp only [List.getElem_map]
    exact ⟨trivial, hq _ (List.getElem_mem _)⟩
  · simpa [runsN, Function.comp_def] using hb
theorem op_bulk {n : Nat} {xs : List Value} {d : DataW H} {pl : List MemPlace} (h : DataW.trod enc Try.prog w 0 (fun _ => true) true n 68 xs = some (d, pl)) (hw : Lite Try.prog 68 d) (hl : xs.length = 4) :
    ∃ x : (Int × Int × Int) × Value × List (Int × Value) × List Rn, xs = encO (x.1, x.2.1) ∧ RunsAt w x.2.1 x.2.2.1 x.2.2.2 ∧ runsN x.2.2.2 ≤ Rows.uptoBulk d := by
  obtain ⟨a, b, c, g, rfl⟩ := list4 hl
  obtain ⟨y0, y1, y2, m, he, _, h0, h1, h2⟩ := trod_struct3 Try.underlying68 h
  simp only [cS_int, cS_Span, cT_Runs, List.drop_zero, List.drop_succ_cons, List.take_succ_cons, List.take_zero] at h0 h1 h2
  simp only [Prod.mk.injEq] at he
  obtain ⟨rfl, _⟩ := he
  obtain ⟨u, e0, _, _⟩ := DataW.trod_int Try.underlying3 h0
  obtain ⟨x, e1, _⟩ := span_cells h1 rfl
  obtain ⟨y2d, y2p⟩ := y2
  obtain ⟨v, us, rs, e2, hs, hn⟩ := runs_bulk h2 (hw.field (j := 2) Try.underlying68 rfl rfl)
  simp [encS] at e0 e1 e2
  obtain ⟨rfl, rfl⟩ := e1
  subst e0 e2
  refine ⟨((u, x.1, x.2), g, us, rs), rfl, hs, ?_⟩
  simp only [Rows.uptoBulk, Rows.uptoBulkAll]
  omega
theorem ops_bulk {v : Value} {d : DataW H} {pl : List MemPlace} (hv : ∃ a n c, v = .slice a n c) (h : DataW.Trod enc Try.prog w 0 (fun _ => true) true 69 v d pl) (hw : Lite Try.prog 69 d) :
    ∃ us xs, OpsAt w v us xs ∧ xs.length ≤ 140737488355328 ∧ opsN xs ≤ Rows.uptoBulk d := by
  obtain ⟨a, n, c, rfl⟩ := hv
  obtain ⟨fuel, hf⟩ := h
  obtain ⟨v, l, e, hr, hq, hl, hb⟩ := rows_bulk (enc := fun x : (Int × Int × Int) × Value × List (Int × Value) × List Rn => encO (x.1, x.2.1)) (Q := fun x => RunsAt w x.2.1 x.2.2.1 x.2.2.2) (m := fun x => runsN x.2.2.2) Try.underlying69 (by rw [cT_Op28]; omega) (fun x => by rw [cT_Op28]; rfl) (fun n xs d pl h hw hl => op_bulk h hw (by rw [cT_Op28] at hl; exact hl)) hf hw
  simp [Value.cells] at e
  subst e
  refine ⟨l.map fun x => (x.1, x.2.1), l.map fun x => ⟨x.1.1, x.1.2.1, x.1.2.2, x.2.2.2⟩, ⟨RowAt.map (g := fun x : (Int × Int × Int) × Value × List (Int × Value) × List Rn => (x.1, x.2.1)) hr, by simp, fun j h1 h2 => ?_⟩, ?_, ?_⟩
  · simp only [List.getElem_map]
    exact ⟨trivial, _, hq _ (List.getElem_mem _)⟩
  · rw [bT_Op28] at hl
    simp [reachBytes] at hl ⊢
    omega
  · have : (l.map fun x => runsN x.2.2.2).sum ≤ Rows.uptoBulk d := by omega
    simpa [opsN, Function.comp_def] using this
end
end Go.Proofs.Ytefaihockgebeaa
namespace Go.Proofs.Ytefaihockgebeaa
open Go.RowKit Go.ChangeMaps Go.Deep
set_option linter.unusedSimpArgs false
set_option linter.unusedVariables false
set_option maxRecDepth 20000
theorem sum_take {α : Type} (m : α → Nat) (l : List α) (i : Nat) (h : i < l.length) : ((l.take (i + 1)).map m).sum = ((l.take i).map m).sum + m l[i] := by
  rw [List.take_succ_eq_append_getElem h, List.map_append, List.sum_append]
  simp
theorem sum_take_le {α : Type} (m : α → Nat) (l : List α) (i : Nat) : ((l.take i).map m).sum ≤ (l.map m).sum := by
  conv => rhs; rw [← List.take_append_drop i l, List.map_append, List.sum_append]
  omega
def greatL (xs : List OpX) : Bool := decide (30 < xs.length) || decide (200 < opsN xs)
set_option maxHeartbeats 4000000 in
theorem great28_val (v : Value) (us : List ((Int × Int × Int) × Value)) (xs : List OpX) (w : World) (h : OpsAt w v us xs) (hl : xs.length ≤ 140737488355328) (hn : opsN xs ≤ 1048576) :
    Calls Try.prog 45 #[v] w fun e w' => e = .returned (.bool (greatL xs)) ∧ w' = w := by
  have H := Lib.hid h
  obtain ⟨a, c, rfl⟩ := h.form
  clear h
  go_enter Try.func45, Try.ntmps45
  go_wp2_with fail
  go_loop [3, 8] (fun s3 s8 => ∃ i : Nat, i ≤ xs.length ∧ s8 = .int .i64 i ∧ s3 = .int .i64 (opsN (xs.take i))) (fun _ s8 => xs.length - (intOf s8).toNat)
  case atStart => exact ⟨0, by omega, rfl, rfl⟩
  case round =>
    obtain ⟨i, hi, rfl, rfl⟩ := hrel
    by_cases hlt : i < xs.length
    · obtain ⟨b, o, s, vs, rfl, he, hc, e0, e1, e2, e3, hs⟩ := H.out.get hlt
      obtain ⟨sa, sc, rfl⟩ := hs.form
      have HT := Lib.hid (show opsN (xs.take (i + 1)) = opsN (xs.take i) + runsN xs[i].runs from sum_take _ xs i hlt)
      have HTL := Lib.hid (show opsN (xs.take (i + 1)) ≤ opsN xs from sum_take_le _ xs (i + 1))
      generalize xs[i] = x at e3 hs HT
      obtain ⟨x1, x2, x3, rs⟩ := x
      dsimp only at e3 hs HT
      have HRN := Lib.hid (show rs.length ≤ runsN rs by
        have : ∀ l : List Rn, l.length ≤ runsN l := fun l => by
          induction l with
          | nil => simp
          | cons r l ih => simp only [runsN, List.map_cons, List.sum_cons, List.length_cons] at ih ⊢; omega
        exact this rs)
      have hlr : rs.length ≤ 1048576 := by have := HT.out; have := HTL.out; have := HRN.out; omega
      have HS := Lib.hid hs
      generalize opsN (xs.take i) = z at HT ⊢
      have hz : z ≤ 1048576 := by have := HT.out; have := HTL.out; omega
      clear hs e0 e1 e2
      go_wp2_with fail
      go_loop [3, 17] (fun s3 s17 => ∃ k : Nat, k ≤ rs.length ∧ s17 = .int .i64 k ∧ s3 = .int .i64 ((z + runsN (rs.take k) : Nat) : Int)) (fun _ s17 => rs.length - (intOf s17).toNat)
      case atStart => exact ⟨0, by omega, rfl, by simp [runsN]⟩
      case round =>
        obtain ⟨k, hk, rfl, rfl⟩ := hrel
        by_cases hlt2 : k < rs.length
        · obtain ⟨b2, o2, s2, rfl, he2, hc2, f0, f1, hs2⟩ := HS.out.get hlt2
          obtain ⟨sa2, sc2, rfl⟩ := hs2.form
          have HT2 := Lib.hid (show runsN (rs.take (k + 1)) = runsN (rs.take k) + (rs[k].segs.length + 1) from sum_take _ rs k hlt2)
          have HTL2 := Lib.hid (show runsN (rs.take (k + 1)) ≤ runsN rs from sum_take_le _ rs (k + 1))
          generalize rs[k].segs = sg at f1 hs2 HT2
          generalize runsN (rs.take k) = y at HT2 ⊢
          have hy : y + sg.length ≤ 1048576 := by have := HT2.out; have := HTL2.out; have := HT.out; have := HTL.out; omega
          clear hs2 f0
          go_wp2_with fail
          go_round
          case rel => exact ⟨k + 1, by omega, by go_num, by rw [HT2.out]; congr 1; push_cast; omega⟩
          case measure => simp [intOf]; omega
        · have HE := Lib.hid (show runsN (rs.take k) = runsN rs by rw [List.take_of_length_le (by omega)])
          go_wp2_with fail
          go_round
          case rel => exact ⟨i + 1, by omega, by go_num, by rw [HT.out, HE.out]⟩
          case measure => simp [intOf]; omega
    · have HE := Lib.hid (show opsN (xs.take i) = opsN xs by rw [List.take_of_length_le (by omega)])
      have HG := Lib.hid (show greatL xs = (decide (30 < xs.length) || decide (200 < opsN xs)) from rfl)
      rw [HE.out]
      generalize opsN xs = z at *
      have HI := Lib.hid (show (decide ((30 : Int) < xs.length) || decide ((200 : Int) < z)) = (decide (30 < xs.length) || decide (200 < z)) by
        congr 1 <;> (apply decide_eq_decide.2; omega))
      by_cases h1 : 30 < xs.length
      · go_wp2_with fail
        go_ret
        exact ⟨by rw [HG.out, decide_eq_true h1]; rfl, rfl⟩
      · go_wp2_with fail
        go_ret
        exact ⟨by rw [HG.out, ← HI.out]; rfl, rfl⟩
end Go.Proofs.Ytefaihockgebeaa
namespace Go.Proofs.Ytefaihockgebeaa

theorem asc_length : ∀ {l m : List Int}, Asc l → (∀ z ∈ l, z ∈ m) → l.length ≤ m.length
  | [], m, _, _ => by simp
  | x :: l, m, h, hs => by
    have hx := hs x (.head _)
    have h2 := List.pairwise_cons.1 h
    have := asc_length (l := l) (m := m.erase x) h2.2 (fun z hz => (List.mem_erase_of_ne (by have := h2.1 z hz; omega)).2 (hs z (.tail _ hz)))
    rw [List.length_erase_of_mem hx] at this
    have : 0 < m.length := List.length_pos_of_mem hx
    simp only [List.length_cons]
    omega
theorem right_starts : ∀ {l : List Sp} {a : Int}, Right a l → Asc (l.map (·.1)) ∧ (∀ z ∈ l.map (·.1), a < z) ∧ ∀ z ∈ l.map (·.1), In l z ∧ ¬ In l (z - 1)
  | [], a, _ => ⟨.nil, by simp, by simp⟩
  | x :: l, a, h => by
    obtain ⟨h1, h2, h3, h4⟩ := h
    obtain ⟨i1, i2, i3⟩ := right_starts h4
    refine ⟨List.pairwise_cons.2 ⟨fun z hz => by have := i2 z hz; show x.1 < z; omega, i1⟩, fun z hz => ?_, fun z hz => ?_⟩
    · rcases List.mem_cons.1 hz with e | hz
      · have e : z = x.1 := e
        rw [e]; exact h1
      · have := i2 z hz; omega
    · rcases List.mem_cons.1 hz with e | hz
      · have e : z = x.1 := e
        subst e
        refine ⟨(in_cons _ _ _).2 (.inl ⟨Int.le_refl _, h2⟩), fun hn => ?_⟩
        rcases (in_cons _ _ _).1 hn with k | k
        · omega
        · have := h4.ahead k; omega
      · obtain ⟨j1, j2⟩ := i3 z hz
        have := i2 z hz
        refine ⟨(in_cons _ _ _).2 (.inr j1), fun hn => ?_⟩
        rcases (in_cons _ _ _).1 hn with k | k
        · omega
        · exact j2 k
theorem right_start : ∀ {l : List Sp} {a z : Int}, Right a l → In l z → ¬ In l (z - 1) → z ∈ l.map (·.1)
  | [], a, z, _, h, _ => (in_nil _ h).elim
  | x :: l, a, z, h, h1, h2 => by
    obtain ⟨k1, k2, k3, k4⟩ := h
    rcases (in_cons _ _ _).1 h1 with k | k
    · have : ¬ (x.1 ≤ z - 1 ∧ z - 1 < x.2) := fun k => h2 ((in_cons _ _ _).2 (.inl k))
      rw [show z = x.1 by omega]; simp
    · exact List.mem_cons_of_mem _ (right_start k4 k fun hn => h2 ((in_cons _ _ _).2 (.inr hn)))
theorem or_length {A out : List Sp} {x : Sp} (hA : Right 0 A) (h : IsBoth (· || ·) A [x] out) (hx : 1 ≤ x.1) : out.length ≤ A.length + 1 := by
  obtain ⟨s1, s2, s3⟩ := right_starts h.1
  have := asc_length (m := x.1 :: A.map (·.1)) s1 fun z hz => by
    obtain ⟨i1, i2⟩ := s3 z hz
    rw [h.2] at i1 i2
    obtain ⟨j1, j2, j3⟩ := i1
    have j3' : In A z ∨ In [x] z := by simpa [inB_iff] using j3
    have i2' : 1 ≤ z - 1 → ¬ In A (z - 1) ∧ ¬ In [x] (z - 1) := fun h1 => by
      have : ¬ (In A (z - 1) ∨ In [x] (z - 1)) := fun k => i2 ⟨h1, by omega, by simpa [inB_iff] using k⟩
      exact ⟨fun k => this (.inl k), fun k => this (.inr k)⟩
    rcases j3' with k | k
    · refine List.mem_cons_of_mem _ (right_start hA k fun hp => ?_)
      have := hA.ahead hp
      exact (i2' (by omega)).1 hp
    · rw [in_one] at k
      by_cases h1 : 1 ≤ z - 1
      · have := (i2' h1).2
        rw [in_one] at this
        rw [show z = x.1 by omega]; simp
      · rw [show z = x.1 by omega]; simp
  simpa using this
theorem less_length {A out : List Sp} {x : Sp} (hA : Right 0 A) (h : IsBoth (fun a b => a && !b) A [x] out) : out.length ≤ A.length + 1 := by
  obtain ⟨s1, s2, s3⟩ := right_starts h.1
  have := asc_length (m := x.2 :: A.map (·.1)) s1 fun z hz => by
    obtain ⟨i1, i2⟩ := s3 z hz
    rw [h.2] at i1 i2
    obtain ⟨j1, j2, j3⟩ := i1
    have j3' : In A z ∧ ¬ In [x] z := by simpa [inB_iff, inB_false] using j3
    by_cases hp : In A (z - 1)
    · have h1 := hA.ahead hp
      have i2' : In [x] (z - 1) := by
        refine Classical.byContradiction fun k => i2 ⟨by omega, by omega, ?_⟩
        simpa [inB_iff, inB_false] using And.intro hp k
      rw [in_one] at i2'
      have := j3'.2
      rw [in_one] at this
      rw [show z = x.2 by omega]; simp
    · exact List.mem_cons_of_mem _ (right_start hA j3'.1 hp)
  simpa using this
end Go.Proofs.Ytefaihockgebeaa
namespace Go.Proofs.Ytefaihockgebeaa
open Go.RowKit Go.ChangeMaps Go.Deep
set_option linter.unusedSimpArgs false
set_option linter.unusedVariables false
set_option maxRecDepth 20000

theorem lkReopen_may (B : Nat) (f t : Int) (w : World) (h : mayD f t = false) :
    Calls Try.prog 54 #[.pointer (some ⟨B, 0, none⟩), .agg #[.int .i64 f, .int .i64 t]] w fun e w' => e = .returned (.int .i64 15) ∧ Mod [] w w' := by
  have HM0 := Lib.hid ((Mod.refl [] w).alloc (.cells #[.int .i64 f, .int .i64 t] 64))
  have HC := Lib.hid (lkMay_any f t (w.alloc (.cells #[.int .i64 f, .int .i64 t] 64)))
  go_enter Try.func54, Try.ntmps54
  go_wp2_with fail
  refine HC.out.mono ?_
  rintro e w1 ⟨rfl, m1⟩
  rw [h]
  have HM1 := Lib.hid (HM0.out.trans m1)
  go_wp2_with fail
  go_ret
  exact ⟨rfl, HM1.out⟩
set_option maxHeartbeats 2000000 in
theorem lkReopen_any (B : Nat) (f t : Int) (sv : Value) (A : List Sp) (w : World) (hB : w.heap[B]? = some (.cells #[sv] 119 (0, 0))) (hA : SpansAt w sv A) (hlA : A.length ≤ 100000) (h : mayD f t = true) :
    Calls Try.prog 54 #[.pointer (some ⟨B, 0, none⟩), .agg #[.int .i64 f, .int .i64 t]] w fun e w' => e = .returned (.int .i64 0) ∧ Mod [B] w w' ∧ ∃ sv' out, w'.heap[B]? = some (.cells #[sv'] 119 (0, 0)) ∧ OwnS w' w.heap.size sv' out ∧ IsBoth (fun x y => x && !y) A [(f, t)] out ∧ out.length ≤ 2 * (A.length + 1) := by
  have HM0 := Lib.hid ((Mod.refl [] w).alloc (.cells #[.int .i64 f, .int .i64 t] 64))
  have HC := Lib.hid (lkMay_any f t (w.alloc (.cells #[.int .i64 f, .int .i64 t] 64)))
  have HX := Lib.hid (heap_alloc_new w (.cells #[.int .i64 f, .int .i64 t] 64))
  have HB := Lib.hid hB
  have HA := Lib.hid hA
  clear hB hA
  go_enter Try.func54, Try.ntmps54
  go_wp2_with fail
  refine HC.out.mono ?_
  rintro e W ⟨rfl, m1⟩
  rw [h]
  have HMW := Lib.hid (HM0.out.trans m1)
  have hx0 := m1.heap HX.out (by simp)
  have hB := HMW.out.heap HB.out (by simp)
  have b0 := cell_blk hB 0
  have x0 := cell_blk hx0 0
  have x1 := cell_blk hx0 1
  have hmo := (Mod.refl [] W).alloc (.cells #[.int .i64 f, .int .i64 t] 64)
  have b0a := cell_blk (hmo.heap hB (by simp)) 0
  have x0a := cell_blk (hmo.heap hx0 (by simp)) 0
  have x1a := cell_blk (hmo.heap hx0 (by simp)) 1
  simp only [List.getElem?_toArray, List.getElem?_cons_succ, List.getElem?_cons_zero] at b0 x0 x1 b0a x0a x1a
  have hmu := hmo.drew
  have HCU := Lib.hid (spLess_any sv (.slice (some ⟨W.heap.size, 0, none⟩) 1 1) A [(f, t)] ((W.alloc (.cells #[.int .i64 f, .int .i64 t] 64)).drew) ((HA.out.kept0 HMW.out).kept0 hmu) ((spans_lit W [(f, t)] _ 1 rfl rfl).kept0 ((Mod.refl [] _).drew)) hlA (by simp))
  have HHB := Lib.hid hB
  have HMU := Lib.hid hmu
  clear hmo hB hmu hx0 HC m1
  go_wp2_with fail
  refine wp_plan [([0, 1, 5, 2, 3, 4], 6, [2, 3, 4]), ([], 7, []), ([8, 9], 10, [])] [] (by kernel_rfl) (by kernel_rfl) ?_
  simp only [wpSegs, opsOf, List.map_cons, List.map_nil, opN, List.getD_cons_zero, List.getD_cons_succ]
  go_wp2_with fail
  refine ⟨by first | trivial | rfl, ?_⟩
  go_wp2_with fail
  refine ⟨?ag1, ?_⟩
  case ag1 =>
    intro i hi hw
    simp only [List.mem_cons, List.not_mem_nil, or_false] at hi
    rcases hi with rfl | rfl | rfl
    all_goals (simp only [opN, List.getD_cons_zero, List.getD_cons_succ, slotOf]; go_simp)
  go_wp2_with fail
  refine ⟨by first | trivial | rfl, ?_⟩
  go_wp2_with fail
  refine HCU.out.mono ?_
  rintro e w5 ⟨v5, out, rfl, o5, m5, h5, l5⟩
  obtain ⟨a5, c5, rfl⟩ := o5.row.form
  have hm5 := HMU.out.trans m5
  have hB5 := hm5.heap HHB.out (by simp)
  have g0 := cell_blk hB5 0
  have g1 := frozen_blk hB5 0
  simp only [List.getElem?_toArray, List.getElem?_cons_succ, List.getElem?_cons_zero] at g0
  have hB6 := heap_setCell_blk hB5 0 (.slice a5 out.length c5)
  have hms := (Mod.refl [B] w5).setCell (p := ⟨B, 0, none⟩) (by simp) (.slice a5 out.length c5)
  have hBl : B < w.heap.size := lt_of_heap HB.out
  have hwl : w.heap.size ≤ W.heap.size := HMW.out.size
  have HO6 := Lib.hid (show OwnS (w5.setCell ⟨B, 0, none⟩ (.slice a5 out.length c5)) w.heap.size (.slice a5 out.length c5) out from
    (o5.kept hms (fun b hb hm => by
      have h1 := (World.ownsRow.lt o5 b hb).1
      have h2 : W.heap.size + 1 ≤ b := by simpa using h1
      simp at hm
      omega)).mono (by show w.heap.size ≤ (W.alloc _).heap.size; simp; omega))
  have HM6 := Lib.hid (((HMW.out.trans hm5).nil (l := [B])).trans hms)
  have HB6 := Lib.hid hB6
  have HF5 := Lib.hid h5
  have HL5 := Lib.hid l5
  clear HCU b0a x0a x1a hm5 hB5 hB6 hms o5 m5 h5 l5
  go_wp2_with fail
  refine ⟨again_nil, ?_⟩
  go_wp2_with fail
  refine ⟨by first | trivial | rfl, ?_⟩
  go_wp2_with fail
  refine ⟨again_nil, ?_⟩
  go_wp2_with fail
  refine ⟨by first | trivial | rfl, ?_⟩
  go_wp2_with fail
  go_ret
  exact ⟨rfl, HM6.out, _, out, by simpa using HB6.out, HO6.out, HF5.out, HL5.out⟩
end Go.Proofs.Ytefaihockgebeaa
namespace Go.Proofs.Ytefaihockgebeaa
open Go.RowKit Go.ChangeMaps Go.Deep
set_option linter.unusedSimpArgs false
set_option linter.unusedVariables false
set_option maxRecDepth 20000

set_option maxHeartbeats 8000000 in
theorem rRises_any (v : Value) (us : List (Int × Value)) (rs : List Rn) (w : World) (h : RunsAt w v us rs) (hl : rs.length ≤ 140737488355328) (hsl : ∀ r ∈ rs, r.segs.length ≤ 140737488355328) :
    Calls Try.prog 47 #[v] w fun e w' => e = .returned (.bool (runsOk none rs)) ∧ Mod [] w w' := by
  have H := Lib.hid h
  have HSL := Lib.hid hsl
  obtain ⟨a, c, rfl⟩ := h.form
  clear h hsl
  go_enter Try.func47, Try.ntmps47
  go_wp2_with fail
  go_loopw [3] (fun s3 wr => ∃ i : Nat, i ≤ rs.length ∧ s3 = .int .i64 i ∧ Hid (Mod [] w wr) ∧ Hid (runsOk (prevR rs i) (rs.drop i) = runsOk none rs)) (fun s3 _ => rs.length - (intOf s3).toNat)
  case atStart => exact ⟨0, by omega, rfl, Lib.hid (Mod.refl _ _), Lib.hid rfl⟩
  case round =>
    obtain ⟨i, hi, rfl, hM, hv⟩ := hrel
    rename World => wo
    by_cases hlt : i < rs.length
    · obtain ⟨b, o, s, rfl, he, hc, e0, e1, hs⟩ := (H.out.kept0 hM.out).get hlt
      obtain ⟨sa, sc, rfl⟩ := hs.form
      have hlr : rs[i].segs.length ≤ 140737488355328 := HSL.out _ (List.getElem_mem hlt)
      have HPR := Lib.hid (show prevR rs (i + 1) = some rs[i].rule by simp [prevR, hlt])
      have hd := hv.out
      rw [← List.getElem_cons_drop hlt, runsOk] at hd
      have HD := Lib.hid hd
      clear hd
      generalize rs[i] = r at e0 e1 hs hlr HD HPR
      obtain ⟨rule, segs⟩ := r
      dsimp only at e0 e1 hs hlr HD HPR
      have HS := Lib.hid hs
      clear hs
      cases i with
      | zero =>
        have HD0 := Lib.hid (show (segsOk none segs && runsOk (some rule) (rs.drop (0 + 1))) = runsOk none rs by rw [← HD.out]; simp [prevR])
        simp only [Nat.zero_mul, Nat.add_zero] at e0 e1
        go_wp2_with fail
        refine wp_plan [] [0, 1, 2, 3, 4, 8, 9, 10, 5, 6, 11, 7, 12, 13, 14, 15] (by kernel_rfl) (by kernel_rfl) ?_
        simp only [wpSegs, opsOf, List.map_cons, List.map_nil, opN, List.getD_cons_zero, List.getD_cons_succ]
        go_wp2_with fail
        refine ⟨by first | trivial | rfl, ?_⟩
        go_wp2_with fail
        go_loopw [5] (fun s5 wx => ∃ k : Nat, k ≤ segs.length ∧ s5 = .int .i64 k ∧ Hid (Mod [] w wx) ∧ Hid (Mod [] wo wx) ∧ Hid (segsOk (prevS segs k) (segs.drop k) = segsOk none segs)) (fun s5 _ => segs.length - (intOf s5).toNat)
        case atStart => exact ⟨0, by omega, rfl, Lib.hid hM.out.drew, Lib.hid ((Mod.refl [] wo).drew), Lib.hid rfl⟩
        case round =>
          obtain ⟨k, hk, rfl, HMX, hM2, hv2⟩ := hrel
          by_cases hlt2 : k < segs.length
          · have hsx := HS.out.kept0 hM2.out
            have HSX := Lib.hid hsx
            obtain ⟨b2, o2, rfl, hc2, hseg⟩ := hsx.get6 hlt2
            have HPS := Lib.hid (show prevS segs (k + 1) = some segs[k].t by simp [prevS, hlt2])
            have hd2 := hv2.out
            rw [← List.getElem_cons_drop hlt2, segsOk] at hd2
            have HD2 := Lib.hid hd2
            clear hd2 hsx
            generalize segs[k] = x at hseg HD2 HPS
            obtain ⟨x1, x2, x3, x4, x5, x6⟩ := x
            obtain ⟨g0, g1, g2, g3, g4, g5⟩ := hseg
            dsimp only at g0 g1 g2 g3 g4 g5 HD2 HPS
            by_cases h1 : x2 ≤ x1
            · have HF := Lib.hid (show runsOk none rs = false by rw [← HD0.out, ← HD2.out]; simp [h1])
              go_wp2_with fail
              refine wp_plan [] [0, 1, 5, 6, 2, 7, 3, 8, 4, 9, 10, 11, 12, 13, 14, 15, 16, 21, 22, 17, 23, 18, 24, 19, 25, 20, 26, 27, 28] (by kernel_rfl) (by kernel_rfl) ?_
              simp only [wpSegs, opsOf, List.map_cons, List.map_nil, opN, List.getD_cons_zero, List.getD_cons_succ]
              go_wp2_with fail
              refine ⟨by first | trivial | rfl, ?_⟩
              go_wp2_with fail
              go_ret
              exact ⟨by rw [HF.out]; rfl, HMX.out.drew⟩
            · cases k with
              | zero =>
                have HR := Lib.hid (show segsOk (prevS segs (0 + 1)) (segs.drop (0 + 1)) = segsOk none segs by rw [HPS.out, ← HD2.out]; simp [prevS, h1])
                simp only [Nat.zero_mul, Nat.add_zero] at g0 g1 g2 g3 g4 g5
                go_wp2_with fail
                refine wp_plan [] [0, 1, 5, 6, 2, 7, 3, 8, 4, 9, 10, 11, 12, 13, 14, 15, 16, 21, 22, 17, 23, 18, 24, 19, 25, 20, 26, 27, 28] (by kernel_rfl) (by kernel_rfl) ?_
                simp only [wpSegs, opsOf, List.map_cons, List.map_nil, opN, List.getD_cons_zero, List.getD_cons_succ]
                go_wp2_with fail
                refine ⟨by first | trivial | rfl, ?_⟩
                go_wp2_with fail
                go_roundw
                case rel => exact ⟨0 + 1, by omega, by go_num, Lib.hid HMX.out.drew, Lib.hid hM2.out.drew, HR⟩
                case measure => simp [intOf]; omega
              | succ m =>
                have hm' : m < segs.length := by omega
                have cm := HSX.out.cell1 hm'
                have HPW := Lib.hid (show prevS segs (m + 1) = some segs[m].t by simp [prevS, hm'])
                generalize segs[m].t = q2 at cm HPW
                by_cases h2 : x1 < q2
                · have HF := Lib.hid (show runsOk none rs = false by rw [← HD0.out, ← HD2.out, HPW.out]; simp [h2])
                  go_wp2_with fail
                  refine wp_plan [] [0, 1, 5, 6, 2, 7, 3, 8, 4, 9, 10, 11, 12, 13, 14, 15, 16, 21, 22, 17, 23, 18, 24, 19, 25, 20, 26, 27, 28] (by kernel_rfl) (by kernel_rfl) ?_
                  simp only [wpSegs, opsOf, List.map_cons, List.map_nil, opN, List.getD_cons_zero, List.getD_cons_succ]
                  go_wp2_with fail
                  refine ⟨by first | trivial | rfl, ?_⟩
                  go_wp2_with fail
                  go_ret
                  exact ⟨by rw [HF.out]; rfl, HMX.out.drew⟩
                · have HR := Lib.hid (show segsOk (prevS segs (m + 1 + 1)) (segs.drop (m + 1 + 1)) = segsOk none segs by rw [HPS.out, ← HD2.out, HPW.out]; simp [h1, h2])
                  go_wp2_with fail
                  refine wp_plan [] [0, 1, 5, 6, 2, 7, 3, 8, 4, 9, 10, 11, 12, 13, 14, 15, 16, 21, 22, 17, 23, 18, 24, 19, 25, 20, 26, 27, 28] (by kernel_rfl) (by kernel_rfl) ?_
                  simp only [wpSegs, opsOf, List.map_cons, List.map_nil, opN, List.getD_cons_zero, List.getD_cons_succ]
                  go_wp2_with fail
                  refine ⟨by first | trivial | rfl, ?_⟩
                  go_wp2_with fail
                  go_roundw
                  case rel => exact ⟨m + 1 + 1, by omega, by go_num, Lib.hid HMX.out.drew, Lib.hid hM2.out.drew, HR⟩
                  case measure => simp [intOf]; omega
          · have HE := Lib.hid (show segsOk none segs = true by rw [← hv2.out, List.drop_of_length_le (by omega)]; rfl)
            have HN := Lib.hid (show runsOk (prevR rs (0 + 1)) (rs.drop (0 + 1)) = runsOk none rs by rw [HPR.out, ← HD0.out, HE.out, Bool.true_and])
            go_wp2_with fail
            go_roundw
            case rel => exact ⟨0 + 1, by omega, by go_num, HMX, HN⟩
            case measure => simp [intOf]; omega
      | succ j =>
        have hj : j < rs.length := by omega
        have cj := (H.out.kept0 hM.out).cell hj
        have HPV := Lib.hid (show prevR rs (j + 1) = some rs[j].rule by simp [prevR, hj])
        generalize rs[j].rule = q at cj HPV
        by_cases hle : rule ≤ q
        · have HF := Lib.hid (show runsOk none rs = false by rw [← HD.out, HPV.out]; simp [hle])
          go_wp2_with fail
          refine wp_plan [] [0, 1, 2, 3, 4, 8, 9, 10, 5, 6, 11, 7, 12, 13, 14, 15] (by kernel_rfl) (by kernel_rfl) ?_
          simp only [wpSegs, opsOf, List.map_cons, List.map_nil, opN, List.getD_cons_zero, List.getD_cons_succ]
          go_wp2_with fail
          refine ⟨by first | trivial | rfl, ?_⟩
          go_wp2_with fail
          go_ret
          exact ⟨by rw [HF.out]; rfl, hM.out.drew⟩
        · have HD0 := Lib.hid (show (segsOk none segs && runsOk (some rule) (rs.drop (j + 1 + 1))) = runsOk none rs by rw [← HD.out, HPV.out]; simp [hle])
          go_wp2_with fail
          refine wp_plan [] [0, 1, 2, 3, 4, 8, 9, 10, 5, 6, 11, 7, 12, 13, 14, 15] (by kernel_rfl) (by kernel_rfl) ?_
          simp only [wpSegs, opsOf, List.map_cons, List.map_nil, opN, List.getD_cons_zero, List.getD_cons_succ]
          go_wp2_with fail
          refine ⟨by first | trivial | rfl, ?_⟩
          go_wp2_with fail
          go_loopw [5] (fun s5 wx => ∃ k : Nat, k ≤ segs.length ∧ s5 = .int .i64 k ∧ Hid (Mod [] w wx) ∧ Hid (Mod [] wo wx) ∧ Hid (segsOk (prevS segs k) (segs.drop k) = segsOk none segs)) (fun s5 _ => segs.length - (intOf s5).toNat)
          case atStart => exact ⟨0, by omega, rfl, Lib.hid hM.out.drew, Lib.hid ((Mod.refl [] wo).drew), Lib.hid rfl⟩
          case round =>
            obtain ⟨k, hk, rfl, HMX, hM2, hv2⟩ := hrel
            by_cases hlt2 : k < segs.length
            · have hsx := HS.out.kept0 hM2.out
              have HSX := Lib.hid hsx
              obtain ⟨b2, o2, rfl, hc2, hseg⟩ := hsx.get6 hlt2
              have HPS := Lib.hid (show prevS segs (k + 1) = some segs[k].t by simp [prevS, hlt2])
              have hd2 := hv2.out
              rw [← List.getElem_cons_drop hlt2, segsOk] at hd2
              have HD2 := Lib.hid hd2
              clear hd2 hsx
              generalize segs[k] = x at hseg HD2 HPS
              obtain ⟨x1, x2, x3, x4, x5, x6⟩ := x
              obtain ⟨g0, g1, g2, g3, g4, g5⟩ := hseg
              dsimp only at g0 g1 g2 g3 g4 g5 HD2 HPS
              by_cases h1 : x2 ≤ x1
              · have HF := Lib.hid (show runsOk none rs = false by rw [← HD0.out, ← HD2.out]; simp [h1])
                go_wp2_with fail
                refine wp_plan [] [0, 1, 5, 6, 2, 7, 3, 8, 4, 9, 10, 11, 12, 13, 14, 15, 16, 21, 22, 17, 23, 18, 24, 19, 25, 20, 26, 27, 28] (by kernel_rfl) (by kernel_rfl) ?_
                simp only [wpSegs, opsOf, List.map_cons, List.map_nil, opN, List.getD_cons_zero, List.getD_cons_succ]
                go_wp2_with fail
                refine ⟨by first | trivial | rfl, ?_⟩
                go_wp2_with fail
                go_ret
                exact ⟨by rw [HF.out]; rfl, HMX.out.drew⟩
              · cases k with
                | zero =>
                  have HR := Lib.hid (show segsOk (prevS segs (0 + 1)) (segs.drop (0 + 1)) = segsOk none segs by rw [HPS.out, ← HD2.out]; simp [prevS, h1])
                  simp only [Nat.zero_mul, Nat.add_zero] at g0 g1 g2 g3 g4 g5
                  go_wp2_with fail
                  refine wp_plan [] [0, 1, 5, 6, 2, 7, 3, 8, 4, 9, 10, 11, 12, 13, 14, 15, 16, 21, 22, 17, 23, 18, 24, 19, 25, 20, 26, 27, 28] (by kernel_rfl) (by kernel_rfl) ?_
                  simp only [wpSegs, opsOf, List.map_cons, List.map_nil, opN, List.getD_cons_zero, List.getD_cons_succ]
                  go_wp2_with fail
                  refine ⟨by first | trivial | rfl, ?_⟩
                  go_wp2_with fail
                  go_roundw
                  case rel => exact ⟨0 + 1, by omega, by go_num, Lib.hid HMX.out.drew, Lib.hid hM2.out.drew, HR⟩
                  case measure => simp [intOf]; omega
                | succ m =>
                  have hm' : m < segs.length := by omega
                  have cm := HSX.out.cell1 hm'
                  have HPW := Lib.hid (show prevS segs (m + 1) = some segs[m].t by simp [prevS, hm'])
                  generalize segs[m].t = q2 at cm HPW
                  by_cases h2 : x1 < q2
                  · have HF := Lib.hid (show runsOk none rs = false by rw [← HD0.out, ← HD2.out, HPW.out]; simp [h2])
                    go_wp2_with fail
                    refine wp_plan [] [0, 1, 5, 6, 2, 7, 3, 8, 4, 9, 10, 11, 12, 13, 14, 15, 16, 21, 22, 17, 23, 18, 24, 19, 25, 20, 26, 27, 28] (by kernel_rfl) (by kernel_rfl) ?_
                    simp only [wpSegs, opsOf, List.map_cons, List.map_nil, opN, List.getD_cons_zero, List.getD_cons_succ]
                    go_wp2_with fail
                    refine ⟨by first | trivial | rfl, ?_⟩
                    go_wp2_with fail
                    go_ret
                    exact ⟨by rw [HF.out]; rfl, HMX.out.drew⟩
                  · have HR := Lib.hid (show segsOk (prevS segs (m + 1 + 1)) (segs.drop (m + 1 + 1)) = segsOk none segs by rw [HPS.out, ← HD2.out, HPW.out]; simp [h1, h2])
                    go_wp2_with fail
                    refine wp_plan [] [0, 1, 5, 6, 2, 7, 3, 8, 4, 9, 10, 11, 12, 13, 14, 15, 16, 21, 22, 17, 23, 18, 24, 19, 25, 20, 26, 27, 28] (by kernel_rfl) (by kernel_rfl) ?_
                    simp only [wpSegs, opsOf, List.map_cons, List.map_nil, opN, List.getD_cons_zero, List.getD_cons_succ]
                    go_wp2_with fail
                    refine ⟨by first | trivial | rfl, ?_⟩
                    go_wp2_with fail
                    go_roundw
                    case rel => exact ⟨m + 1 + 1, by omega, by go_num, Lib.hid HMX.out.drew, Lib.hid hM2.out.drew, HR⟩
                    case measure => simp [intOf]; omega
            · have HE := Lib.hid (show segsOk none segs = true by rw [← hv2.out, List.drop_of_length_le (by omega)]; rfl)
              have HN := Lib.hid (show runsOk (prevR rs (j + 1 + 1)) (rs.drop (j + 1 + 1)) = runsOk none rs by rw [HPR.out, ← HD0.out, HE.out, Bool.true_and])
              go_wp2_with fail
              go_roundw
              case rel => exact ⟨j + 1 + 1, by omega, by go_num, HMX, HN⟩
              case measure => simp [intOf]; omega
    · have HE := Lib.hid (show runsOk none rs = true by rw [← hv.out, List.drop_of_length_le (by omega)]; rfl)
      go_wp2_with fail
      go_ret
      exact ⟨by rw [HE.out]; rfl, hM.out⟩
end Go.Proofs.Ytefaihockgebeaa
namespace Go.Proofs.Ytefaihockgebeaa
open Go.RowKit Go.ChangeMaps Go.Deep
set_option linter.unusedSimpArgs false
set_option linter.unusedVariables false
set_option maxRecDepth 20000

def segSp (l : List Sg) : List Sp := l.map fun x => (x.f, x.t)
def runSp (rs : List Rn) : List Sp := rs.flatMap fun r => segSp r.segs
def daysR (f t : Int) (rs : List Rn) : List Int := (endsS [] ((f, t) :: runSp rs)).filter fun z => decide (f ≤ z) && decide (z < t)
def segN (rs : List Rn) : Nat := (runSp rs).length
theorem runSp_take (rs : List Rn) (i : Nat) (h : i < rs.length) : runSp (rs.take (i + 1)) = runSp (rs.take i) ++ segSp rs[i].segs := by
  simp only [runSp, List.take_succ_eq_append_getElem h, List.flatMap_append, List.flatMap_cons, List.flatMap_nil, List.append_nil]
theorem segSp_take (l : List Sg) (i : Nat) (h : i < l.length) : segSp (l.take (i + 1)) = segSp (l.take i) ++ [(l[i].f, l[i].t)] := by
  simp only [segSp, List.take_succ_eq_append_getElem h, List.map_append, List.map_cons, List.map_nil]
theorem runSp_le (rs : List Rn) (i k : Nat) (h : i < rs.length) : (runSp (rs.take i)).length + (segSp (rs[i].segs.take k)).length ≤ segN rs := by
  have e : rs = rs.take i ++ rs[i] :: rs.drop (i + 1) := by rw [List.getElem_cons_drop, List.take_append_drop]
  have h2 : segN rs = (runSp (rs.take i)).length + (rs[i].segs.length + (runSp (rs.drop (i + 1))).length) := by
    have h4 := congrArg (fun l => (runSp l).length) e
    simp only [runSp, List.flatMap_append, List.flatMap_cons, List.length_append] at h4
    have h5 : (segSp rs[i].segs).length = rs[i].segs.length := by simp [segSp]
    unfold segN runSp
    omega
  have h3 : (segSp (rs[i].segs.take k)).length ≤ rs[i].segs.length := by simp [segSp, List.length_take]; omega
  omega
theorem own_lit {α : Type} {enc : α → List Value} {k : Nat} {E : TypeId} (hk : ∀ x, (enc x).length = k) (w : World) (l : List α) (c : Array Value) (n base : Nat) (hc : c = (flat enc l).toArray) (hn : n = l.length) (hb : base ≤ w.heap.size) (hl : l.length ≤ 1000000) : OwnR enc k E (w.alloc (.cells c E)) base (.slice (some ⟨w.heap.size, 0, none⟩) n n) l := by
  subst hc; subst hn
  exact ⟨flat_length hk l, .inr ⟨w.heap.size, l.length, _, rfl, hb, heap_alloc_new w _, Nat.le_refl _, by unfold maxLen; omega, by simp [flat_length hk], by simp [← flat_length hk]⟩⟩
set_option maxHeartbeats 4000000 in
theorem rDays28_any (f t : Int) (v : Value) (us : List (Int × Value)) (rs : List Rn) (w : World) (h : RunsAt w v us rs) (hl : rs.length ≤ 140737488355328) (hsl : ∀ r ∈ rs, r.segs.length ≤ 140737488355328) (hn : segN rs ≤ 10000) :
    Calls Try.prog 85 #[.agg #[.int .i64 f, .int .i64 t], v] w fun e w' => ∃ v', e = .returned v' ∧ IntsIn w' v' (daysR f t rs) ∧ Mod [] w w' := by
  have HSL := Lib.hid hsl
  have HR := Lib.hid h
  obtain ⟨a, c, rfl⟩ := h.form
  clear h hsl
  go_enter Try.func85, Try.ntmps85
  go_wp2_with fail
  obtain ⟨W1, hW1, n1, s1, m1⟩ := alloc_named w (.cells #[.int .i64 f, .int .i64 t] 64)
  obtain ⟨W, hW, oW, mW⟩ : ∃ W, W1.alloc (.cells #[.int .i64 f, .int .i64 t] 64) = W ∧ OwnS W W1.heap.size (.slice (some ⟨w.heap.size + 1, 0, none⟩) 1 1) [(f, t)] ∧ Mod [] W1 W :=
    ⟨_, rfl, by have := own_lit (enc := encS) (E := 64) encS_len W1 [(f, t)] _ 1 W1.heap.size rfl rfl (Nat.le_refl _) (by simp); rw [s1] at this ⊢; exact this, (Mod.refl [] W1).alloc _⟩
  rw [hW1, hW]
  have HX := Lib.hid n1
  have HM1 := Lib.hid m1
  have HO := Lib.hid oW
  have HMW := Lib.hid mW
  clear hW1 hW n1 m1 oW mW s1
  go_wp2_with fail
  go_loopw [5, 6] (fun s5 s6 wr => ∃ i : Nat, i ≤ rs.length ∧ s6 = .int .i64 i ∧ Hid (OwnS wr W1.heap.size s5 ((f, t) :: runSp (rs.take i))) ∧ Hid (Mod [] W1 wr)) (fun _ s6 _ => rs.length - (intOf s6).toNat)
  case atStart => exact ⟨0, by omega, rfl, HO, HMW⟩
  case round =>
    obtain ⟨i, hi, rfl, hO, hM⟩ := hrel
    rename World => wo
    by_cases hlt : i < rs.length
    · go_wp2_with fail
      go_loopw [5, 7] (fun s5 s7 wr => ∃ k : Nat, k ≤ rs[i].segs.length ∧ s7 = .int .i64 k ∧ Hid (OwnS wr W1.heap.size s5 ((f, t) :: runSp (rs.take i) ++ segSp (rs[i].segs.take k))) ∧ Hid (Mod [] W1 wr)) (fun _ s7 _ => rs[i].segs.length - (intOf s7).toNat)
      case atStart => exact ⟨0, by omega, rfl, Lib.hid (by simpa [segSp] using hO.out), hM⟩
      case round =>
        obtain ⟨k, hk, rfl, hO2, hM2⟩ := hrel
        have hlr : rs[i].segs.length ≤ 140737488355328 := HSL.out _ (List.getElem_mem hlt)
        have HLE := Lib.hid (runSp_le rs i k hlt)
        obtain ⟨b, o, s, rfl, he, hc, e0, e1, hs⟩ := (HR.out.kept0 (HM1.out.trans hM2.out)).get hlt
        obtain ⟨sa, sc, rfl⟩ := hs.form
        by_cases hlt2 : k < rs[i].segs.length
        · obtain ⟨b2, o2, rfl, hc2, hseg⟩ := hs.get6 hlt2
          have HT := Lib.hid (segSp_take rs[i].segs k hlt2)
          have hW := (Mod.refl [] wr).drew
          obtain ⟨g0, g1, g2, g3, g4, g5⟩ := hseg
          generalize rs[i].segs[k] = x at g0 g1 HT
          obtain ⟨x1, x2, x3, x4, x5, x6⟩ := x
          dsimp only at g0 g1 HT
          obtain ⟨v', w', q1, q2, q3⟩ := own_append1 elemSpan encS_len encS_one (hO2.out.kept0 hW) (Nat.le_trans hM2.out.size hW.size) (ty := 51) (x1, x2) (by have := HLE.out; simp; omega) (by omega)
          have G1 := Lib.hid q1
          have G2 := Lib.hid (show OwnS w' W1.heap.size v' ((f, t) :: runSp (rs.take i) ++ segSp (rs[i].segs.take (k + 1))) by rw [HT.out]; simpa using q2)
          have G3 := Lib.hid (q3.intoNil (hO2.out.kept0 hW) (Nat.le_refl _) (hM2.out.trans hW))
          clear q1 q2 q3 hs g2 g3 g4 g5 hW
          go_wp2_with fail
          refine wp_plan [([0, 1, 2, 6, 10, 11, 15, 3, 12, 4, 13, 5, 14, 7, 16, 8, 17, 9, 18], 19, []), ([], 20, []), ([], 21, []), ([], 22, [])] [] (by kernel_rfl) (by kernel_rfl) ?_
          simp only [wpSegs, opsOf, List.map_cons, List.map_nil, opN, List.getD_cons_zero, List.getD_cons_succ]
          go_wp2_with fail
          refine ⟨by first | trivial | rfl, ?_⟩
          go_wp2_with fail
          refine ⟨again_nil, ?_⟩
          go_wp2_with fail
          refine ⟨by first | trivial | rfl, ?_⟩
          go_wp2_with fail
          refine ⟨again_nil, ?_⟩
          go_wp2_with fail
          refine ⟨by first | trivial | rfl, ?_⟩
          go_wp2_with ((with_reducible refine xAppendAt G1.out rfl rfl ?_ ?_ ?_ ?_); exact rfl; exact rfl; exact rfl)
          refine ⟨again_nil, ?_⟩
          go_wp2_with fail
          refine ⟨by first | trivial | rfl, ?_⟩
          go_wp2_with fail
          refine ⟨again_nil, ?_⟩
          go_wp2_with fail
          refine ⟨by first | trivial | rfl, ?_⟩
          go_wp2_with fail
          go_roundw
          case rel => exact ⟨k + 1, by omega, by go_num, G2, G3⟩
          case measure => simp [intOf]; omega
        · have HE := Lib.hid (show OwnS wr W1.heap.size u5 ((f, t) :: runSp (rs.take (i + 1))) by
            have h1 := hO2.out
            rw [show rs[i].segs.take k = rs[i].segs from List.take_of_length_le (by omega)] at h1
            rw [runSp_take rs i hlt]
            exact h1)
          clear hs
          go_wp2_with fail
          go_roundw
          case rel => exact ⟨i + 1, by omega, by go_num, HE, hM2⟩
          case measure => simp [intOf]; omega
    · have hE := Lib.hid (show OwnS wo W1.heap.size u5 ((f, t) :: runSp rs) by
        have h1 := hO.out
        rwa [List.take_of_length_le (by omega)] at h1)
      have HCE := Lib.hid (rEnds_any (.slice none 0 0) u5 [] ((f, t) :: runSp rs) wo (.nil none 0) hE.out.row (by simp) (by simp; unfold segN at hn; omega))
      go_wp2_with fail
      refine HCE.out.mono ?_
      rintro e w3 ⟨v3, rfl, i3, m3⟩
      have HI3 := Lib.hid i3
      have HM3 := Lib.hid (hM.out.trans m3)
      have HL3 := Lib.hid (show (endsS [] ((f, t) :: runSp rs)).length ≤ 30000 by
        have := length_endsS ((f, t) :: runSp rs) []
        simp at this
        unfold segN at hn
        omega)
      clear i3 m3 HCE hE
      obtain ⟨ea, ec, rfl⟩ := HI3.out.form
      generalize hD : endsS [] ((f, t) :: runSp rs) = D at HI3 HL3
      have HD := Lib.hid (show daysR f t rs = D.filter (fun z => decide (f ≤ z) && decide (z < t)) by unfold daysR; rw [hD])
      clear hD
      have hLD := HL3.out
      go_wp2_with fail
      go_loopw [8, 10] (fun s8 s10 wr => ∃ k : Nat, k ≤ D.length ∧ s10 = .int .i64 k ∧ Hid (OwnN wr w3.heap.size s8 ((D.take k).filter (fun z => decide (f ≤ z) && decide (z < t)))) ∧ Hid (Mod [] w3 wr)) (fun _ s10 _ => D.length - (intOf s10).toNat)
      case atStart => exact ⟨0, by omega, rfl, Lib.hid (OwnR.nil_ _ _), Lib.hid (Mod.refl _ _)⟩
      case round =>
        obtain ⟨k, hk, rfl, hO3, hM4⟩ := hrel
        by_cases hlt3 : k < D.length
        · obtain ⟨b, o, rfl, hc, c0⟩ := (HI3.out.kept0 hM4.out).get1 hlt3
          have hx := (HM3.out.trans hM4.out).heap HX.out (by simp)
          have x0 := cell_blk hx 0
          have x1 := cell_blk hx 1
          simp only [List.getElem?_toArray, List.getElem?_cons_succ, List.getElem?_cons_zero] at x0 x1
          have HT := Lib.hid (show (D.take (k + 1)).filter (fun z => decide (f ≤ z) && decide (z < t)) = (D.take k).filter (fun z => decide (f ≤ z) && decide (z < t)) ++ [D[k]].filter (fun z => decide (f ≤ z) && decide (z < t)) by
            rw [List.take_succ_eq_append_getElem hlt3, List.filter_append])
          have HLL := Lib.hid (show ((D.take k).filter (fun z => decide (f ≤ z) && decide (z < t))).length < 1073741824 by
            have h1 := List.length_filter_le (fun z => decide (f ≤ z) && decide (z < t)) (D.take k)
            rw [List.length_take] at h1
            omega)
          generalize D[k] = z at c0 HT
          clear hx
          by_cases hf : f ≤ z
          · by_cases ht : z < t
            · have HN := Lib.hid (show [z].filter (fun z => decide (f ≤ z) && decide (z < t)) = [z] by simp [hf, ht])
              obtain ⟨v', w', q1, q2, q3⟩ := own_append1 elemInt encI_len encI_one (hO3.out.kept0 ((Mod.refl [] wr).drew)) (Nat.le_trans hM4.out.size ((Mod.refl [] wr).drew).size) (ty := 30) z HLL.out (by omega)
              have G1 := Lib.hid q1
              have G2 := Lib.hid (show OwnN w' w3.heap.size v' ((D.take (k + 1)).filter (fun z => decide (f ≤ z) && decide (z < t))) by rw [HT.out, HN.out]; exact q2)
              have G3 := Lib.hid (q3.intoNil (hO3.out.kept0 ((Mod.refl [] wr).drew)) (Nat.le_refl _) hM4.out.drew)
              clear q1 q2 q3
              go_wp2_with fail
              refine wp_plan [] [0, 1, 4, 5, 2, 3, 6, 7, 8, 9, 12, 13, 10, 11, 14, 15] (by kernel_rfl) (by kernel_rfl) ?_
              simp only [wpSegs, opsOf, List.map_cons, List.map_nil, opN, List.getD_cons_zero, List.getD_cons_succ]
              go_wp2_with fail
              refine ⟨by first | trivial | rfl, ?_⟩
              go_wp2_with ((with_reducible refine xAppendAt G1.out rfl rfl ?_ ?_ ?_ ?_); exact rfl; exact rfl; exact rfl)
              go_roundw
              case rel => exact ⟨k + 1, by omega, by go_num, G2, G3⟩
              case measure => simp [intOf]; omega
            · have HN := Lib.hid (show [z].filter (fun z => decide (f ≤ z) && decide (z < t)) = [] by simp [ht])
              go_wp2_with fail
              refine wp_plan [] [0, 1, 4, 5, 2, 3, 6, 7, 8, 9, 12, 13, 10, 11, 14, 15] (by kernel_rfl) (by kernel_rfl) ?_
              simp only [wpSegs, opsOf, List.map_cons, List.map_nil, opN, List.getD_cons_zero, List.getD_cons_succ]
              go_wp2_with fail
              refine ⟨by first | trivial | rfl, ?_⟩
              go_wp2_with fail
              go_roundw
              case rel => exact ⟨k + 1, by omega, by go_num, Lib.hid (by rw [HT.out, HN.out, List.append_nil]; exact hO3.out.kept0 ((Mod.refl [] wr).drew)), Lib.hid hM4.out.drew⟩
              case measure => simp [intOf]; omega
          · have HN := Lib.hid (show [z].filter (fun z => decide (f ≤ z) && decide (z < t)) = [] by simp [hf])
            go_wp2_with fail
            refine wp_plan [] [0, 1, 4, 5, 2, 3, 6, 7, 8, 9, 12, 13, 10, 11, 14, 15] (by kernel_rfl) (by kernel_rfl) ?_
            simp only [wpSegs, opsOf, List.map_cons, List.map_nil, opN, List.getD_cons_zero, List.getD_cons_succ]
            go_wp2_with fail
            go_roundw
            case rel => exact ⟨k + 1, by omega, by go_num, Lib.hid (by rw [HT.out, HN.out, List.append_nil]; exact hO3.out.kept0 ((Mod.refl [] wr).drew)), Lib.hid hM4.out.drew⟩
            case measure => simp [intOf]; omega
        · have HE := Lib.hid (show OwnN wr w3.heap.size u8 (daysR f t rs) by
            have h1 := hO3.out
            rw [List.take_of_length_le (by omega)] at h1
            rw [HD.out]
            exact h1)
          go_wp2_with fail
          go_ret
          exact ⟨_, rfl, HE.out.row, HM1.out.trans (HM3.out.trans hM4.out)⟩
end Go.Proofs.Ytefaihockgebeaa
namespace Go.Proofs.Ytefaihockgebeaa
open Go.RowKit Go.ChangeMaps Go.Deep
set_option linter.unusedSimpArgs false
set_option linter.unusedVariables false
set_option maxRecDepth 20000

theorem daysR_len (f t : Int) (rs : List Rn) : (daysR f t rs).length ≤ 2 * (segN rs + 1) := by
  have h1 := List.length_filter_le (fun z => decide (f ≤ z) && decide (z < t)) (endsS [] ((f, t) :: runSp rs))
  have h2 := length_endsS ((f, t) :: runSp rs) []
  simp at h2
  unfold daysR segN
  omega
set_option maxHeartbeats 4000000 in
theorem rLeast_any (f t : Int) (v : Value) (us : List (Int × Value)) (rs : List Rn) (w : World) (h : RunsAt w v us rs) (hl : rs.length ≤ 140737488355328) (hsl : ∀ r ∈ rs, r.segs.length ≤ 140737488355328) (hn : segN rs ≤ 10000) :
    Calls Try.prog 53 #[.agg #[.int .i64 f, .int .i64 t], v] w fun e w' => e = .returned (.tuple #[encF ((leastR rs (daysR f t rs)).getD (0, 0)), .bool (leastR rs (daysR f t rs)).isSome]) ∧ Mod [] w w' := by
  have HSL := Lib.hid hsl
  have HR := Lib.hid h
  have HLD := Lib.hid (show (daysR f t rs).length ≤ 30000 by have := daysR_len f t rs; omega)
  have HCD := Lib.hid (fun W (k : Mod [] w W) => rDays28_any f t v us rs W (h.kept0 k) hl hsl hn)
  obtain ⟨a, c, rfl⟩ := h.form
  clear h hsl
  go_enter Try.func53, Try.ntmps53
  go_wp2_with fail
  obtain ⟨W1, hW1, n1, s1, m1⟩ := alloc_named w (.cells #[.int .i64 f, .int .i64 t] 64)
  obtain ⟨W, hW, n2, s2, m2⟩ := alloc_named W1 (.cells #[.int .i64 0, .int .i64 0] 75)
  rw [hW1, hW]
  rw [s1] at n2 s2
  have HX := Lib.hid n2
  have HMW := Lib.hid (m1.trans m2)
  have HS := Lib.hid s2
  clear hW1 hW n1 n2 m1 m2 s1 s2
  refine (HCD.out _ HMW.out).mono ?_
  rintro e w3 ⟨v3, rfl, i3, m3⟩
  have HI3 := Lib.hid i3
  have HX3 := Lib.hid (m3.heap HX.out (by simp))
  have HM3 := Lib.hid (HMW.out.trans m3)
  clear i3 m3 HCD
  generalize hD : daysR f t rs = D at HI3 HLD
  obtain ⟨ea, ec, rfl⟩ := HI3.out.form
  have hLD := HLD.out
  have HDD := Lib.hid hD
  clear hD
  go_wp2_with fail
  go_loopw [7] (fun s7 wr => ∃ i : Nat, i ≤ D.length ∧ s7 = .int .i64 i ∧ Hid (leastR rs (D.drop i) = leastR rs D) ∧ Hid (Mod [] w3 wr)) (fun s7 _ => D.length - (intOf s7).toNat)
  case atStart => exact ⟨0, by omega, rfl, Lib.hid rfl, Lib.hid (Mod.refl _ _)⟩
  case round =>
    obtain ⟨i, hi, rfl, hv, hM⟩ := hrel
    rename World => wo
    by_cases hlt : i < D.length
    · have hd := hv.out
      rw [← List.getElem_cons_drop hlt, leastR] at hd
      have HD := Lib.hid hd
      have HGD := Lib.hid (fun W (k : Mod [] w3 W) => (HI3.out.kept0 k).get1 hlt)
      clear hd
      generalize D[i] = d at HD HGD
      go_wp2_with fail
      go_loopw [8] (fun s8 wr => ∃ k : Nat, k ≤ rs.length ∧ s8 = .int .i64 k ∧ Hid (failAt (rs.drop k) d = failAt rs d) ∧ Hid (Mod [] w3 wr)) (fun s8 _ => rs.length - (intOf s8).toNat)
      case atStart => exact ⟨0, by omega, rfl, Lib.hid rfl, hM⟩
      case round =>
        obtain ⟨k, hk, rfl, hv2, hM2⟩ := hrel
        by_cases hlt2 : k < rs.length
        · have hlr : rs[k].segs.length ≤ 140737488355328 := HSL.out _ (List.getElem_mem hlt2)
          have hW := (Mod.refl [] wr).drew
          obtain ⟨b, o, s, rfl, he, hc, e0, e1, hs⟩ := (HR.out.kept0 (HM3.out.trans hM2.out)).get hlt2
          obtain ⟨b1, o1, rfl, hc1, d0⟩ := HGD.out wr hM2.out
          have hd2 := hv2.out
          rw [← List.getElem_cons_drop hlt2, failAt] at hd2
          have HD2 := Lib.hid hd2
          clear hd2
          generalize rs[k] = r at e0 e1 hs hlr HD2
          obtain ⟨rule, segs⟩ := r
          dsimp only at e0 e1 hs hlr HD2
          have HTR := Lib.hid (rTrue_any d rule s segs wr.drew (hs.kept0 hW) hlr)
          obtain ⟨sa, sc, rfl⟩ := hs.form
          clear hs hW
          by_cases ht : trueG segs d = true
          · rw [ht] at HTR
            have HN := Lib.hid (show failAt (rs.drop (k + 1)) d = failAt rs d by rw [← HD2.out, if_pos ht])
            go_wp2_with fail
            refine wp_plan [([0, 1, 4, 5, 2, 6, 3, 7], 8, [])] [9] (by kernel_rfl) (by kernel_rfl) ?_
            simp only [wpSegs, opsOf, List.map_cons, List.map_nil, opN, List.getD_cons_zero, List.getD_cons_succ]
            go_wp2_with fail
            refine ⟨by first | trivial | rfl, ?_⟩
            go_wp2_with fail
            refine HTR.out.mono ?_
            rintro e w4 ⟨rfl, m4⟩
            have HM4 := Lib.hid (hM2.out.drew.trans m4)
            clear m4 HTR
            go_wp2_with fail
            refine ⟨again_nil, ?_⟩
            go_wp2_with fail
            refine ⟨by first | trivial | rfl, ?_⟩
            go_wp2_with fail
            go_roundw
            case rel => exact ⟨k + 1, by omega, by go_num, HN, HM4⟩
            case measure => simp [intOf]; omega
          · have htf : trueG segs d = false := by simpa using ht
            rw [htf] at HTR
            have HF := Lib.hid (show leastR rs D = some (d, rule) by rw [← HD.out, ← HD2.out, if_neg ht])
            go_wp2_with fail
            refine wp_plan [([0, 1, 4, 5, 2, 6, 3, 7], 8, [])] [9] (by kernel_rfl) (by kernel_rfl) ?_
            simp only [wpSegs, opsOf, List.map_cons, List.map_nil, opN, List.getD_cons_zero, List.getD_cons_succ]
            go_wp2_with fail
            refine ⟨by first | trivial | rfl, ?_⟩
            go_wp2_with fail
            refine HTR.out.mono ?_
            rintro e w4 ⟨rfl, m4⟩
            have HM4 := Lib.hid (hM2.out.drew.trans m4)
            have m4x := m4
            have hx := (hM2.out.drew.trans m4).heap HX3.out (by simp)
            have r0 := cell_blk hx 0
            have r1 := cell_blk hx 1
            have r2 := frozen_blk hx 0
            have r3 := frozen_blk hx 1
            simp only [List.getElem?_toArray, List.getElem?_cons_succ, List.getElem?_cons_zero] at r0 r1
            have hy := heap_setCell_blk (heap_setCell_blk hx 0 (.int .i64 d)) 1 (.int .i64 rule)
            have q0 := cell_blk hy 0
            have q1 := cell_blk hy 1
            simp at q0 q1
            have HMF := Lib.hid (((HM3.out.trans (hM2.out.drew.trans m4)).setCellNew (p := ⟨w.heap.size + 1, 0, none⟩) (by simp) (.int .i64 d)).setCellNew (p := ⟨w.heap.size + 1, 1, none⟩) (by simp) (.int .i64 rule))
            clear hx hy
            obtain ⟨b1', o1', e1', _, d1⟩ := HGD.out w4 (hM2.out.drew.trans m4)
            simp only [Option.some.injEq, Addr.mk.injEq, and_true] at e1'
            obtain ⟨rfl, rfl⟩ := e1'
            have e2 := cell_kept e0 (((Mod.refl [] wr).drew).trans m4)
            clear m4 m4x HTR
            go_wp2_with fail
            refine ⟨again_nil, ?_⟩
            go_wp2_with fail
            refine ⟨by first | trivial | rfl, ?_⟩
            go_wp2_with fail
            refine wp_plan [([0, 1, 4, 5, 2, 6, 3, 7, 8], 9, []), ([], 10, [])] [11] (by kernel_rfl) (by kernel_rfl) ?_
            simp only [wpSegs, opsOf, List.map_cons, List.map_nil, opN, List.getD_cons_zero, List.getD_cons_succ]
            go_wp2_with fail
            refine ⟨by first | trivial | rfl, ?_⟩
            go_wp2_with fail
            refine ⟨again_nil, ?_⟩
            go_wp2_with fail
            refine ⟨by first | trivial | rfl, ?_⟩
            go_wp2_with fail
            refine ⟨again_nil, ?_⟩
            go_wp2_with fail
            refine ⟨by first | trivial | rfl, ?_⟩
            go_wp2_with fail
            exact bodyPost_ret (v := .tuple #[.agg #[.int .i64 d, .int .i64 rule], .bool true]) (by simp [results, Try.results53, go_sem, q0, q1]) rfl ⟨by rw [HDD.out, HF.out]; rfl, HMF.out.drew⟩
        · have HE := Lib.hid (show leastR rs (D.drop (i + 1)) = leastR rs D by
            have h1 := hv2.out
            rw [List.drop_of_length_le (by omega), failAt] at h1
            rw [← HD.out, ← h1])
          go_wp2_with fail
          go_roundw
          case rel => exact ⟨i + 1, by omega, by go_num, HE, hM2⟩
          case measure => simp [intOf]; omega
    · have HE := Lib.hid (show leastR rs D = none by rw [← hv.out, List.drop_of_length_le (by omega)]; rfl)
      have hx := (hM.out).heap HX3.out (by simp)
      have r0 := cell_blk hx 0
      have r1 := cell_blk hx 1
      have r2 := frozen_blk hx 0
      have r3 := frozen_blk hx 1
      simp only [List.getElem?_toArray, List.getElem?_cons_succ, List.getElem?_cons_zero] at r0 r1
      have hy := heap_setCell_blk (heap_setCell_blk hx 0 (.int .i64 0)) 1 (.int .i64 0)
      have q0 := cell_blk hy 0
      have q1 := cell_blk hy 1
      simp at q0 q1
      have HMF := Lib.hid (((HM3.out.trans (hM.out)).setCellNew (p := ⟨w.heap.size + 1, 0, none⟩) (by simp) (.int .i64 0)).setCellNew (p := ⟨w.heap.size + 1, 1, none⟩) (by simp) (.int .i64 0))
      clear hx hy
      go_wp2_with fail
      exact bodyPost_ret (v := .tuple #[.agg #[.int .i64 0, .int .i64 0], .bool false]) (by simp [results, Try.results53, go_sem, q0, q1]) rfl ⟨by rw [HDD.out, HE.out]; rfl, HMF.out⟩
end Go.Proofs.Ytefaihockgebeaa
namespace Go.Proofs.Ytefaihockgebeaa
open Go.RowKit Go.ChangeMaps Go.Deep
set_option linter.unusedSimpArgs false
set_option linter.unusedVariables false
set_option maxRecDepth 20000
theorem own_neL {w : World} {base S : Nat} {v sv : Value} {l : List Sp} (h : OwnS w base v l) (hS : w.heap[S]? = some (.cells #[sv] 119 (0, 0))) : v.ownBlock ≠ some S := by
  intro e
  rcases h.2 with ⟨rfl, _⟩ | ⟨g, cap, cur, rfl, hb, hg, _⟩
  · cases e
  · simp only [Value.ownBlock, Option.some.injEq] at e
    subst e
    rw [hg] at hS
    simp only [Option.some.injEq, Obj.cells.injEq] at hS
    exact absurd hS.2.1 (by decide)
/-- locks as they lie, and the locked days beside them -/
structure PlAt (w w' : World) (S : Nat) (sv lv : Value) (A : List Sp) (n : Nat) : Prop where
  mod : Mod [] w w'
  box : w'.heap[S]? = some (.cells #[sv] 119 (0, 0))
  new : w.heap.size ≤ S
  own : OwnS w' w.heap.size sv A
  lock : OwnS w' w.heap.size lv A
  right : Right 0 A
  len : A.length ≤ n
theorem PlAt.kept0 {w a b : World} {S : Nat} {sv lv : Value} {A : List Sp} {n : Nat} (h : PlAt w a S sv lv A n) (hm : Mod [] a b) : PlAt w b S sv lv A n :=
  ⟨h.mod.trans hm, hm.heap h.box (by simp), h.new, h.own.kept0 hm, h.lock.kept0 hm, h.right, h.len⟩
theorem own_neF {w : World} {base S : Nat} {v : Value} {c : Array Value} {l : List Sp} (h : OwnS w base v l) (hS : w.heap[S]? = some (.cells c 75 (0, 0))) : v.ownBlock ≠ some S := by
  intro e
  rcases h.2 with ⟨rfl, _⟩ | ⟨g, cap, cur, rfl, hb, hg, _⟩
  · cases e
  · simp only [Value.ownBlock, Option.some.injEq] at e
    subst e
    rw [hg] at hS
    simp only [Option.some.injEq, Obj.cells.injEq] at hS
    exact absurd hS.2.1 (by decide)
theorem neq_fail (x y : Int × Int) (w : World) : (binOp .neq 75 (.agg #[.int .i64 x.1, .int .i64 x.2]) (.agg #[.int .i64 y.1, .int .i64 y.2])).run Try.prog w = .ok (.bool (!decide (x = y))) w := by
  obtain ⟨a, b⟩ := x
  obtain ⟨c, d⟩ := y
  go_simp
  repeat' split
  all_goals simp [*]
theorem segN_le (rs : List Rn) : segN rs ≤ runsN rs := by
  unfold segN runsN
  induction rs with
  | nil => simp [runSp]
  | cons r rs ih =>
    simp only [runSp, List.flatMap_cons, List.length_append, List.map_cons, List.sum_cons] at ih ⊢
    have : (segSp r.segs).length = r.segs.length := by simp [segSp]
    omega
theorem runsN_mem {rs : List Rn} {r : Rn} (h : r ∈ rs) : r.segs.length + 1 ≤ runsN rs := by
  unfold runsN
  induction rs with
  | nil => cases h
  | cons x rs ih =>
    simp only [List.map_cons, List.sum_cons]
    cases h with
    | head => omega
    | tail _ h => have := ih h; omega
theorem runsN_len (rs : List Rn) : rs.length ≤ runsN rs := by
  unfold runsN
  induction rs with
  | nil => simp
  | cons x rs ih => simp only [List.map_cons, List.sum_cons, List.length_cons]; omega
theorem least_here {f t : Int} {rs : List Rn} (hmay : mayD f t = true) (hris : runsOk none rs = true) : leastR rs (daysR f t rs) = leastL (failsL f t rs) := by
  simp only [mayD, Bool.and_eq_true, decide_eq_true_eq] at hmay
  obtain ⟨⟨h1, h2⟩, h3⟩ := hmay
  refine leastR_is (runsOk_all hris) _ ?_ ?_ ?_ ?_
  · exact (asc_endsS (l := (f, t) :: runSp rs) (E := []) .nil).filter _
  · intro d hd
    have := (List.mem_filter.1 hd).2
    simpa using this
  · intro _
    refine List.mem_filter.2 ⟨mem_endsS.2 (.inr ⟨(f, t), .head _, .inl ?_⟩), by simp; omega⟩
    unfold held; rw [if_neg (by dsimp only; omega), if_neg (by dsimp only; omega)]
  · intro r hr x hx hf ht
    refine List.mem_filter.2 ⟨mem_endsS.2 (.inr ⟨(x.f, x.t), .tail _ ?_, .inr ?_⟩), by simp; omega⟩
    · exact List.mem_flatMap.2 ⟨r, hr, List.mem_map.2 ⟨x, hx, rfl⟩⟩
    · unfold held; rw [if_neg (by dsimp only; omega), if_neg (by dsimp only; omega)]
set_option maxHeartbeats 4000000 in
theorem plays28_any (v vd : Value) (us : List ((Int × Int × Int) × Value)) (xs : List OpX) (D : List Sp) (w : World) (h : OpsAt w v us xs) (hl : xs.length ≤ 140737488355328) (hn : opsN xs ≤ 1048576) (hD : SpansAt w vd D) (hDl : D.length ≤ 140737488355328) :
    Calls Try.prog 10 #[v, vd] w fun e w' => e = .returned (.bool true) ∧ Mod [] w w' := by
  have H := Lib.hid h
  have HD := Lib.hid hD
  have HG := Lib.hid (great28_val v us xs w h hl hn)
  have HON := Lib.hid hn
  obtain ⟨a, c, rfl⟩ := h.form
  obtain ⟨da, dc, rfl⟩ := hD.form
  clear h hD
  go_enter Try.func10, Try.ntmps10
  go_wp2_with fail
  refine HG.out.mono ?_
  rintro e w1 ⟨rfl, rfl⟩
  by_cases hgr : greatL xs = true ∨ 20 < D.length
  · rcases hgr with hgr | hgr
    · rw [hgr]
      go_wp2_with fail
      refine (known28_any _).mono ?_
      rintro e wk ⟨rfl, mk⟩
      have HMK := Lib.hid mk
      go_wp2_with fail
      go_ret
      exact ⟨rfl, HMK.out⟩
    · generalize greatL xs = g
      cases g
      all_goals
        go_wp2_with fail
        refine (known28_any _).mono ?_
        rintro e wk ⟨rfl, mk⟩
        have HMK := Lib.hid mk
        go_wp2_with fail
        go_ret
        exact ⟨rfl, HMK.out⟩
  · have hD20 : D.length ≤ 20 := by
      refine Nat.le_of_not_lt fun h => hgr (.inr h)
    have hg : greatL xs = false := by
      cases hc : greatL xs with
      | false => rfl
      | true => exact (hgr (.inl hc)).elim
    have hx30 : xs.length ≤ 30 := by
      unfold greatL at hg
      simp at hg
      omega
    have hN : opsN xs ≤ 200 := by
      unfold greatL at hg
      simp at hg
      omega
    rw [hg]
    clear hgr hg HG
    go_wp2_with fail
    refine (lkNew_any w1).mono ?_
    rintro e w2 ⟨rfl, rfl⟩
    obtain ⟨W, hW, n0, s0, m0⟩ := alloc_named w1 (.cells #[.slice none 0 0] 119)
    rw [hW]
    have HP0 := Lib.hid (show PlAt w1 W w1.heap.size (.slice none 0 0) (.slice none 0 0) [] 0 from ⟨m0, n0, Nat.le_refl _, OwnR.nil_ _ _, OwnR.nil_ _ _, trivial, by simp⟩)
    clear hW n0 s0 m0
    go_wp2_with fail
    go_loopw [5, 6, 32] (fun s5 s6 s32 wr => ∃ (i S : Nat) (sv : Value) (A : List Sp), i ≤ xs.length ∧ s32 = .int .i64 i ∧ s5 = .pointer (some ⟨S, 0, none⟩) ∧ Hid (PlAt w1 wr S sv s6 A i)) (fun _ _ s32 _ => xs.length - (intOf s32).toNat)
    case atStart => exact ⟨0, _, _, [], by omega, rfl, rfl, HP0⟩
    case round =>
      obtain ⟨i, S, sv, A, hi, rfl, rfl, HP⟩ := hrel
      by_cases hlt : i < xs.length
      · obtain ⟨b, o, s, vs, rfl, he, hc, e0, e1, e2, e3, hs⟩ := H.out.get hlt
        obtain ⟨sa, sc, rfl⟩ := hs.form
        have e0 := cell_kept e0 HP.out.mod
        have e1 := cell_kept e1 HP.out.mod
        have e2 := cell_kept e2 HP.out.mod
        have e3 := cell_kept e3 HP.out.mod
        have HS := Lib.hid hs
        have HXN := Lib.hid (show runsN xs[i].runs ≤ 200 by
          have h1 := sum_take (fun x : OpX => runsN x.runs) xs i hlt
          have h2 := sum_take_le (fun x : OpX => runsN x.runs) xs (i + 1)
          have h3 : ((xs.map fun x : OpX => runsN x.runs)).sum ≤ 200 := hN
          omega)
        generalize xs[i] = x at e0 e1 e2 e3 HS HXN
        obtain ⟨kind, f, t, rs⟩ := x
        dsimp only at e0 e1 e2 e3 HS HXN
        clear hs
        have HRU := Lib.hid (show RunsAt w1 (.slice sa rs.length sc) vs rs from HS.out)
        have HRL := Lib.hid (show rs.length ≤ 140737488355328 by have := runsN_len rs; have := HXN.out; omega)
        have HSL := Lib.hid (show ∀ r ∈ rs, r.segs.length ≤ 140737488355328 from fun r hr => by have := runsN_mem hr; have := HXN.out; omega)
        have HSN := Lib.hid (show segN rs ≤ 10000 by have := segN_le rs; have := HXN.out; omega)
        have HN := Lib.hid HP.out.new
        have HRT := Lib.hid HP.out.right
        have HLN := Lib.hid (show A.length ≤ i ∧ i < 30 from ⟨HP.out.len, by omega⟩)
        have HBS := Lib.hid (lt_of_heap HP.out.box)
        obtain ⟨X0, hX0, n0, sz0, m0⟩ := alloc_named wr (.cells #[.int .i64 kind, .int .i64 f, .int .i64 t, .slice sa rs.length sc] 68)
        have HM := Lib.hid (HP.out.mod.trans m0)
        have HO := Lib.hid n0
        have HB := Lib.hid (m0.heap HP.out.box (by simp))
        have HOS := Lib.hid (HP.out.own.kept0 m0)
        have HOL := Lib.hid (HP.out.lock.kept0 m0)
        have b0 := cell_blk n0 0
        have b1 := cell_blk n0 1
        have b2 := cell_blk n0 2
        have b3 := cell_blk n0 3
        simp only [List.getElem?_toArray, List.getElem?_cons_succ, List.getElem?_cons_zero] at b0 b1 b2 b3
        clear n0 m0 sz0
        go_upto_region 10 with fail
        iterate 10 (first | (go_says fail) | go_values | go_skip | go_guarded | go_step | go_upon | go_back)
        go_cut [5, 6] from 38 to 128 (fun s5 s6 w' => ∃ (S : Nat) (sv : Value) (A : List Sp), s5 = .pointer (some ⟨S, 0, none⟩) ∧ Hid (PlAt w1 w' S sv s6 A (i + 1)))
        case first =>
          have HLI := Lib.hid (show i < 30 by have := HLN.out; omega)
          have HLN := Lib.hid (show A.length ≤ i by have := HLN.out; omega)
          by_cases hk1 : kind = 1
          · subst hk1
            cases hmay : mayD f t with
            | false =>
              go_wp2_with fail
              refine (lkSubmit_may S f t _ X0 hmay).mono ?_
              rintro e Y1 ⟨rfl, m⟩
              have HM := Lib.hid (HM.out.trans m)
              have HO := Lib.hid (m.heap HO.out (by simp))
              have HB := Lib.hid (m.heap HB.out (by simp))
              have HOS := Lib.hid (HOS.out.kept0 m)
              have HOL := Lib.hid (HOL.out.kept0 m)
              clear m
              have b0 := cell_blk HO.out 0
              have b1 := cell_blk HO.out 1
              have b2 := cell_blk HO.out 2
              have b3 := cell_blk HO.out 3
              simp only [List.getElem?_toArray, List.getElem?_cons_succ, List.getElem?_cons_zero] at b0 b1 b2 b3
              have m := (Mod.refl [] Y1).alloc (.cells #[.int .i64 0, .int .i64 0] 75)
              have hnew := heap_alloc_new Y1 (.cells #[.int .i64 0, .int .i64 0] 75)
              have HM := Lib.hid (HM.out.trans m)
              have HO := Lib.hid (m.heap HO.out (by simp))
              have HB := Lib.hid (m.heap HB.out (by simp))
              have HOS := Lib.hid (HOS.out.kept0 m)
              have HOL := Lib.hid (HOL.out.kept0 m)
              clear m
              have HF9 := Lib.hid hnew
              clear hnew
              have b0 := cell_blk HO.out 0
              have b1 := cell_blk HO.out 1
              have b2 := cell_blk HO.out 2
              have b3 := cell_blk HO.out 3
              simp only [List.getElem?_toArray, List.getElem?_cons_succ, List.getElem?_cons_zero] at b0 b1 b2 b3
              have p0 := cell_blk HF9.out 0
              have p1 := cell_blk HF9.out 1
              simp only [List.getElem?_toArray, List.getElem?_cons_succ, List.getElem?_cons_zero] at p0 p1
              go_wp2_with fail
              refine (rLeast_any f t _ vs rs _ (HRU.out.kept0 HM.out) HRL.out HSL.out HSN.out).mono ?_
              rintro e Y2 ⟨rfl, m⟩
              generalize (leastR rs (daysR f t rs)).getD (0, 0) = y
              generalize (leastR rs (daysR f t rs)).isSome = z
              obtain ⟨y1, y2⟩ := y
              simp only [encF]
              have HM := Lib.hid (HM.out.trans m)
              have HO := Lib.hid (m.heap HO.out (by simp))
              have HB := Lib.hid (m.heap HB.out (by simp))
              have HOS := Lib.hid (HOS.out.kept0 m)
              have HOL := Lib.hid (HOL.out.kept0 m)
              have HF9 := Lib.hid (m.heap HF9.out (by simp))
              clear m
              have g9 := lt_of_heap HF9.out
              have gS := lt_of_heap HB.out
              have gO := lt_of_heap HO.out
              have m := (Mod.refl [] Y2).alloc (.cells #[.int .i64 y1, .int .i64 y2] 75)
              have hnew := heap_alloc_new Y2 (.cells #[.int .i64 y1, .int .i64 y2] 75)
              have HM := Lib.hid (HM.out.trans m)
              have HO := Lib.hid (m.heap HO.out (by simp))
              have HB := Lib.hid (m.heap HB.out (by simp))
              have HOS := Lib.hid (HOS.out.kept0 m)
              have HOL := Lib.hid (HOL.out.kept0 m)
              have HF9 := Lib.hid (m.heap HF9.out (by simp))
              clear m
              have HF12 := Lib.hid hnew
              clear hnew
              have b0 := cell_blk HO.out 0
              have b1 := cell_blk HO.out 1
              have b2 := cell_blk HO.out 2
              have b3 := cell_blk HO.out 3
              simp only [List.getElem?_toArray, List.getElem?_cons_succ, List.getElem?_cons_zero] at b0 b1 b2 b3
              have p0 := cell_blk HF9.out 0
              have p1 := cell_blk HF9.out 1
              simp only [List.getElem?_toArray, List.getElem?_cons_succ, List.getElem?_cons_zero] at p0 p1
              have q0 := cell_blk HF12.out 0
              have q1 := cell_blk HF12.out 1
              simp only [List.getElem?_toArray, List.getElem?_cons_succ, List.getElem?_cons_zero] at q0 q1
              go_wp2_with fail
              refine (rMay28_any f t _).mono ?_
              rintro e Y3 ⟨rfl, m⟩
              rw [hmay]
              have HM := Lib.hid (HM.out.trans m)
              have HO := Lib.hid (m.heap HO.out (by simp))
              have HB := Lib.hid (m.heap HB.out (by simp))
              have HOS := Lib.hid (HOS.out.kept0 m)
              have HOL := Lib.hid (HOL.out.kept0 m)
              have HF9 := Lib.hid (m.heap HF9.out (by simp))
              have HF12 := Lib.hid (m.heap HF12.out (by simp))
              clear m
              have b0 := cell_blk HO.out 0
              have b1 := cell_blk HO.out 1
              have b2 := cell_blk HO.out 2
              have b3 := cell_blk HO.out 3
              simp only [List.getElem?_toArray, List.getElem?_cons_succ, List.getElem?_cons_zero] at b0 b1 b2 b3
              have p0 := cell_blk HF9.out 0
              have p1 := cell_blk HF9.out 1
              simp only [List.getElem?_toArray, List.getElem?_cons_succ, List.getElem?_cons_zero] at p0 p1
              have q0 := cell_blk HF12.out 0
              have q1 := cell_blk HF12.out 1
              simp only [List.getElem?_toArray, List.getElem?_cons_succ, List.getElem?_cons_zero] at q0 q1
              have f0 := frozen_blk HF12.out 0
              have f1 := frozen_blk HF12.out 1
              have hs := heap_setCell_blk (heap_setCell_blk HF12.out 0 (.int .i64 0)) 1 (.int .i64 0)
              have hm := ((Mod.refl [Y2.heap.size] Y3).setCell (p := ⟨Y2.heap.size, 0, none⟩) (by simp) (.int .i64 0)).setCell (p := ⟨Y2.heap.size, 1, none⟩) (by simp) (.int .i64 0)
              have HM := Lib.hid (HM.out.newerK hm (by have := HN.out; simp; omega))
              have HOS := Lib.hid (HOS.out.kept hm (fun b hb hm' => by simp at hm'; subst hm'; exact own_neF HOS.out HF12.out hb))
              have HOL := Lib.hid (HOL.out.kept hm (fun b hb hm' => by simp at hm'; subst hm'; exact own_neF HOL.out HF12.out hb))
              have HF9 := Lib.hid (hm.heap HF9.out (by simp; omega))
              have HB := Lib.hid (hm.heap HB.out (by simp; omega))
              have HO := Lib.hid (hm.heap HO.out (by simp; omega))
              have HF12 := Lib.hid hs
              skip
              clear hs hm
              have p0 := cell_blk HF9.out 0
              have p1 := cell_blk HF9.out 1
              have q2 := cell_blk HF12.out 0
              have q3 := cell_blk HF12.out 1
              simp at p0 p1 q2 q3
              have HQ := Lib.hid (fun W => neq_fail (0, 0) (0, 0) W)
              rw [decide_eq_true rfl] at HQ
              simp only [Bool.not_true] at HQ
              go_wp2_with ((with_reducible refine xEqAgg (t := 75) rfl (HQ.out _) guard_fail ?_ ?_ ?_ ?_); exact rfl; exact rfl; exact rfl)
              go_meet
              case rel => exact ⟨S, _, A, rfl, Lib.hid ⟨HM.out, HB.out, HN.out, HOS.out, HOL.out, HRT.out, by have := HLN.out; omega⟩⟩
            | true =>
              cases hris : runsOk none rs with
              | false =>
                go_wp2_with fail
                refine (lkSubmit_rises S f t _ vs rs X0 (HRU.out.kept0 HM.out) HRL.out HSL.out hmay hris).mono ?_
                rintro e Y1 ⟨rfl, m⟩
                have HM := Lib.hid (HM.out.trans m)
                have HO := Lib.hid (m.heap HO.out (by simp))
                have HB := Lib.hid (m.heap HB.out (by simp))
                have HOS := Lib.hid (HOS.out.kept0 m)
                have HOL := Lib.hid (HOL.out.kept0 m)
                clear m
                have b0 := cell_blk HO.out 0
                have b1 := cell_blk HO.out 1
                have b2 := cell_blk HO.out 2
                have b3 := cell_blk HO.out 3
                simp only [List.getElem?_toArray, List.getElem?_cons_succ, List.getElem?_cons_zero] at b0 b1 b2 b3
                have m := (Mod.refl [] Y1).alloc (.cells #[.int .i64 0, .int .i64 0] 75)
                have hnew := heap_alloc_new Y1 (.cells #[.int .i64 0, .int .i64 0] 75)
                have HM := Lib.hid (HM.out.trans m)
                have HO := Lib.hid (m.heap HO.out (by simp))
                have HB := Lib.hid (m.heap HB.out (by simp))
                have HOS := Lib.hid (HOS.out.kept0 m)
                have HOL := Lib.hid (HOL.out.kept0 m)
                clear m
                have HF9 := Lib.hid hnew
                clear hnew
                have b0 := cell_blk HO.out 0
                have b1 := cell_blk HO.out 1
                have b2 := cell_blk HO.out 2
                have b3 := cell_blk HO.out 3
                simp only [List.getElem?_toArray, List.getElem?_cons_succ, List.getElem?_cons_zero] at b0 b1 b2 b3
                have p0 := cell_blk HF9.out 0
                have p1 := cell_blk HF9.out 1
                simp only [List.getElem?_toArray, List.getElem?_cons_succ, List.getElem?_cons_zero] at p0 p1
                go_wp2_with fail
                refine (rLeast_any f t _ vs rs _ (HRU.out.kept0 HM.out) HRL.out HSL.out HSN.out).mono ?_
                rintro e Y2 ⟨rfl, m⟩
                generalize (leastR rs (daysR f t rs)).getD (0, 0) = y
                generalize (leastR rs (daysR f t rs)).isSome = z
                obtain ⟨y1, y2⟩ := y
                simp only [encF]
                have HM := Lib.hid (HM.out.trans m)
                have HO := Lib.hid (m.heap HO.out (by simp))
                have HB := Lib.hid (m.heap HB.out (by simp))
                have HOS := Lib.hid (HOS.out.kept0 m)
                have HOL := Lib.hid (HOL.out.kept0 m)
                have HF9 := Lib.hid (m.heap HF9.out (by simp))
                clear m
                have g9 := lt_of_heap HF9.out
                have gS := lt_of_heap HB.out
                have gO := lt_of_heap HO.out
                have m := (Mod.refl [] Y2).alloc (.cells #[.int .i64 y1, .int .i64 y2] 75)
                have hnew := heap_alloc_new Y2 (.cells #[.int .i64 y1, .int .i64 y2] 75)
                have HM := Lib.hid (HM.out.trans m)
                have HO := Lib.hid (m.heap HO.out (by simp))
                have HB := Lib.hid (m.heap HB.out (by simp))
                have HOS := Lib.hid (HOS.out.kept0 m)
                have HOL := Lib.hid (HOL.out.kept0 m)
                have HF9 := Lib.hid (m.heap HF9.out (by simp))
                clear m
                have HF12 := Lib.hid hnew
                clear hnew
                have b0 := cell_blk HO.out 0
                have b1 := cell_blk HO.out 1
                have b2 := cell_blk HO.out 2
                have b3 := cell_blk HO.out 3
                simp only [List.getElem?_toArray, List.getElem?_cons_succ, List.getElem?_cons_zero] at b0 b1 b2 b3
                have p0 := cell_blk HF9.out 0
                have p1 := cell_blk HF9.out 1
                simp only [List.getElem?_toArray, List.getElem?_cons_succ, List.getElem?_cons_zero] at p0 p1
                have q0 := cell_blk HF12.out 0
                have q1 := cell_blk HF12.out 1
                simp only [List.getElem?_toArray, List.getElem?_cons_succ, List.getElem?_cons_zero] at q0 q1
                go_wp2_with fail
                refine (rMay28_any f t _).mono ?_
                rintro e Y3 ⟨rfl, m⟩
                rw [hmay]
                have HM := Lib.hid (HM.out.trans m)
                have HO := Lib.hid (m.heap HO.out (by simp))
                have HB := Lib.hid (m.heap HB.out (by simp))
                have HOS := Lib.hid (HOS.out.kept0 m)
                have HOL := Lib.hid (HOL.out.kept0 m)
                have HF9 := Lib.hid (m.heap HF9.out (by simp))
                have HF12 := Lib.hid (m.heap HF12.out (by simp))
                clear m
                have b0 := cell_blk HO.out 0
                have b1 := cell_blk HO.out 1
                have b2 := cell_blk HO.out 2
                have b3 := cell_blk HO.out 3
                simp only [List.getElem?_toArray, List.getElem?_cons_succ, List.getElem?_cons_zero] at b0 b1 b2 b3
                have p0 := cell_blk HF9.out 0
                have p1 := cell_blk HF9.out 1
                simp only [List.getElem?_toArray, List.getElem?_cons_succ, List.getElem?_cons_zero] at p0 p1
                have q0 := cell_blk HF12.out 0
                have q1 := cell_blk HF12.out 1
                simp only [List.getElem?_toArray, List.getElem?_cons_succ, List.getElem?_cons_zero] at q0 q1
                go_wp2_with fail
                refine (rRises_any _ vs rs _ (HRU.out.kept0 HM.out) HRL.out HSL.out).mono ?_
                rintro e Y4 ⟨rfl, m⟩
                rw [hris]
                have HM := Lib.hid (HM.out.trans m)
                have HO := Lib.hid (m.heap HO.out (by simp))
                have HB := Lib.hid (m.heap HB.out (by simp))
                have HOS := Lib.hid (HOS.out.kept0 m)
                have HOL := Lib.hid (HOL.out.kept0 m)
                have HF9 := Lib.hid (m.heap HF9.out (by simp))
                have HF12 := Lib.hid (m.heap HF12.out (by simp))
                clear m
                have b0 := cell_blk HO.out 0
                have b1 := cell_blk HO.out 1
                have b2 := cell_blk HO.out 2
                have b3 := cell_blk HO.out 3
                simp only [List.getElem?_toArray, List.getElem?_cons_succ, List.getElem?_cons_zero] at b0 b1 b2 b3
                have p0 := cell_blk HF9.out 0
                have p1 := cell_blk HF9.out 1
                simp only [List.getElem?_toArray, List.getElem?_cons_succ, List.getElem?_cons_zero] at p0 p1
                have q0 := cell_blk HF12.out 0
                have q1 := cell_blk HF12.out 1
                simp only [List.getElem?_toArray, List.getElem?_cons_succ, List.getElem?_cons_zero] at q0 q1
                have f0 := frozen_blk HF12.out 0
                have f1 := frozen_blk HF12.out 1
                have hs := heap_setCell_blk (heap_setCell_blk HF12.out 0 (.int .i64 0)) 1 (.int .i64 0)
                have hm := ((Mod.refl [Y2.heap.size] Y4).setCell (p := ⟨Y2.heap.size, 0, none⟩) (by simp) (.int .i64 0)).setCell (p := ⟨Y2.heap.size, 1, none⟩) (by simp) (.int .i64 0)
                have HM := Lib.hid (HM.out.newerK hm (by have := HN.out; simp; omega))
                have HOS := Lib.hid (HOS.out.kept hm (fun b hb hm' => by simp at hm'; subst hm'; exact own_neF HOS.out HF12.out hb))
                have HOL := Lib.hid (HOL.out.kept hm (fun b hb hm' => by simp at hm'; subst hm'; exact own_neF HOL.out HF12.out hb))
                have HF9 := Lib.hid (hm.heap HF9.out (by simp; omega))
                have HB := Lib.hid (hm.heap HB.out (by simp; omega))
                have HO := Lib.hid (hm.heap HO.out (by simp; omega))
                have HF12 := Lib.hid hs
                skip
                clear hs hm
                have p0 := cell_blk HF9.out 0
                have p1 := cell_blk HF9.out 1
                have q2 := cell_blk HF12.out 0
                have q3 := cell_blk HF12.out 1
                simp at p0 p1 q2 q3
                have HQ := Lib.hid (fun W => neq_fail (0, 0) (0, 0) W)
                rw [decide_eq_true rfl] at HQ
                simp only [Bool.not_true] at HQ
                go_wp2_with ((with_reducible refine xEqAgg (t := 75) rfl (HQ.out _) guard_fail ?_ ?_ ?_ ?_); exact rfl; exact rfl; exact rfl)
                go_meet
                case rel => exact ⟨S, _, A, rfl, Lib.hid ⟨HM.out, HB.out, HN.out, HOS.out, HOL.out, HRT.out, by have := HLN.out; omega⟩⟩
              | true =>
                have HLR := Lib.hid (least_here hmay hris)
                cases hle : leastL (failsL f t rs) with
                | some x =>
                  go_wp2_with fail
                  refine (lkSubmit_go S f t _ _ A vs rs X0 HB.out HOS.out.row (by have := HLN.out; omega) (HRU.out.kept0 HM.out) HRL.out HSL.out hmay hris).mono ?_
                  rintro e Y1 (⟨x', hx', rfl, m⟩ | ⟨hn', _⟩)
                  rotate_left 1
                  · rw [hle] at hn'; cases hn'
                  obtain rfl : x = x' := by rw [hle] at hx'; exact Option.some.inj hx'
                  clear hx'
                  have HM := Lib.hid (HM.out.trans m)
                  have HO := Lib.hid (m.heap HO.out (by simp))
                  have HB := Lib.hid (m.heap HB.out (by simp))
                  have HOS := Lib.hid (HOS.out.kept0 m)
                  have HOL := Lib.hid (HOL.out.kept0 m)
                  clear m
                  simp only [encF]
                  have b0 := cell_blk HO.out 0
                  have b1 := cell_blk HO.out 1
                  have b2 := cell_blk HO.out 2
                  have b3 := cell_blk HO.out 3
                  simp only [List.getElem?_toArray, List.getElem?_cons_succ, List.getElem?_cons_zero] at b0 b1 b2 b3
                  have m := (Mod.refl [] Y1).alloc (.cells #[.int .i64 x.1, .int .i64 x.2] 75)
                  have hnew := heap_alloc_new Y1 (.cells #[.int .i64 x.1, .int .i64 x.2] 75)
                  have HM := Lib.hid (HM.out.trans m)
                  have HO := Lib.hid (m.heap HO.out (by simp))
                  have HB := Lib.hid (m.heap HB.out (by simp))
                  have HOS := Lib.hid (HOS.out.kept0 m)
                  have HOL := Lib.hid (HOL.out.kept0 m)
                  clear m
                  have HF9 := Lib.hid hnew
                  clear hnew
                  have b0 := cell_blk HO.out 0
                  have b1 := cell_blk HO.out 1
                  have b2 := cell_blk HO.out 2
                  have b3 := cell_blk HO.out 3
                  simp only [List.getElem?_toArray, List.getElem?_cons_succ, List.getElem?_cons_zero] at b0 b1 b2 b3
                  have p0 := cell_blk HF9.out 0
                  have p1 := cell_blk HF9.out 1
                  simp only [List.getElem?_toArray, List.getElem?_cons_succ, List.getElem?_cons_zero] at p0 p1
                  go_wp2_with fail
                  refine (rLeast_any f t _ vs rs _ (HRU.out.kept0 HM.out) HRL.out HSL.out HSN.out).mono ?_
                  rintro e Y2 ⟨rfl, m⟩
                  rw [HLR.out, hle]
                  simp only [Option.getD_some, Option.getD_none, Option.isSome_some, Option.isSome_none]
                  simp only [encF]
                  have HM := Lib.hid (HM.out.trans m)
                  have HO := Lib.hid (m.heap HO.out (by simp))
                  have HB := Lib.hid (m.heap HB.out (by simp))
                  have HOS := Lib.hid (HOS.out.kept0 m)
                  have HOL := Lib.hid (HOL.out.kept0 m)
                  have HF9 := Lib.hid (m.heap HF9.out (by simp))
                  clear m
                  have g9 := lt_of_heap HF9.out
                  have gS := lt_of_heap HB.out
                  have gO := lt_of_heap HO.out
                  have m := (Mod.refl [] Y2).alloc (.cells #[.int .i64 x.1, .int .i64 x.2] 75)
                  have hnew := heap_alloc_new Y2 (.cells #[.int .i64 x.1, .int .i64 x.2] 75)
                  have HM := Lib.hid (HM.out.trans m)
                  have HO := Lib.hid (m.heap HO.out (by simp))
                  have HB := Lib.hid (m.heap HB.out (by simp))
                  have HOS := Lib.hid (HOS.out.kept0 m)
                  have HOL := Lib.hid (HOL.out.kept0 m)
                  have HF9 := Lib.hid (m.heap HF9.out (by simp))
                  clear m
                  have HF12 := Lib.hid hnew
                  clear hnew
                  have b0 := cell_blk HO.out 0
                  have b1 := cell_blk HO.out 1
                  have b2 := cell_blk HO.out 2
                  have b3 := cell_blk HO.out 3
                  simp only [List.getElem?_toArray, List.getElem?_cons_succ, List.getElem?_cons_zero] at b0 b1 b2 b3
                  have p0 := cell_blk HF9.out 0
                  have p1 := cell_blk HF9.out 1
                  simp only [List.getElem?_toArray, List.getElem?_cons_succ, List.getElem?_cons_zero] at p0 p1
                  have q0 := cell_blk HF12.out 0
                  have q1 := cell_blk HF12.out 1
                  simp only [List.getElem?_toArray, List.getElem?_cons_succ, List.getElem?_cons_zero] at q0 q1
                  go_wp2_with fail
                  refine (rMay28_any f t _).mono ?_
                  rintro e Y3 ⟨rfl, m⟩
                  rw [hmay]
                  have HM := Lib.hid (HM.out.trans m)
                  have HO := Lib.hid (m.heap HO.out (by simp))
                  have HB := Lib.hid (m.heap HB.out (by simp))
                  have HOS := Lib.hid (HOS.out.kept0 m)
                  have HOL := Lib.hid (HOL.out.kept0 m)
                  have HF9 := Lib.hid (m.heap HF9.out (by simp))
                  have HF12 := Lib.hid (m.heap HF12.out (by simp))
                  clear m
                  have b0 := cell_blk HO.out 0
                  have b1 := cell_blk HO.out 1
                  have b2 := cell_blk HO.out 2
                  have b3 := cell_blk HO.out 3
                  simp only [List.getElem?_toArray, List.getElem?_cons_succ, List.getElem?_cons_zero] at b0 b1 b2 b3
                  have p0 := cell_blk HF9.out 0
                  have p1 := cell_blk HF9.out 1
                  simp only [List.getElem?_toArray, List.getElem?_cons_succ, List.getElem?_cons_zero] at p0 p1
                  have q0 := cell_blk HF12.out 0
                  have q1 := cell_blk HF12.out 1
                  simp only [List.getElem?_toArray, List.getElem?_cons_succ, List.getElem?_cons_zero] at q0 q1
                  go_wp2_with fail
                  refine (rRises_any _ vs rs _ (HRU.out.kept0 HM.out) HRL.out HSL.out).mono ?_
                  rintro e Y4 ⟨rfl, m⟩
                  rw [hris]
                  have HM := Lib.hid (HM.out.trans m)
                  have HO := Lib.hid (m.heap HO.out (by simp))
                  have HB := Lib.hid (m.heap HB.out (by simp))
                  have HOS := Lib.hid (HOS.out.kept0 m)
                  have HOL := Lib.hid (HOL.out.kept0 m)
                  have HF9 := Lib.hid (m.heap HF9.out (by simp))
                  have HF12 := Lib.hid (m.heap HF12.out (by simp))
                  clear m
                  have b0 := cell_blk HO.out 0
                  have b1 := cell_blk HO.out 1
                  have b2 := cell_blk HO.out 2
                  have b3 := cell_blk HO.out 3
                  simp only [List.getElem?_toArray, List.getElem?_cons_succ, List.getElem?_cons_zero] at b0 b1 b2 b3
                  have p0 := cell_blk HF9.out 0
                  have p1 := cell_blk HF9.out 1
                  simp only [List.getElem?_toArray, List.getElem?_cons_succ, List.getElem?_cons_zero] at p0 p1
                  have q0 := cell_blk HF12.out 0
                  have q1 := cell_blk HF12.out 1
                  simp only [List.getElem?_toArray, List.getElem?_cons_succ, List.getElem?_cons_zero] at q0 q1
                  have HQ := Lib.hid (fun W => neq_fail x x W)
                  rw [decide_eq_true rfl] at HQ
                  simp only [Bool.not_true] at HQ
                  go_wp2_with ((with_reducible refine xEqAgg (t := 75) rfl (HQ.out _) guard_fail ?_ ?_ ?_ ?_); exact rfl; exact rfl; exact rfl)
                  go_meet
                  case rel => exact ⟨S, _, A, rfl, Lib.hid ⟨HM.out, HB.out, HN.out, HOS.out, HOL.out, HRT.out, by have := HLN.out; omega⟩⟩
                | none =>
                  go_wp2_with fail
                  refine (lkSubmit_go S f t _ _ A vs rs X0 HB.out HOS.out.row (by have := HLN.out; omega) (HRU.out.kept0 HM.out) HRL.out HSL.out hmay hris).mono ?_
                  rintro e Y1 (⟨x', hx', _⟩ | ⟨hn', rfl, m, sv', out, hB', ho, hb, hlo⟩)
                  · rw [hle] at hx'; cases hx'
                  have HB0 := HB
                  have HM0 := HM
                  have HM := Lib.hid (HM.out.newerK m (by simpa using HN.out))
                  have HO := Lib.hid (m.heap HO.out (by simpa using Nat.ne_of_gt HBS.out))
                  have HB := Lib.hid hB'
                  have HOL := Lib.hid (HOL.out.kept m (fun b hb' hm' => by simp at hm'; subst hm'; exact own_neL HOL.out HB0.out hb'))
                  have HOS := Lib.hid (ho.mono HM0.out.size)
                  have HBO := Lib.hid hb
                  clear m hB' ho hb hlo HB0 HM0
                  simp only [encF]
                  have b0 := cell_blk HO.out 0
                  have b1 := cell_blk HO.out 1
                  have b2 := cell_blk HO.out 2
                  have b3 := cell_blk HO.out 3
                  simp only [List.getElem?_toArray, List.getElem?_cons_succ, List.getElem?_cons_zero] at b0 b1 b2 b3
                  have m := (Mod.refl [] Y1).alloc (.cells #[.int .i64 0, .int .i64 0] 75)
                  have hnew := heap_alloc_new Y1 (.cells #[.int .i64 0, .int .i64 0] 75)
                  have HM := Lib.hid (HM.out.trans m)
                  have HO := Lib.hid (m.heap HO.out (by simp))
                  have HB := Lib.hid (m.heap HB.out (by simp))
                  have HOS := Lib.hid (HOS.out.kept0 m)
                  have HOL := Lib.hid (HOL.out.kept0 m)
                  clear m
                  have HF9 := Lib.hid hnew
                  clear hnew
                  have b0 := cell_blk HO.out 0
                  have b1 := cell_blk HO.out 1
                  have b2 := cell_blk HO.out 2
                  have b3 := cell_blk HO.out 3
                  simp only [List.getElem?_toArray, List.getElem?_cons_succ, List.getElem?_cons_zero] at b0 b1 b2 b3
                  have p0 := cell_blk HF9.out 0
                  have p1 := cell_blk HF9.out 1
                  simp only [List.getElem?_toArray, List.getElem?_cons_succ, List.getElem?_cons_zero] at p0 p1
                  go_wp2_with fail
                  refine (rLeast_any f t _ vs rs _ (HRU.out.kept0 HM.out) HRL.out HSL.out HSN.out).mono ?_
                  rintro e Y2 ⟨rfl, m⟩
                  rw [HLR.out, hle]
                  simp only [Option.getD_some, Option.getD_none, Option.isSome_some, Option.isSome_none]
                  simp only [encF]
                  have HM := Lib.hid (HM.out.trans m)
                  have HO := Lib.hid (m.heap HO.out (by simp))
                  have HB := Lib.hid (m.heap HB.out (by simp))
                  have HOS := Lib.hid (HOS.out.kept0 m)
                  have HOL := Lib.hid (HOL.out.kept0 m)
                  have HF9 := Lib.hid (m.heap HF9.out (by simp))
                  clear m
                  have g9 := lt_of_heap HF9.out
                  have gS := lt_of_heap HB.out
                  have gO := lt_of_heap HO.out
                  have m := (Mod.refl [] Y2).alloc (.cells #[.int .i64 0, .int .i64 0] 75)
                  have hnew := heap_alloc_new Y2 (.cells #[.int .i64 0, .int .i64 0] 75)
                  have HM := Lib.hid (HM.out.trans m)
                  have HO := Lib.hid (m.heap HO.out (by simp))
                  have HB := Lib.hid (m.heap HB.out (by simp))
                  have HOS := Lib.hid (HOS.out.kept0 m)
                  have HOL := Lib.hid (HOL.out.kept0 m)
                  have HF9 := Lib.hid (m.heap HF9.out (by simp))
                  clear m
                  have HF12 := Lib.hid hnew
                  clear hnew
                  have b0 := cell_blk HO.out 0
                  have b1 := cell_blk HO.out 1
                  have b2 := cell_blk HO.out 2
                  have b3 := cell_blk HO.out 3
                  simp only [List.getElem?_toArray, List.getElem?_cons_succ, List.getElem?_cons_zero] at b0 b1 b2 b3
                  have p0 := cell_blk HF9.out 0
                  have p1 := cell_blk HF9.out 1
                  simp only [List.getElem?_toArray, List.getElem?_cons_succ, List.getElem?_cons_zero] at p0 p1
                  have q0 := cell_blk HF12.out 0
                  have q1 := cell_blk HF12.out 1
                  simp only [List.getElem?_toArray, List.getElem?_cons_succ, List.getElem?_cons_zero] at q0 q1
                  go_wp2_with fail
                  refine (rMay28_any f t _).mono ?_
                  rintro e Y3 ⟨rfl, m⟩
                  rw [hmay]
                  have HM := Lib.hid (HM.out.trans m)
                  have HO := Lib.hid (m.heap HO.out (by simp))
                  have HB := Lib.hid (m.heap HB.out (by simp))
                  have HOS := Lib.hid (HOS.out.kept0 m)
                  have HOL := Lib.hid (HOL.out.kept0 m)
                  have HF9 := Lib.hid (m.heap HF9.out (by simp))
                  have HF12 := Lib.hid (m.heap HF12.out (by simp))
                  clear m
                  have b0 := cell_blk HO.out 0
                  have b1 := cell_blk HO.out 1
                  have b2 := cell_blk HO.out 2
                  have b3 := cell_blk HO.out 3
                  simp only [List.getElem?_toArray, List.getElem?_cons_succ, List.getElem?_cons_zero] at b0 b1 b2 b3
                  have p0 := cell_blk HF9.out 0
                  have p1 := cell_blk HF9.out 1
                  simp only [List.getElem?_toArray, List.getElem?_cons_succ, List.getElem?_cons_zero] at p0 p1
                  have q0 := cell_blk HF12.out 0
                  have q1 := cell_blk HF12.out 1
                  simp only [List.getElem?_toArray, List.getElem?_cons_succ, List.getElem?_cons_zero] at q0 q1
                  go_wp2_with fail
                  refine (rRises_any _ vs rs _ (HRU.out.kept0 HM.out) HRL.out HSL.out).mono ?_
                  rintro e Y4 ⟨rfl, m⟩
                  rw [hris]
                  have HM := Lib.hid (HM.out.trans m)
                  have HO := Lib.hid (m.heap HO.out (by simp))
                  have HB := Lib.hid (m.heap HB.out (by simp))
                  have HOS := Lib.hid (HOS.out.kept0 m)
                  have HOL := Lib.hid (HOL.out.kept0 m)
                  have HF9 := Lib.hid (m.heap HF9.out (by simp))
                  have HF12 := Lib.hid (m.heap HF12.out (by simp))
                  clear m
                  have b0 := cell_blk HO.out 0
                  have b1 := cell_blk HO.out 1
                  have b2 := cell_blk HO.out 2
                  have b3 := cell_blk HO.out 3
                  simp only [List.getElem?_toArray, List.getElem?_cons_succ, List.getElem?_cons_zero] at b0 b1 b2 b3
                  have p0 := cell_blk HF9.out 0
                  have p1 := cell_blk HF9.out 1
                  simp only [List.getElem?_toArray, List.getElem?_cons_succ, List.getElem?_cons_zero] at p0 p1
                  have q0 := cell_blk HF12.out 0
                  have q1 := cell_blk HF12.out 1
                  simp only [List.getElem?_toArray, List.getElem?_cons_succ, List.getElem?_cons_zero] at q0 q1
                  have HQ := Lib.hid (fun W => neq_fail (0, 0) (0, 0) W)
                  rw [decide_eq_true rfl] at HQ
                  simp only [Bool.not_true] at HQ
                  go_wp2_with ((with_reducible refine xEqAgg (t := 75) rfl (HQ.out _) guard_fail ?_ ?_ ?_ ?_); exact rfl; exact rfl; exact rfl)
                  have m := (Mod.refl [] Y4).alloc (.cells #[.int .i64 f, .int .i64 t] 64)
                  have HTW := Lib.hid (rTwo_any _ _ A [(f, t)] 0 (Y4.alloc (.cells #[.int .i64 f, .int .i64 t] 64)) (HOL.out.row.kept0 m) (spans_lit Y4 [(f, t)] _ 1 rfl rfl) (by have := HLN.out; have := HLI.out; omega) (by simp))
                  have HOU := Lib.hid (show twoS A [(f, t)] 0 = out from (twoS_is A [(f, t)] 0).one HBO.out (fun d _ _ => by simp [opK]))
                  rw [HOU.out] at HTW
                  have HM := Lib.hid (HM.out.trans m)
                  have HO := Lib.hid (m.heap HO.out (by simp))
                  have HB := Lib.hid (m.heap HB.out (by simp))
                  have HOS := Lib.hid (HOS.out.kept0 m)
                  have HOL := Lib.hid (HOL.out.kept0 m)
                  have HF9 := Lib.hid (m.heap HF9.out (by simp))
                  have HF12 := Lib.hid (m.heap HF12.out (by simp))
                  clear m
                  refine HTW.out.mono ?_
                  rintro e Y5 ⟨v5, rfl, o5, m5⟩
                  have HLN5 := Lib.hid (show out.length ≤ i + 1 by have := or_length HRT.out HBO.out (by have := hmay; simp [mayD] at this; exact this.1.1); have := HLN.out; omega)
                  have HLK := Lib.hid (o5.mono HM.out.size)
                  have HM := Lib.hid (HM.out.trans m5)
                  have HO := Lib.hid (m5.heap HO.out (by simp))
                  have HB := Lib.hid (m5.heap HB.out (by simp))
                  have HOS := Lib.hid (HOS.out.kept0 m5)
                  have HOL := Lib.hid (HOL.out.kept0 m5)
                  have HF9 := Lib.hid (m5.heap HF9.out (by simp))
                  have HF12 := Lib.hid (m5.heap HF12.out (by simp))
                  clear o5 m5 HTW
                  go_wp2_with fail
                  go_meet
                  case rel => exact ⟨S, _, out, rfl, Lib.hid ⟨HM.out, HB.out, HN.out, HOS.out, HLK.out, HBO.out.1, HLN5.out⟩⟩
          · by_cases hk2 : kind = 2
            · subst hk2
              cases hmay : mayD f t with
              | false =>
                go_wp2_with fail
                refine (lkReopen_may S f t X0 hmay).mono ?_
                rintro e Y1 ⟨rfl, m⟩
                have HM := Lib.hid (HM.out.trans m)
                have HO := Lib.hid (m.heap HO.out (by simp))
                have HB := Lib.hid (m.heap HB.out (by simp))
                have HOS := Lib.hid (HOS.out.kept0 m)
                have HOL := Lib.hid (HOL.out.kept0 m)
                clear m
                have b0 := cell_blk HO.out 0
                have b1 := cell_blk HO.out 1
                have b2 := cell_blk HO.out 2
                have b3 := cell_blk HO.out 3
                simp only [List.getElem?_toArray, List.getElem?_cons_succ, List.getElem?_cons_zero] at b0 b1 b2 b3
                go_wp2_with fail
                refine (rMay28_any f t _).mono ?_
                rintro e Y2 ⟨rfl, m⟩
                rw [hmay]
                have HM := Lib.hid (HM.out.trans m)
                have HO := Lib.hid (m.heap HO.out (by simp))
                have HB := Lib.hid (m.heap HB.out (by simp))
                have HOS := Lib.hid (HOS.out.kept0 m)
                have HOL := Lib.hid (HOL.out.kept0 m)
                clear m
                have b0 := cell_blk HO.out 0
                have b1 := cell_blk HO.out 1
                have b2 := cell_blk HO.out 2
                have b3 := cell_blk HO.out 3
                simp only [List.getElem?_toArray, List.getElem?_cons_succ, List.getElem?_cons_zero] at b0 b1 b2 b3
                go_wp2_with fail
                go_meet
                case rel => exact ⟨S, _, A, rfl, Lib.hid ⟨HM.out, HB.out, HN.out, HOS.out, HOL.out, HRT.out, by have := HLN.out; omega⟩⟩
              | true =>
                go_wp2_with fail
                refine (lkReopen_any S f t _ A X0 HB.out HOS.out.row (by have := HLN.out; omega) hmay).mono ?_
                rintro e Y1 ⟨rfl, m, sv', out, hB', ho, hb, hlo⟩
                have HB0 := HB
                have HM0 := HM
                have HM := Lib.hid (HM.out.newerK m (by simpa using HN.out))
                have HO := Lib.hid (m.heap HO.out (by simpa using Nat.ne_of_gt HBS.out))
                have HB := Lib.hid hB'
                have HOL := Lib.hid (HOL.out.kept m (fun b hb' hm' => by simp at hm'; subst hm'; exact own_neL HOL.out HB0.out hb'))
                have HOS := Lib.hid (ho.mono HM0.out.size)
                have HBO := Lib.hid hb
                clear m hB' ho hb hlo HB0 HM0
                have b0 := cell_blk HO.out 0
                have b1 := cell_blk HO.out 1
                have b2 := cell_blk HO.out 2
                have b3 := cell_blk HO.out 3
                simp only [List.getElem?_toArray, List.getElem?_cons_succ, List.getElem?_cons_zero] at b0 b1 b2 b3
                go_wp2_with fail
                refine (rMay28_any f t _).mono ?_
                rintro e Y2 ⟨rfl, m⟩
                rw [hmay]
                have HM := Lib.hid (HM.out.trans m)
                have HO := Lib.hid (m.heap HO.out (by simp))
                have HB := Lib.hid (m.heap HB.out (by simp))
                have HOS := Lib.hid (HOS.out.kept0 m)
                have HOL := Lib.hid (HOL.out.kept0 m)
                clear m
                have b0 := cell_blk HO.out 0
                have b1 := cell_blk HO.out 1
                have b2 := cell_blk HO.out 2
                have b3 := cell_blk HO.out 3
                simp only [List.getElem?_toArray, List.getElem?_cons_succ, List.getElem?_cons_zero] at b0 b1 b2 b3
                have m := (Mod.refl [] Y2).alloc (.cells #[.int .i64 f, .int .i64 t] 64)
                have HTW := Lib.hid (rTwo_any _ _ A [(f, t)] 2 (Y2.alloc (.cells #[.int .i64 f, .int .i64 t] 64)) (HOL.out.row.kept0 m) (spans_lit Y2 [(f, t)] _ 1 rfl rfl) (by have := HLN.out; have := HLI.out; omega) (by simp))
                have HOU := Lib.hid (show twoS A [(f, t)] 2 = out from (twoS_is A [(f, t)] 2).one HBO.out (fun d _ _ => by simp [opK]))
                rw [HOU.out] at HTW
                have HM := Lib.hid (HM.out.trans m)
                have HO := Lib.hid (m.heap HO.out (by simp))
                have HB := Lib.hid (m.heap HB.out (by simp))
                have HOS := Lib.hid (HOS.out.kept0 m)
                have HOL := Lib.hid (HOL.out.kept0 m)
                clear m
                go_wp2_with fail
                refine HTW.out.mono ?_
                rintro e Y5 ⟨v5, rfl, o5, m5⟩
                have HLN5 := Lib.hid (show out.length ≤ i + 1 by have := less_length HRT.out HBO.out; have := HLN.out; omega)
                have HLK := Lib.hid (o5.mono HM.out.size)
                have HM := Lib.hid (HM.out.trans m5)
                have HO := Lib.hid (m5.heap HO.out (by simp))
                have HB := Lib.hid (m5.heap HB.out (by simp))
                have HOS := Lib.hid (HOS.out.kept0 m5)
                have HOL := Lib.hid (HOL.out.kept0 m5)
                clear o5 m5 HTW
                go_wp2_with fail
                go_meet
                case rel => exact ⟨S, _, out, rfl, Lib.hid ⟨HM.out, HB.out, HN.out, HOS.out, HLK.out, HBO.out.1, HLN5.out⟩⟩
            · by_cases hk3 : kind = 3
              · subst hk3
                go_wp2_with fail
                refine (lkCopy_any S _ A X0 HB.out HOS.out.row (by have := HLN.out; omega)).mono ?_
                rintro e Y1 ⟨B1, v', out, rfl, hB1, hb1, ho, hne, m, hio, hlo⟩
                obtain rfl : out = A := hio.one (isOf_self HRT.out) (fun _ _ _ => Iff.rfl)
                have hge := HM.out.size
                have hSlt := lt_of_heap HB.out
                have HBS1 := Lib.hid (show S < B1 by omega)
                have HNB := Lib.hid (show w1.heap.size ≤ B1 by omega)
                have HCO := Lib.hid (ho.mono hge)
                have HCB := Lib.hid hb1
                have HM := Lib.hid (HM.out.trans m)
                have HO := Lib.hid (m.heap HO.out (by simp))
                have HB := Lib.hid (m.heap HB.out (by simp))
                have HOS := Lib.hid (HOS.out.kept0 m)
                have HOL := Lib.hid (HOL.out.kept0 m)
                clear m hio hlo ho hb1 hB1 hge hSlt hne
                have b0 := cell_blk HO.out 0
                have b1 := cell_blk HO.out 1
                have b2 := cell_blk HO.out 2
                have b3 := cell_blk HO.out 3
                simp only [List.getElem?_toArray, List.getElem?_cons_succ, List.getElem?_cons_zero] at b0 b1 b2 b3
                go_wp2_with fail
                refine (lkReopen_any S 1 3652060 _ out Y1 HB.out HOS.out.row (by have := HLN.out; omega) (by decide)).mono ?_
                rintro e Y2 ⟨rfl, m, sv', out', hB', ho', hb, hlo⟩
                have HM := Lib.hid (HM.out.newerK m (by simpa using HN.out))
                have HCB := Lib.hid (m.heap HCB.out (by simpa using Nat.ne_of_gt HBS1.out))
                have HOL := Lib.hid (HOL.out.kept m (fun b hb' hm' => by simp at hm'; subst hm'; exact own_neL HOL.out HB.out hb'))
                have HCO := Lib.hid (HCO.out.kept m (fun b hb' hm' => by simp at hm'; subst hm'; exact own_neL HCO.out HB.out hb'))
                clear m hB' ho' hb hlo
                go_wp2_with fail
                go_meet
                case rel => exact ⟨B1, _, out, rfl, Lib.hid ⟨HM.out, HCB.out, HNB.out, HCO.out, HOL.out, HRT.out, by have := HLN.out; omega⟩⟩
              · by_cases hk4 : kind = 4
                · subst hk4
                  go_wp2_with fail
                  refine (lkCopy_any S _ A X0 HB.out HOS.out.row (by have := HLN.out; omega)).mono ?_
                  rintro e Y1 ⟨B1, v', out, rfl, hB1, hb1, ho, hne, m, hio, hlo⟩
                  obtain rfl : out = A := hio.one (isOf_self HRT.out) (fun _ _ _ => Iff.rfl)
                  have hge := HM.out.size
                  have hSlt := lt_of_heap HB.out
                  have HBS1 := Lib.hid (show S < B1 by omega)
                  have HNB := Lib.hid (show w1.heap.size ≤ B1 by omega)
                  have HCO := Lib.hid (ho.mono hge)
                  have HCB := Lib.hid hb1
                  have HM := Lib.hid (HM.out.trans m)
                  have HO := Lib.hid (m.heap HO.out (by simp))
                  have HB := Lib.hid (m.heap HB.out (by simp))
                  have HOS := Lib.hid (HOS.out.kept0 m)
                  have HOL := Lib.hid (HOL.out.kept0 m)
                  clear m hio hlo ho hb1 hB1 hge hSlt hne
                  have b0 := cell_blk HO.out 0
                  have b1 := cell_blk HO.out 1
                  have b2 := cell_blk HO.out 2
                  have b3 := cell_blk HO.out 3
                  simp only [List.getElem?_toArray, List.getElem?_cons_succ, List.getElem?_cons_zero] at b0 b1 b2 b3
                  go_wp2_with fail
                  refine (lkSubmit_go B1 1 3652060 (.slice none 0 0) _ out [] [] Y1 HCB.out HCO.out.row (by have := HLN.out; omega) ⟨.nil none 0, rfl, fun j h => by simp at h⟩ (by simp) (by simp) (by decide) rfl).mono ?_
                  rintro e Y2 (⟨x', hx', _⟩ | ⟨hn', rfl, m, sv', out', hB', ho', hb, hlo⟩)
                  · simp [failsL, leastL] at hx'
                  have HM := Lib.hid (HM.out.newerK m (by simpa using HNB.out))
                  have HB := Lib.hid (m.heap HB.out (by simpa using Nat.ne_of_lt HBS1.out))
                  have HOL := Lib.hid (HOL.out.kept m (fun b hb' hm' => by simp at hm'; subst hm'; exact own_neL HOL.out HCB.out hb'))
                  have HOS := Lib.hid (HOS.out.kept m (fun b hb' hm' => by simp at hm'; subst hm'; exact own_neL HOS.out HCB.out hb'))
                  clear m hB' ho' hb hlo hn'
                  simp only [encF]
                  go_wp2_with fail
                  go_meet
                  case rel => exact ⟨S, _, out, rfl, Lib.hid ⟨HM.out, HB.out, HN.out, HOS.out, HOL.out, HRT.out, by have := HLN.out; omega⟩⟩
                · go_wp2_with fail
                  go_meet
                  case rel => exact ⟨S, _, A, rfl, Lib.hid ⟨HM.out, HB.out, HN.out, HOS.out, HOL.out, HRT.out, by have := HLN.out; omega⟩⟩
        case rest =>
          obtain ⟨S, sv, A, rfl, HP⟩ := hcut
          have HLA := Lib.hid (show A.length ≤ 30 by have := HP.out.len; omega)
          go_wp2_with fail
          refine (lkDays_any S sv A wc HP.out.box HP.out.own.row (by have := HLA.out; omega)).mono ?_
          rintro e Z1 ⟨vd, out, rfl, od, md, hio, hlo⟩
          obtain rfl : out = A := hio.one (isOf_self HP.out.right) (fun _ _ _ => Iff.rfl)
          have HZ1 := Lib.hid md
          have HOD := Lib.hid od
          obtain ⟨da2, dc2, rfl⟩ := od.row.form
          clear od md hio hlo
          go_wp2_with fail
          have HSM := Lib.hid (rSame_any _ _ out out Z1 HOD.out.row (HP.out.lock.row.kept0 HZ1.out) (by have := HLA.out; omega) (by have := HLA.out; omega))
          rw [decide_eq_true rfl] at HSM
          refine HSM.out.mono ?_
          rintro e Z2 ⟨rfl, m⟩
          have HZ2 := Lib.hid (HZ1.out.trans m)
          have HOD := Lib.hid (HOD.out.kept0 m)
          clear m HSM
          go_wp2_with fail
          refine (lkMeets_any S sv _ out D Z2 (HZ2.out.heap HP.out.box (by simp)) (HP.out.own.row.kept0 HZ2.out) (HD.out.kept0 (HP.out.mod.trans HZ2.out)) (by have := HLA.out; omega) (by omega)).mono ?_
          rintro e Z3 ⟨out1, rfl, m, hb1⟩
          have HZ3 := Lib.hid (HZ2.out.trans m)
          have HOD := Lib.hid (HOD.out.kept0 m)
          have HB1 := Lib.hid (show twoS out D 1 = out1 from (twoS_is out D 1).one hb1 (fun d _ _ => by simp [opK]))
          clear m hb1
          go_wp2_with fail
          have HTW := Lib.hid (rTwo_any _ _ out D 1 Z3 (HP.out.lock.row.kept0 HZ3.out) (HD.out.kept0 (HP.out.mod.trans HZ3.out)) (by have := HLA.out; omega) (by omega))
          rw [HB1.out] at HTW
          refine HTW.out.mono ?_
          rintro e Z4 ⟨v4, rfl, o4, m⟩
          obtain ⟨a4, c4, rfl⟩ := o4.row.form
          have HZ4 := Lib.hid (HZ3.out.trans m)
          have HOD := Lib.hid (HOD.out.kept0 m)
          have hbe : (decide (0 < out1.length)) = (decide ((0 : Int) < (out1.length : Int))) := by apply decide_eq_decide.2; omega
          rw [hbe]
          clear m o4 HTW hbe
          go_wp2_with fail
          go_loopw [148] (fun s148 wr => ∃ (k : Nat) (l : List Sp), k ≤ out.length ∧ s148 = .int .i64 k ∧ l.length = out.length ∧ Hid (OwnS wr wc.heap.size (.slice da2 out.length dc2) l) ∧ Hid (Mod [] wc wr)) (fun s148 _ => out.length - (intOf s148).toNat)
          case atStart => exact ⟨0, out, by omega, rfl, rfl, HOD, HZ4⟩
          case round =>
            obtain ⟨k, l, hk, rfl, hll, hown, hM⟩ := hrel
            rename World => wz
            by_cases hlt2 : k < out.length
            · have h1 : OwnS wz wc.heap.size (.slice da2 l.length dc2) l := by rw [hll]; exact hown.out
              rcases h1.form with ⟨_, h2⟩ | ⟨g, cap, e2, hg1, hg2, hg3⟩
              · exfalso; rw [h2] at hll; simp at hll; omega
              · simp only [Value.slice.injEq, true_and] at e2
                obtain ⟨rfl, rfl⟩ := e2
                obtain ⟨c0, f0⟩ := OwnR.cell encS_len h1 (i := k) (j := 0) (by omega) (by omega) (u := .int .i64 (l[k]'(by omega)).1) rfl
                have h3 := OwnR.set encS_len h1 (i := k) (j := 0) (by omega) (by omega) (u := .int .i64 0) (y := (0, (l[k]'(by omega)).2)) rfl
                have hm3 := hM.out.setCellNew (p := ⟨g, k * 2 + 0, none⟩) hg1 (.int .i64 0)
                simp only [Nat.add_zero] at c0 f0 h3 hm3
                obtain ⟨l3, HL3, HO3⟩ : ∃ l3 : List Sp, Hid (l3.length = out.length) ∧ Hid (OwnS (wz.setCell ⟨g, k * 2, none⟩ (.int .i64 0)) wc.heap.size (.slice (some ⟨g, 0, none⟩) out.length dc2) l3) := ⟨l.set k (0, (l[k]'(by omega)).2), Lib.hid (by rw [List.length_set]; exact hll), Lib.hid (by rw [← hll]; exact h3)⟩
                have HM3 := Lib.hid hm3
                have hl30 : out.length ≤ 30 := HLA.out
                clear h1 h3 hm3
                go_wp2_with fail
                go_roundw
                case rel => exact ⟨k + 1, l3, by omega, by go_num, HL3.out, HO3, HM3⟩
                case measure => simp [intOf]; omega
            · have HPF := Lib.hid (show PlAt w1 wz S sv u6 out (i + 1) from HP.out.kept0 hM.out)
              go_wp2_with fail
              go_roundw
              case rel => exact ⟨i + 1, S, sv, out, by omega, by go_num, rfl, HPF⟩
              case measure => simp [intOf]; omega

      · go_wp2_with fail
        refine (known28_any _).mono ?_
        rintro e wk ⟨rfl, mk⟩
        have HMK := Lib.hid (HP.out.mod.trans mk)
        clear mk
        go_wp2_with fail
        go_ret
        exact ⟨rfl, HMK.out⟩
end Go.Proofs.Ytefaihockgebeaa
namespace Go.Proofs.Ytefaihockgebeaa
open Go.ChangeShapes Go.WideShapes Go.ChangeAt Go.RowKit Go.ChangeMaps Go.Deep
set_option linter.unusedSimpArgs false
set_option linter.unusedVariables false
set_option maxRecDepth 100000 in
theorem plays28_contract (H : Type) (enc : TypeId × Value → H) (W : World) (base : Nat) (args : Array Value) (ds gs : List (DataW H)) (before : List MemPlace)
    (hval0 : ∀ (j : Nat) t v, Try.f10.params[j]? = some t → args[j]? = some v → Value.okWide Try.prog W .any base t v)
    (hW : DataW.Whole enc Try.prog Try.f10.params.toList Rows.locksPlaysSpec.vars false W args.toList ds gs before) (hk0 : Rows.uptoSmall H (ds ++ gs) = true)
    (hsz : (DataW.weightsEach Try.prog (Try.f10.params.toList ++ (ChangeSpec.plain Rows.locksPlaysSpec).varTypes Try.prog) (ds ++ gs)).all (· ≤ reachBytes) = true) :
    Calls Try.prog 10 args W fun e W' => ∃ v, e = .returned v ∧ Rows.locksPlaysSpec.post enc Try.prog Try.f10 false true false false W args v W' := by
  have hval := hval0
  have hW' := hW
  obtain ⟨p, q, hA0, hV, rfl, hfz, hnd⟩ := hW
  have hA : DataW.TrodAll enc Try.prog W 0 (fun _ => true) true Try.f10.params.toList args.toList ds p := hA0
  have hsz' := hsz
  rw [Try.params10] at hA hval hsz'
  obtain ⟨v0, vs0, d0, ds0, p0, q0, hargs, rfl, rfl, h0, r0⟩ := trodAll_cons hA
  obtain ⟨v1, vs1, d1, ds1, p1, q1, rfl, rfl, rfl, h1, r1⟩ := trodAll_cons r0
  obtain ⟨rfl, rfl, rfl⟩ := trodAll_nil r1
  obtain rfl : args = #[v0, v1] := by cases args; simp_all
  obtain ⟨rfl, rfl⟩ := trodVars_none hV
  have hk := bulk_bound hk0
  have hl0 : Lite Try.prog 69 d0 := Lite.of hsz' (j := 0) rfl rfl
  have hl1 : Lite Try.prog 51 d1 := Lite.of hsz' (j := 1) rfl rfl
  obtain ⟨u0, l0, s0, n0, m0⟩ := ops_bulk (okWide_slice Try.underlying69 (hval 0 69 v0 rfl rfl)) h0 hl0
  have hb0 := bulk_part (show d0 ∈ [d0, d1] ++ [] by simp)
  obtain ⟨l1, s1, x1, n1⟩ := spans_arg (okWide_slice Try.underlying51 (hval 1 51 v1 rfl rfl)) h1 hl1
  clear hA0 hval0
  refine (plays28_any v0 v1 u0 l0 l1 W s0 n0 (by omega) s1 n1).mono fun e W' ⟨he, hg⟩ => ⟨_, he, law_post ?_ hW' hg.toBelow rfl rfl rfl⟩
  rw [Try.params10]
  simp only [List.mem_cons, List.not_mem_nil, or_false]
  rintro t (rfl | rfl)
  all_goals exact ⟨by kernel_rfl, of_decide_eq_true (by kernel_rfl)⟩
set_option maxRecDepth 100000 in
theorem plays28_lifted (os : Os) (started : os.Started) (H : Type) (enc : TypeId × Value → H) (F : Stop.Interp) :
    ReturnsInHanded {} Try.checked os 10 .any ((Rows.OpenSpec.upto Rows.locksPlaysSpec).pre6 enc Try.prog Try.f10 Rows.locksPlaysUptoRow.domain false) (((Rows.OpenSpec.upto Rows.locksPlaysSpec).at F).post enc Try.prog Try.f10 false true false false) := by
  refine returnsInHanded_of_cond_sized (C := Try.checked) (s := Rows.OpenSpec.upto Rows.locksPlaysSpec) (k := Rows.uptoSmall) rfl own started (by kernel_rfl) Try.func10
    (OpenSpec.witness (enc := enc) (C := Try.checked) (s := Rows.OpenSpec.upto Rows.locksPlaysSpec) (k := Rows.uptoSmall) rfl false ⟨#[], #[.slice none 0 0, .slice none 0 0], []⟩ 8 (by kernel_rfl) (by kernel_rfl) (by kernel_rfl)
      (x := ([.nil, .nil], [], [])) (by kernel_rfl) rfl (by kernel_rfl)) ?_
  intro W base args ds gs before hval hW _ hk hsz _
  exact plays28_contract H enc W base args ds gs before hval hW hk hsz
theorem plays28_holds : Rows.LocksPlaysUptoSaid :=
  OpenClaim.holds_of_cond 10 Try.f10 rfl rfl rfl rfl rfl rfl rfl ⟨rfl, rfl, rfl, rfl, rfl⟩ rfl rfl rfl rfl rfl (by kernel_rfl) Try.func10 (by kernel_rfl)
    (of_decide_eq_true (by kernel_rfl)) (by unfold Func.isWrapper; first | (rw [if_pos (by decide +kernel)]; kernel_rfl) | (rw [if_neg (by decide +kernel)]; exact ⟨rfl, rfl⟩))
    (fun os started H enc _ F => plays28_lifted os started H enc F)
#print axioms plays28_holds
end Go.Proofs.Ytefaihockgebeaa
