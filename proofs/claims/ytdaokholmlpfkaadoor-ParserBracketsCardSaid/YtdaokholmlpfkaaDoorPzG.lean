/- Formulas: the number that a word tells. -/
import Derived.Test.YtdaokholmlpfkaaDoorPzF
import Derived.Test.YtdaokholmlpfkaaDoorProg
import Derived.Test.YtdaokholmlpfkaaDoorPzD
import Derived.Test.YtdaokholmlpfkaaDoorPzB
import Derived.Laws.MakeOwn
import Derived.RangeFuncOwn
import Derived.Test.YtdaokholmlpfkaaDoorPzC
import Derived.Lib.AtoiErrMem
namespace Go.Proofs.YtdaokholmlpfkaaDoor
set_option linter.unusedSimpArgs false
set_option linter.unusedVariables false
section
variable {P : Program} {l : List Oper} {Q : Exit → Act → World → Prop}
theorem opN_waits (k i j : Nat) : ∃ X, opN (waits l k i) j = { opN l j with after := X } := by
  unfold opN
  rw [List.getD_eq_getElem?_getD, List.getD_eq_getElem?_getD, waits_get]
  cases l[j]? with
  | none => exact ⟨(default : Oper).after, rfl⟩
  | some o =>
    simp only [Option.map_some, Option.getD_some]
    split
    · exact ⟨_, rfl⟩
    · exact ⟨o.after, rfl⟩
theorem wpList_waits (k i : Nat) (Q : Exit → Act → World → Prop) : ∀ is : List Nat, wpList P (waits l k i).toArray Q (opsOf (waits l k i) is) = wpList P l.toArray Q (opsOf l is)
  | [] => rfl
  | j :: is => by
    funext a w
    obtain ⟨X, h⟩ := opN_waits (l := l) k i j
    simp only [opsOf, List.map_cons, wpList]
    have ih := wpList_waits k i Q is
    simp only [opsOf] at ih
    rw [ih, h, waits_yielded]
    rfl
theorem again_waits (k i : Nat) (cs : List Nat) (a : Act) (w : World) : Again P (waits l k i) cs a w = Again P l cs a w := by
  unfold Again
  apply propext
  constructor
  · intro h j hj hw
    obtain ⟨X, e⟩ := opN_waits (l := l) k i j
    have := h j hj
    rw [e, waits_yielded] at this
    exact this hw
  · intro h j hj hw
    obtain ⟨X, e⟩ := opN_waits (l := l) k i j
    rw [e, waits_yielded] at hw
    rw [e]
    exact h j hj hw
theorem wpSegs_waits (k i : Nat) (K : Act → World → Prop) (last : List Nat) : ∀ segs : List (List Nat × Nat × List Nat), wpSegs P (waits l k i) K last segs = wpSegs P l K last segs
  | [] => by
    funext a w
    simp only [wpSegs, wpList_waits]
  | (pre, x, cs) :: rest => by
    funext a w
    have h1 := fun Q => wpList_waits (P := P) (l := l) k i Q [x]
    simp only [opsOf, List.map_cons, List.map_nil] at h1
    simp only [wpSegs, wpList_waits, wpSegs_waits k i K last rest, h1, again_waits]
theorem sched_plan1 {k i : Nat} (segs : List (List Nat × Nat × List Nat)) (last : List Nat) {a : Act} {w : World} (hok : planOk P (waits l k i) segs last = true) (h : wpSegs P l (fun a w => Q .normal a w) last segs a w) : Sched P (waits l k i) Q a w :=
  sched_plan segs last hok (by rw [wpSegs_waits]; exact h)
theorem sched_plan2 {k i k2 i2 : Nat} (segs : List (List Nat × Nat × List Nat)) (last : List Nat) {a : Act} {w : World} (hok : planOk P (waits (waits l k i) k2 i2) segs last = true) (h : wpSegs P l (fun a w => Q .normal a w) last segs a w) : Sched P (waits (waits l k i) k2 i2) Q a w :=
  sched_plan segs last hok (by rw [wpSegs_waits, wpSegs_waits]; exact h)
end
end Go.Proofs.YtdaokholmlpfkaaDoor
namespace Go.Proofs.YtdaokholmlpfkaaDoor
open Go.RowKit Go.ChangeMaps Go.Deep
set_option linter.unusedSimpArgs false
set_option linter.unusedVariables false
set_option maxRecDepth 20000

def encI (n : Int) : List Value := [.int .i64 n]
theorem encI_len (x : Int) : (encI x).length = 1 := rfl
theorem encI_one (x : Int) : ∀ v ∈ encI x, v.oneCell' = true := by intro v hv; simp [encI] at hv; subst hv; rfl
theorem elemInt : ElemOk Tryd.prog 29 3 1 8 := .mk' Tryd.underlying29 (by omega) (by kernel_rfl)
abbrev IntsIn (w : World) (v : Value) (l : List Int) : Prop := RowAt encI w v l
abbrev OwnN (w : World) (base : Nat) (v : Value) (l : List Int) : Prop := OwnR encI 1 3 w base v l
section
variable {α : Type} {enc : α → List Value} {k : Nat} {w : World} {v : Value} {l : List α} {P : Program} {t E : TypeId}
theorem RowAt.src (hk : ∀ x, (enc x).length = k) (h1 : ∀ x, ∀ v ∈ enc x, v.oneCell' = true) (h : RowAt enc w v l) (ht : P.underlying t = some (.slice E)) : Src P k t v l.length (flat enc l) w := by
  cases h with
  | nil a cap =>
    cases a with
    | none => exact Src.ofNil w ht cap
    | some a => exact Src.ofSlice w ht a 0 cap [] (by simp) (fun j u hu => by simp at hu) (by simp)
  | at_ b o cap l hc h =>
    exact Src.ofSlice w ht ⟨b, o, none⟩ l.length cap _ (by rw [flat_length hk]) (fun j u hu => by rw [Addr.add_mid]; exact h j u hu) (by
      intro u hu
      obtain ⟨x, _, hx⟩ := List.mem_flatMap.1 hu
      exact h1 x u hx)
theorem OwnR.fresh (w : World) (base : Nat) (hb : base ≤ w.heap.size) : OwnR enc k E (w.alloc (.cells #[] E)) base (.slice (some ⟨w.heap.size, 0, none⟩) 0 0) [] :=
  ⟨by simp [flat], .inr ⟨w.heap.size, 0, #[], rfl, hb, heap_alloc_new w _, Nat.le_refl _, Nat.zero_le _, by simp, by simp [flat]⟩⟩
theorem RowAt.of_none (h : RowAt enc w v l) {n c : Nat} (e : v = .slice none n c) : l = [] := by
  cases h with
  | nil a cap => rfl
  | at_ b o cap l hc h => cases e
end
theorem RowAt.get1 {w : World} {a : Option Addr} {c : Nat} {l : List Int} (h : IntsIn w (.slice a l.length c) l) {i : Nat} (hi : i < l.length) :
    ∃ b o, a = some ⟨b, o, none⟩ ∧ l.length ≤ c ∧ w.cell? ⟨b, o + i, none⟩ = some (.int .i64 l[i]) := by
  obtain ⟨b, o, e, hc, hg⟩ := h.get encI_len hi
  have h0 := hg 0 (.int .i64 l[i]) (by omega) rfl
  exact ⟨b, o, e, hc, by simpa using h0⟩
theorem flat_encI (l : List Int) : flat encI l = l.map (Value.int .i64) := by
  induction l with
  | nil => rfl
  | cons x l ih => rw [flat_cons, ih]; rfl
theorem made_one (u : Value) (n : Nat) : madeCells #[u] n = Array.replicate n u := by
  apply Array.ext
  · simp [madeCells]
  · intro i h1 h2
    simp [madeCells, Nat.mod_one]
theorem run_makeInts (n : Nat) (hn : n ≤ 1000000) (w : World) : (Instr.makeSlice 29 (.int .i64 n) (.int .i64 n)).run Tryd.prog w = .ok (.slice (some ⟨w.heap.size, 0, none⟩) n n) (w.alloc (.cells (Array.replicate n (.int .i64 0)) 3)) := by
  have h5 : (Tryd.prog.info? 3).map (fun i => (i.zero, i.size, i.bytes)) = some (some (.int .i64 0), 1, 8) := by kernel_rfl
  obtain ⟨i0, hi, hz0, hz1, hz2⟩ := info_parts h5
  have h := run_make (P := Tryd.prog) (w := w) 29 3 i0 (.int .i64 0) Tryd.underlying29 hi hz0 .i64 .i64 n n (by omega) (Int.le_refl _) (by rw [hz2]; omega) (by omega)
  rw [hz1, Nat.mul_one] at h
  have e : (Value.int IntKind.i64 0).cells = #[.int .i64 0] := rfl
  rw [e, made_one, Int.toNat_natCast] at h
  exact h
theorem own_zeros (w : World) (n base : Nat) (hb : base ≤ w.heap.size) (hn : n ≤ 1000000) : OwnN (w.alloc (.cells (Array.replicate n (.int .i64 0)) 3)) base (.slice (some ⟨w.heap.size, 0, none⟩) (List.replicate n (0 : Int)).length n) (List.replicate n 0) := by
  refine ⟨flat_length encI_len _, .inr ⟨w.heap.size, n, _, rfl, hb, heap_alloc_new w _, by simp, by unfold maxLen; omega, by simp, ?_⟩⟩
  rw [List.length_replicate, Nat.mul_one, flat_encI]
  simp
theorem Mod.cellD {w w' : World} {a : Addr} {v : Value} (h : Mod [] w w') (hc : w.cell? a = some v) : w'.cell? a = some v := by
  obtain ⟨o, ho, _⟩ := cells_of_cell hc
  rw [← hc]
  exact World.cell?_of_block (h.block _ (lt_of_heap ho) (by simp))
theorem alloc_named2 (w : World) (o : Obj) : ∃ A, w.alloc o = A ∧ A.heap[w.heap.size]? = some o ∧ A.heap.size = w.heap.size + 1 ∧ Mod [] w A :=
  ⟨_, rfl, heap_alloc_new w o, by simp, (Mod.refl [] w).alloc o⟩
theorem OwnR.lens {α : Type} {enc : α → List Value} {k : Nat} {E : TypeId} {w : World} {base : Nat} {v : Value} {l : List α} (h : OwnR enc k E w base v l) : ∃ a c, v = .slice a l.length c := by
  obtain ⟨a, c, e⟩ := h.row.form
  exact ⟨a, c, e⟩
end Go.Proofs.YtdaokholmlpfkaaDoor
namespace Go.Proofs.YtdaokholmlpfkaaDoor
open Go.RowKit Go.ChangeMaps
set_option linter.unusedSimpArgs false
set_option linter.unusedVariables false
set_option maxRecDepth 20000

structure Gl (w : World) : Prop where
  big : 9 ≤ w.heap.size
  maxlen : ∃ m, w.cell? ⟨1, 0, none⟩ = some (.int .i64 m)
  range : ∃ tp p, w.var? Tryd.prog "strconv.ErrRange" = some #[.iface tp p]
  tab : Lib.TabIs Tryd.prog w "strings.asciiSpace" .u8 Lib.asciiSpaceTab
theorem gn_range : Tryd.prog.globalNamed "strconv.ErrRange" = some 3 := by kernel_rfl
theorem gn_tab : Tryd.prog.globalNamed "strings.asciiSpace" = some 0 := by kernel_rfl
theorem Gl.kept {w w' : World} {ks : List Nat} (h : Gl w) (m : Mod ks w w') (hk : ∀ k ∈ ks, 9 ≤ k) : Gl w' := by
  have hh : ∀ k, k < 9 → w'.heap[k]? = w.heap[k]? := fun k h9 => m.block k (by have := h.big; omega) (fun hm => by have := hk k hm; omega)
  refine ⟨Nat.le_trans h.big m.size, ?_, ?_, ?_⟩
  · obtain ⟨x, hx⟩ := h.maxlen
    exact ⟨x, by unfold World.cell? at hx ⊢; rw [hh 1 (by omega)]; exact hx⟩
  · obtain ⟨tp, p, hx⟩ := h.range
    exact ⟨tp, p, by unfold World.var? at hx ⊢; rw [gn_range] at hx ⊢; dsimp only [Option.bind] at hx ⊢; rw [hh 3 (by omega)]; exact hx⟩
  · have hx := h.tab
    unfold Lib.TabIs World.var? at hx ⊢
    rw [gn_tab] at hx ⊢
    dsimp only [Option.bind] at hx ⊢
    rw [hh 0 (by omega)]
    exact hx
theorem Gl.kept0 {w w' : World} (h : Gl w) (m : Mod [] w w') : Gl w' := h.kept m (by simp)
theorem drewN_mod (w : World) (n : Nat) : Mod [] w (w.drewN n) := ⟨rfl, rfl, rfl, Nat.le_refl _, fun k hk _ => rfl⟩
theorem sCut_at {w : World} (h : Gl w) (l : List UInt8) (hl : l.length ≤ 1000000) : Calls Tryd.prog 39 #[.string (txZ l), .string ⟨#[46]⟩] w fun e w' => e = .returned (.tuple #[.string (txZ (Lib.cut l [46]).1), .string (txZ (Lib.cut l [46]).2.1), .bool (Lib.cut l [46]).2.2]) ∧ Mod [] w w' := by
  obtain ⟨m, hm⟩ := h.maxlen
  refine (Tryd.strings_Cut (txZ l) ⟨#[46]⟩ m w (by rw [tx_size]; omega) hm).mono ?_
  rintro e w' ⟨rfl, n, rfl⟩
  exact ⟨rfl, drewN_mod w n⟩
theorem ofBelow_mod {w w' : World} (h : Below w.heap.size w w') : Mod [] w w' := ⟨h.os, h.tape, h.output, h.size, fun k hk _ => h.block k hk⟩
theorem cParse_ok {w : World} (l : List UInt8) (hl : l.length ≤ 1000000) (v : Int) (h : Lib.parseIntB 64 l = .ok v) : Calls Tryd.prog 42 #[.string (txZ l), .int .i64 10, .int .i64 64] w fun e w' => e = .returned (.tuple #[.int .i64 v, .nilIface]) ∧ Mod [] w w' := by
  refine (Tryd.strconv_ParseInt_10_at64_ok (txZ l) (by rw [tx_size]; omega) v h w).mono ?_
  rintro e w' ⟨rfl, h2⟩
  refine ⟨rfl, ?_⟩
  rcases h2 with rfl | ⟨t, rfl⟩
  · exact Mod.refl _ _
  · exact ofBelow_mod (Lib.bytesWorld_below w _ t)
theorem cParse_range {w : World} (hg : Gl w) (l : List UInt8) (hl : l.length ≤ 1000000) (h : Lib.parseIntB 64 l = .range) : Calls Tryd.prog 42 #[.string (txZ l), .int .i64 10, .int .i64 64] w fun e w' => (∃ v t p, e = .returned (.tuple #[.int .i64 v, .iface t (.pointer p)])) ∧ Mod [] w w' := by
  obtain ⟨tp, p, hv⟩ := hg.range
  refine (Tryd.strconv_ParseInt_10_at64_range_var (txZ l) (by rw [tx_size]; omega) h tp p w hv).mono ?_
  rintro e w' ⟨N, rfl, _, _, hB⟩
  exact ⟨⟨_, _, _, rfl⟩, ⟨hB.os, hB.tape, hB.output, hB.size, fun k hk _ => hB.block k hk⟩⟩
theorem sFields_at {w : World} (h : Gl w) : Calls Tryd.prog 55 #[.string keptT] w fun e w' => e = .returned (.slice (some ⟨w.heap.size, 0, none⟩) 17 17) ∧ w' = w.alloc (.cells (keptZ.map Value.string).toArray 9) := by
  have hk : (Lib.fields keptT.data.toList).length = 17 := by
    have := congrArg List.length kept_fields
    rw [List.length_map] at this
    rw [this]
    rfl
  have hk2 : ((Lib.fields keptT.data.toList).map fun l => Value.string ⟨l.toArray⟩) = keptZ.map Value.string := by
    rw [← kept_fields, List.map_map]
    rfl
  refine (Tryd.strings_Fields keptT w (by decide +kernel) ?_ h.tab).mono ?_
  · intro j b hb
    have hall : ∀ b ∈ keptT.data.toList, b.toNat < 128 := by decide +kernel
    exact hall b (List.mem_of_getElem? hb)
  · rintro e w' ⟨rfl, rfl⟩
    rw [hk, hk2]
    exact ⟨rfl, rfl⟩
end Go.Proofs.YtdaokholmlpfkaaDoor
namespace Go.Proofs.YtdaokholmlpfkaaDoor
open Go.RowKit Go.ChangeMaps
set_option linter.unusedSimpArgs false
set_option linter.unusedVariables false
set_option maxRecDepth 20000

theorem tx_list (l : List UInt8) : (txZ l).toList = l := by rw [ByteArray.toList_eq]; rfl
theorem dxDigits_at (l : List UInt8) (hl : l.length ≤ 1000000) (hne : l ≠ []) (h : ∀ b ∈ l, digitZ b = true) (w : World) : Calls Tryd.prog 41 #[.string (txZ l)] w fun e w' => e = .returned (.bool true) ∧ w' = w := by
  have hsz := tx_size l
  have HD := Lib.hid h
  have hpos : 0 < l.length := List.length_pos_iff.2 hne
  have hem : (txZ l).toList.isEmpty = false := by
    rw [tx_list]
    cases l with
    | nil => simp at hpos
    | cons b l => rfl
  clear h hne
  go_enter Tryd.func41, Tryd.ntmps41
  go_wp2_with fail
  go_loop [6] (fun s6 => ∃ i : Nat, i ≤ l.length ∧ s6 = .int .i64 i) (fun s6 => l.length - (intOf s6).toNat)
  case atStart => exact ⟨0, by omega, rfl⟩
  case round =>
    obtain ⟨i, hi, rfl⟩ := hrel
    by_cases hlt : i < l.length
    · have hix := tx_index hlt
      have hb := digit_nat.1 (HD.out l[i] (List.getElem_mem hlt))
      generalize l[i] = b at hix hb
      have d0 : decide ((i : Int) < (l.length : Int)) = true := decide_eq_true (by omega)
      have d1 : decide ((b.toNat : Int) < 48) = false := decide_eq_false (by omega)
      have d2 : decide ((57 : Int) < (b.toNat : Int)) = false := decide_eq_false (by omega)
      clear hb
      go_wp2_with fail
      go_round
      case rel => exact ⟨i + 1, by omega, by go_num⟩
      case measure => simp [intOf]; omega
    · have d0 : decide ((i : Int) < (l.length : Int)) = false := decide_eq_false (by omega)
      go_wp2_with fail
      go_ret
      exact ⟨by first | rfl | simp [hem], rfl⟩
/-- what a number's word tells: the error, the number -/
def decR (n : Nat) (whole rest : List UInt8) : Int × Int × Int :=
  if 21 < n then (3, 0, 0) else
    match decW n whole rest with
    | .error e => (e, 0, 0)
    | .ok x => (0, x.1, x.2)
theorem decR_long {n : Nat} {whole rest : List UInt8} (h : 21 < n) : decR n whole rest = (3, 0, 0) := by unfold decR; rw [if_pos h]
theorem decR_short {n : Nat} {whole rest : List UInt8} (h : ¬ 21 < n) : decR n whole rest = if 1 < whole.length ∧ whole.head? = some 48 then (4, 0, 0) else if rest ≠ [] ∧ (9 < rest.length ∨ rest.getLast? = some 48) then (4, 0, 0) else if 9223372036854775807 < digsZ (whole ++ rest) then (11, 0, 0) else (0, (digsZ (whole ++ rest) : Int), (rest.length : Int)) := by
  unfold decR decW
  rw [if_neg h, if_neg h]
  by_cases h1 : 1 < whole.length ∧ whole.head? = some 48
  · rw [if_pos h1, if_pos h1]
  · rw [if_neg h1, if_neg h1]
    by_cases h2 : rest ≠ [] ∧ (9 < rest.length ∨ rest.getLast? = some 48)
    · rw [if_pos h2, if_pos h2]
    · rw [if_neg h2, if_neg h2]
      by_cases h3 : 9223372036854775807 < digsZ (whole ++ rest)
      · rw [if_pos h3, if_pos h3]
      · rw [if_neg h3, if_neg h3]
theorem mod_on {w a b : World} {ks js : List Nat} (h : Mod ks w a) (k : Mod js a b) (hk : ∀ x ∈ js, w.heap.size ≤ x) : Mod ks w b :=
  ⟨k.os.trans h.os, k.tape.trans h.tape, k.output.trans h.output, Nat.le_trans h.size k.size, fun i hi hn =>
    (k.block i (Nat.lt_of_lt_of_le hi h.size) (fun hm => by have := hk i hm; omega)).trans (h.block i hi hn)⟩
theorem tx_add (a b : List UInt8) : txZ a ++ txZ b = txZ (a ++ b) := by
  apply ByteArray.ext
  simp [txZ]
theorem sizeDec : (Tryd.prog.info? 31).map (·.size) = some 2 := by kernel_rfl
theorem results_row_tmpP {P : Program} {fn : Func} {p u : Tmp} {ty : TypeId} (h : fn.results = #[.cell p ty, .tmp u]) (tmps : Array Value) (w : World) (g : Nat) (t : TypeId) (cs : Array Value) (fr : Nat × Nat) (d : TypeDesc)
    (hp : tmps.getD p undef = .pointer (some ⟨g, 0, none⟩)) (hg : w.heap[g]? = some (.cells cs t fr)) (hu : P.underlying ty = some d) (hd : (match d with | .struct _ | .array _ _ => true | _ => false) = true) (hi : (P.info? ty).map (·.size) = some cs.size) :
    (results fn tmps).run P w = .ok (.tuple #[.agg cs, tmps.getD u undef]) w := by
  have q : tmps[p]?.getD undef = .pointer (some ⟨g, 0, none⟩) := by simpa using hp
  simp [results, h, q, asAddr, run_loadVar_row w g t ty cs fr d hg hu hd hi]
theorem set2 {w : World} {b : Nat} {t : TypeId} {a0 a1 : Value} (h : w.heap[b]? = some (.cells #[a0, a1] t (0, 0))) (x0 x1 : Value) : ∃ W, (w.setCell ⟨b, 0, none⟩ x0).setCell ⟨b, 1, none⟩ x1 = W ∧ Mod [b] w W ∧ W.heap[b]? = some (.cells #[x0, x1] t (0, 0)) :=
  ⟨_, rfl, ((Mod.refl _ _).setCell (by simp) _).setCell (by simp) _, by
    have a0 := heap_setCell_blk h 0 x0
    have a1 := heap_setCell_blk a0 1 x1
    simpa using a1⟩
set_option maxHeartbeats 4000000 in
theorem dxParse_at {w : World} (hg : Gl w) {l whole rest : List UInt8} (hN : NumW l whole rest) (hl : l.length ≤ 1000000) : Calls Tryd.prog 26 #[.string (txZ l)] w fun e w' => e = .returned (.tuple #[.agg #[.int .i64 (decR l.length whole rest).2.1, .int .i64 (decR l.length whole rest).2.2], .int .i64 (decR l.length whole rest).1]) ∧ Mod [] w w' := by
  have hsz := tx_size l
  obtain ⟨A1, hA1, n1, z1, m1⟩ := alloc_named2 w (.cells #[.int .i64 0, .int .i64 0] 31)
  have HA := Lib.hid (show Gl A1 ∧ A1.heap[w.heap.size]? = some (.cells #[.int .i64 0, .int .i64 0] 31 (0, 0)) ∧ Mod [] w A1 from ⟨hg.kept0 m1, n1, m1⟩)
  have f0 := frozen_blk n1 0
  have f1 := frozen_blk n1 1
  have g0 := cell_blk n1 0
  have g1 := cell_blk n1 1
  simp only [List.getElem?_toArray, List.getElem?_cons_succ, List.getElem?_cons_zero] at g0 g1
  clear n1 m1
  by_cases h21 : 21 < l.length
  · have d0 : decide ((21 : Int) < (l.length : Int)) = true := decide_eq_true (by omega)
    rw [decR_long h21]
    obtain ⟨W2, e2, m2, b2⟩ := set2 HA.out.2.1 (.int .i64 0) (.int .i64 0)
    have HE2 := Lib.hid e2
    have HB2 := Lib.hid b2
    have HM2 := Lib.hid (mod_on HA.out.2.2 m2 (by simp))
    clear e2 m2 b2 h21
    go_enter Tryd.func26, Tryd.ntmps26
    go_wp2_with fail
    simp only [HE2.out]
    go_wp2_with fail
    refine bodyPost_ret (results_row_tmpP (P := Tryd.prog) (t := 31) (cs := #[.int .i64 0, .int .i64 0]) (fr := (0, 0)) (g := w.heap.size) (h := rfl) (hp := rfl) (hg := HB2.out) (hu := Tryd.underlying31) (hd := rfl) (hi := by rw [sizeDec]; rfl) ..) rfl ⟨rfl, HM2.out⟩
  · have d0 : decide ((21 : Int) < (l.length : Int)) = false := decide_eq_false (by omega)
    have HR := Lib.hid (decR_short (whole := whole) (rest := rest) h21)
    generalize decR l.length whole rest = R at HR ⊢
    obtain ⟨b0, r0, hl0, hb0, hwh⟩ := hN.head
    have hd0 := digit_nat.1 hb0
    have hwl : whole.length ≤ l.length ∧ rest.length ≤ l.length := by
      rcases hN.eq with ⟨h1, h2⟩ | ⟨h1, h2⟩
      · subst h1; rw [h2]; simp
      · rw [h2]; simp; omega
    have CT := Lib.hid (fun W => Tryd.strings_TrimPrefix (txZ l) ⟨#[45]⟩ W)
    rw [show (txZ l).data.toList = l from rfl, show ((⟨#[45]⟩ : ByteArray).data.toList) = [45] from rfl, hN.trim] at CT
    rw [show (⟨l.toArray⟩ : ByteArray) = txZ l from rfl] at CT
    have CC := Lib.hid (fun (W : World) (hW : Gl W) => sCut_at hW l hl)
    rw [hN.cut] at CC
    dsimp only at CC
    obtain ⟨pt, hpt⟩ : ∃ pt, pt = decide (rest ≠ []) := ⟨_, rfl⟩
    rw [← hpt] at CC
    have HPT := Lib.hid hpt
    clear hpt
    have CDW := Lib.hid (fun W => dxDigits_at whole (by omega) hN.ne hN.dw W)
    have HNW := Lib.hid hN
    have hixl : ∀ w : World, (Instr.index 9 (.string (txZ l)) (.int .i64 0)).run Tryd.prog w = .ok (.int .u8 (b0.toNat : Nat)) w := fun W => by
      have := tx_index (l := l) (i := 0) (by rw [hl0]; simp) W
      rw [show (((0 : Nat) : Int)) = 0 from rfl] at this
      rw [this]
      simp [hl0]
    have hixw : ∀ w : World, (Instr.index 9 (.string (txZ whole)) (.int .i64 0)).run Tryd.prog w = .ok (.int .u8 (b0.toNat : Nat)) w := fun W => by
      cases hw : whole with
      | nil => rw [hw] at hwh; cases hwh
      | cons c r =>
        rw [hw] at hwh
        have := tx_index (l := c :: r) (i := 0) (by simp) W
        rw [show (((0 : Nat) : Int)) = 0 from rfl] at this
        rw [this]
        simp at hwh
        simp [hwh]
    have hwz := tx_size whole
    have hrz := tx_size rest
    have d45 : ((b0.toNat : Int) == 45) = false := by rw [beq_eq_false_iff_ne]; omega
    have hne0 : (txZ l).toList = [45, 48] → False := fun h => by
      rw [tx_list, hl0] at h
      injection h with h1 h2
      subst h1
      revert hb0
      decide
    have e0 : ((txZ l).toList == [45, 48]) = false := by rw [beq_eq_false_iff_ne]; exact hne0
    have HWH := Lib.hid (show whole.head? = some 48 ↔ b0 = 48 by rw [hwh]; simp)
    have HDG := Lib.hid (show digsZ (whole ++ rest) ≤ 9223372036854775807 → ∀ W, Calls Tryd.prog 42 #[.string (txZ (whole ++ rest)), .int .i64 10, .int .i64 64] W fun e w' => e = .returned (.tuple #[.int .i64 (digsZ (whole ++ rest) : Nat), .nilIface]) ∧ Mod [] W w' from fun h W => cParse_ok (whole ++ rest) (by simp; omega) _ (by rw [hN.int, if_pos h]))
    have HDB := Lib.hid (show ¬ digsZ (whole ++ rest) ≤ 9223372036854775807 → ∀ W, Gl W → Calls Tryd.prog 42 #[.string (txZ (whole ++ rest)), .int .i64 10, .int .i64 64] W fun e w' => (∃ v t p, e = .returned (.tuple #[.int .i64 v, .iface t (.pointer p)])) ∧ Mod [] W w' from fun h W hW => cParse_range hW (whole ++ rest) (by simp; omega) (by rw [hN.int, if_neg h]))
    have HADD := Lib.hid (show (⟨#[]⟩ : ByteArray) ++ txZ whole ++ txZ rest = txZ (whole ++ rest) by rw [show (⟨#[]⟩ : ByteArray) = txZ [] from rfl, tx_add, tx_add]; rfl)
    have HADW := Lib.hid (show (⟨#[]⟩ : ByteArray) ++ txZ whole = txZ whole by rw [show (⟨#[]⟩ : ByteArray) = txZ [] from rfl, tx_add]; rfl)
    have HADR := Lib.hid (tx_add whole rest)
    have hws : ¬ 9223372036854775807 < whole.length := by omega
    have hws2 : ¬ 9223372036854775807 < whole.length + rest.length := by omega
    have HLL := Lib.hid hwl
    clear h21 hne0 hN hl0 hb0 hwh hd0 hwl
    go_enter Tryd.func26, Tryd.ntmps26
    go_wp2_with fail
    refine (CT.out _).mono ?_
    rintro e w2 ⟨rfl, rfl⟩
    go_wp2_with fail
    refine (CC.out _ HA.out.1).mono ?_
    rintro e w2 ⟨rfl, m2⟩
    have HA2 := Lib.hid (show Gl w2 ∧ w2.heap[w.heap.size]? = some (.cells #[.int .i64 0, .int .i64 0] 31 (0, 0)) ∧ Mod [] w w2 from ⟨HA.out.1.kept0 m2, m2.heap HA.out.2.1 (by simp), HA.out.2.2.trans m2⟩)
    clear m2 CT CC
    go_wp2_with fail
    refine (CDW.out _).mono ?_
    rintro e w3 ⟨rfl, rfl⟩
    have f0 := frozen_blk HA2.out.2.1 0
    have f1 := frozen_blk HA2.out.2.1 1
    have g0 := cell_blk HA2.out.2.1 0
    have g1 := cell_blk HA2.out.2.1 1
    simp only [List.getElem?_toArray, List.getElem?_cons_succ, List.getElem?_cons_zero] at g0 g1
    by_cases hA : 1 < whole.length ∧ b0 = 48
    · have d1 : decide ((1 : Int) < (whole.length : Int)) = true := decide_eq_true (by omega)
      have d48 : ((b0.toNat : Int) == 48) = true := by rw [hA.2]; rfl
      have HV := Lib.hid (show R = (4, 0, 0) by rw [HR.out, if_pos ⟨hA.1, HWH.out.2 hA.2⟩])
      clear hA
      obtain ⟨W2, e2, m2, b2⟩ := set2 HA2.out.2.1 (.int .i64 0) (.int .i64 0)
      have HE2 := Lib.hid e2
      have HB2 := Lib.hid b2
      have HM2 := Lib.hid (mod_on HA2.out.2.2 m2 (by simp))
      clear e2 m2 b2
      go_wp2_with fail
      simp only [HE2.out]
      go_wp2_with fail
      refine bodyPost_ret (results_row_tmpP (P := Tryd.prog) (t := 31) (cs := #[.int .i64 0, .int .i64 0]) (fr := (0, 0)) (g := w.heap.size) (h := rfl) (hp := rfl) (hg := HB2.out) (hu := Tryd.underlying31) (hd := rfl) (hi := by rw [sizeDec]; rfl) ..) rfl ⟨by rw [HV.out]; rfl, HM2.out⟩
    · have HR := Lib.hid (show R = _ by rw [HR.out, if_neg (fun h => hA ⟨h.1, HWH.out.1 h.2⟩)])
      have hA2 : (decide ((1 : Int) < (whole.length : Int)) = false) ∨ (decide ((1 : Int) < (whole.length : Int)) = true ∧ ((b0.toNat : Int) == 48) = false) := by
        by_cases h1 : 1 < whole.length
        · refine .inr ⟨decide_eq_true (by omega), ?_⟩
          rw [beq_eq_false_iff_ne]
          intro h
          exact hA ⟨h1, (byte_eq (n := 48) (by omega)).1 (by simpa using h)⟩
        · exact .inl (decide_eq_false (by omega))
      clear hA
      rcases hA2 with d1 | ⟨d1, d48⟩
      all_goals
        by_cases hr : rest = []
        · have HNF := Lib.hid (show ¬ (rest ≠ [] ∧ (9 < rest.length ∨ rest.getLast? = some 48)) from fun h => h.1 hr)
          obtain rfl : pt = false := by rw [HPT.out]; exact decide_eq_false (fun h => h hr)
          clear hr
          have HRT := Lib.hid (show R = _ by rw [HR.out, if_neg HNF.out])
          by_cases hdg : digsZ (whole ++ rest) ≤ 9223372036854775807
          · have HV := Lib.hid (show R = (0, (digsZ (whole ++ rest) : Int), (rest.length : Int)) by rw [HRT.out, if_neg (by omega)])
            have HDG := Lib.hid (HDG.out hdg)
            clear hdg
            go_wp2_with fail
            try simp only [HADD.out, HADW.out, HADR.out]
            refine (HDG.out _).mono ?_
            rintro e w4 ⟨rfl, m4⟩
            have HA4 := Lib.hid (show w4.heap[w.heap.size]? = some (.cells #[.int .i64 0, .int .i64 0] 31 (0, 0)) ∧ Mod [] w w4 from ⟨m4.heap HA2.out.2.1 (by simp), HA2.out.2.2.trans m4⟩)
            have f0 := frozen_blk HA4.out.1 0
            have f1 := frozen_blk HA4.out.1 1
            have g0 := cell_blk HA4.out.1 0
            have g1 := cell_blk HA4.out.1 1
            simp only [List.getElem?_toArray, List.getElem?_cons_succ, List.getElem?_cons_zero] at g0 g1
            obtain ⟨W2, e2, m2, b2⟩ := set2 HA4.out.1 (.int .i64 (digsZ (whole ++ rest) : Nat)) (.int .i64 (rest.length : Nat))
            have HE2 := Lib.hid e2
            have HB2 := Lib.hid b2
            have HM2 := Lib.hid (mod_on HA4.out.2 m2 (by simp))
            clear e2 m2 b2 m4
            go_wp2_with fail
            simp only [HE2.out]
            go_wp2_with fail
            refine bodyPost_ret (results_row_tmpP (P := Tryd.prog) (t := 31) (cs := #[.int .i64 (digsZ (whole ++ rest) : Nat), .int .i64 (rest.length : Nat)]) (fr := (0, 0)) (g := w.heap.size) (h := rfl) (hp := rfl) (hg := HB2.out) (hu := Tryd.underlying31) (hd := rfl) (hi := by rw [sizeDec]; rfl) ..) rfl ⟨by rw [HV.out]; rfl, HM2.out⟩
          · have HV := Lib.hid (show R = (11, 0, 0) by rw [HRT.out, if_pos (by omega)])
            have HDB := Lib.hid (HDB.out hdg)
            clear hdg
            go_wp2_with fail
            try simp only [HADD.out, HADW.out, HADR.out]
            refine (HDB.out _ HA2.out.1).mono ?_
            rintro e w4 ⟨⟨v, t, pp, rfl⟩, m4⟩
            have HA4 := Lib.hid (show Gl w4 ∧ w4.heap[w.heap.size]? = some (.cells #[.int .i64 0, .int .i64 0] 31 (0, 0)) ∧ Mod [] w w4 from ⟨HA2.out.1.kept0 m4, m4.heap HA2.out.2.1 (by simp), HA2.out.2.2.trans m4⟩)
            have f0 := frozen_blk HA4.out.2.1 0
            have f1 := frozen_blk HA4.out.2.1 1
            have g0 := cell_blk HA4.out.2.1 0
            have g1 := cell_blk HA4.out.2.1 1
            simp only [List.getElem?_toArray, List.getElem?_cons_succ, List.getElem?_cons_zero] at g0 g1
            clear m4
            obtain ⟨W2, e2, m2, b2⟩ := set2 HA4.out.2.1 (.int .i64 0) (.int .i64 0)
            have HE2 := Lib.hid e2
            have HB2 := Lib.hid b2
            have HM2 := Lib.hid (mod_on HA4.out.2.2 m2 (by simp))
            clear e2 m2 b2
            go_wp2_with fail
            simp only [HE2.out]
            go_wp2_with fail
            refine bodyPost_ret (results_row_tmpP (P := Tryd.prog) (t := 31) (cs := #[.int .i64 0, .int .i64 0]) (fr := (0, 0)) (g := w.heap.size) (h := rfl) (hp := rfl) (hg := HB2.out) (hu := Tryd.underlying31) (hd := rfl) (hi := by rw [sizeDec]; rfl) ..) rfl ⟨by rw [HV.out]; rfl, HM2.out⟩
        · obtain rfl : pt = true := by rw [HPT.out]; exact decide_eq_true hr
          have CDR := Lib.hid (fun W => dxDigits_at rest (by have := HLL.out.2; omega) hr HNW.out.dr W)
          obtain ⟨bl, hbl⟩ : ∃ b, rest.getLast? = some b := ⟨_, List.getLast?_eq_some_getLast hr⟩
          have hrp : 0 < rest.length := List.length_pos_iff.2 hr
          have hixr : ∀ w : World, (Instr.index 9 (.string (txZ rest)) (.int .i64 ((rest.length : Int) - 1))).run Tryd.prog w = .ok (.int .u8 (bl.toNat : Nat)) w := fun W => by
            have := tx_index (l := rest) (i := rest.length - 1) (by omega) W
            rw [show (((rest.length - 1 : Nat)) : Int) = (rest.length : Int) - 1 by omega] at this
            rw [this]
            rw [List.getLast?_eq_getElem?, List.getElem?_eq_getElem (by omega)] at hbl
            injection hbl with hbl
            rw [hbl]
          have hwr : IntKind.i64.wrap ((rest.length : Int) - 1) = (rest.length : Int) - 1 := by rw [IntKind.wrap_i64]; have := HLL.out.2; omega
          have HR9 := Lib.hid hr
          have HBL := Lib.hid hbl
          clear hr hbl
          by_cases h9 : 9 < rest.length
          · have d9 : decide ((9 : Int) < (rest.length : Int)) = true := decide_eq_true (by omega)
            have HV := Lib.hid (show R = (4, 0, 0) by rw [HR.out, if_pos ⟨HR9.out, .inl h9⟩])
            clear h9
            go_wp2_with fail
            refine (CDR.out _).mono ?_
            rintro e w5 ⟨rfl, rfl⟩
            obtain ⟨W2, e2, m2, b2⟩ := set2 HA2.out.2.1 (.int .i64 0) (.int .i64 0)
            have HE2 := Lib.hid e2
            have HB2 := Lib.hid b2
            have HM2 := Lib.hid (mod_on HA2.out.2.2 m2 (by simp))
            clear e2 m2 b2
            go_wp2_with fail
            simp only [HE2.out]
            go_wp2_with fail
            refine bodyPost_ret (results_row_tmpP (P := Tryd.prog) (t := 31) (cs := #[.int .i64 0, .int .i64 0]) (fr := (0, 0)) (g := w.heap.size) (h := rfl) (hp := rfl) (hg := HB2.out) (hu := Tryd.underlying31) (hd := rfl) (hi := by rw [sizeDec]; rfl) ..) rfl ⟨by rw [HV.out]; rfl, HM2.out⟩
          · have d9 : decide ((9 : Int) < (rest.length : Int)) = false := decide_eq_false (by omega)
            by_cases h48 : bl = 48
            · have d48r : ((bl.toNat : Int) == 48) = true := by rw [h48]; rfl
              have HV := Lib.hid (show R = (4, 0, 0) by rw [HR.out, if_pos ⟨HR9.out, .inr (by rw [HBL.out, h48])⟩])
              clear h9 h48
              go_wp2_with fail
              refine (CDR.out _).mono ?_
              rintro e w5 ⟨rfl, rfl⟩
              obtain ⟨W2, e2, m2, b2⟩ := set2 HA2.out.2.1 (.int .i64 0) (.int .i64 0)
              have HE2 := Lib.hid e2
              have HB2 := Lib.hid b2
              have HM2 := Lib.hid (mod_on HA2.out.2.2 m2 (by simp))
              clear e2 m2 b2
              go_wp2_with fail
              simp only [HE2.out]
              go_wp2_with fail
              refine bodyPost_ret (results_row_tmpP (P := Tryd.prog) (t := 31) (cs := #[.int .i64 0, .int .i64 0]) (fr := (0, 0)) (g := w.heap.size) (h := rfl) (hp := rfl) (hg := HB2.out) (hu := Tryd.underlying31) (hd := rfl) (hi := by rw [sizeDec]; rfl) ..) rfl ⟨by rw [HV.out]; rfl, HM2.out⟩
            · have d48r : ((bl.toNat : Int) == 48) = false := by
                rw [beq_eq_false_iff_ne]
                intro h
                exact h48 ((byte_eq (n := 48) (by omega)).1 (by simpa using h))
              have HNF := Lib.hid (show ¬ (rest ≠ [] ∧ (9 < rest.length ∨ rest.getLast? = some 48)) from fun h => by
                rcases h.2 with h1 | h1
                · exact h9 h1
                · rw [HBL.out] at h1
                  injection h1 with h1
                  exact h48 h1)
              clear h9 h48
              go_wp2_with fail
              refine (CDR.out _).mono ?_
              rintro e w5 ⟨rfl, rfl⟩
              have HRT := Lib.hid (show R = _ by rw [HR.out, if_neg HNF.out])
              by_cases hdg : digsZ (whole ++ rest) ≤ 9223372036854775807
              · have HV := Lib.hid (show R = (0, (digsZ (whole ++ rest) : Int), (rest.length : Int)) by rw [HRT.out, if_neg (by omega)])
                have HDG := Lib.hid (HDG.out hdg)
                clear hdg
                go_wp2_with fail
                try simp only [HADD.out, HADW.out, HADR.out]
                refine (HDG.out _).mono ?_
                rintro e w4 ⟨rfl, m4⟩
                have HA4 := Lib.hid (show w4.heap[w.heap.size]? = some (.cells #[.int .i64 0, .int .i64 0] 31 (0, 0)) ∧ Mod [] w w4 from ⟨m4.heap HA2.out.2.1 (by simp), HA2.out.2.2.trans m4⟩)
                have f0 := frozen_blk HA4.out.1 0
                have f1 := frozen_blk HA4.out.1 1
                have g0 := cell_blk HA4.out.1 0
                have g1 := cell_blk HA4.out.1 1
                simp only [List.getElem?_toArray, List.getElem?_cons_succ, List.getElem?_cons_zero] at g0 g1
                obtain ⟨W2, e2, m2, b2⟩ := set2 HA4.out.1 (.int .i64 (digsZ (whole ++ rest) : Nat)) (.int .i64 (rest.length : Nat))
                have HE2 := Lib.hid e2
                have HB2 := Lib.hid b2
                have HM2 := Lib.hid (mod_on HA4.out.2 m2 (by simp))
                clear e2 m2 b2 m4
                go_wp2_with fail
                simp only [HE2.out]
                go_wp2_with fail
                refine bodyPost_ret (results_row_tmpP (P := Tryd.prog) (t := 31) (cs := #[.int .i64 (digsZ (whole ++ rest) : Nat), .int .i64 (rest.length : Nat)]) (fr := (0, 0)) (g := w.heap.size) (h := rfl) (hp := rfl) (hg := HB2.out) (hu := Tryd.underlying31) (hd := rfl) (hi := by rw [sizeDec]; rfl) ..) rfl ⟨by rw [HV.out]; rfl, HM2.out⟩
              · have HV := Lib.hid (show R = (11, 0, 0) by rw [HRT.out, if_pos (by omega)])
                have HDB := Lib.hid (HDB.out hdg)
                clear hdg
                go_wp2_with fail
                try simp only [HADD.out, HADW.out, HADR.out]
                refine (HDB.out _ HA2.out.1).mono ?_
                rintro e w4 ⟨⟨v, t, pp, rfl⟩, m4⟩
                have HA4 := Lib.hid (show Gl w4 ∧ w4.heap[w.heap.size]? = some (.cells #[.int .i64 0, .int .i64 0] 31 (0, 0)) ∧ Mod [] w w4 from ⟨HA2.out.1.kept0 m4, m4.heap HA2.out.2.1 (by simp), HA2.out.2.2.trans m4⟩)
                have f0 := frozen_blk HA4.out.2.1 0
                have f1 := frozen_blk HA4.out.2.1 1
                have g0 := cell_blk HA4.out.2.1 0
                have g1 := cell_blk HA4.out.2.1 1
                simp only [List.getElem?_toArray, List.getElem?_cons_succ, List.getElem?_cons_zero] at g0 g1
                clear m4
                obtain ⟨W2, e2, m2, b2⟩ := set2 HA4.out.2.1 (.int .i64 0) (.int .i64 0)
                have HE2 := Lib.hid e2
                have HB2 := Lib.hid b2
                have HM2 := Lib.hid (mod_on HA4.out.2.2 m2 (by simp))
                clear e2 m2 b2
                go_wp2_with fail
                simp only [HE2.out]
                go_wp2_with fail
                refine bodyPost_ret (results_row_tmpP (P := Tryd.prog) (t := 31) (cs := #[.int .i64 0, .int .i64 0]) (fr := (0, 0)) (g := w.heap.size) (h := rfl) (hp := rfl) (hg := HB2.out) (hu := Tryd.underlying31) (hd := rfl) (hi := by rw [sizeDec]; rfl) ..) rfl ⟨by rw [HV.out]; rfl, HM2.out⟩
end Go.Proofs.YtdaokholmlpfkaaDoor
