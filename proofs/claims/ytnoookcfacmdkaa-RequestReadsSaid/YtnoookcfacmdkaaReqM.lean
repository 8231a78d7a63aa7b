/- Layer 25: bytes are read as a record: what is deferred; equal bytes. -/
import Derived.Test.YtnoookcfacmdkaaReqL
import Derived.Defers
import Derived.Recover
namespace Go.Proofs.Ytnoookcfacmdkaa
open Go.RowKit Go.ChangeMaps
set_option linter.unusedSimpArgs false
set_option linter.unusedVariables false
set_option maxRecDepth 20000

theorem str_inj {a b : List Int} (ha : Byt a) (hb : Byt b) : (strOfNums a = strOfNums b) = (a = b) := by
  apply propext
  constructor
  · intro h
    rw [← nums_str ha, ← nums_str hb, h]
  · intro h; rw [h]
theorem equal_any {w : World} {x y : Value} {a b : List Int} (hx : BytesAt w x a) (hy : BytesAt w y b) (ha : Byt a) (hb : Byt b) :
    Calls Try.prog 41 #[x, y] w fun e w' => e = .returned (.bool (decide (a = b))) ∧ w' = w := by
  have HX := Lib.hid (conv_bytes hx)
  have HY := Lib.hid (conv_bytes hy)
  have HE : Hid ((strOfNums a).toList = (strOfNums b).toList ↔ a = b) := Lib.hid (by rw [str_list, str_inj ha hb])
  clear hx hy ha hb
  go_enter Try.func41, Try.ntmps41
  go_wp2_with (first | ((with_reducible refine xConvertAt rfl HX.out ?_ ?_ ?_); exact rfl; exact rfl) | ((with_reducible refine xConvertAt rfl HY.out ?_ ?_ ?_); exact rfl; exact rfl))
  go_ret
  refine ⟨bool_eq ?_, rfl⟩
  simp [HE.out]
/-- The deferred call, when the reading has given up. -/
theorem caught {w : World} {b2 b3 : Nat} {c2 c3 : Array Value} (h2 : w.heap[b2]? = some (.cells c2 54 (0, 0))) (h3 : w.heap[b3]? = some (.cells c3 26 (0, 0))) (hs2 : c2.size = 4) (hs3 : c3.size = 1) (hne : b2 ≠ b3) :
    CallsD Try.prog 37 #[.pointer (some ⟨b2, 0, none⟩), .pointer (some ⟨b3, 0, none⟩)] (.panicking wrongP) w fun e u' w' =>
      e = .returned (.tuple #[]) ∧ u' = .panicking [{ v := .iface 80 (.agg #[]), recovered := true }] ∧ Mod [b2, b3] w w' ∧
      w'.heap[b2]? = some (.cells #[.int .u8 0, .slice none 0 0, .int .i64 0, .int .i64 0] 54 (0, 0)) ∧ w'.heap[b3]? = some (.cells #[.int .i64 4] 26 (0, 0)) := by
  refine callsD_of_wpS Try.func37 rfl fun c₀ cs hu => ?_
  have hC := Lib.hid (fun (w : World) => h2)
  obtain ⟨w5, r5, m5, g5⟩ := store_ret (w := w.alloc (.cells #[] 80)) (b := b2) (c := #[.int .u8 0, .slice none 0 0, .int .i64 0, .int .i64 0]) (c0 := c2) 54 ((heap_alloc_ne w _ (lt_of_heap h2)).trans h2) (by simp [hs2]) (by kernel_rfl) (by simp [Value.oneCell'])
  have g3 := m5.heap ((heap_alloc_ne w (.cells #[] 80) (lt_of_heap h3)).trans h3) (by simp; omega)
  have q3 : ∃ v, w5.cell? ⟨b3, 0, none⟩ = some v := by
    rw [cell_blk g3]
    exact ⟨c3[0], by simp [hs3]⟩
  obtain ⟨v3, q3⟩ := q3
  have f3 := frozen_blk g3 0
  have g6 := heap_setCell_blk g3 0 (.int .i64 4)
  have e3 : c3.setIfInBounds 0 (.int .i64 4) = #[.int .i64 4] := by
    apply Array.ext
    · simp [hs3]
    · intro i h1 h2
      have : i = 0 := by simp at h2; omega
      subst this
      simp
  rw [e3] at g6
  have m6 := (Mod.refl [b3] w5).setCell (p := ⟨b3, 0, none⟩) (by simp) (.int .i64 4)
  have g7 := m6.heap g5 (by simp; omega)
  have HM := Lib.hid (((((Mod.refl [] w).alloc (.cells #[] 80)).nil (l := [b2, b3])).trans (m5.mono (by simp))).trans (m6.mono (by simp)))
  have HR5 := Lib.hid r5
  have HG6 := Lib.hid g6
  have HG7 := Lib.hid g7
  clear r5 m5 g5 g3 g6 e3 m6 g7 hC h2 h3
  apply wpS_seq
  apply wpS_region
  simp only [wrongP] at hu
  simp [wpOpsS, go_sem, recoverD, hu, Try.ntmps37, Exit.thenS]
  refine wpS_of_wp ?_
  rw [show (#[Value.pointer (some ⟨b2, 0, none⟩), Value.pointer (some ⟨b3, 0, none⟩)] ++ (Array.replicate 10 undef).setIfInBounds 3 (Value.iface 80 (Value.agg #[]))) = #[Value.pointer (some ⟨b2, 0, none⟩), Value.pointer (some ⟨b3, 0, none⟩), undef, undef, undef, Value.iface 80 (Value.agg #[]), undef, undef, undef, undef, undef, undef] from rfl]
  clear hu
  have hta : ∀ w : World, (Instr.typeAssert (.iface 80 (.agg #[])) 20 80 true).run Try.prog w = .ok (.tuple #[.agg #[], .bool true]) w := fun w => by kernel_rfl
  go_wp2_with ((with_reducible refine xStoreAt rfl HR5.out ?_ ?_ ?_ ?_); exact rfl; exact rfl; exact rfl)
  exact ⟨rfl, _, rfl, .tuple #[], by simp [results, Try.results37], rfl, rfl, HM.out, HG7.out, HG6.out⟩
theorem idle {w : World} {b2 b3 : Nat} :
    CallsD Try.prog 37 #[.pointer (some ⟨b2, 0, none⟩), .pointer (some ⟨b3, 0, none⟩)] .returning w fun e u' w' => e = .returned (.tuple #[]) ∧ u' = .returning ∧ w' = w := by
  refine callsD_of_wpS Try.func37 rfl fun c₀ cs hu => ?_
  apply wpS_seq
  apply wpS_region
  simp [wpOpsS, go_sem, recoverD, hu, Try.ntmps37, Exit.thenS]
  refine wpS_of_wp ?_
  rw [show (#[Value.pointer (some ⟨b2, 0, none⟩), Value.pointer (some ⟨b3, 0, none⟩)] ++ (Array.replicate 10 undef).setIfInBounds 3 Value.nilIface) = #[Value.pointer (some ⟨b2, 0, none⟩), Value.pointer (some ⟨b3, 0, none⟩), undef, undef, undef, Value.nilIface, undef, undef, undef, undef, undef, undef] from rfl]
  go_wp2_with fail
  exact ⟨rfl, .returning, by rw [← hu], .tuple #[], by simp [results, Try.results37], rfl, rfl, rfl⟩
end Go.Proofs.Ytnoookcfacmdkaa
