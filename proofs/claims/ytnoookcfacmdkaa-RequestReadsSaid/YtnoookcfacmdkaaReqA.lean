/- Layer 25: what may be: spans, decimals, values. -/
import Derived.Test.YtnoookcfacmdkaaDiskD
import Derived.Test.YtnoookcfacmdkaaWords
import Derived.Test.YtnoookcfacmdkaaRegG
import Derived.Test.YtnoookcfacmdkaaOps
namespace Go.Proofs.Ytnoookcfacmdkaa
open Go.RowKit Go.ChangeMaps
set_option linter.unusedSimpArgs false
set_option linter.unusedVariables false

theorem bool_eq {a b : Bool} (h : (a = true) = (b = true)) : Ending.returned (.bool a) = .returned (.bool b) := by
  cases a <;> cases b <;> simp_all
theorem span_any (a b : Int) (w : World) : Calls Try.prog 50 #[.agg #[.int .i64 a, .int .i64 b]] w fun e w' => e = .returned (.bool (spanOk a b)) ∧ Mod [] w w' := by
  go_enter Try.func50, Try.ntmps50
  go_wp2
  all_goals
    go_ret
    refine ⟨bool_eq ?_, (Mod.refl _ _).alloc _⟩
    simp [spanOk, *]
  all_goals omega
theorem may_dec (c s : Int) (w : World) : Calls Try.prog 66 #[.agg #[.int .i64 c, .int .i64 s]] w fun e w' => e = .returned (.bool (decOk c s)) ∧ Mod [] w w' := by
  go_enter Try.func66, Try.ntmps66
  go_wp2
  go_rounds 2
  all_goals
    go_ret
    refine ⟨bool_eq ?_, ?_⟩
    · simp [decOk, *] <;> omega
    · exact ((((Mod.refl _ _).alloc _).alloc _).alloc _)
theorem vMay_num (c s : Int) (w : World) : Calls Try.prog 63 #[vKey 1 c s 0] w fun e w' => e = .returned (.bool (mayV 1 c s 0)) ∧ Mod [] w w' := by
  have hm : mayV 1 c s 0 = decOk c s := by simp [mayV]
  rw [hm]
  unfold vKey
  go_enter Try.func63, Try.ntmps63
  go_wp2_with fail
  refine (may_dec c s _).mono ?_
  rintro e w1 ⟨rfl, h1⟩
  go_wp2_with fail
  go_ret
  exact ⟨rfl, ((Mod.refl _ _).alloc _).trans h1⟩
theorem load_blk {P : Program} {w : World} {b : Nat} {c : Array Value} {t : TypeId} {f : Nat × Nat} (T : TypeId) {d : TypeDesc} (h : w.heap[b]? = some (.cells c t f)) (hu : P.underlying T = some d) (hd : d.isRow = true) (hi : (P.info? T).map (·.size) = some c.size) :
    (Instr.loadAt T (.pointer (some ⟨b, 0, none⟩))).run P w = .ok (.agg c) w := by
  have h1 := run_loadAt_mid (P := P) w b 0 T c.toList d (rangeAt_blk (c := c.toList) (by simpa using h)) hu hd (by simpa using hi)
  simpa using h1
theorem sizeValue : (Try.prog.info? 76).map (·.size) = some 4 := by kernel_rfl
theorem vMay_six (k c s e : Int) (w : World) (h : ¬ (k = 1 ∧ e = 0)) : Calls Try.prog 63 #[vKey k c s e] w fun x w' => x = .returned (.bool (mayV k c s e)) ∧ Mod [] w w' := by
  have hm : mayV k c s e = sixB k c s e := by simp only [mayV, if_neg h, sixB]
  rw [hm]
  clear hm
  unfold vKey
  have e1 : (k == 1 && e == 0) = false := by
    by_cases h1 : k = 1 <;> by_cases h2 : e = 0 <;> simp_all
  have LK : Hid (∀ (w : World) (m : Nat), WordsAt w m (fun _ => True) → ∃ v : ByteArray, (Instr.lookup 111 (.map (some m)) (vKey k c s e) true).run Try.prog w = .ok (.tuple #[.string v, .bool (sixB k c s e)]) w) := Lib.hid fun w m h => lookup_six h k c s e
  by_cases h1 : k = 1
  all_goals
    first
      | (subst h1; have he : ¬ e = 0 := fun x => h ⟨rfl, x⟩)
      | skip
    clear h e1
    go_enter Try.func63, Try.ntmps63
    go_wp2_with fail
    refine wp_plan [([1], 0, [1]), ([], 2, [])] [3, 4, 5, 6, 7] (by kernel_rfl) (by kernel_rfl) ?_
    simp only [wpSegs, opsOf, List.map_cons, List.map_nil, opN, List.getD_cons_zero, List.getD_cons_succ]
    go_wp2_with fail
    refine ⟨by first | trivial | rfl, ?_⟩
    go_wp2_with fail
    refine (words_any _).mono ?_
    rintro x w1 ⟨m, rfl, hb, hm1, hw⟩
    obtain ⟨v, hl⟩ := LK.out w1 m hw
    unfold vKey at hl
    have hc := hm1.heap (b := w.heap.size) (heap_alloc_new w _) (by simp)
    have HL := Lib.hid hl
    have HC := Lib.hid (load_blk (P := Try.prog) 76 hc Try.underlying76 rfl sizeValue)
    have HM := Lib.hid hm1
    clear hl hc hm1
    go_wp2_with fail
    refine ⟨?ag1, ?_⟩
    case ag1 =>
      intro i hi hw
      simp only [List.mem_cons, List.not_mem_nil, or_false] at hi
      subst hi
      all_goals exact exec_load rfl rfl HC.out
    go_wp2_with fail
    refine ⟨by first | trivial | rfl, ?_⟩
    go_wp2_with (refine xLookup (t := 111) rfl HL.out rfl rfl rfl ?_)
    refine ⟨again_nil, ?_⟩
    go_wp2_with fail
    refine ⟨by first | trivial | rfl, ?_⟩
    go_wp2_with fail
    go_ret
    exact ⟨rfl, (((Mod.refl _ _).alloc _).drew).trans HM.out⟩
theorem vMay_any (k c s e : Int) (w : World) : Calls Try.prog 63 #[vKey k c s e] w fun x w' => x = .returned (.bool (mayV k c s e)) ∧ Mod [] w w' := by
  by_cases h : k = 1 ∧ e = 0
  · obtain ⟨rfl, rfl⟩ := h
    exact vMay_num c s w
  · exact vMay_six k c s e w h
/-! ### operations -/
def DoR.cells (d : DoR) : List Value := [.int .u8 d.k, .int .i64 d.f, .string d.nm, .int .u8 d.fk, .int .i64 d.a, .int .i64 d.b, .int .u8 d.vk, .int .i64 d.c, .int .i64 d.s, .int .i64 d.e, .string d.tx]
set_option maxHeartbeats 4000000 in
theorem short_any (d : DoR) (w : World) : Calls Try.prog 64 #[.agg d.cells.toArray] w fun e w' => e = .returned (.agg d.short.cells.toArray) ∧ Mod [] w w' := by
  obtain ⟨k, f, nm, fk, a, b, vk, c, s, e, tx⟩ := d
  unfold DoR.cells DoR.short
  by_cases k1 : k = 1
  · subst k1
    go_enter Try.func64, Try.ntmps64
    go_wp2_with fail
    refine wp_plan [([0, 2, 1, 3, 4], 5, [2, 3]), ([6], 7, [])] [] (by kernel_rfl) (by kernel_rfl) ?_
    simp only [wpSegs, opsOf, List.map_cons, List.map_nil, opN, List.getD_cons_zero, List.getD_cons_succ]
    go_wp2_with fail
    refine ⟨by first | trivial | rfl, ?_⟩
    go_wp2_with fail
    refine ⟨?ag1, ?_⟩
    case ag1 =>
      intro i hi hw
      simp only [List.mem_cons, List.not_mem_nil, or_false] at hi
      rcases hi with rfl | rfl
      all_goals (simp only [opN, List.getD_cons_zero, List.getD_cons_succ, slotOf]; go_simp)
    go_wp2_with fail
    refine ⟨by first | trivial | rfl, ?_⟩
    go_wp2_with fail
    refine ⟨again_nil, ?_⟩
    go_wp2_with fail
    refine ⟨by first | trivial | rfl, ?_⟩
    go_wp2_with fail
    refine bodyPost_ret (v := .agg #[.int .u8 1, .int .i64 0, .string nm, .int .u8 fk, .int .i64 0, .int .i64 0, .int .u8 0, .int .i64 0, .int .i64 0, .int .i64 0, .string ⟨#[]⟩]) (by simp [results, Try.results64, go_sem]) rfl ⟨rfl, ?_⟩
    exact ((((Mod.refl _ _).alloc _).alloc _).alloc _).drew
  by_cases k2 : k = 2
  · subst k2
    clear k1
    go_enter Try.func64, Try.ntmps64
    go_wp2_with fail
    refine wp_plan [([0, 2, 1, 3, 4], 5, [2, 3]), ([6], 7, [])] [] (by kernel_rfl) (by kernel_rfl) ?_
    simp only [wpSegs, opsOf, List.map_cons, List.map_nil, opN, List.getD_cons_zero, List.getD_cons_succ]
    go_wp2_with fail
    refine ⟨by first | trivial | rfl, ?_⟩
    go_wp2_with fail
    refine ⟨?ag2, ?_⟩
    case ag2 =>
      intro i hi hw
      simp only [List.mem_cons, List.not_mem_nil, or_false] at hi
      rcases hi with rfl | rfl
      all_goals (simp only [opN, List.getD_cons_zero, List.getD_cons_succ, slotOf]; go_simp)
    go_wp2_with fail
    refine ⟨by first | trivial | rfl, ?_⟩
    go_wp2_with fail
    refine ⟨again_nil, ?_⟩
    go_wp2_with fail
    refine ⟨by first | trivial | rfl, ?_⟩
    go_wp2_with fail
    refine bodyPost_ret (v := .agg #[.int .u8 2, .int .i64 f, .string ⟨#[]⟩, .int .u8 0, .int .i64 a, .int .i64 b, .int .u8 vk, .int .i64 c, .int .i64 s, .int .i64 e, .string ⟨#[]⟩]) (by simp [results, Try.results64, go_sem]) rfl ⟨rfl, ?_⟩
    exact ((((Mod.refl _ _).alloc _).alloc _).alloc _).drew
  by_cases k3 : k = 3
  · subst k3
    clear k1 k2
    go_enter Try.func64, Try.ntmps64
    go_wp2_with fail
    refine bodyPost_ret (v := .agg #[.int .u8 3, .int .i64 f, .string ⟨#[]⟩, .int .u8 0, .int .i64 a, .int .i64 b, .int .u8 0, .int .i64 0, .int .i64 0, .int .i64 0, .string ⟨#[]⟩]) (by simp [results, Try.results64, go_sem]) rfl ⟨rfl, ?_⟩
    exact ((((Mod.refl _ _).alloc _).alloc _).alloc _)
  by_cases k4 : k = 4
  · subst k4
    clear k1 k2 k3
    go_enter Try.func64, Try.ntmps64
    go_wp2_with fail
    refine bodyPost_ret (v := .agg #[.int .u8 4, .int .i64 f, .string ⟨#[]⟩, .int .u8 0, .int .i64 0, .int .i64 0, .int .u8 0, .int .i64 0, .int .i64 0, .int .i64 0, .string tx]) (by simp [results, Try.results64, go_sem]) rfl ⟨rfl, ?_⟩
    exact ((((Mod.refl _ _).alloc _).alloc _).alloc _)
  by_cases k6 : k = 6
  · subst k6
    clear k1 k2 k3 k4
    go_enter Try.func64, Try.ntmps64
    go_wp2_with fail
    refine bodyPost_ret (v := .agg #[.int .u8 6, .int .i64 f, .string ⟨#[]⟩, .int .u8 0, .int .i64 0, .int .i64 0, .int .u8 0, .int .i64 0, .int .i64 0, .int .i64 0, .string tx]) (by simp [results, Try.results64, go_sem]) rfl ⟨rfl, ?_⟩
    exact ((((Mod.refl _ _).alloc _).alloc _).alloc _)
  · go_enter Try.func64, Try.ntmps64
    go_wp2_with fail
    refine bodyPost_ret (v := .agg #[.int .u8 k, .int .i64 f, .string ⟨#[]⟩, .int .u8 0, .int .i64 0, .int .i64 0, .int .u8 0, .int .i64 0, .int .i64 0, .int .i64 0, .string ⟨#[]⟩]) (by simp [results, Try.results64, go_sem]) rfl ⟨rfl, ?_⟩
    exact ((((Mod.refl _ _).alloc _).alloc _).alloc _)
end Go.Proofs.Ytnoookcfacmdkaa
