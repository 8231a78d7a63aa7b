/- Layer 25: a record's form, written. -/
import Derived.Test.YtnoookcfacmdkaaReqC
import Derived.Test.YtnoookcfacmdkaaOwn
namespace Go.Proofs.Ytnoookcfacmdkaa
open Go.RowKit Go.ChangeMaps
set_option linter.unusedSimpArgs false
set_option linter.unusedVariables false
set_option maxRecDepth 20000

/-- Bytes of the call's own. -/
def OwnB (w : World) (base : Nat) (v : Value) (l : List Int) : Prop := w.ownsRow base 5 1 v l.length (bv l)
theorem OwnB.bytes {w : World} {base : Nat} {v : Value} {l : List Int} (h : OwnB w base v l) : BytesAt w v l := by
  obtain ⟨h1, h2⟩ := h
  rcases h2 with ⟨rfl, h0⟩ | ⟨g, cap, cur, rfl, _, hg, hn, hc, hsz, ht⟩
  · have : l = [] := List.length_eq_zero_iff.1 h0
    subst this
    exact .nil none 0
  · refine .at_ g 0 cap l fun j u hu => ?_
    have hjl := (List.getElem?_eq_some_iff.1 hu).1
    rw [Nat.zero_add, cell_blk hg, ← hu, ← ht, List.getElem?_take, if_pos (by simpa [bv] using hjl)]
    simp
theorem OwnB.form {w : World} {base : Nat} {v : Value} {l : List Int} (h : OwnB w base v l) : ∃ a c, v = .slice a l.length c := h.bytes.form
theorem OwnB.kept0 {w w' : World} {base : Nat} {v : Value} {l : List Int} (h : OwnB w base v l) (hm : Mod [] w w') : OwnB w' base v l := ownsRow_kept0 h hm
theorem OwnB.new (w : World) (base : Nat) (hb : base ≤ w.heap.size) (x : Int) : OwnB (w.alloc (.cells #[.int .u8 x] 5)) base (.slice (some ⟨w.heap.size, 0, none⟩) 1 1) [x] :=
  ⟨rfl, .inr ⟨w.heap.size, 1, #[.int .u8 x], rfl, hb, heap_alloc_new w _, by simp, by unfold maxLen; omega, rfl, rfl⟩⟩
theorem infoByte : ∃ i z, Try.prog.info? 5 = some i ∧ i.zero = some z ∧ i.size = 1 ∧ i.bytes = 1 ∧ z.cells.size = 1 := by
  have h : (Try.prog.info? 5).map (fun i => (i.zero.map (·.cells.size), i.size, i.bytes)) = some (some 1, 1, 1) := by kernel_rfl
  cases hi : Try.prog.info? 5 with
  | none => rw [hi] at h; cases h
  | some i =>
    rw [hi] at h
    simp only [Option.map_some, Option.some.injEq, Prod.mk.injEq] at h
    obtain ⟨h1, h2, h3⟩ := h
    cases hz : i.zero with
    | none => rw [hz] at h1; cases h1
    | some z => rw [hz] at h1; exact ⟨i, z, rfl, hz, h2, h3, by simpa using h1⟩
theorem app_src {w : World} {base : Nat} {v : Value} {l : List Int} (h : OwnB w base v l) (hb : base ≤ w.heap.size) {tx : TypeId} {x : Value} {l2 : List Int} (hs : Src Try.prog 1 tx x l2.length (bv l2) w) (hlen : l.length + l2.length ≤ 140737488355328) :
    ∃ v' w', (Builtin.append_ #[23, tx] 23 #[v, x]).run Try.prog w = .ok v' w' ∧ OwnB w' base v' (l ++ l2) ∧ Grew w v w' v' := by
  obtain ⟨i, z, hi, hz, hs1, hby, hzs⟩ := infoByte
  obtain ⟨v', w', h1, h2, h3⟩ := append_own (P := Try.prog) base 23 tx 23 5 i z 1 1 Try.underlying23 hi hz hs1 hby hzs (by omega) h hs (by unfold maxLen; omega) (by omega) hb
  refine ⟨v', w', h1, ?_, h3⟩
  unfold OwnB
  rw [List.length_append, bv, List.map_append]
  exact h2
theorem app_one {w : World} {base : Nat} {v : Value} {l : List Int} (h : OwnB w base v l) (hb : base ≤ w.heap.size) (x : Int) (hlen : l.length < 140737488355328) :
    ∃ v' w', (Builtin.append_ #[23, 23] 23 #[v, .slice (some ⟨w.heap.size, 0, none⟩) 1 1]).run Try.prog (w.alloc (.cells #[.int .u8 x] 5)) = .ok v' w' ∧ OwnB w' base v' (l ++ [x]) ∧ Grew w v w' v' := by
  have hm := (Mod.refl [] w).alloc (.cells #[.int .u8 x] 5)
  obtain ⟨v', w', h1, h2, h3⟩ := app_src (h.kept0 hm) (Nat.le_trans hb hm.size) (l2 := [x]) (Src.ofSlice (P := Try.prog) (w.alloc (.cells #[.int .u8 x] 5)) Try.underlying23 ⟨w.heap.size, 0, none⟩ 1 1 (bv [x]) rfl (fun j u hu => by
    rw [Addr.add_mid, Nat.zero_add, cell_blk (heap_alloc_new w _), ← hu]
    simp [bv]) (by simp [bv, Value.oneCell'])) (by simp; omega)
  exact ⟨v', w', h1, h2, (Grew.of v hm).trans h3⟩
theorem byteCells_bv (s : ByteArray) : byteCells s = bv (numsOf s) := by simp [byteCells, bv, numsOf]
theorem app_str {w : World} {base : Nat} {v : Value} {l : List Int} (h : OwnB w base v l) (hb : base ≤ w.heap.size) (s : ByteArray) (hlen : l.length + s.size ≤ 140737488355328) :
    ∃ v' w', (Builtin.append_ #[23, 9] 23 #[v, .string s]).run Try.prog w = .ok v' w' ∧ OwnB w' base v' (l ++ numsOf s) ∧ Grew w v w' v' := by
  have hs := Src.ofString (P := Try.prog) w Try.underlying9 s
  rw [byteCells_bv, ← numsOf_length] at hs
  exact app_src h hb hs (by rw [numsOf_length]; exact hlen)
theorem pow8 (p : Nat) : (2 : Int) ^ (8 * p) = 256 ^ p := by
  rw [Int.pow_mul]
  rfl
theorem run_shr8 (n : Int) (p : Nat) (hp : p < 8) (w : World) : (binOp .shr 32 (.int .u64 n) (.int .i64 (8 * (p : Int)))).run Try.prog w = .ok (.int .u64 (n / 256 ^ p)) w := by
  have h0 : (0 : Int) ≤ 8 * (p : Int) := by omega
  have e : min (8 * (p : Int)).toNat IntKind.u64.bits = 8 * p := by
    simp only [IntKind.bits]
    omega
  simp only [binOp]
  rw [shift_shr_any _ _ _ _ h0, e, pow8]
  rfl
/-- An uint64. -/
def IsU64 (n : Int) : Prop := 0 ≤ n ∧ n < 18446744073709551616
theorem numB_take (n : Int) (many j p : Nat) (h : j + (p + 1) = many) : (numB n many).take (j + 1) = (numB n many).take j ++ [n / 256 ^ p % 256] := by
  subst h
  induction j with
  | zero =>
    rw [Nat.zero_add]
    simp [numB]
  | succ j ih =>
    rw [show j + 1 + (p + 1) = (j + (p + 1)) + 1 by omega]
    have key : numB n ((j + (p + 1)) + 1) = n / 256 ^ (j + (p + 1)) % 256 :: numB n (j + (p + 1)) := rfl
    rw [key, List.take_succ_cons, List.take_succ_cons, ih, List.cons_append]
set_option maxHeartbeats 1000000 in
theorem number_any {w : World} {base : Nat} {v : Value} {l : List Int} (h : OwnB w base v l) (hb : base ≤ w.heap.size) (n : Int) (many : Nat) (hn : IsU64 n) (hm : many ≤ 8) (hlen : l.length ≤ 1073741824) :
    Calls Try.prog 61 #[v, .int .u64 n, .int .i64 many] w fun e w' => ∃ v', e = .returned v' ∧ OwnB w' base v' (l ++ numB n many) ∧ Grew w v w' v' := by
  have H := Lib.hid h
  have hn0 := hn.1
  clear h
  go_enter Try.func61, Try.ntmps61
  go_wp2_with fail
  go_loopw [0, 7] (fun s0 s7 wr => ∃ (j q : Nat) (v0 : Value), v0 = s0 ∧ j + q = many ∧ s7 = .int .i64 ((q : Int) - 1) ∧ Hid (OwnB wr base v0 (l ++ (numB n many).take j)) ∧ Hid (Grew w v wr v0)) (fun _ s7 _ => (intOf s7 + 1).toNat)
  case atStart => exact ⟨0, many, v, rfl, by omega, rfl, Lib.hid (by simpa using H.out), Lib.hid (Grew.refl _ _)⟩
  case round =>
    obtain ⟨j, q, s0, rfl, hj, rfl, hown, hgr⟩ := hrel
    have hsz := hgr.out.mod.size
    rcases q with _ | p
    · have hall : Hid (OwnB wr base s0 (l ++ numB n many)) := Lib.hid (by
        have := hown.out
        rw [List.take_of_length_le (by rw [numB_length]; omega)] at this
        exact this)
      have e1 : ((0 : Nat) : Int) - 1 = -1 := rfl
      rw [e1]
      clear e1 hown
      go_wp2_with fail
      go_ret
      exact ⟨_, rfl, hall.out, hgr.out⟩
    · have e1 : ((p + 1 : Nat) : Int) - 1 = (p : Int) := by omega
      rw [e1]
      clear e1
      have hp : p < 8 := by omega
      have hlj : (l ++ (numB n many).take j).length < 140737488355328 := by
        rw [List.length_append, List.length_take]
        omega
      obtain ⟨v1, w1, hrun, hown1, hgr1⟩ := app_one hown.out (Nat.le_trans hb hsz) (n / 256 ^ p % 256) hlj
      have HS := Lib.hid (run_shr8 n p hp)
      have HR := Lib.hid hrun
      have HO := Lib.hid hown1
      have HG := Lib.hid hgr1
      clear hrun hown1 hgr1 hlj
      go_wp2_with (first
        | ((with_reducible refine xShift (bop := .shr) rfl (.inl rfl) (HS.out _) ?_ ?_ ?_ ?_); exact rfl; exact rfl; exact rfl)
        | ((with_reducible refine xAppendAt HR.out rfl rfl ?_ ?_ ?_ ?_); exact rfl; exact rfl; exact rfl))
      go_roundw
      case rel => exact ⟨j + 1, p, v1, rfl, by omega, rfl, Lib.hid (by
        rw [numB_take n many j p hj, ← List.append_assoc]
        exact HO.out), Lib.hid (hgr.out.trans HG.out)⟩
      case measure => simp [intOf]
theorem wrap_u64 {n : Int} (h : IsU64 n) : IntKind.u64.wrap n = n := by
  have h0 := h.1
  have h1 := h.2
  simp [IntKind.wrap, IntKind.bits, IntKind.signed]
  omega
theorem isU64_span {a : Int} (h0 : 0 ≤ a) (h1 : a < 16777216) : IsU64 a := ⟨h0, by omega⟩
set_option maxHeartbeats 1000000 in
theorem ends_any {w : World} {base : Nat} {v : Value} {l : List Int} (h : OwnB w base v l) (hb : base ≤ w.heap.size) (a b : Int) (hs : spanOk a b = true) (hlen : l.length ≤ 1073741000) :
    Calls Try.prog 45 #[v, .agg #[.int .i64 a, .int .i64 b]] w fun e w' => ∃ v', e = .returned v' ∧ OwnB w' base v' (l ++ ends a b) ∧ Grew w v w' v' := by
  simp only [spanOk, Bool.and_eq_true, decide_eq_true_eq] at hs
  obtain ⟨⟨⟨ha0, ha1⟩, hb0⟩, hb1⟩ := hs
  have H := Lib.hid h
  have ua := isU64_span ha0 ha1
  have ub := isU64_span hb0 hb1
  clear h
  go_enter Try.func45, Try.ntmps45
  go_wp2_with fail
  refine wp_plan [([0, 1, 5, 2, 6, 3, 7], 4, [5, 6, 7]), ([], 8, [])] [9] (by kernel_rfl) (by kernel_rfl) ?_
  simp only [wpSegs, opsOf, List.map_cons, List.map_nil, opN, List.getD_cons_zero, List.getD_cons_succ]
  have hm0 := ((Mod.refl [] w).alloc (.cells #[.int .i64 a, .int .i64 b] 52)).drew
  have HC := Lib.hid (heap_alloc_new w (.cells #[.int .i64 a, .int .i64 b] 52))
  have HN := Lib.hid (number_any (H.out.kept0 hm0) (Nat.le_trans hb hm0.size) a 3 ua (by omega) (by omega))
  have HM := Lib.hid hm0
  clear hm0
  go_wp2_with fail
  refine ⟨by first | trivial | rfl, ?_⟩
  go_wp2_with fail
  refine HN.out.mono ?_
  rintro e w1 ⟨v1, rfl, h1, g1⟩
  have hv : ∀ k, v.ownBlock = some k → k < w.heap.size := fun k hk => (World.ownsRow.lt H.out k hk).2
  have hc := g1.mod.heap (b := w.heap.size) HC.out (by rw [mem_blk]; intro e; have := hv _ e; omega)
  have q0 := cell_blk hc 0
  have q1 := cell_blk hc 1
  simp at q0 q1
  have HG := Lib.hid g1
  have HN2 := Lib.hid (number_any h1 (by have := g1.mod.size; have := HM.out.size; omega) b 3 ub (by omega) (by rw [List.length_append, numB_length]; omega))
  clear hc h1 g1 hv
  go_wp2_with fail
  refine ⟨?ag1, ?_⟩
  case ag1 =>
    intro i hi hw
    simp only [List.mem_cons, List.not_mem_nil, or_false] at hi
    rcases hi with rfl | rfl | rfl
    all_goals (simp only [opN, List.getD_cons_zero, List.getD_cons_succ, slotOf]; go_simp; try exact wrap_u64 ub)
  go_wp2_with fail
  refine ⟨by first | trivial | rfl, ?_⟩
  go_wp2_with fail
  refine HN2.out.mono ?_
  rintro e w2 ⟨v2, rfl, h2, g2⟩
  have HO := Lib.hid h2
  have HG2 := Lib.hid g2
  clear h2 g2
  go_wp2_with fail
  refine ⟨again_nil, ?_⟩
  go_wp2_with fail
  refine ⟨by first | trivial | rfl, ?_⟩
  go_wp2_with fail
  go_ret
  refine ⟨v2, rfl, ?_, ((Grew.of v HM.out).trans HG.out).trans HG2.out⟩
  rw [ends, ← List.append_assoc]
  exact HO.out
end Go.Proofs.Ytnoookcfacmdkaa
