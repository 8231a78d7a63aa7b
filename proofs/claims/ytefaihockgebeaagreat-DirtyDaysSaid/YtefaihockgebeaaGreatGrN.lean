/- Graph: Of. -/
import Derived.Test.YtefaihockgebeaaGreatGrK
import Derived.Test.YtefaihockgebeaaGreatGrM
namespace Go.Proofs.YtefaihockgebeaaGreat
open Go.RowKit Go.ChangeMaps Go.Deep
set_option linter.unusedSimpArgs false
set_option linter.unusedVariables false
set_option maxRecDepth 20000

/-- append(v, x), where x's own cells are cells. -/
theorem own_append1x {α : Type} {enc : α → List Value} {k : Nat} {w : World} {v : Value} {l : List α} {E : TypeId} {base : Nat} {P : Program} {t bytes : Nat} (hE : ElemOk P t E k bytes) (hk : ∀ x, (enc x).length = k) (h : OwnR enc k E w base v l) (hb : base ≤ w.heap.size) {ty : TypeId} (x : α) (h1c : ∀ v ∈ enc x, v.oneCell' = true) (hlen : l.length < 1073741824) (hby : bytes ≤ 65536) :
    ∃ v' w', (Builtin.append_ #[t, t] ty #[v, .slice (some ⟨w.heap.size, 0, none⟩) 1 1]).run P (w.alloc (.cells (enc x).toArray E)) = .ok v' w' ∧ OwnR enc k E w' base v' (l ++ [x]) ∧ Grew w v w' v' := by
  have hm := (Mod.refl [] w).alloc (.cells (enc x).toArray E)
  obtain ⟨v', w', h1, h2, h3⟩ := own_append hE hk (h.kept0 hm) (Nat.le_trans hb hm.size) (ty := ty) (l2 := [x]) (Src.ofSlice (P := P) (w.alloc (.cells (enc x).toArray E)) hE.und ⟨w.heap.size, 0, none⟩ 1 1 (flat enc [x]) (by rw [flat_one, hk, Nat.one_mul]) (fun j u hu => by
    rw [flat_one] at hu
    rw [Addr.add_mid, Nat.zero_add, cell_blk (heap_alloc_new w _), ← hu]
    simp) (by intro u hu; rw [flat_one] at hu; exact h1c u hu)) (by simp; omega) hby
  exact ⟨v', w', h1, h2, (Grew.of v hm).trans h3⟩
theorem elemLinks : ElemOk Tryz.prog 22 39 1 24 := .mk' Tryz.underlying22 (by omega) (by kernel_rfl)
theorem OwnR.typed {α : Type} {enc : α → List Value} {k : Nat} {E E' : TypeId} {w : World} {base B : Nat} {v : Value} {l : List α} {c : Array Value} {f : Nat × Nat} (h : OwnR enc k E w base v l) (hB : w.heap[B]? = some (.cells c E' f)) (hE : E ≠ E') : v.ownBlock ≠ some B := fun e => by
  rcases h.2 with ⟨rfl, _⟩ | ⟨g, cap, cur, rfl, hb, hg, _⟩
  · cases e
  · simp only [Value.ownBlock, Option.some.injEq] at e
    subst e
    rw [hg] at hB
    simp only [Option.some.injEq, Obj.cells.injEq] at hB
    exact hE hB.2.1
/-- lists of links of the call's own -/
structure OwnLs (w : World) (base : Nat) (v : Value) (vs : List Value) (R : Lks) : Prop where
  row : OwnR encV 1 39 w base v vs
  len : vs.length = R.length
  part : ∀ j (h : j < vs.length), OwnL w base vs[j] (linksOf R j)
theorem OwnLs.nil (w : World) (base : Nat) : OwnLs w base (.slice none 0 0) [] [] := ⟨OwnR.nil_ _ _, rfl, fun j h => by simp at h⟩
theorem OwnLs.kept0 {w w' : World} {base : Nat} {v : Value} {vs : List Value} {R : Lks} (h : OwnLs w base v vs R) (hm : Mod [] w w') : OwnLs w' base v vs R := ⟨h.row.kept0 hm, h.len, fun j a => (h.part j a).kept0 hm⟩
theorem OwnLs.kept {w w' : World} {base B : Nat} {v : Value} {vs : List Value} {R : Lks} {c : Array Value} {f : Nat × Nat} (h : OwnLs w base v vs R) (hB : w.heap[B]? = some (.cells c 48 f)) (hm : Mod [B] w w') : OwnLs w' base v vs R :=
  ⟨h.row.kept hm fun b hb hx => by simp at hx; subst hx; exact h.row.typed hB (by decide) hb, h.len, fun j a => (h.part j a).kept hm fun b hb hx => by simp at hx; subst hx; exact (h.part j a).typed hB (by decide) hb⟩
theorem OwnLs.on {w : World} {base B : Nat} {v : Value} {vs : List Value} {R : Lks} {c : Array Value} {f : Nat × Nat} (h : OwnLs w base v vs R) (hB : w.heap[B]? = some (.cells c 48 f)) : OnAt w B v vs R :=
  ⟨⟨h.row.row, h.len, fun j a b => by have := (h.part j a).row; rwa [show linksOf R j = R[j] by simp [linksOf, b]] at this⟩, h.row.typed hB (by decide), fun j a => (h.part j a).typed hB (by decide)⟩
/-- one list more -/
theorem OwnLs.snoc {w w2 : World} {base : Nat} {v v' x : Value} {vs : List Value} {R : Lks} {l : List Sp} (h : OwnLs w base v vs R) (hx : OwnL w base x l) (ho : OwnR encV 1 39 w2 base v' (vs ++ [x])) (hg : Grew w v w2 v') : OwnLs w2 base v' (vs ++ [x]) (R ++ [l]) := by
  have hne : ∀ {u : Value} {m : List Sp}, OwnL w base u m → ∀ b, u.ownBlock = some b → b ∉ blk v := fun {u m} hu b hb hm => by
    rcases h.row.2 with ⟨rfl, _⟩ | ⟨g, cap, cur, rfl, _, hg2, _⟩
    · simp [blk, Value.ownBlock] at hm
    · have e : g = b := by simpa [blk, Value.ownBlock, eq_comm] using hm
      subst e
      exact hu.typed hg2 (by decide) hb
  refine ⟨ho, by simp [h.len], fun j hj => ?_⟩
  by_cases e : j < vs.length
  · have h1 := h.part j e
    rw [List.getElem_append_left e, show linksOf (R ++ [l]) j = linksOf R j by simp [linksOf, List.getElem?_append_left (show j < R.length by rw [← h.len]; exact e)]]
    exact h1.kept hg.mod (hne h1)
  · have e2 : j = vs.length := by simp at hj; omega
    subst e2
    rw [List.getElem_append_right (Nat.le_refl _), show linksOf (R ++ [l]) vs.length = l by rw [h.len]; simp [linksOf]]
    simp only [Nat.sub_self, List.getElem_singleton]
    exact hx.kept hg.mod (hne hx)
/-- a graph as it lies -/
structure GraphAt (w : World) (base B : Nat) (R : Lks) (out : List Int) : Prop where
  ex : ∃ onv ov vs, w.heap[B]? = some (.cells #[onv, ov] 48 (0, 0)) ∧ OwnLs w base onv vs R ∧ OwnN w base ov out
  low : base ≤ B
theorem GraphAt.kept0 {w w' : World} {base B : Nat} {R : Lks} {out : List Int} (h : GraphAt w base B R out) (hm : Mod [] w w') : GraphAt w' base B R out := by
  obtain ⟨onv, ov, vs, h1, h2, h3⟩ := h.ex
  exact ⟨⟨onv, ov, vs, hm.heap h1 (by simp), h2.kept0 hm, h3.kept0 hm⟩, h.low⟩
/-- may lists of links be? -/
def mayL (n : Int) (L : Lks) : Bool := decide (0 ≤ n) && decide (n ≤ 64) && decide ((L.length : Int) = n) && L.all fun l => l.all (isLinkB n)
theorem any_pOf (n : Int) (l : List Sp) : l.any (pOf n) = !l.all (isLinkB n) := by
  induction l with
  | nil => rfl
  | cons x l ih => simp only [List.any_cons, List.all_cons, ih, pOf, Bool.not_and]
def OfPost (w : World) (n : Int) (L : Lks) (e : Ending) (w' : World) : Prop :=
  Mod [] w w' ∧ ((mayL n L = false ∧ e = .returned (.tuple #[.pointer none, .int .i64 2])) ∨
    (mayL n L = true ∧ (orderR L n.toNat).length < n.toNat ∧ e = .returned (.tuple #[.pointer none, .int .i64 9])) ∨
    (mayL n L = true ∧ n.toNat ≤ (orderR L n.toNat).length ∧ ∃ B R, e = .returned (.tuple #[.pointer (some ⟨B, 0, none⟩), .int .i64 0]) ∧ GraphAt w' w.heap.size B R (orderR L n.toNat) ∧ R.length = L.length ∧ ∀ j, j < L.length → IsOnce (linksOf L j) (linksOf R j)))
theorem grOf_arg (n : Int) (v : Value) (us : List Value) (L : Lks) (w : World) (h : PartsAt w v us L) (hl : L.length ≤ 1000000) (hn : n < 0 ∨ 64 < n ∨ (L.length : Int) ≠ n) :
    Calls Tryz.prog 7 #[.int .i64 n, v] w (OfPost w n L) := by
  have HF := Lib.hid (show mayL n L = false by
    unfold mayL
    rcases hn with hn | hn | hn
    · rw [decide_eq_false (by omega : ¬ 0 ≤ n)]; rfl
    · rw [decide_eq_false (by omega : ¬ n ≤ 64)]; simp
    · rw [decide_eq_false hn]; simp)
  have HL := Lib.hid h.len
  have hul : us.length ≤ 1000000 := by rw [h.len]; exact hl
  have HM := Lib.hid ((Mod.refl [] w).alloc (.cells #[.int .i64 n] 3))
  obtain ⟨a, c, rfl⟩ := h.row.form
  clear h
  rw [← HL.out] at hn hl
  have fin : ∀ w', Mod [] w w' → OfPost w n L (.returned (.tuple #[.pointer none, .int .i64 2])) w' := fun w' hm => ⟨hm, .inl ⟨HF.out, rfl⟩⟩
  by_cases h0 : n < 0
  · go_enter Tryz.func7, Tryz.ntmps7
    go_wp2_with fail
    go_ret2
    exact fin _ HM.out
  · by_cases h1 : 64 < n
    · go_enter Tryz.func7, Tryz.ntmps7
      go_wp2_with fail
      go_ret2
      exact fin _ HM.out
    · have hne : ((us.length : Int) != n) = true := by
        rw [bne_iff_ne]
        rcases hn with h | h | h
        · exact (h0 h).elim
        · exact (h1 h).elim
        · exact h
      go_enter Tryz.func7, Tryz.ntmps7
      go_wp2_with fail
      go_ret2
      exact fin _ HM.out
/-- while lists of links are taken over -/
structure OfAt (w wr : World) (N : Nat) (L : Lks) (i : Nat) (onv : Value) (vs : List Value) (R : Lks) : Prop where
  mod : Mod [] w wr
  box : wr.heap[w.heap.size + 1]? = some (.cells #[onv, .slice none 0 0] 48 (0, 0))
  day : DayAt wr w.heap.size N
  own : OwnLs wr (w.heap.size + 1) onv vs R
  len : R.length = i
  once : ∀ j, j < i → IsOnce (linksOf L j) (linksOf R j) ∧ (linksOf R j).length ≤ (linksOf L j).length
  may : ∀ j, j < i → (linksOf L j).all (isLinkB N) = true
theorem PartsAt.get {w : World} {a : Option Addr} {n c : Nat} {us : List Value} {L : Lks} (h : PartsAt w (.slice a n c) us L) (hn : us.length = n) {i : Nat} (hi : i < n) :
    ∃ b o pa pc, a = some ⟨b, o, none⟩ ∧ n ≤ c ∧ w.cell? ⟨b, o + i, none⟩ = some (.slice pa (linksOf L i).length pc) ∧ SpansAt w (.slice pa (linksOf L i).length pc) (linksOf L i) := by
  subst hn
  obtain ⟨b, o, rfl, hc, hq⟩ := h.row.get encV_len hi
  have q0 := hq 0 us[i] (by omega) rfl
  rw [Nat.mul_one, Nat.add_zero] at q0
  have hi' : i < L.length := by rw [← h.len]; exact hi
  have hp := h.part i hi hi'
  have e : linksOf L i = L[i] := by simp [linksOf, hi']
  rw [← e] at hp
  obtain ⟨pa, pc, e2⟩ := hp.form
  rw [e2] at q0 hp
  exact ⟨b, o, pa, pc, rfl, hc, q0, hp⟩
theorem OwnLs.mono {w : World} {base base' : Nat} {v : Value} {vs : List Value} {R : Lks} (h : OwnLs w base v vs R) (hb : base' ≤ base) : OwnLs w base' v vs R := ⟨h.row.mono hb, h.len, fun j a => (h.part j a).mono hb⟩
theorem OfAt.step {w wr w2 w4 : World} {N i : Nat} {L R : Lks} {onv onv' x : Value} {vs : List Value} {l : List Sp} (h : OfAt w wr N L i onv vs R) (hm : Mod [] wr w2) (hx : OwnL w2 (w.heap.size + 1) x l) (ho : OwnR encV 1 39 w4 (w.heap.size + 1) onv' (vs ++ [x])) (hg : Grew w2 onv w4 onv')
    (h1 : IsOnce (linksOf L i) l) (h2 : l.length ≤ (linksOf L i).length) (h3 : (linksOf L i).all (isLinkB N) = true) :
    w4.heap[w.heap.size + 1]? = some (.cells #[onv, .slice none 0 0] 48 (0, 0)) ∧ OfAt w (w4.setCell ⟨w.heap.size + 1, 0, none⟩ onv') N L (i + 1) onv' (vs ++ [x]) (R ++ [l]) := by
  have hks : ∀ b ∈ blk onv, w.heap.size + 1 ≤ b := fun b hb => (h.own.row.blockLt (mem_blk.1 hb)).1
  have hbox := hm.heap h.box (by simp)
  have hty := (h.own.kept0 hm).row.typed hbox (by decide)
  have hb4 := hg.mod.heap hbox fun hx => hty (mem_blk.1 hx)
  have hms : Mod [w.heap.size + 1] w4 (w4.setCell ⟨w.heap.size + 1, 0, none⟩ onv') := (Mod.refl _ _).setCell (by simp) _
  have hbs := heap_setCell_blk hb4 0 onv'
  have hwl := h.mod.size
  refine ⟨hb4, (((h.mod.trans hm).newerK hg.mod fun b hb => by have := hks b hb; omega).newerK hms (by simp)), by simpa using hbs, ?_, ((h.own.kept0 hm).snoc hx ho hg).kept hb4 hms, by simp [h.len], fun j hj => ?_, fun j hj => ?_⟩
  · refine hms.heap (hg.mod.heap (hm.heap h.day (by simp)) fun hb => ?_) (by simp)
    have := hks _ hb; omega
  · by_cases e : j < i
    · rw [show linksOf (R ++ [l]) j = linksOf R j by simp [linksOf, List.getElem?_append_left (show j < R.length by rw [h.len]; exact e)]]
      exact h.once j e
    · obtain rfl : j = i := by omega
      rw [show linksOf (R ++ [l]) j = l by rw [← h.len]; simp [linksOf]]
      exact ⟨h1, h2⟩
  · by_cases e : j < i
    · exact h.may j e
    · obtain rfl : j = i := by omega
      exact h3
theorem all_links {L : Lks} {f : Sp → Bool} (h : ∀ j, j < L.length → (linksOf L j).all f = true) : (L.all fun l => l.all f) = true := by
  rw [List.all_eq_true]
  intro l hl
  obtain ⟨j, hj, rfl⟩ := List.mem_iff_getElem.1 hl
  have := h j hj
  rwa [show linksOf L j = L[j] by simp [linksOf, hj]] at this
theorem not_all_links {L : Lks} {f : Sp → Bool} {j : Nat} (hj : j < L.length) (h : (linksOf L j).all f = false) : (L.all fun l => l.all f) = false := by
  rw [Bool.eq_false_iff]
  intro ha
  rw [List.all_eq_true] at ha
  have := ha L[j] (List.getElem_mem hj)
  rw [show linksOf L j = L[j] by simp [linksOf, hj]] at h
  rw [h] at this
  cases this
theorem oneCell_slice {a : Option Addr} {n c : Nat} : ∀ v ∈ encV (.slice a n c), v.oneCell' = true := by
  intro v hv
  simp [encV] at hv
  subst hv
  rfl
set_option maxHeartbeats 4000000 in
theorem grOf_main (N : Nat) (v : Value) (us : List Value) (L : Lks) (w : World) (h : PartsAt w v us L) (hN : N ≤ 64) (hl : L.length = N) (hll : ∀ k, k < L.length → (linksOf L k).length ≤ 1000000) :
    Calls Tryz.prog 7 #[.int .i64 N, v] w (OfPost w N L) := by
  have hul : us.length = N := by rw [h.len]; exact hl
  have HP := Lib.hid h
  have HLL := Lib.hid hll
  have HL := Lib.hid hl
  have HUL := Lib.hid hul
  obtain ⟨a, c, rfl⟩ := h.row.form
  rw [hul] at HP ⊢
  have HS0 := Lib.hid (show OfAt w ((w.alloc (.cells #[.int .i64 (N : Int)] 3)).alloc (.cells #[.slice none 0 0, .slice none 0 0] 48)) N L 0 (.slice none 0 0) [] [] from by
    have m1 := (Mod.refl [] w).alloc (.cells #[.int .i64 (N : Int)] 3)
    have m2 := (Mod.refl [] (w.alloc (.cells #[.int .i64 (N : Int)] 3))).alloc (.cells #[.slice none 0 0, .slice none 0 0] 48)
    refine ⟨m1.trans m2, ?_, m2.heap (heap_alloc_new w _) (by simp), OwnLs.nil _ _, rfl, fun j hj => by omega, fun j hj => by omega⟩
    have h := heap_alloc_new (w.alloc (.cells #[.int .i64 (N : Int)] 3)) (.cells #[.slice none 0 0, .slice none 0 0] 48)
    have e : (w.alloc (.cells #[.int .i64 (N : Int)] 3)).heap.size = w.heap.size + 1 := by simp
    rw [e] at h
    exact h)
  have hne : ((N : Int) != N) = false := by simp
  have fin : ∀ e w', OfPost w N L e w' → OfPost w N L e w' := fun _ _ h => h
  clear h hll hl hul
  go_enter Tryz.func7, Tryz.ntmps7
  go_wp2_with fail
  go_loopw [25] (fun s25 wr => ∃ (i : Nat) (onv : Value) (vs : List Value) (R : Lks), i ≤ N ∧ s25 = .int .i64 i ∧ Hid (OfAt w wr N L i onv vs R)) (fun s25 _ => N - (intOf s25).toNat)
  case atStart => exact ⟨0, _, _, _, by omega, rfl, HS0⟩
  case round =>
    clear HS0
    obtain ⟨i, onv, vs, R, hi, rfl, hS⟩ := hrel
    rename World => wo
    by_cases hlt : i < N
    · obtain ⟨b, o, pa, pc, rfl, hc, q0, hs⟩ := (show PartsAt wo (.slice a N c) us L from ⟨HP.out.row.kept0 hS.out.mod, HP.out.len, fun j a b => (HP.out.part j a b).kept0 hS.out.mod⟩).get HUL.out hlt
      have hlm := HLL.out i (by rw [HL.out]; exact hlt)
      have HHS := Lib.hid hs
      have HCO := Lib.hid (contOf_any _ (linksOf L i) N w.heap.size wo hs hS.out.day hlm)
      clear hs
      by_cases ha : (linksOf L i).all (isLinkB N) = true
      · have haf : (linksOf L i).any (pOf N) = false := by rw [any_pOf, ha]; rfl
        rw [haf] at HCO
        have HA := Lib.hid ha
        clear ha haf
        go_wp2_with fail
        refine HCO.out.mono ?_
        rintro e w1 ⟨rfl, m1⟩
        have m1d := m1.drew
        have HON := Lib.hid (grOnce_any _ (linksOf L i) w1.drew (HHS.out.kept0 m1d) hlm)
        have HB1 := Lib.hid (m1d.heap hS.out.box (by simp))
        have b0 := cell_blk (m1.heap hS.out.box (by simp)) 0
        simp only [List.getElem?_toArray, List.getElem?_cons_succ, List.getElem?_cons_zero] at b0
        have HM1 := Lib.hid m1d
        clear m1 m1d HCO
        go_wp2_with fail
        refine wp_plan [([0, 1, 5, 2, 3, 4], 6, [2, 3, 4]), ([], 7, [2, 3, 4]), ([], 8, []), ([9, 10], 11, [])] [] (by kernel_rfl) (by kernel_rfl) ?_
        simp only [wpSegs, opsOf, List.map_cons, List.map_nil, opN, List.getD_cons_zero, List.getD_cons_succ]
        go_wp2_with fail
        refine ⟨by first | trivial | rfl, ?_⟩
        go_wp2_with fail
        refine HON.out.mono ?_
        rintro e w2 ⟨x, l, rfl, ox, m2, on2, ln2⟩
        have hm2 := HM1.out.trans m2
        have hso := hS.out.own.kept0 hm2
        obtain ⟨xa, xc, rfl⟩ := ox.row.form
        have hwz := hS.out.mod.size
        have hw1 := HM1.out.size
        have hbx := lt_of_heap hS.out.box
        have ox' := ox.mono (show w.heap.size + 1 ≤ w1.drew.heap.size by omega)
        obtain ⟨v4, w4, g1, g2, g3⟩ := own_append1x elemLinks encV_len hso.row (by have := m2.size; omega) (ty := 22) (.slice xa l.length xc) oneCell_slice (by
          have := hS.out.own.len
          have := hS.out.len
          omega) (by omega)
        obtain ⟨a4, c4, e4⟩ := g2.row.form
        rw [List.length_append, List.length_singleton] at e4
        subst e4
        have HST := Lib.hid (hS.out.step hm2 ox' g2 g3 on2 ln2 HA.out)
        have hb2 := hm2.heap hS.out.box (by simp)
        have d0 := cell_blk hb2 0
        have d1 := cell_blk (((Mod.refl [] w2).alloc (.cells #[.slice xa l.length xc] 39)).heap hb2 (by simp)) 0
        have d2 := cell_blk HST.out.1 0
        have d3 := frozen_blk HST.out.1 0
        simp only [List.getElem?_toArray, List.getElem?_cons_succ, List.getElem?_cons_zero] at d0 d1 d2
        have G1 := Lib.hid (show (Builtin.append_ #[22, 22] 22 #[onv, .slice (some ⟨w2.heap.size, 0, none⟩) 1 1]).run Tryz.prog (w2.alloc (.cells #[.slice xa l.length xc] 39)) = .ok (.slice a4 (vs.length + 1) c4) w4 from g1)
        clear g1 g2 g3 ox ox' m2 on2 hm2 hso hb2 HON hwz hw1 hbx
        go_wp2_with fail
        refine ⟨?ag1, ?_⟩
        case ag1 =>
          intro i hi hw
          simp only [List.mem_cons, List.not_mem_nil, or_false] at hi
          rcases hi with rfl | rfl | rfl
          all_goals (simp only [opN, List.getD_cons_zero, List.getD_cons_succ, slotOf]; go_simp)
        go_wp2_with fail
        refine ⟨by first | trivial | rfl, ?_⟩
        go_wp2_with fail
        refine ⟨?ag2, ?_⟩
        case ag2 =>
          intro i hi hw
          simp only [List.mem_cons, List.not_mem_nil, or_false] at hi
          rcases hi with rfl | rfl | rfl
          all_goals (simp only [opN, List.getD_cons_zero, List.getD_cons_succ, slotOf]; go_simp)
        go_wp2_with fail
        refine ⟨by first | trivial | rfl, ?_⟩
        go_wp2_with ((with_reducible refine xAppendAt G1.out rfl rfl ?_ ?_ ?_ ?_); exact rfl; exact rfl; exact rfl)
        refine ⟨again_nil, ?_⟩
        go_wp2_with fail
        refine ⟨by first | trivial | rfl, ?_⟩
        go_wp2_with fail
        refine ⟨again_nil, ?_⟩
        go_wp2_with fail
        refine ⟨by first | trivial | rfl, ?_⟩
        go_wp2_with fail
        go_roundw
        case rel => exact ⟨i + 1, _, _, _, by omega, by go_num, Lib.hid HST.out.2⟩
        case measure => simp [intOf]; omega
      · have haf : (linksOf L i).all (isLinkB N) = false := by simpa using ha
        have hat : (linksOf L i).any (pOf N) = true := by rw [any_pOf, haf]; rfl
        rw [hat] at HCO
        have HF := Lib.hid (show mayL N L = false by
          unfold mayL
          rw [not_all_links (by rw [HL.out]; exact hlt) haf]
          simp)
        clear ha haf hat
        go_wp2_with fail
        refine HCO.out.mono ?_
        rintro e w1 ⟨rfl, m1⟩
        have HM1 := Lib.hid (hS.out.mod.trans m1)
        clear m1 HCO
        go_wp2_with fail
        go_ret2
        exact ⟨HM1.out, .inl ⟨HF.out, rfl⟩⟩
    · obtain rfl : i = N := by omega
      have HMY := Lib.hid (show mayL i L = true by
        unfold mayL
        rw [all_links (fun j hj => hS.out.may j (by rw [← HL.out]; exact hj)), HL.out]
        simp
        omega)
      have HRL := Lib.hid hS.out.len
      have HOC := Lib.hid (show orderR R i = orderR L i from orderR_congr fun k hk t => (hS.out.once k hk).1.to t)
      have HSO := Lib.hid (grSorted_any (w.heap.size + 1) onv vs R wo hS.out.box (hS.out.own.on hS.out.box) (fun k hk => (hS.out.once k (by rw [← hS.out.len]; exact hk)).1.up) (by rw [hS.out.len]; omega) (fun k hk => by
        have hk' : k < i := by rw [← hS.out.len]; exact hk
        have h1 := (hS.out.once k hk').2
        have h2 := HLL.out k (by rw [HL.out]; exact hk')
        omega))
      rw [HRL.out, HOC.out] at HSO
      go_wp2_with fail
      refine HSO.out.mono ?_
      rintro e w2 ⟨rfl, m2, ov, hb2, ho2⟩
      obtain ⟨ta, tc, rfl⟩ := ho2.row.form
      have HD2 := Lib.hid (show DayAt w2 w.heap.size i from m2.heap hS.out.day (by simp))
      have HM2 := Lib.hid (hS.out.mod.newerK m2 (by simp))
      have HG := Lib.hid (show GraphAt w2 w.heap.size (w.heap.size + 1) R (orderR L i) from ⟨⟨_, _, vs, hb2, (hS.out.own.kept hS.out.box m2).mono (by omega), ho2.mono (by have := hS.out.mod.size; omega)⟩, by omega⟩)
      have d0 := cell_blk HD2.out 0
      have d1 := cell_blk hb2 1
      simp only [List.getElem?_toArray, List.getElem?_cons_succ, List.getElem?_cons_zero] at d0 d1
      clear m2 hb2 ho2 HSO
      by_cases hlo : (orderR L i).length < i
      · have HLO := Lib.hid hlo
        go_wp2_with fail
        refine wp_plan [] [0, 5, 1, 2, 3, 4, 6] (by kernel_rfl) (by kernel_rfl) ?_
        simp only [wpSegs, opsOf, List.map_cons, List.map_nil, opN, List.getD_cons_zero, List.getD_cons_succ]
        go_wp2_with fail
        refine ⟨by first | trivial | rfl, ?_⟩
        go_wp2_with fail
        go_ret2
        exact ⟨HM2.out.drew, .inr (.inl ⟨HMY.out, by simpa using HLO.out, rfl⟩)⟩
      · have HLO := Lib.hid (Nat.le_of_not_lt hlo)
        go_wp2_with fail
        refine wp_plan [] [0, 5, 1, 2, 3, 4, 6] (by kernel_rfl) (by kernel_rfl) ?_
        simp only [wpSegs, opsOf, List.map_cons, List.map_nil, opN, List.getD_cons_zero, List.getD_cons_succ]
        go_wp2_with fail
        refine ⟨by first | trivial | rfl, ?_⟩
        go_wp2_with fail
        go_ret2
        exact ⟨HM2.out.drew, .inr (.inr ⟨HMY.out, by simpa using HLO.out, w.heap.size + 1, R, rfl, by simpa using HG.out.kept0 ((Mod.refl [] _).drew), by rw [HRL.out, HL.out], fun j hj => (hS.out.once j (by rw [← HL.out]; exact hj)).1⟩)⟩
end Go.Proofs.YtefaihockgebeaaGreat
