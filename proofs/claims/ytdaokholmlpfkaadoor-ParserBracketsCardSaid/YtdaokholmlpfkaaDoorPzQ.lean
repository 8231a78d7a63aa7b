/- Formulas: the document's comparison of trees: trees that are the same. -/
import Derived.Test.YtdaokholmlpfkaaDoorPzP
import Derived.DeepKeys
namespace Go.Proofs.YtdaokholmlpfkaaDoor
open Go.RowKit Go.ChangeMaps Go.Deep
set_option linter.unusedSimpArgs false
set_option linter.unusedVariables false
set_option maxRecDepth 20000

/-- plain: few words, short ones -/
theorem wordsZ_few : ∀ (f p : Nat) (l : List UInt8) (out ts : List Tk), wordsZ f p l out = .ok ts → ts.length ≤ out.length + f ∧ ((∀ t ∈ out, t.text.size ≤ 400) → l.length ≤ 400 → ∀ t ∈ ts, t.text.size ≤ 400)
  | 0, p, l, out, ts, h => by unfold wordsZ at h; cases h; exact ⟨by omega, fun h _ => h⟩
  | f + 1, p, [], out, ts, h => by unfold wordsZ at h; cases h; exact ⟨by omega, fun h _ => h⟩
  | f + 1, p, b :: r, out, ts, h => by
    rw [words_cons] at h
    by_cases hb : b = 32
    · rw [if_pos hb] at h
      obtain ⟨h1, h2⟩ := wordsZ_few f _ r out ts h
      exact ⟨by omega, fun ho hl => h2 ho (by simp at hl; omega)⟩
    · rw [if_neg hb] at h
      cases hw : wordZ (b :: r) with
      | error e => rw [hw] at h; cases h
      | ok q =>
        obtain ⟨k, n, c, s⟩ := q
        rw [hw] at h
        dsimp only at h
        obtain ⟨h1, h2⟩ := wordsZ_few f _ _ _ ts h
        refine ⟨by simp at h1; omega, fun ho hl => h2 (fun t ht => ?_) (by simp only [List.length_drop]; omega)⟩
        rcases List.mem_append.1 ht with ht | ht
        · exact ho t ht
        · simp only [List.mem_singleton] at ht
          subst ht
          show (txZ ((b :: r).take n)).size ≤ 400
          rw [tx_size, List.length_take]
          omega
theorem lexZ_few {l : List UInt8} {ts : List Tk} (h : lexZ l = .ok ts) : ts.length ≤ 400 ∧ ∀ t ∈ ts, t.text.size ≤ 400 := by
  unfold lexZ at h
  split at h
  · cases h
  · rename_i hl
    obtain ⟨h1, h2⟩ := wordsZ_few _ _ _ _ _ h
    exact ⟨by simp at h1; omega, h2 (by simp) (by omega)⟩
/-- what Parse answers -/
def ParseR (w : World) (l : List UInt8) (e : Ending) (w' : World) : Prop := ∃ tv, e = .returned (.tuple #[tv, .int .i64 (treeZ l).1, .int .i64 (treeZ l).2.1]) ∧ OwnR encNz 9 34 w' w.heap.size tv (treeZ l).2.2
theorem parseR_mk {w w' : World} {l : List UInt8} {q x : Int} {T : List Nz} (h : treeZ l = (q, x, T)) {tv : Value} (ho : OwnR encNz 9 34 w' w.heap.size tv T) : ParseR w l (.returned (.tuple #[tv, .int .i64 q, .int .i64 x])) w' := by
  refine ⟨tv, ?_, ?_⟩
  · rw [h]
  · rw [h]; exact ho
theorem Res3.low {w w' : World} {b2 b3 b4 p : Nat} {en : Int} {st : Pz} {x y z : Value} (h : Res3 w b2 b3 b4 x y z) (u : Up p w w') (hs : PsAt w p en st) (h2 : b2 < p) (h3 : b3 < p) (h4 : b4 < p) : Res3 w' b2 b3 b4 x y z :=
  ⟨(u.low hs h2).trans h.r2, (u.low hs h3).trans h.r3, (u.low hs h4).trans h.r4⟩
theorem tree_bad {l : List UInt8} {ts : List Tk} {q x : Int} (hx : lexZ l = .ok ts) (h : levZ l.length (9 * ts.length + 9) 0 ⟨ts, 0, []⟩ = .bad q x) : treeZ l = (q, x, []) := by
  unfold treeZ parseZ
  rw [hx]
  dsimp only
  rw [h]
  rfl
theorem tree_more {l : List UInt8} {ts : List Tk} {a : Int} {s : Pz} (hx : lexZ l = .ok ts) (h : levZ l.length (9 * ts.length + 9) 0 ⟨ts, 0, []⟩ = .ok a s) (h0 : ¬ s.l.length = 0) : treeZ l = (placeZ l.length s.l, 4, []) := by
  unfold treeZ parseZ
  rw [hx]
  dsimp only
  rw [h, Rz.bind_ok, if_neg h0]
  rfl
theorem tree_full {l : List UInt8} {ts : List Tk} {a : Int} {s : Pz} (hx : lexZ l = .ok ts) (h : levZ l.length (9 * ts.length + 9) 0 ⟨ts, 0, []⟩ = .ok a s) (h0 : s.l.length = 0) (h1 : 100 < s.tree.length) : treeZ l = (0, 7, []) := by
  unfold treeZ parseZ
  rw [hx]
  dsimp only
  rw [h, Rz.bind_ok, if_pos h0]
  dsimp only
  rw [if_pos h1]
theorem tree_is {l : List UInt8} {ts : List Tk} {a : Int} {s : Pz} (hx : lexZ l = .ok ts) (h : levZ l.length (9 * ts.length + 9) 0 ⟨ts, 0, []⟩ = .ok a s) (h0 : s.l.length = 0) (h1 : ¬ 100 < s.tree.length) : treeZ l = (0, 0, s.tree) := by
  unfold treeZ parseZ
  rw [hx]
  dsimp only
  rw [h, Rz.bind_ok, if_pos h0]
  dsimp only
  rw [if_neg h1]
section
variable {w W : World} {R : Ending → World → Prop}
theorem ok15 {a : Option Addr} {n c : Nat} {y z : Int} (h : Res3 W w.heap.size (w.heap.size + 1) (w.heap.size + 1 + 1) (.slice a n c) (.int .i64 y) (.int .i64 z)) (hR : R (.returned (.tuple #[.slice a n c, .int .i64 y, .int .i64 z])) W) (tmps : Array Value) (h2 : tmps[2]? = some (.pointer (some ⟨w.heap.size, 0, none⟩))) (h3 : tmps[3]? = some (.pointer (some ⟨w.heap.size + 1, 0, none⟩))) (h4 : tmps[4]? = some (.pointer (some ⟨w.heap.size + 1 + 1, 0, none⟩))) :
    bodyPostD Tryd.prog Tryd.f5 R .ret { tmps := tmps, defers := [{ target := .fn (.func 8) #[.pointer (some ⟨w.heap.size, 0, none⟩), .pointer (some ⟨w.heap.size + 1, 0, none⟩), .pointer (some ⟨w.heap.size + 1 + 1, 0, none⟩)], args := #[] }] } W := by
  refine leaves_cons (f := 8) (args := #[.pointer (some ⟨w.heap.size, 0, none⟩), .pointer (some ⟨w.heap.size + 1, 0, none⟩), .pointer (some ⟨w.heap.size + 1 + 1, 0, none⟩)]) (by simp) (by simp [go_sem]) ?_
  refine idle15.mono ?_
  rintro e u' w'' ⟨rfl, rfl, rfl⟩
  obtain ⟨q2, -, q3, -, q4, -⟩ := h.cells
  have HR := Lib.hid hR
  clear h hR
  simp [Leaves, settle, results, Tryd.results5, go_sem, h2, h3, h4, q2, q3, q4]
  exact HR.out
theorem ok0 {a : Option Addr} {n c : Nat} {y z : Int} (h : Res3 W w.heap.size (w.heap.size + 1) (w.heap.size + 1 + 1) (.slice a n c) (.int .i64 y) (.int .i64 z)) (hR : R (.returned (.tuple #[.slice a n c, .int .i64 y, .int .i64 z])) W) (tmps : Array Value) (h2 : tmps[2]? = some (.pointer (some ⟨w.heap.size, 0, none⟩))) (h3 : tmps[3]? = some (.pointer (some ⟨w.heap.size + 1, 0, none⟩))) (h4 : tmps[4]? = some (.pointer (some ⟨w.heap.size + 1 + 1, 0, none⟩))) :
    bodyPostD Tryd.prog Tryd.f5 R .ret { tmps := tmps, defers := [] } W := by
  obtain ⟨q2, -, q3, -, q4, -⟩ := h.cells
  have HR := Lib.hid hR
  clear h hR
  simp [bodyPostD, Leaves, settle, results, Tryd.results5, go_sem, h2, h3, h4, q2, q3, q4]
  exact HR.out
theorem bad15 {x0 y0 z0 : Value} (h : Res3 W w.heap.size (w.heap.size + 1) (w.heap.size + 1 + 1) x0 y0 z0) {q x : Int} (hR : ∀ w', Mod [w.heap.size, w.heap.size + 1, w.heap.size + 1 + 1] W w' → R (.returned (.tuple #[.slice none 0 0, .int .i64 q, .int .i64 x])) w') (tmps : Array Value) (h2 : tmps[2]? = some (.pointer (some ⟨w.heap.size, 0, none⟩))) (h3 : tmps[3]? = some (.pointer (some ⟨w.heap.size + 1, 0, none⟩))) (h4 : tmps[4]? = some (.pointer (some ⟨w.heap.size + 1 + 1, 0, none⟩))) :
    bodyPostD Tryd.prog Tryd.f5 R (.panic (stopP q x)) { tmps := tmps, defers := [{ target := .fn (.func 8) #[.pointer (some ⟨w.heap.size, 0, none⟩), .pointer (some ⟨w.heap.size + 1, 0, none⟩), .pointer (some ⟨w.heap.size + 1 + 1, 0, none⟩)], args := #[] }] } W := by
  refine leaves_cons (f := 8) (args := #[.pointer (some ⟨w.heap.size, 0, none⟩), .pointer (some ⟨w.heap.size + 1, 0, none⟩), .pointer (some ⟨w.heap.size + 1 + 1, 0, none⟩)]) (by simp) (by simp [go_sem]) ?_
  refine (caught15 h (by omega) (by omega) (by omega) q x).mono ?_
  rintro e u' w'' ⟨rfl, rfl, m, h'⟩
  obtain ⟨q2, -, q3, -, q4, -⟩ := h'.cells
  have HR := Lib.hid (hR _ m)
  clear h h' hR m
  simp [Leaves, settle, results, Tryd.results5, go_sem, h2, h3, h4, q2, q3, q4]
  exact HR.out
end
set_option maxHeartbeats 8000000 in
theorem psParse_at {w : World} (hg : Gl w) (l : List UInt8) (hl : l.length ≤ 1000000) : Calls Tryd.prog 5 #[.string (txZ l)] w fun e w' => ParseR w l e w' ∧ Mod [] w w' := by
  have hsz := tx_size l
  obtain ⟨wa, hwa, na, za, ma⟩ := alloc_named2 w (.cells #[.slice none 0 0] 24)
  obtain ⟨wb, hwb, nb, zb, mb⟩ := alloc_named2 wa (.cells #[.int .i64 0] 3)
  obtain ⟨wc, hwc, nc, zc, mc⟩ := alloc_named2 wb (.cells #[.int .i64 0] 25)
  have hmf : ∀ (fn : Fn) (first cap : Array Value) (w : World), (Instr.makeFunc fn first cap).run Tryd.prog w = .ok (.func fn first cap) w := fun _ _ _ _ => rfl
  have R0 : Res3 wc w.heap.size (w.heap.size + 1) (w.heap.size + 1 + 1) (.slice none 0 0) (.int .i64 0) (.int .i64 0) :=
    ⟨mc.heap (mb.heap na (by simp)) (by simp), by rw [← za]; exact mc.heap nb (by simp), by rw [show w.heap.size + 1 + 1 = wb.heap.size by omega]; exact nc⟩
  have m0 : Mod [] w wc := (ma.trans mb).trans mc
  have z0 : wc.heap.size = w.heap.size + 3 := by omega
  have CX := Lib.hid (lxLex_at (hg.kept0 m0) l hl)
  have HR0 := Lib.hid (And.intro R0 (And.intro m0 z0))
  have HG := Lib.hid hg
  have HT := Lib.hid (show treeZ l = (match lexZ l with | .error x => (x.1, x.2, []) | .ok ts => parseZ l.length ts) from rfl)
  clear na nb nc ma mb mc R0 m0 hg
  go_enter_defers Tryd.func5, Tryd.ntmps5
  go_wp2_with fail
  refine CX.out.mono ?_
  rintro e w1 ⟨hX, m1⟩
  unfold LexR at hX
  cases hx : lexZ l with
  | error x =>
    rw [hx] at hX HT
    obtain ⟨rfl, hne⟩ := hX
    obtain ⟨x1, x2⟩ := x
    have HTR := Lib.hid (show treeZ l = (x1, x2, []) from HT.out)
    dsimp only at hne ⊢
    have rw1 := HR0.out.1.keep m1
    obtain ⟨k2w1, f2w1, k3w1, f3w1, k4w1, f4w1⟩ := rw1.cells
    have rwA := rw1.set3 (by omega) (by omega) (.int .i64 x1)
    obtain ⟨wA, hwA⟩ : ∃ D, w1.setCell ⟨w.heap.size + 1, 0, none⟩ (.int .i64 x1) = D := ⟨_, rfl⟩
    have mwA : Mod [w.heap.size + 1] w1 (w1.setCell ⟨w.heap.size + 1, 0, none⟩ (.int .i64 x1)) := (Mod.refl _ _).setCell (by simp) _
    rw [hwA] at rwA mwA
    obtain ⟨k2wA, f2wA, k3wA, f3wA, k4wA, f4wA⟩ := rwA.cells
    have rwB := rwA.set4 (by omega) (by omega) (.int .i64 x2)
    obtain ⟨wB, hwB⟩ : ∃ D, wA.setCell ⟨w.heap.size + 1 + 1, 0, none⟩ (.int .i64 x2) = D := ⟨_, rfl⟩
    have mwB : Mod [w.heap.size + 1 + 1] wA (wA.setCell ⟨w.heap.size + 1 + 1, 0, none⟩ (.int .i64 x2)) := (Mod.refl _ _).setCell (by simp) _
    rw [hwB] at rwB mwB
    obtain ⟨k2wB, f2wB, k3wB, f3wB, k4wB, f4wB⟩ := rwB.cells
    obtain ⟨wD, hwD, mD⟩ : ∃ D, wB.drew = D ∧ Mod [] wB D := ⟨_, rfl, (Mod.refl [] wB).drew⟩
    have rwD := rwB.keep mD
    obtain ⟨k2wD, f2wD, k3wD, f3wD, k4wD, f4wD⟩ := rwD.cells
    have rwE := rwD.set2 (by omega) (by omega) (.slice none 0 0)
    obtain ⟨wE, hwE⟩ : ∃ D, wD.setCell ⟨w.heap.size, 0, none⟩ (.slice none 0 0) = D := ⟨_, rfl⟩
    have mwE : Mod [w.heap.size] wD (wD.setCell ⟨w.heap.size, 0, none⟩ (.slice none 0 0)) := (Mod.refl _ _).setCell (by simp) _
    rw [hwE] at rwE mwE
    obtain ⟨k2wE, f2wE, k3wE, f3wE, k4wE, f4wE⟩ := rwE.cells
    have rwF := rwE.set3 (by omega) (by omega) (.int .i64 x1)
    obtain ⟨wF, hwF⟩ : ∃ D, wE.setCell ⟨w.heap.size + 1, 0, none⟩ (.int .i64 x1) = D := ⟨_, rfl⟩
    have mwF : Mod [w.heap.size + 1] wE (wE.setCell ⟨w.heap.size + 1, 0, none⟩ (.int .i64 x1)) := (Mod.refl _ _).setCell (by simp) _
    rw [hwF] at rwF mwF
    obtain ⟨k2wF, f2wF, k3wF, f3wF, k4wF, f4wF⟩ := rwF.cells
    have rwG := rwF.set4 (by omega) (by omega) (.int .i64 x2)
    obtain ⟨wG, hwG⟩ : ∃ D, wF.setCell ⟨w.heap.size + 1 + 1, 0, none⟩ (.int .i64 x2) = D := ⟨_, rfl⟩
    have mwG : Mod [w.heap.size + 1 + 1] wF (wF.setCell ⟨w.heap.size + 1 + 1, 0, none⟩ (.int .i64 x2)) := (Mod.refl _ _).setCell (by simp) _
    rw [hwG] at rwG mwG
    obtain ⟨k2wG, f2wG, k3wG, f3wG, k4wG, f4wG⟩ := rwG.cells
    have h1 := m1.size
    have z0 := HR0.out.2.2
    have mm : Mod [] w wG := mod_on (mod_on (mod_on ((mod_on (mod_on (HR0.out.2.1.trans m1) mwA (by simp)) mwB (by simp; omega)).trans mD) mwE (by simp)) mwF (by simp)) mwG (by simp; omega)
    have HM := Lib.hid mm
    clear rw1 rwA rwB rwD rwE rwF mwA mwB mD mwE mwF mwG m1 mm h1 z0
    have HRG := Lib.hid rwG
    clear rwG
    go_wp2_with fail
    refine wp_plan [([0, 1], 2, [0, 1]), ([], 3, [1]), ([], 4, [])] [] (by kernel_rfl) (by kernel_rfl) ?_
    simp only [wpSegs, opsOf, List.map_cons, List.map_nil, opN, List.getD_cons_zero, List.getD_cons_succ]
    go_wp2_with fail
    refine ⟨by first | trivial | rfl | exact hwD.symm, ?_⟩
    go_wp2_with fail
    refine ⟨?agA, ?_⟩
    case agA =>
      intro i hi hw
      simp only [List.mem_cons, List.not_mem_nil, or_false] at hi
      rcases hi with rfl | rfl
      all_goals (simp only [opN, List.getD_cons_zero, List.getD_cons_succ, slotOf]; go_simp)
    go_wp2_with fail
    refine ⟨by first | trivial | rfl, ?_⟩
    go_wp2_with fail
    refine ⟨?agB, ?_⟩
    case agB =>
      intro i hi hw
      simp only [List.mem_cons, List.not_mem_nil, or_false] at hi
      subst hi
      all_goals (simp only [opN, List.getD_cons_zero, List.getD_cons_succ, slotOf]; go_simp)
    go_wp2_with fail
    refine ⟨by first | trivial | rfl, ?_⟩
    go_wp2_with fail
    refine ⟨again_nil, ?_⟩
    go_wp2_with fail
    refine ⟨by first | trivial | rfl, ?_⟩
    go_wp2_with fail
    refine ok0 HRG.out ⟨parseR_mk HTR.out (OwnR.nil_ _ _), HM.out⟩ _ ?_ ?_ ?_ <;> rfl
  | ok ts =>
    rw [hx] at hX HT
    obtain ⟨v, rfl, hv⟩ := hX
    obtain ⟨va, vc, rfl⟩ := hv.lens
    have rw1 := HR0.out.1.keep m1
    obtain ⟨k2w1, f2w1, k3w1, f3w1, k4w1, f4w1⟩ := rw1.cells
    have rwA := rw1.set3 (by omega) (by omega) (.int .i64 0)
    obtain ⟨wA, hwA⟩ : ∃ D, w1.setCell ⟨w.heap.size + 1, 0, none⟩ (.int .i64 0) = D := ⟨_, rfl⟩
    have mwA : Mod [w.heap.size + 1] w1 (w1.setCell ⟨w.heap.size + 1, 0, none⟩ (.int .i64 0)) := (Mod.refl _ _).setCell (by simp) _
    rw [hwA] at rwA mwA
    obtain ⟨k2wA, f2wA, k3wA, f3wA, k4wA, f4wA⟩ := rwA.cells
    have rwB := rwA.set4 (by omega) (by omega) (.int .i64 0)
    obtain ⟨wB, hwB⟩ : ∃ D, wA.setCell ⟨w.heap.size + 1 + 1, 0, none⟩ (.int .i64 0) = D := ⟨_, rfl⟩
    have mwB : Mod [w.heap.size + 1 + 1] wA (wA.setCell ⟨w.heap.size + 1 + 1, 0, none⟩ (.int .i64 0)) := (Mod.refl _ _).setCell (by simp) _
    rw [hwB] at rwB mwB
    obtain ⟨k2wB, f2wB, k3wB, f3wB, k4wB, f4wB⟩ := rwB.cells
    have h1 := m1.size
    have z0 := HR0.out.2.2
    have mB : Mod [] w wB := mod_on (mod_on (HR0.out.2.1.trans m1) mwA (by simp)) mwB (by simp; omega)
    have mB1 : Mod [w.heap.size + 1, w.heap.size + 1 + 1] w1 wB := (mwA.mono (by simp)).trans (mwB.mono (by simp))
    obtain ⟨w2, hw2, n2, zz2, m2⟩ := alloc_named2 wB (.cells #[.slice va ts.length vc, .int .i64 l.length, .int .i64 0, .slice none 0 0] 43)
    have hvB := (hv.kept mB1 (fun q hq hm => by have := (World.ownsRow.lt hv q hq).1; simp at hm; omega)).kept0 m2
    have hfew := lexZ_few hx
    have hsB := mB1.size
    have h2 : PsAt w2 wB.heap.size l.length ⟨ts, 0, []⟩ := ⟨va, vc, .slice none 0 0, ⟨n2, hvB.row, OwnR.nil_ _ _, fun a ha => by
      have := (World.ownsRow.lt (hv.kept mB1 (fun q hq hm => by have := (World.ownsRow.lt hv q hq).1; simp at hm; omega)) a.block (by rw [ha]; rfl)).2
      exact this, by simp, by dsimp only; omega, fun t ht => by have := hfew.2 t ht; omega⟩⟩
    have r2 := rwB.keep m2
    have HCL := Lib.hid (level_all (p := wB.heap.size) (en := l.length) (by have := HG.out.big; omega) (9 * ts.length + 9) 0 ts.length (by omega) (by omega) w2 ⟨ts, 0, []⟩ (HG.out.kept0 (mB.trans m2)) h2 (by unfold Pz.sum; simp; omega) (Nat.le_refl _))
    have HPB := Lib.hid (show w.heap.size + 1 + 1 < wB.heap.size by omega)
    have H2 := Lib.hid (And.intro h2 (And.intro r2 (mB.trans m2)))
    have HX := Lib.hid hx
    clear rw1 rwA rwB mwA mwB m1 mB mB1 h1 z0 hv hvB hfew hsB n2 zz2 m2 h2 r2 hx HT
    go_wp2_with fail
    refine HCL.out.mono ?_
    intro e w5 hR
    cases hr : levZ l.length (9 * ts.length + 9) 0 ⟨ts, 0, []⟩ with
    | bad q x =>
      rw [hr] at hR
      obtain ⟨rfl, u5⟩ := hR
      have HTR := Lib.hid (tree_bad HX.out hr)
      have HR5 := Lib.hid (H2.out.2.1.low u5 H2.out.1 (by have := HPB.out; omega) (by have := HPB.out; omega) HPB.out)
      have HM5 := Lib.hid (u5.mod H2.out.1 H2.out.2.2 (by have := HPB.out; omega))
      clear hr u5
      go_wp2_with fail
      refine bad15 HR5.out (fun w' m => ⟨parseR_mk HTR.out (OwnR.nil_ _ _), mod_on HM5.out m (by simp; omega)⟩) _ ?_ ?_ ?_ <;> rfl
    | ok a s1 =>
      rw [hr] at hR
      obtain ⟨rfl, h5, u5⟩ := hR
      have r5 := H2.out.2.1.low u5 H2.out.1 (by have := HPB.out; omega) (by have := HPB.out; omega) HPB.out
      have m5 := u5.mod H2.out.1 H2.out.2.2 (by have := HPB.out; omega)
      have CF := Lib.hid (psFail_at h5 4)
      have HL5 := Lib.hid h5.lt
      obtain ⟨la5, lc5, tv5, hx5⟩ := h5
      obtain ⟨ta, tc, rfl⟩ := hx5.own.lens
      have c0 := cell_blk hx5.blk 0
      have c3 := cell_blk hx5.blk 3
      simp only [List.getElem?_toArray, List.getElem?_cons_succ, List.getElem?_cons_zero] at c0 c3
      have HO := Lib.hid hx5.own
      have HR := Lib.hid hr
      clear u5 hx5 hr
      by_cases h0 : s1.l.length = 0
      · rw [h0] at c0
        by_cases h100 : 100 < s1.tree.length
        · have HTR := Lib.hid (tree_full HX.out HR.out h0 h100)
          have d1 : decide ((100 : Int) < (s1.tree.length : Int)) = true := decide_eq_true (by omega)
          obtain ⟨k2, f2, k3, f3, k4, f4⟩ := r5.cells
          have hpb := HPB.out
          have rX2 := r5.set2 (by omega) (by omega) (.slice none 0 0)
          obtain ⟨X2, hX2⟩ : ∃ D, w5.setCell ⟨w.heap.size, 0, none⟩ (.slice none 0 0) = D := ⟨_, rfl⟩
          have mX2 : Mod [w.heap.size] w5 (w5.setCell ⟨w.heap.size, 0, none⟩ (.slice none 0 0)) := (Mod.refl _ _).setCell (by simp) _
          rw [hX2] at rX2 mX2
          obtain ⟨k2X2, f2X2, k3X2, f3X2, k4X2, f4X2⟩ := rX2.cells
          have rX3 := rX2.set3 (by omega) (by omega) (.int .i64 0)
          obtain ⟨X3, hX3⟩ : ∃ D, X2.setCell ⟨w.heap.size + 1, 0, none⟩ (.int .i64 0) = D := ⟨_, rfl⟩
          have mX3 : Mod [w.heap.size + 1] X2 (X2.setCell ⟨w.heap.size + 1, 0, none⟩ (.int .i64 0)) := (Mod.refl _ _).setCell (by simp) _
          rw [hX3] at rX3 mX3
          obtain ⟨k2X3, f2X3, k3X3, f3X3, k4X3, f4X3⟩ := rX3.cells
          have rX4 := rX3.set4 (by omega) (by omega) (.int .i64 7)
          obtain ⟨X4, hX4⟩ : ∃ D, X3.setCell ⟨w.heap.size + 1 + 1, 0, none⟩ (.int .i64 7) = D := ⟨_, rfl⟩
          have mX4 : Mod [w.heap.size + 1 + 1] X3 (X3.setCell ⟨w.heap.size + 1 + 1, 0, none⟩ (.int .i64 7)) := (Mod.refl _ _).setCell (by simp) _
          rw [hX4] at rX4 mX4
          obtain ⟨k2X4, f2X4, k3X4, f3X4, k4X4, f4X4⟩ := rX4.cells
          have HM := Lib.hid (mod_on (mod_on (mod_on m5 mX2 (by simp)) mX3 (by simp)) mX4 (by simp; omega))
          have HRX := Lib.hid rX4
          clear r5 m5 rX2 rX3 rX4 mX2 mX3 mX4 h0 h100 hpb
          go_wp2_with fail
          refine ok15 HRX.out ⟨parseR_mk HTR.out (OwnR.nil_ _ _), HM.out⟩ _ ?_ ?_ ?_ <;> rfl
        · have HTR := Lib.hid (tree_is HX.out HR.out h0 h100)
          have d1 : decide ((100 : Int) < (s1.tree.length : Int)) = false := decide_eq_false (by omega)
          obtain ⟨k2, f2, k3, f3, k4, f4⟩ := r5.cells
          have hpb := HPB.out
          have rX2 := r5.set2 (by omega) (by omega) (.slice ta s1.tree.length tc)
          obtain ⟨X2, hX2⟩ : ∃ D, w5.setCell ⟨w.heap.size, 0, none⟩ (.slice ta s1.tree.length tc) = D := ⟨_, rfl⟩
          have mX2 : Mod [w.heap.size] w5 (w5.setCell ⟨w.heap.size, 0, none⟩ (.slice ta s1.tree.length tc)) := (Mod.refl _ _).setCell (by simp) _
          rw [hX2] at rX2 mX2
          obtain ⟨k2X2, f2X2, k3X2, f3X2, k4X2, f4X2⟩ := rX2.cells
          have rX3 := rX2.set3 (by omega) (by omega) (.int .i64 0)
          obtain ⟨X3, hX3⟩ : ∃ D, X2.setCell ⟨w.heap.size + 1, 0, none⟩ (.int .i64 0) = D := ⟨_, rfl⟩
          have mX3 : Mod [w.heap.size + 1] X2 (X2.setCell ⟨w.heap.size + 1, 0, none⟩ (.int .i64 0)) := (Mod.refl _ _).setCell (by simp) _
          rw [hX3] at rX3 mX3
          obtain ⟨k2X3, f2X3, k3X3, f3X3, k4X3, f4X3⟩ := rX3.cells
          have rX4 := rX3.set4 (by omega) (by omega) (.int .i64 0)
          obtain ⟨X4, hX4⟩ : ∃ D, X3.setCell ⟨w.heap.size + 1 + 1, 0, none⟩ (.int .i64 0) = D := ⟨_, rfl⟩
          have mX4 : Mod [w.heap.size + 1 + 1] X3 (X3.setCell ⟨w.heap.size + 1 + 1, 0, none⟩ (.int .i64 0)) := (Mod.refl _ _).setCell (by simp) _
          rw [hX4] at rX4 mX4
          obtain ⟨k2X4, f2X4, k3X4, f3X4, k4X4, f4X4⟩ := rX4.cells
          have HM := Lib.hid (mod_on (mod_on (mod_on m5 mX2 (by simp)) mX3 (by simp)) mX4 (by simp; omega))
          have HRX := Lib.hid rX4
          have hown := (((HO.out.kept mX2 (fun q hq hm => by have := (World.ownsRow.lt HO.out q hq).1; simp at hm; omega)).kept mX3 (fun q hq hm => by have := (World.ownsRow.lt HO.out q hq).1; simp at hm; omega)).kept mX4 (fun q hq hm => by have := (World.ownsRow.lt HO.out q hq).1; simp at hm; omega)).mono (base' := w.heap.size) (by omega)
          have HOW := Lib.hid hown
          clear r5 m5 rX2 rX3 rX4 mX2 mX3 mX4 h0 h100 hpb hown
          go_wp2_with fail
          refine ok15 HRX.out ⟨parseR_mk HTR.out HOW.out, HM.out⟩ _ ?_ ?_ ?_ <;> rfl
      · have HTR := Lib.hid (tree_more HX.out HR.out h0)
        have h0' : 0 < s1.l.length := by omega
        have HR5 := Lib.hid r5
        have HM5 := Lib.hid m5
        clear r5 m5 h0
        go_wp2_with fail
        refine CF.out.mono ?_
        rintro e w6 ⟨rfl, rfl⟩
        go_wp2_with fail
        refine bad15 HR5.out (fun w' m => ⟨parseR_mk HTR.out (OwnR.nil_ _ _), mod_on HM5.out m (by simp; omega)⟩) _ ?_ ?_ ?_ <;> rfl
end Go.Proofs.YtdaokholmlpfkaaDoor
namespace Go.Proofs.YtdaokholmlpfkaaDoor
open Go.RowKit Go.ChangeMaps Go.Deep
set_option linter.unusedSimpArgs false
set_option linter.unusedVariables false
set_option maxRecDepth 20000

theorem eq_arr3 (d : Nat) (a b c : Int) (w : World) : (Op.equalIn (d + 2) 32 (.agg #[.int .i64 a, .int .i64 b, .int .i64 c]) (.agg #[.int .i64 a, .int .i64 b, .int .i64 c])).run Tryd.prog w = .ok true w := by
  have hs : ∃ i, Tryd.prog.info? 3 = some i ∧ i.size = 1 := by
    have h := sizeInt
    cases hq : Tryd.prog.info? 3 with
    | none => rw [hq] at h; cases h
    | some i => exact ⟨i, rfl, by simpa [hq] using h⟩
  obtain ⟨i, hi, hi1⟩ := hs
  have ha : ∀ w, (isAgg 3).run Tryd.prog w = .ok false w := fun w => by
    simp only [isAgg, Sem.run_bind, run_underlying Tryd.underlying3, Result.andThen_ok]
    rfl
  have hsz : ∀ w, (sizeOf 3).run Tryd.prog w = .ok 1 w := fun w => by simp [sizeOf, typeInfo, hi, hi1]
  have he : ∀ (x : Int) (w : World), (Op.equalIn (d + 1) 3 (.int .i64 x) (.int .i64 x)).run Tryd.prog w = .ok true w := fun x w => by
    rw [run_equalIn_int w d 3 .i64 .i64 x x Tryd.underlying3]
    simp
  have hp : ∀ (k : Nat) (x : Value) (w : World), (#[Value.int .i64 a, .int .i64 b, .int .i64 c])[k]? = some x → (part 3 #[.int .i64 a, .int .i64 b, .int .i64 c] k).run Tryd.prog w = .ok x w := fun k x w h => by
    simp [part, ha, h]
  unfold Op.equalIn
  simp only [Sem.run_bind, run_underlying Tryd.underlying32, Result.andThen_ok, hsz]
  rw [Std.Legacy.Range.forIn_eq_forIn_range']
  simp [Std.Legacy.Range.size, List.range', hp, he]
theorem eq_nz (n : Nz) (w : World) : (Op.equal 34 (.agg (encNz n).toArray) (.agg (encNz n).toArray)).run Tryd.prog w = .ok true w := by
  obtain ⟨op, c, s, nm, k, k0, k1, k2, at_⟩ := n
  have h3 := fun w => eq_arr3 9997 k0 k1 k2 w
  simp only [Op.equal, Op.maxDepth, encNz]
  go_simp
theorem neq_nz (n : Nz) (w : World) : (binOp .neq 34 (.agg (encNz n).toArray) (.agg (encNz n).toArray)).run Tryd.prog w = .ok (.bool false) w := by
  have h := eq_nz n w
  rw [run_neq_struct]
  simp only [Op.equal, Op.maxDepth] at h
  rw [h]
  rfl
theorem guard_nz : Tryd.prog.eqGuardType Tryd.prog.depth 34 = false := by kernel_rfl
/-- a node with its place struck, or not -/
def bareN (bare : Bool) (n : Nz) : Nz := if bare = true then { n with at_ := 0 } else n
theorem row_node {w : World} {a : Option Addr} {c : Nat} {l : List Nz} (h : RowAt encNz w (.slice a l.length c) l) {i : Nat} (hi : i < l.length) : ∃ b o, a = some ⟨b, o, none⟩ ∧ l.length ≤ c ∧ w.rangeAt b (o + i * 9) (encNz l[i]) := by
  obtain ⟨b, o, rfl, hc, hg⟩ := h.get encNz_len hi
  refine ⟨b, o, rfl, hc, fun j u hu => ?_⟩
  have := hg j u (by have := (List.getElem?_eq_some_iff.1 hu).1; rw [encNz_len] at this; exact this) hu
  rw [← this]
  congr 2
  omega
/-- two nodes, taken out -/
structure SameSt (w W : World) (g8 g9 : Nat) (x y : Nz) : Prop where
  n8 : W.heap[g8]? = some (.cells (encNz x).toArray 34 (0, 0))
  n9 : W.heap[g9]? = some (.cells (encNz y).toArray 34 (0, 0))
  ne : g8 ≠ g9
  b8 : w.heap.size ≤ g8
  b9 : w.heap.size ≤ g9
  mod : Mod [] w W
set_option maxHeartbeats 4000000 in
theorem same15_at {w : World} {va vb : Value} {A B : List Nz} (ha : RowAt encNz w va A) (hb : RowAt encNz w vb B) (bare : Bool) (hn : A.length = B.length) (hl : A.length ≤ 100000) (he : ∀ i (h1 : i < A.length) (h2 : i < B.length), bareN bare A[i] = bareN bare B[i]) :
    Calls Tryd.prog 6 #[va, vb, .bool bare] w fun e w' => e = .returned (.bool true) ∧ Mod [] w w' := by
  obtain ⟨aa, ca, rfl⟩ := ha.form
  obtain ⟨ab, cb, rfl⟩ := hb.form
  have HA := Lib.hid ha
  have HB := Lib.hid hb
  have HE := Lib.hid he
  have HN := Lib.hid hn
  clear ha hb he
  obtain ⟨al, hal⟩ : ∃ al, A.length = al := ⟨_, rfl⟩
  rw [← hn, hal]
  rw [hal] at hl
  have HAL := Lib.hid hal
  clear hn hal
  go_enter Tryd.func6, Tryd.ntmps6
  go_wp2_with fail
  go_loopw [7] (fun s7 W => ∃ i : Nat, i ≤ al ∧ s7 = .int .i64 i ∧ Hid (Mod [] w W)) (fun s7 _ => al - (intOf s7).toNat)
  case atStart => exact ⟨0, by omega, rfl, Lib.hid (Mod.refl _ _)⟩
  case round =>
    obtain ⟨i, hi, rfl, hM⟩ := hrel
    by_cases hlt : i < al
    · have d1 : decide ((i : Int) < (al : Int)) = true := decide_eq_true (by omega)
      have hia : i < A.length := by have := HAL.out; omega
      have hib : i < B.length := by have := HN.out; omega
      obtain ⟨ba, oa, rfl, hca, hra⟩ := row_node (HA.out.kept0 hM.out) hia
      obtain ⟨bb, ob, rfl, hcb, hrb⟩ := row_node (HB.out.kept0 hM.out) hib
      have heq := HE.out i hia hib
      generalize A[i] = x at hra heq
      generalize B[i] = y at hrb heq
      obtain ⟨wd, hwd, md⟩ : ∃ D, wr.drew = D ∧ Mod [] wr D := ⟨_, rfl, (Mod.refl [] wr).drew⟩
      have hld : ∀ (W : World), Mod [] wr W → (Instr.loadAt 34 (.pointer (some ⟨ba, oa + i * 9, none⟩))).run Tryd.prog W = .ok (.agg (encNz x).toArray) W := fun W m => run_loadAt_mid (P := Tryd.prog) W ba (oa + i * 9) 34 (encNz x) _ (rangeAt_kept hra m (by simp)) Tryd.underlying34 rfl (by rw [sizeNode]; rfl)
      have hlb : ∀ (W : World), Mod [] wr W → (Instr.loadAt 34 (.pointer (some ⟨bb, ob + i * 9, none⟩))).run Tryd.prog W = .ok (.agg (encNz y).toArray) W := fun W m => run_loadAt_mid (P := Tryd.prog) W bb (ob + i * 9) 34 (encNz y) _ (rangeAt_kept hrb m (by simp)) Tryd.underlying34 rfl (by rw [sizeNode]; rfl)
      obtain ⟨x1, hx1, nx1, zx1, mx1⟩ := alloc_named2 wd (.cells #[.int .u8 0, .int .i64 0, .int .i64 0, .string ⟨#[]⟩, .int .i64 0, .int .i64 0, .int .i64 0, .int .i64 0, .int .i64 0] 34)
      obtain ⟨x2, hx2, nx2, zx2, mx2⟩ := alloc_named2 x1 (.cells #[.int .u8 0, .int .i64 0, .int .i64 0, .string ⟨#[]⟩, .int .i64 0, .int .i64 0, .int .i64 0, .int .i64 0, .int .i64 0] 34)
      have zd : wd.heap.size = wr.heap.size := by rw [← hwd]; rfl
      rw [zd] at nx1 zx1
      rw [zx1] at nx2
      have nx1' := mx2.heap nx1 (by simp)
      have m1 := md.trans mx1
      have m2 := m1.trans mx2
      have AD := Lib.hid (hld wd md)
      have BD := Lib.hid (hlb wd md)
      have A1 := Lib.hid (hld x1 m1)
      have B1 := Lib.hid (hlb x1 m1)
      have A2 := Lib.hid (hld x2 m2)
      have B2 := Lib.hid (hlb x2 m2)
      obtain ⟨x3, r3, m3, n3⟩ := store_w (P := Tryd.prog) (c := (encNz x).toArray) 34 nx1' rfl (by rw [sizeNode]; rfl) (by rw [List.all_toArray, List.all_eq_true]; exact encNz_one _)
      obtain ⟨x4, r4, m4, n4⟩ := store_w (P := Tryd.prog) (c := (encNz y).toArray) 34 (m3.heap nx2 (by simp)) rfl (by rw [sizeNode]; rfl) (by rw [List.all_toArray, List.all_eq_true]; exact encNz_one _)
      obtain ⟨y3, s3, k3, p3⟩ := store_w (P := Tryd.prog) (c := (encNz x).toArray) 34 nx2 rfl (by rw [sizeNode]; rfl) (by rw [List.all_toArray, List.all_eq_true]; exact encNz_one _)
      obtain ⟨y4, s4, k4, p4⟩ := store_w (P := Tryd.prog) (c := (encNz y).toArray) 34 (k3.heap nx1' (by simp)) rfl (by rw [sizeNode]; rfl) (by rw [List.all_toArray, List.all_eq_true]; exact encNz_one _)
      have B3 := Lib.hid (hlb x3 (mod_on m2 m3 (by simp)))
      have C3 := Lib.hid (hlb y3 (mod_on m2 k3 (by simp)))
      have RX := Lib.hid (show SameSt wr x4 wr.heap.size (wr.heap.size + 1) x y from ⟨m4.heap n3 (by simp), n4, by omega, by omega, by omega, mod_on (mod_on m2 m3 (by simp)) m4 (by simp)⟩)
      have RY := Lib.hid (show SameSt wr y4 (wr.heap.size + 1) wr.heap.size x y from ⟨k4.heap p3 (by simp), p4, by omega, by omega, by omega, mod_on (mod_on m2 k3 (by simp)) k4 (by simp)⟩)
      have R3 := Lib.hid r3
      have R4 := Lib.hid r4
      have S3 := Lib.hid s3
      have S4 := Lib.hid s4
      clear hld hlb hra hrb md mx1 mx2 m1 m2 r3 m3 n3 r4 m4 n4 s3 k3 p3 s4 k4 p4 nx1 nx2 nx1'
      go_wp2_with fail
      go_cut [8, 9] from 21 to 28 (fun s8 s9 wx => ∃ g8 g9 : Nat, s8 = .pointer (some ⟨g8, 0, none⟩) ∧ s9 = .pointer (some ⟨g9, 0, none⟩) ∧ Hid (SameSt wr wx g8 g9 x y))
      case first =>
        refine wp_sched (by kernel_rfl) (sched_either 8 9 (by decide) (sched_plan1 [([0, 1, 4, 5, 2, 6, 3, 7], 8, [2, 6, 3, 7]), ([], 9, [2, 6, 3, 7]), ([], 10, [6, 7]), ([], 11, [])] [] (by kernel_rfl) ?L1) (sched_plan1 [([0, 1, 4, 5, 2, 6, 3, 7], 9, [2, 6, 3, 7]), ([], 8, [2, 6, 3, 7]), ([], 10, [6, 7]), ([], 11, [])] [] (by kernel_rfl) ?L2))
        case L1 =>
          simp only [wpSegs, opsOf, List.map_cons, List.map_nil, opN, List.getD_cons_zero, List.getD_cons_succ]
          go_wp2_with (first | ((with_reducible refine xLoadAt rfl AD.out ?_ ?_ ?_); exact rfl; exact rfl) | ((with_reducible refine xLoadAt rfl BD.out ?_ ?_ ?_); exact rfl; exact rfl))
          refine ⟨by first | trivial | rfl | exact hwd.symm, ?_⟩
          go_wp2_with fail
          refine ⟨?agL1, ?_⟩
          case agL1 =>
            intro i hi hw
            simp only [List.mem_cons, List.not_mem_nil, or_false] at hi
            rcases hi with rfl | rfl | rfl | rfl
            all_goals (simp only [opN, List.getD_cons_zero, List.getD_cons_succ, slotOf]; first | exact exec_load rfl rfl A1.out | exact exec_load rfl rfl B1.out | go_simp)
          go_wp2_with fail
          refine ⟨by first | trivial | rfl, ?_⟩
          go_wp2_with fail
          refine ⟨?agL2, ?_⟩
          case agL2 =>
            intro i hi hw
            simp only [List.mem_cons, List.not_mem_nil, or_false] at hi
            rcases hi with rfl | rfl | rfl | rfl
            all_goals (simp only [opN, List.getD_cons_zero, List.getD_cons_succ, slotOf]; first | exact exec_load rfl rfl A2.out | exact exec_load rfl rfl B2.out | go_simp)
          go_wp2_with fail
          refine ⟨by first | trivial | rfl, ?_⟩
          go_wp2_with ((with_reducible refine xStoreAt rfl R3.out ?_ ?_ ?_ ?_); exact rfl; exact rfl; exact rfl)
          refine ⟨?agL3, ?_⟩
          case agL3 =>
            intro i hi hw
            simp only [List.mem_cons, List.not_mem_nil, or_false] at hi
            rcases hi with rfl | rfl
            all_goals (simp only [opN, List.getD_cons_zero, List.getD_cons_succ, slotOf]; first | exact exec_load rfl rfl B3.out | exact exec_load rfl rfl B3.out | go_simp)
          go_wp2_with fail
          refine ⟨by first | trivial | rfl, ?_⟩
          go_wp2_with ((with_reducible refine xStoreAt rfl R4.out ?_ ?_ ?_ ?_); exact rfl; exact rfl; exact rfl)
          refine ⟨again_nil, ?_⟩
          go_wp2_with fail
          refine ⟨by first | trivial | rfl, ?_⟩
          go_wp2_with fail
          go_meet
          case rel => exact ⟨_, _, rfl, rfl, RX⟩
        case L2 =>
          simp only [wpSegs, opsOf, List.map_cons, List.map_nil, opN, List.getD_cons_zero, List.getD_cons_succ]
          go_wp2_with (first | ((with_reducible refine xLoadAt rfl AD.out ?_ ?_ ?_); exact rfl; exact rfl) | ((with_reducible refine xLoadAt rfl BD.out ?_ ?_ ?_); exact rfl; exact rfl))
          refine ⟨by first | trivial | rfl | exact hwd.symm, ?_⟩
          go_wp2_with fail
          refine ⟨?agM1, ?_⟩
          case agM1 =>
            intro i hi hw
            simp only [List.mem_cons, List.not_mem_nil, or_false] at hi
            rcases hi with rfl | rfl | rfl | rfl
            all_goals (simp only [opN, List.getD_cons_zero, List.getD_cons_succ, slotOf]; first | exact exec_load rfl rfl A1.out | exact exec_load rfl rfl B1.out | go_simp)
          go_wp2_with fail
          refine ⟨by first | trivial | rfl, ?_⟩
          go_wp2_with fail
          refine ⟨?agM2, ?_⟩
          case agM2 =>
            intro i hi hw
            simp only [List.mem_cons, List.not_mem_nil, or_false] at hi
            rcases hi with rfl | rfl | rfl | rfl
            all_goals (simp only [opN, List.getD_cons_zero, List.getD_cons_succ, slotOf]; first | exact exec_load rfl rfl A2.out | exact exec_load rfl rfl B2.out | go_simp)
          go_wp2_with fail
          refine ⟨by first | trivial | rfl, ?_⟩
          go_wp2_with ((with_reducible refine xStoreAt rfl S3.out ?_ ?_ ?_ ?_); exact rfl; exact rfl; exact rfl)
          refine ⟨?agM3, ?_⟩
          case agM3 =>
            intro i hi hw
            simp only [List.mem_cons, List.not_mem_nil, or_false] at hi
            rcases hi with rfl | rfl
            all_goals (simp only [opN, List.getD_cons_zero, List.getD_cons_succ, slotOf]; first | exact exec_load rfl rfl C3.out | exact exec_load rfl rfl C3.out | go_simp)
          go_wp2_with fail
          refine ⟨by first | trivial | rfl, ?_⟩
          go_wp2_with ((with_reducible refine xStoreAt rfl S4.out ?_ ?_ ?_ ?_); exact rfl; exact rfl; exact rfl)
          refine ⟨again_nil, ?_⟩
          go_wp2_with fail
          refine ⟨by first | trivial | rfl, ?_⟩
          go_wp2_with fail
          go_meet
          case rel => exact ⟨_, _, rfl, rfl, RY⟩
      case rest =>
        obtain ⟨g8, g9, rfl, rfl, hT⟩ := hcut
        clear AD BD A1 B1 A2 B2 R3 R4 S3 S4 B3 C3 RX RY hwd hx1 hx2 zx1 zx2 zd
        cases bare with
        | false =>
          have hxy : x = y := heq
          subst hxy
          have LX := Lib.hid (load_w (P := Tryd.prog) 34 hT.out.n8 (by rw [sizeNode]; rfl) Tryd.underlying34 rfl)
          have LY := Lib.hid (load_w (P := Tryd.prog) 34 hT.out.n9 (by rw [sizeNode]; rfl) Tryd.underlying34 rfl)
          have HQ := Lib.hid (neq_nz x wc)
          have HMN := Lib.hid (hM.out.trans hT.out.mod)
          clear heq hM
          go_wp2_with (first | ((with_reducible refine xLoadAt rfl LX.out ?_ ?_ ?_); exact rfl; exact rfl) | ((with_reducible refine xLoadAt rfl LY.out ?_ ?_ ?_); exact rfl; exact rfl) | ((with_reducible refine xEqAgg (t := 34) rfl HQ.out guard_nz ?_ ?_ ?_ ?_); exact rfl; exact rfl; exact rfl))
          go_roundw
          case rel => exact ⟨i + 1, by omega, by go_num, HMN⟩
          case measure => simp [intOf]; omega
        | true =>
          have hxy : ({ x with at_ := 0 } : Nz) = { y with at_ := 0 } := heq
          have k8 := cell_blk hT.out.n8 8
          have f8 := frozen_blk hT.out.n8 8
          dsimp only [encNz] at k8
          simp only [List.getElem?_toArray, List.getElem?_cons_succ, List.getElem?_cons_zero] at k8
          obtain ⟨y1, hy1⟩ : ∃ D, wc.setCell ⟨g8, 8, none⟩ (.int .i64 0) = D := ⟨_, rfl⟩
          have m1 : Mod [g8] wc (wc.setCell ⟨g8, 8, none⟩ (.int .i64 0)) := (Mod.refl _ _).setCell (by simp) _
          have n8 : (wc.setCell ⟨g8, 8, none⟩ (.int .i64 0)).heap[g8]? = some (.cells (encNz { x with at_ := 0 }).toArray 34 (0, 0)) := heap_setCell_blk hT.out.n8 8 _
          rw [hy1] at m1 n8
          have n9 := m1.heap hT.out.n9 (by have := hT.out.ne; simp; omega)
          have k9 := cell_blk n9 8
          have f9 := frozen_blk n9 8
          dsimp only [encNz] at k9
          simp only [List.getElem?_toArray, List.getElem?_cons_succ, List.getElem?_cons_zero] at k9
          obtain ⟨y2, hy2⟩ : ∃ D, y1.setCell ⟨g9, 8, none⟩ (.int .i64 0) = D := ⟨_, rfl⟩
          have m2 : Mod [g9] y1 (y1.setCell ⟨g9, 8, none⟩ (.int .i64 0)) := (Mod.refl _ _).setCell (by simp) _
          have p9 : (y1.setCell ⟨g9, 8, none⟩ (.int .i64 0)).heap[g9]? = some (.cells (encNz { y with at_ := 0 }).toArray 34 (0, 0)) := heap_setCell_blk n9 8 _
          rw [hy2] at m2 p9
          have p8 := m2.heap n8 (by have := hT.out.ne; simp; omega)
          rw [← hxy] at p9
          have LX := Lib.hid (load_w (P := Tryd.prog) 34 p8 (by rw [sizeNode]; rfl) Tryd.underlying34 rfl)
          have LY := Lib.hid (load_w (P := Tryd.prog) 34 p9 (by rw [sizeNode]; rfl) Tryd.underlying34 rfl)
          have HQ := Lib.hid (neq_nz { x with at_ := 0 } y2)
          have hb8 := hT.out.b8
          have hb9 := hT.out.b9
          have HMN := Lib.hid (hM.out.trans (mod_on (mod_on hT.out.mod m1 (by simp; omega)) m2 (by simp; omega)))
          clear heq hM hxy m1 n8 n9 m2 p8 p9 hb8 hb9
          go_wp2_with (first | ((with_reducible refine xLoadAt rfl LX.out ?_ ?_ ?_); exact rfl; exact rfl) | ((with_reducible refine xLoadAt rfl LY.out ?_ ?_ ?_); exact rfl; exact rfl) | ((with_reducible refine xEqAgg (t := 34) rfl HQ.out guard_nz ?_ ?_ ?_ ?_); exact rfl; exact rfl; exact rfl))
          go_roundw
          case rel => exact ⟨i + 1, by omega, by go_num, HMN⟩
          case measure => simp [intOf]; omega
    · have d1 : decide ((i : Int) < (al : Int)) = false := decide_eq_false (by omega)
      go_wp2_with fail
      go_ret
      exact ⟨rfl, hM.out⟩
end Go.Proofs.YtdaokholmlpfkaaDoor
