/- Layer 12: Map. -/
import Derived.Test.YtngglpekdjhbdaaRmL
import Derived.Test.YtngglpekdjhbdaaRmO
namespace Go.Proofs.Ytngglpekdjhbdaa
set_option linter.unusedSimpArgs false
set_option linter.unusedVariables false

/-- a put, where the days may be -/
def updM (g : Int → Int) (a b v : Int) : Int → Int := if 1 ≤ a ∧ a < b ∧ b ≤ 3652060 then upd g a b v else g
def movedL (by_ : Int) (L : List Sg) (g : Int → Int) : Int → Int := L.foldl (fun g x => updM g (max (x.f + by_) 1) (min (x.t + by_) 3652060) x.v) g
def mappedL (h : Int → Int) (L : List Sg) (g : Int → Int) : Int → Int := L.foldl (fun g x => updM g x.f x.t (h x.v)) g
/-- a timeline moved -/
def movedF (f : Int → Int) (by_ d : Int) : Int := if 1 ≤ d ∧ d < 3652060 ∧ 1 ≤ d - by_ ∧ d - by_ < 3652060 then f (d - by_) else 0
def mappedF (h f : Int → Int) (d : Int) : Int := if 1 ≤ d ∧ d < 3652060 then h (f d) else 0
theorem movedL_to {f : Int → Int} {by_ z : Int} {L : List Sg} (hs : SegsTo f 1 z L) : ∀ d, movedL by_ L (fun _ => 0) d = if 1 ≤ d ∧ d < 3652060 ∧ 1 ≤ d - by_ ∧ d - by_ < z then f (d - by_) else 0 := by
  induction hs with
  | nil => intro d; rw [if_neg (by omega)]; rfl
  | @snoc z L s h h1 h2 h3 h4 ih =>
    intro d
    rw [show movedL by_ (L ++ [s]) (fun _ => 0) = updM (movedL by_ L (fun _ => 0)) (max (s.f + by_) 1) (min (s.t + by_) 3652060) s.v by unfold movedL; rw [List.foldl_append]; rfl]
    generalize movedL by_ L (fun _ => 0) = G at ih ⊢
    have hle := h.le.1
    unfold updM
    split
    · rename_i hc
      unfold upd
      split
      · rename_i hd
        rw [if_pos (by omega), h3 _ (by omega) (by omega)]
      · rename_i hd
        rw [ih d]
        by_cases c : 1 ≤ d ∧ d < 3652060 ∧ 1 ≤ d - by_ ∧ d - by_ < z
        · rw [if_pos c, if_pos (by omega)]
        · rw [if_neg c, if_neg (by omega)]
    · rename_i hc
      rw [ih d]
      by_cases c : 1 ≤ d ∧ d < 3652060 ∧ 1 ≤ d - by_ ∧ d - by_ < z
      · rw [if_pos c, if_pos (by omega)]
      · rw [if_neg c, if_neg (by omega)]
theorem moved_all {f : Int → Int} {by_ : Int} {L : List Sg} (hs : SegsTo f 1 3652060 L) : movedL by_ L (fun _ => 0) = movedF f by_ := funext fun d => by
  rw [movedL_to hs d]; rfl
theorem mappedL_to {h f : Int → Int} {z : Int} {L : List Sg} (hs : SegsTo f 1 z L) (hz : z ≤ 3652060) : ∀ d, mappedL h L (fun _ => 0) d = if 1 ≤ d ∧ d < z then h (f d) else 0 := by
  induction hs with
  | nil => intro d; rw [if_neg (by omega)]; rfl
  | @snoc z L s hh h1 h2 h3 h4 ih =>
    intro d
    have ih' := ih (by omega)
    rw [show mappedL h (L ++ [s]) (fun _ => 0) = updM (mappedL h L (fun _ => 0)) s.f s.t (h s.v) by unfold mappedL; rw [List.foldl_append]; rfl]
    generalize mappedL h L (fun _ => 0) = G at ih' ⊢
    have hle := hh.le.1
    unfold updM
    rw [if_pos (by omega)]
    unfold upd
    split
    · rename_i hd
      rw [if_pos (by omega), h3 _ (by omega) (by omega)]
    · rename_i hd
      rw [ih' d]
      by_cases c : 1 ≤ d ∧ d < z
      · rw [if_pos c, if_pos (by omega)]
      · rw [if_neg c, if_neg (by omega)]
theorem mapped_all {h f : Int → Int} {L : List Sg} (hs : SegsTo f 1 3652060 L) : mappedL h L (fun _ => 0) = mappedF h f := funext fun d => by
  rw [mappedL_to hs (by omega) d]; rfl
end Go.Proofs.Ytngglpekdjhbdaa
namespace Go.Proofs.Ytngglpekdjhbdaa
open Go.RowKit Go.ChangeMaps Go.Deep Tr
set_option linter.unusedSimpArgs false
set_option linter.unusedVariables false
set_option maxRecDepth 20000

/-- the kinds of a timeline's blocks -/
def lineE (E : TypeId) : Prop := E = 90 ∨ E = 126 ∨ E = 3 ∨ E = 135
theorem LineAt.types {w : World} {g : Nat} {B : List Nat} {n : Nat} {gf : Int → Int} (h : LineAt w g B n gf) : ∀ k ∈ B, ∃ c E, w.heap[k]? = some (.cells c E (0, 0)) ∧ lineE E := by
  obtain ⟨M, E, hL, _⟩ := h.ex
  obtain ⟨b, vv, gv, nv, fv, ns, fr, T, vs, fs, S, rfl, _⟩ := hL
  intro k hk
  simp only [lnB, List.mem_cons, List.mem_append, mem_blk] at hk
  rcases hk with rfl | rfl | hk | hk | hk | hk
  · exact ⟨_, _, S.blk, .inl rfl⟩
  · exact ⟨_, _, S.tree.tree.blk, .inr (.inl rfl)⟩
  · obtain ⟨c, hc⟩ := ownsRow_cells S.vals hk
    exact ⟨_, _, hc, .inr (.inr (.inl rfl))⟩
  · obtain ⟨c, hc⟩ := ownsRow_cells S.free hk
    exact ⟨_, _, hc, .inr (.inr (.inl rfl))⟩
  · obtain ⟨c, hc⟩ := ownsRow_cells S.tree.tree.row hk
    exact ⟨_, _, hc, .inr (.inr (.inr rfl))⟩
  · obtain ⟨c, hc⟩ := ownsRow_cells S.tree.tree.free hk
    exact ⟨_, _, hc, .inr (.inr (.inl rfl))⟩
/-- a change of a timeline's blocks alone -/
def ModL (W W' : World) : Prop := ∃ B, Mod B W W' ∧ ∀ k ∈ B, ∃ c E, W.heap[k]? = some (.cells c E (0, 0)) ∧ lineE E
theorem OwnR.keptL {α : Type} {enc : α → List Value} {k : Nat} {E : TypeId} {w w' : World} {base : Nat} {v : Value} {l : List α} (h : OwnR enc k E w base v l) (m : ModL w w') (hE : ¬ lineE E) : OwnR enc k E w' base v l := by
  obtain ⟨B, m, hB⟩ := m
  refine h.kept m fun j hj hm => ?_
  obtain ⟨c, E', h1, h2⟩ := hB j hm
  exact own_ne h h1 (fun e => hE (e ▸ h2)) j hj rfl
theorem ModL.heap {w w' : World} (m : ModL w w') {b : Nat} {c : Array Value} {E : TypeId} (h : w.heap[b]? = some (.cells c E (0, 0))) (hE : ¬ lineE E) : w'.heap[b]? = some (.cells c E (0, 0)) := by
  obtain ⟨B, m, hB⟩ := m
  refine m.heap h fun hm => ?_
  obtain ⟨c', E', h1, h2⟩ := hB b hm
  rw [h] at h1
  cases h1
  exact hE h2
/-- where a timeline is being filled: it is the call's own -/
def FillSt (w : World) (g n : Nat) (gf : Int → Int) (W : World) : Prop := ∃ B, LineAt W g B n gf ∧ Mod [] w W ∧ ∀ k ∈ B, w.heap.size ≤ k
theorem FillSt.kept0 {w W W' : World} {g n : Nat} {gf : Int → Int} (h : FillSt w g n gf W) (m : Mod [] W W') : FillSt w g n gf W' := by
  obtain ⟨B, h1, h2, h3⟩ := h
  exact ⟨B, h1.kept0 m, h2.trans m, h3⟩
theorem FillSt.put {w W W' : World} {g n' : Nat} {gf' : Int → Int} {B : List Nat} (h2 : Mod [] w W) (h3 : ∀ k ∈ B, w.heap.size ≤ k) (h : LinePost W g B n' gf' W') : FillSt w g n' gf' W' := by
  obtain ⟨B', q1, q2, q3⟩ := h
  refine ⟨B', q1, Mod.into' h2 q2 (fun k hk => .inl (h3 k hk)), fun k hk => ?_⟩
  rcases q3 k hk with c | c
  · exact h3 k c
  · exact Nat.le_trans h2.size c
theorem LineAt.le {w : World} {g : Nat} {B : List Nat} {n n' : Nat} {gf : Int → Int} (h : LineAt w g B n gf) (hn : n ≤ n') : LineAt w g B n' gf := by
  obtain ⟨M, E, h1, h2, h3, h4, h5⟩ := h.ex
  exact ⟨M, E, h1, h2, h3, by omega, by omega⟩
/-- Put, whether its days may be or not -/
theorem put_fill {w W : World} {g n : Nat} {gf : Int → Int} (h : FillSt w g n gf W) (hn : n ≤ 40000) (a b v : Int) :
    Calls Try.prog 29 #[.pointer (some ⟨g, 0, none⟩), .agg #[.int .i64 a, .int .i64 b], .int .i64 v] W fun e w' => (∃ x, e = .returned (.int .i64 x)) ∧ FillSt w g (n + 1) (updM gf a b v) w' ∧ ModL W w' := by
  obtain ⟨B, h1, h2, h3⟩ := h
  unfold updM
  by_cases hab : mayS a b
  · refine (put_line h1 hn hab).mono ?_
    rintro e w' ⟨rfl, hP⟩
    refine ⟨⟨_, rfl⟩, ?_, B, ?_, h1.types⟩
    · rw [if_pos (show 1 ≤ a ∧ a < b ∧ b ≤ 3652060 from hab)]
      exact FillSt.put h2 h3 hP
    · obtain ⟨B', q1, q2, q3⟩ := hP
      exact q2
  · refine (put_not h1 hab).mono ?_
    rintro e w' ⟨rfl, hm⟩
    refine ⟨⟨_, rfl⟩, ?_, B, hm.nil, h1.types⟩
    rw [if_neg (show ¬ (1 ≤ a ∧ a < b ∧ b ≤ 3652060) from hab)]
    exact ⟨B, (h1.kept0 hm).le (by omega), h2.trans hm, h3⟩
set_option maxHeartbeats 4000000 in
theorem moved_at {w : World} {g : Nat} {B : List Nat} {n : Nat} {gf : Int → Int} (h : LineAt w g B n gf) (hn : n ≤ 9000) {by_ : Int} (hb : -3652060 ≤ by_ ∧ by_ ≤ 3652060) :
    Calls Try.prog 19 #[.pointer (some ⟨g, 0, none⟩), .int .i64 by_] w fun e w' => ∃ g', e = .returned (.pointer (some ⟨g', 0, none⟩)) ∧ FillSt w g' (4 * n + 1) (movedF gf by_) w' := by
  have H := Lib.hid h
  have CN := Lib.hid (tlNew_line w)
  have hd1 : decide ((3652060 : Int) < by_) = false := decide_eq_false (by omega)
  have hd2 : decide (by_ < (-3652060 : Int)) = false := decide_eq_false (by omega)
  clear h
  go_enter Try.func19, Try.ntmps19
  go_wp2_with fail
  refine CN.out.mono ?_
  rintro e w1 ⟨rfl, hN, m1⟩
  have HN := Lib.hid (show FillSt w (w.heap.size + 1) 0 (fun _ => 0) w1 from ⟨_, hN, m1, by simp⟩)
  have HM1 := Lib.hid m1
  have CA := Lib.hid (rfAll_at w1)
  clear CN hN m1
  go_wp2_with fail
  refine CA.out.mono ?_
  rintro e w2 ⟨rfl, m2⟩
  have CS := Lib.hid (segs_at H.out (by omega) may_all (HM1.out.trans m2))
  have HN2 := Lib.hid (HN.out.kept0 m2)
  have HM2 := Lib.hid (HM1.out.trans m2)
  clear CA m2 HN HM1
  go_wp2_with fail
  refine CS.out.mono ?_
  rintro e w3 ⟨lv, L, rfl, oL, ⟨hS, hl⟩, m3⟩
  obtain ⟨la, lc, rfl⟩ := oL.lens
  have HN3 := Lib.hid (HN2.out.kept0 m3)
  have HO := Lib.hid oL
  have HS := Lib.hid hS
  have HM3 := Lib.hid (HM2.out.trans m3)
  have hone : ∀ x ∈ L, 1 ≤ x.f ∧ x.f < x.t ∧ x.t ≤ 3652060 := by
    intro x hx
    obtain ⟨p, q, rfl⟩ := List.append_of_mem hx
    obtain ⟨c1, c2, c3, c4⟩ := hS.mid
    refine ⟨?_, c2, c4⟩
    rcases c1 with ⟨_, e⟩ | ⟨r, hr, e⟩
    · omega
    · have hp : SegsTo gf 1 3652060 ((p.dropLast) ++ r :: (x :: q)) := by
        have : p = p.dropLast ++ [r] := by
          obtain ⟨p', hp'⟩ := List.getLast?_eq_some_iff.1 hr
          rw [hp']; simp
        rw [this] at hS
        simpa using hS
      have h1 : ∀ (n : Nat) (p : List Sg) (y : Sg) (q : List Sg), p.length ≤ n → SegsTo gf 1 3652060 (p ++ y :: q) → 1 ≤ y.f := fun n => by
        induction n with
        | zero =>
          intro p y q hn hs
          obtain rfl : p = [] := List.eq_nil_of_length_eq_zero (by omega)
          rcases hs.mid.1 with ⟨_, e⟩ | ⟨r, hr, _⟩
          · omega
          · cases hr
        | succ n ih =>
          intro p y q hn hs
          rcases hs.mid.1 with ⟨_, e⟩ | ⟨r, hr, e⟩
          · omega
          · obtain ⟨p', hp'⟩ := List.getLast?_eq_some_iff.1 hr
            subst hp'
            have hs' : SegsTo gf 1 3652060 (p' ++ r :: (y :: q)) := by simpa using hs
            have := ih p' r (y :: q) (by simp at hn; omega) hs'
            have := hs'.mid.2.1
            omega
      have := h1 _ _ _ _ (Nat.le_refl _) hp
      have := hp.mid.2.1
      omega
  have HONE := Lib.hid hone
  clear CS oL hS m3 hone HN2 HM2
  go_wp2_with fail
  go_loopw [20] (fun s20 W => ∃ j : Nat, j ≤ L.length ∧ s20 = .int .i64 j ∧ Hid (FillSt w (w.heap.size + 1) j (movedL by_ (L.take j) (fun _ => 0)) W ∧ Mod [] w W ∧ OwnR encSg 3 80 W w2.heap.size (.slice la L.length lc) L)) (fun s20 _ => L.length - (intOf s20).toNat)
  case atStart => exact ⟨0, by omega, rfl, Lib.hid ⟨HN3.out, HM3.out, HO.out⟩⟩
  case round =>
    obtain ⟨j, hj, rfl, hS⟩ := hrel
    obtain ⟨q1, q2, q3⟩ := hS.out
    by_cases hlt : j < L.length
    · obtain ⟨q, cap, heq, hq, hcap⟩ := q3.at_ (show L[j]? = some L[j] from List.getElem?_eq_getElem hlt)
      simp only [Value.slice.injEq] at heq
      obtain ⟨rfl, _, rfl⟩ := heq
      have hmv : movedL by_ (L.take (j + 1)) (fun _ => 0) = updM (movedL by_ (L.take j) (fun _ => 0)) (max ((L[j]).f + by_) 1) (min ((L[j]).t + by_) 3652060) (L[j]).v := by
        rw [List.take_succ_eq_append_getElem hlt]
        unfold movedL
        rw [List.foldl_append]
        rfl
      have hrow : wr.rangeAt q (j * 3) [.int .i64 (L[j]).f, .int .i64 (L[j]).t, .int .i64 (L[j]).v] := fun jj u hu => (q3.cell encSg_len hlt (j := jj) (by have := (List.getElem?_eq_some_iff.1 hu).1; simpa using this) (u := u) hu).1
      have hx1 := HONE.out _ (List.getElem_mem hlt)
      generalize L[j] = s at hrow hmv hx1
      obtain ⟨f, t, v⟩ := s
      dsimp only at hrow hmv hx1
      have HLI := Lib.hid (run_loadAt_mid (P := Try.prog) _ q (j * 3) 80 _ _ hrow Try.underlying80 rfl (by kernel_rfl))
      have mI := (Mod.refl [] wr).alloc (.cells #[.int .i64 f, .int .i64 t, .int .i64 v] 80)
      have bI := heap_alloc_new wr (.cells #[.int .i64 f, .int .i64 t, .int .i64 v] 80)
      have i0 := cell_blk bI 0
      have i1 := cell_blk bI 1
      have i2 := cell_blk bI 2
      simp only [List.getElem?_toArray, List.getElem?_cons_succ, List.getElem?_cons_zero] at i0 i1 i2
      have hj0 : decide ((j : Int) < 0) = false := decide_eq_false (by omega)
      have hj1 : decide ((L.length : Int) ≤ (j : Int)) = false := decide_eq_false (by omega)
      have hj2 : decide ((j : Int) < (L.length : Int)) = true := decide_eq_true (by omega)
      have CP := Lib.hid (put_fill (q1.kept0 mI) (by omega) (max (f + by_) 1) (min (t + by_) 3652060) v)
      have HQ := Lib.hid (⟨q2.trans mI, q3.kept0 mI⟩ : _ ∧ _)
      rw [← hmv] at CP
      clear q1 q2 q3 hrow mI bI hmv
      go_wp2_with (first | ((with_reducible refine xLoadAt rfl HLI.out ?_ ?_ ?_); exact rfl; exact rfl) | ((with_reducible apply xMin rfl); exact rfl; exact rfl; exact rfl) | ((with_reducible apply xMax rfl); exact rfl; exact rfl; exact rfl))
      refine CP.out.mono ?_
      rintro e w4 ⟨⟨x, rfl⟩, hF, hml⟩
      have HN := Lib.hid (show FillSt w (w.heap.size + 1) (j + 1) (movedL by_ (L.take (j + 1)) (fun _ => 0)) w4 ∧ Mod [] w w4 ∧ OwnR encSg 3 80 w4 w2.heap.size (.slice (some ⟨q, 0, none⟩) L.length lc) L from ⟨hF, by obtain ⟨B, _, h, _⟩ := hF; exact h, HQ.out.2.keptL hml (by unfold lineE; decide)⟩)
      clear hF hml CP
      go_wp2_with fail
      go_roundw
      case rel => exact ⟨j + 1, by omega, by go_num, HN⟩
      case measure => simp [intOf]; omega
    · have hje : j = L.length := by omega
      have hj2 : decide ((j : Int) < (L.length : Int)) = false := decide_eq_false (by omega)
      have HE := Lib.hid (show FillSt w (w.heap.size + 1) (4 * n + 1) (movedF gf by_) wr from by
        obtain ⟨B, h1, h2, h3⟩ := q1
        rw [List.take_of_length_le (by omega), moved_all HS.out] at h1
        exact ⟨B, h1.le (by omega), h2, h3⟩)
      clear q1 q2 q3
      subst hje
      go_wp2_with fail
      go_ret
      exact ⟨_, rfl, HE.out⟩
end Go.Proofs.Ytngglpekdjhbdaa
namespace Go.Proofs.Ytngglpekdjhbdaa
open Go.RowKit Go.ChangeMaps Go.Deep Tr
set_option linter.unusedSimpArgs false
set_option linter.unusedVariables false
set_option maxRecDepth 20000

theorem tlNone_nil (w : World) : Calls Try.prog 41 #[.pointer none] w fun e w' => e = .returned (.bool true) ∧ w' = w := by
  go_enter Try.func41, Try.ntmps41
  go_wp2_with fail
  go_ret
  exact ⟨rfl, rfl⟩
theorem segs_nil {w : World} {a b : Int} : Calls Try.prog 33 #[.pointer none, .agg #[.int .i64 a, .int .i64 b]] w fun e w' => e = .returned (.slice none 0 0) ∧ Mod [] w w' := by
  obtain ⟨X1, hX1, x1, z1, y1⟩ := alloc_named2 w (.cells #[.pointer none] 31)
  obtain ⟨X2, hX2, x2, z2, y2⟩ := alloc_named2 X1 (.cells #[.int .i64 a, .int .i64 b] 24)
  obtain ⟨X3, hX3, x3, z3, y3⟩ := alloc_named2 X2 (.cells #[.slice none 0 0] 76)
  rw [z1] at x2 z2
  rw [z2] at x3 z3
  have CN := Lib.hid (tlNone_nil X3)
  have HX1 := Lib.hid ((y2.trans y3).heap x1 (by simp))
  have HX3 := Lib.hid x3
  have HMX := Lib.hid (y1.trans (y2.trans y3))
  have p0 := cell_blk HX1.out 0
  simp only [List.getElem?_toArray, List.getElem?_cons_zero] at p0
  have q0 := cell_blk x3 0
  have f0 := frozen_blk x3 0
  have q1 := cell_blk (heap_setCell_blk x3 0 (.slice none 0 0)) 0
  simp at q1
  simp only [List.getElem?_toArray, List.getElem?_cons_zero] at q0
  have HM := Lib.hid (Mod.into' HMX.out ((Mod.refl [w.heap.size + 1 + 1] X3).setCell (by simp) (.slice none 0 0) : Mod [w.heap.size + 1 + 1] X3 (X3.setCell ⟨w.heap.size + 1 + 1, 0, none⟩ (.slice none 0 0))) (fun k hk => .inl (by simp at hk; omega)))
  clear x1 x2 x3 y1 y2 y3
  go_enter Try.func33, Try.ntmps33
  go_wp2_with fail
  refine CN.out.mono ?_
  rintro e w1 ⟨rfl, rfl⟩
  go_wp2_with fail
  refine bodyPost_ret (v := .slice none 0 0) ?_ rfl ⟨rfl, HM.out⟩
  simp [results, Try.results33, go_sem, q1]
theorem there_nil (w : World) : Calls Try.prog 32 #[.pointer none] w fun e w' => ∃ g B, e = .returned (.pointer (some ⟨g, 0, none⟩)) ∧ LineAt w' g B 0 (fun _ => 0) ∧ Mod [] w w' := by
  have CA := Lib.hid (rfAll_at w)
  go_enter Try.func32, Try.ntmps32
  go_wp2_with fail
  refine CA.out.mono ?_
  rintro e w1 ⟨rfl, m1⟩
  have CS := Lib.hid (segs_nil (w := w1) (a := 1) (b := 3652060))
  have HM1 := Lib.hid m1
  go_wp2_with fail
  refine CS.out.mono ?_
  rintro e w2 ⟨rfl, m2⟩
  have CN := Lib.hid (tlNew_line w2)
  have HM2 := Lib.hid (HM1.out.trans m2)
  clear CA CS m1 m2
  go_wp2_with fail
  refine CN.out.mono ?_
  rintro e w3 ⟨rfl, hL, m3⟩
  have HL := Lib.hid hL
  have HM3 := Lib.hid (HM2.out.trans m3)
  clear CN hL m3
  go_wp2_with fail
  go_ret
  exact ⟨_, _, rfl, HL.out, HM3.out⟩
theorem segs_one {gf : Int → Int} {L : List Sg} (hS : SegsTo gf 1 3652060 L) : ∀ x ∈ L, 1 ≤ x.f ∧ x.f < x.t ∧ x.t ≤ 3652060 := by
  intro x hx
  obtain ⟨p, q, rfl⟩ := List.append_of_mem hx
  obtain ⟨c1, c2, c3, c4⟩ := hS.mid
  refine ⟨?_, c2, c4⟩
  rcases c1 with ⟨_, e⟩ | ⟨r, hr, e⟩
  · omega
  · have hp : SegsTo gf 1 3652060 ((p.dropLast) ++ r :: (x :: q)) := by
      have : p = p.dropLast ++ [r] := by
        obtain ⟨p', hp'⟩ := List.getLast?_eq_some_iff.1 hr
        rw [hp']; simp
      rw [this] at hS
      simpa using hS
    have h1 : ∀ (n : Nat) (p : List Sg) (y : Sg) (q : List Sg), p.length ≤ n → SegsTo gf 1 3652060 (p ++ y :: q) → 1 ≤ y.f := fun n => by
      induction n with
      | zero =>
        intro p y q hn hs
        obtain rfl : p = [] := List.eq_nil_of_length_eq_zero (by omega)
        rcases hs.mid.1 with ⟨_, e⟩ | ⟨r, hr, _⟩
        · omega
        · cases hr
      | succ n ih =>
        intro p y q hn hs
        rcases hs.mid.1 with ⟨_, e⟩ | ⟨r, hr, e⟩
        · omega
        · obtain ⟨p', hp'⟩ := List.getLast?_eq_some_iff.1 hr
          subst hp'
          have hs' : SegsTo gf 1 3652060 (p' ++ r :: (y :: q)) := by simpa using hs
          have := ih p' r (y :: q) (by simp at hn; omega) hs'
          have := hs'.mid.2.1
          omega
    have := h1 _ _ _ _ (Nat.le_refl _) hp
    have := hp.mid.2.1
    omega
set_option maxHeartbeats 4000000 in
theorem map1_at {w : World} {tv : Value} {n : Nat} {gf h : Int → Int} {bn : Nat} (hn : n ≤ 9000)
    (HT : ∀ W, Mod [] w W → Calls Try.prog 32 #[tv] W fun e w' => ∃ g B, e = .returned (.pointer (some ⟨g, 0, none⟩)) ∧ LineAt w' g B n gf ∧ Mod [] W w')
    (HF : ∀ W x, Mod [] w W → Calls Try.prog 18 #[.int .i64 x, .pointer (some ⟨bn, 0, none⟩)] W fun e w' => e = .returned (.int .i64 (h x)) ∧ Mod [] W w') :
    Calls Try.prog 17 #[tv, .func (.func 18) #[] #[.pointer (some ⟨bn, 0, none⟩)]] w fun e w' => ∃ g', e = .returned (.pointer (some ⟨g', 0, none⟩)) ∧ FillSt w g' (4 * n + 1) (mappedF h gf) w' := by
  have HTT := Lib.hid HT
  have HFF := Lib.hid HF
  have CN := Lib.hid (tlNew_line w)
  clear HT HF
  go_enter Try.func17, Try.ntmps17
  go_wp2_with fail
  refine CN.out.mono ?_
  rintro e w1 ⟨rfl, hN, m1⟩
  have HN := Lib.hid (show FillSt w (w.heap.size + 1) 0 (fun _ => 0) w1 from ⟨_, hN, m1, by simp⟩)
  have HM1 := Lib.hid m1
  have CT := Lib.hid (HTT.out w1 m1)
  clear CN hN m1
  go_wp2_with fail
  refine CT.out.mono ?_
  rintro e w2 ⟨g, B, rfl, hL2, m2⟩
  have HL2 := Lib.hid hL2
  have HM2 := Lib.hid (HM1.out.trans m2)
  have HN2 := Lib.hid (HN.out.kept0 m2)
  have CA := Lib.hid (rfAll_at w2)
  clear CT hL2 m2 HN HM1
  go_wp2_with fail
  refine CA.out.mono ?_
  rintro e w3 ⟨rfl, m3⟩
  have CS := Lib.hid (segs_at HL2.out (by omega) may_all m3)
  have HM3 := Lib.hid (HM2.out.trans m3)
  have HN3 := Lib.hid (HN2.out.kept0 m3)
  clear CA m3 HN2 HM2
  go_wp2_with fail
  refine CS.out.mono ?_
  rintro e w4 ⟨lv, L, rfl, oL, ⟨hS, hl⟩, m4⟩
  obtain ⟨la, lc, rfl⟩ := oL.lens
  have HN4 := Lib.hid (HN3.out.kept0 m4)
  have HO := Lib.hid oL
  have HS := Lib.hid hS
  have HM4 := Lib.hid (HM3.out.trans m4)
  clear CS oL hS m4 HN3 HM3
  go_wp2_with fail
  go_loopw [14] (fun s14 W => ∃ j : Nat, j ≤ L.length ∧ s14 = .int .i64 j ∧ Hid (FillSt w (w.heap.size + 1) j (mappedL h (L.take j) (fun _ => 0)) W ∧ Mod [] w W ∧ OwnR encSg 3 80 W w3.heap.size (.slice la L.length lc) L)) (fun s14 _ => L.length - (intOf s14).toNat)
  case atStart => exact ⟨0, by omega, rfl, Lib.hid ⟨HN4.out, HM4.out, HO.out⟩⟩
  case round =>
    obtain ⟨j, hj, rfl, hS⟩ := hrel
    obtain ⟨q1, q2, q3⟩ := hS.out
    by_cases hlt : j < L.length
    · obtain ⟨q, cap, heq, hq, hcap⟩ := q3.at_ (show L[j]? = some L[j] from List.getElem?_eq_getElem hlt)
      simp only [Value.slice.injEq] at heq
      obtain ⟨rfl, _, rfl⟩ := heq
      have hmv : mappedL h (L.take (j + 1)) (fun _ => 0) = updM (mappedL h (L.take j) (fun _ => 0)) (L[j]).f (L[j]).t (h (L[j]).v) := by
        rw [List.take_succ_eq_append_getElem hlt]
        unfold mappedL
        rw [List.foldl_append]
        rfl
      have hrow : wr.rangeAt q (j * 3) [.int .i64 (L[j]).f, .int .i64 (L[j]).t, .int .i64 (L[j]).v] := fun jj u hu => (q3.cell encSg_len hlt (j := jj) (by have := (List.getElem?_eq_some_iff.1 hu).1; simpa using this) (u := u) hu).1
      generalize L[j] = s at hrow hmv
      obtain ⟨f, t, v⟩ := s
      dsimp only at hrow hmv
      have HLI := Lib.hid (run_loadAt_mid (P := Try.prog) _ q (j * 3) 80 _ _ hrow Try.underlying80 rfl (by kernel_rfl))
      have mI := (Mod.refl [] wr).alloc (.cells #[.int .i64 f, .int .i64 t, .int .i64 v] 80)
      have bI := heap_alloc_new wr (.cells #[.int .i64 f, .int .i64 t, .int .i64 v] 80)
      have i0 := cell_blk bI 0
      have i1 := cell_blk bI 1
      have i2 := cell_blk bI 2
      simp only [List.getElem?_toArray, List.getElem?_cons_succ, List.getElem?_cons_zero] at i0 i1 i2
      have hj0 : decide ((j : Int) < 0) = false := decide_eq_false (by omega)
      have hj1 : decide ((L.length : Int) ≤ (j : Int)) = false := decide_eq_false (by omega)
      have hj2 : decide ((j : Int) < (L.length : Int)) = true := decide_eq_true (by omega)
      have md := mI.drew
      have CF := Lib.hid (HFF.out _ v (q2.trans md))
      have HBI := Lib.hid (show (wr.alloc (.cells #[.int .i64 f, .int .i64 t, .int .i64 v] 80)).drew.heap[wr.heap.size]? = _ from bI)
      have HQ := Lib.hid (⟨q1.kept0 md, q2.trans md, q3.kept0 md⟩ : _ ∧ _ ∧ _)
      have HMV := Lib.hid hmv
      have HEND := Lib.hid (fun (W W' : World) (m5 : Mod [] (wr.alloc (.cells #[.int .i64 f, .int .i64 t, .int .i64 v] 80)).drew W) (hF : FillSt w (w.heap.size + 1) (j + 1) (mappedL h (L.take (j + 1)) (fun _ => 0)) W') (hml : ModL W W') =>
        show FillSt w (w.heap.size + 1) (j + 1) (mappedL h (L.take (j + 1)) (fun _ => 0)) W' ∧ Mod [] w W' ∧ OwnR encSg 3 80 W' w3.heap.size (.slice (some ⟨q, 0, none⟩) L.length lc) L from ⟨hF, by obtain ⟨B, _, h, _⟩ := hF; exact h, (HQ.out.2.2.kept0 m5).keptL hml (by unfold lineE; decide)⟩)
      clear q1 q2 q3 hrow mI bI hmv md
      go_wp2_with ((with_reducible refine xLoadAt rfl HLI.out ?_ ?_ ?_); exact rfl; exact rfl)
      refine wp_sched (by kernel_rfl) (sched_either 5 9 (by decide) (sched_plan1 [([0, 1, 3, 6, 7, 2, 4, 8], 5, [7, 8]), ([], 9, []), ([], 10, [])] [] (by kernel_rfl) ?L1) (sched_plan1 [([0, 1, 3, 6, 7, 2, 4, 8], 9, [1, 3, 2, 4]), ([], 5, [7, 8]), ([], 10, [])] [] (by kernel_rfl) ?L2))
      case L1 =>
        simp only [wpSegs, opsOf, List.map_cons, List.map_nil, opN, List.getD_cons_zero, List.getD_cons_succ]
        go_wp2_with fail
        refine ⟨by first | trivial | rfl, ?_⟩
        go_wp2_with fail
        refine ⟨?aa1, ?_⟩
        case aa1 =>
          intro i hi hw
          simp only [List.mem_cons, List.not_mem_nil, or_false] at hi
          rcases hi with rfl | rfl
          all_goals (simp only [opN, List.getD_cons_zero, List.getD_cons_succ, slotOf]; go_simp)
        go_wp2_with fail
        refine ⟨by first | trivial | rfl, ?_⟩
        go_wp2_with fail
        refine CF.out.mono ?_
        rintro e w5 ⟨rfl, m5⟩
        have CP := Lib.hid (put_fill (HQ.out.1.kept0 m5) (by omega) f t (h v))
        rw [← HMV.out] at CP
        have HM5 := Lib.hid m5
        clear m5
        go_wp2_with fail
        refine ⟨again_nil, ?_⟩
        go_wp2_with fail
        refine ⟨by first | trivial | rfl, ?_⟩
        go_wp2_with fail
        refine CP.out.mono ?_
        rintro e w6 ⟨⟨x, rfl⟩, hF, hml⟩
        have HN := Lib.hid (HEND.out w5 w6 HM5.out hF hml)
        clear hF hml CP
        go_wp2_with fail
        refine ⟨again_nil, ?_⟩
        go_wp2_with fail
        refine ⟨by first | trivial | rfl, ?_⟩
        go_wp2_with fail
        go_roundw
        case rel => exact ⟨j + 1, by omega, by go_num, HN⟩
        case measure => simp [intOf]; omega
      case L2 =>
        simp only [wpSegs, opsOf, List.map_cons, List.map_nil, opN, List.getD_cons_zero, List.getD_cons_succ]
        go_wp2_with fail
        refine ⟨by first | trivial | rfl, ?_⟩
        go_wp2_with fail
        refine CF.out.mono ?_
        rintro e w5 ⟨rfl, m5⟩
        have CP := Lib.hid (put_fill (HQ.out.1.kept0 m5) (by omega) f t (h v))
        rw [← HMV.out] at CP
        have b5 := m5.heap HBI.out (by simp)
        have k0 := cell_blk b5 0
        have k1 := cell_blk b5 1
        have k2 := cell_blk b5 2
        simp only [List.getElem?_toArray, List.getElem?_cons_succ, List.getElem?_cons_zero] at k0 k1 k2
        have HM5 := Lib.hid m5
        clear m5 b5
        go_wp2_with fail
        refine ⟨?aa2, ?_⟩
        case aa2 =>
          intro i hi hw
          simp only [List.mem_cons, List.not_mem_nil, or_false] at hi
          rcases hi with rfl | rfl | rfl | rfl
          all_goals (simp only [opN, List.getD_cons_zero, List.getD_cons_succ, slotOf]; go_simp)
        go_wp2_with fail
        refine ⟨by first | trivial | rfl, ?_⟩
        go_wp2_with fail
        refine ⟨?aa3, ?_⟩
        case aa3 =>
          intro i hi hw
          simp only [List.mem_cons, List.not_mem_nil, or_false] at hi
          rcases hi with rfl | rfl
          all_goals (simp only [opN, List.getD_cons_zero, List.getD_cons_succ, slotOf]; go_simp)
        go_wp2_with fail
        refine ⟨by first | trivial | rfl, ?_⟩
        go_wp2_with fail
        refine CP.out.mono ?_
        rintro e w6 ⟨⟨x, rfl⟩, hF, hml⟩
        have HN := Lib.hid (HEND.out w5 w6 HM5.out hF hml)
        clear hF hml CP
        go_wp2_with fail
        refine ⟨again_nil, ?_⟩
        go_wp2_with fail
        refine ⟨by first | trivial | rfl, ?_⟩
        go_wp2_with fail
        go_roundw
        case rel => exact ⟨j + 1, by omega, by go_num, HN⟩
        case measure => simp [intOf]; omega
    · have hje : j = L.length := by omega
      have hj2 : decide ((j : Int) < (L.length : Int)) = false := decide_eq_false (by omega)
      have HE := Lib.hid (show FillSt w (w.heap.size + 1) (4 * n + 1) (mappedF h gf) wr from by
        obtain ⟨B, h1, h2, h3⟩ := q1
        rw [List.take_of_length_le (by omega), mapped_all HS.out] at h1
        exact ⟨B, h1.le (by omega), h2, h3⟩)
      clear q1 q2 q3
      subst hje
      go_wp2_with fail
      go_ret
      exact ⟨_, rfl, HE.out⟩
set_option maxHeartbeats 4000000 in
theorem map2_at {w : World} {tv : Value} {n : Nat} {gf h : Int → Int} (hn : n ≤ 9000)
    (HT : ∀ W, Mod [] w W → Calls Try.prog 32 #[tv] W fun e w' => ∃ g B, e = .returned (.pointer (some ⟨g, 0, none⟩)) ∧ LineAt w' g B n gf ∧ Mod [] W w')
    (HF : ∀ W x, Mod [] w W → Calls Try.prog 20 #[.int .i64 x] W fun e w' => e = .returned (.int .i64 (h x)) ∧ Mod [] W w') :
    Calls Try.prog 17 #[tv, .func (.func 20) #[] #[]] w fun e w' => ∃ g', e = .returned (.pointer (some ⟨g', 0, none⟩)) ∧ FillSt w g' (4 * n + 1) (mappedF h gf) w' := by
  have HTT := Lib.hid HT
  have HFF := Lib.hid HF
  have CN := Lib.hid (tlNew_line w)
  clear HT HF
  go_enter Try.func17, Try.ntmps17
  go_wp2_with fail
  refine CN.out.mono ?_
  rintro e w1 ⟨rfl, hN, m1⟩
  have HN := Lib.hid (show FillSt w (w.heap.size + 1) 0 (fun _ => 0) w1 from ⟨_, hN, m1, by simp⟩)
  have HM1 := Lib.hid m1
  have CT := Lib.hid (HTT.out w1 m1)
  clear CN hN m1
  go_wp2_with fail
  refine CT.out.mono ?_
  rintro e w2 ⟨g, B, rfl, hL2, m2⟩
  have HL2 := Lib.hid hL2
  have HM2 := Lib.hid (HM1.out.trans m2)
  have HN2 := Lib.hid (HN.out.kept0 m2)
  have CA := Lib.hid (rfAll_at w2)
  clear CT hL2 m2 HN HM1
  go_wp2_with fail
  refine CA.out.mono ?_
  rintro e w3 ⟨rfl, m3⟩
  have CS := Lib.hid (segs_at HL2.out (by omega) may_all m3)
  have HM3 := Lib.hid (HM2.out.trans m3)
  have HN3 := Lib.hid (HN2.out.kept0 m3)
  clear CA m3 HN2 HM2
  go_wp2_with fail
  refine CS.out.mono ?_
  rintro e w4 ⟨lv, L, rfl, oL, ⟨hS, hl⟩, m4⟩
  obtain ⟨la, lc, rfl⟩ := oL.lens
  have HN4 := Lib.hid (HN3.out.kept0 m4)
  have HO := Lib.hid oL
  have HS := Lib.hid hS
  have HM4 := Lib.hid (HM3.out.trans m4)
  clear CS oL hS m4 HN3 HM3
  go_wp2_with fail
  go_loopw [14] (fun s14 W => ∃ j : Nat, j ≤ L.length ∧ s14 = .int .i64 j ∧ Hid (FillSt w (w.heap.size + 1) j (mappedL h (L.take j) (fun _ => 0)) W ∧ Mod [] w W ∧ OwnR encSg 3 80 W w3.heap.size (.slice la L.length lc) L)) (fun s14 _ => L.length - (intOf s14).toNat)
  case atStart => exact ⟨0, by omega, rfl, Lib.hid ⟨HN4.out, HM4.out, HO.out⟩⟩
  case round =>
    obtain ⟨j, hj, rfl, hS⟩ := hrel
    obtain ⟨q1, q2, q3⟩ := hS.out
    by_cases hlt : j < L.length
    · obtain ⟨q, cap, heq, hq, hcap⟩ := q3.at_ (show L[j]? = some L[j] from List.getElem?_eq_getElem hlt)
      simp only [Value.slice.injEq] at heq
      obtain ⟨rfl, _, rfl⟩ := heq
      have hmv : mappedL h (L.take (j + 1)) (fun _ => 0) = updM (mappedL h (L.take j) (fun _ => 0)) (L[j]).f (L[j]).t (h (L[j]).v) := by
        rw [List.take_succ_eq_append_getElem hlt]
        unfold mappedL
        rw [List.foldl_append]
        rfl
      have hrow : wr.rangeAt q (j * 3) [.int .i64 (L[j]).f, .int .i64 (L[j]).t, .int .i64 (L[j]).v] := fun jj u hu => (q3.cell encSg_len hlt (j := jj) (by have := (List.getElem?_eq_some_iff.1 hu).1; simpa using this) (u := u) hu).1
      generalize L[j] = s at hrow hmv
      obtain ⟨f, t, v⟩ := s
      dsimp only at hrow hmv
      have HLI := Lib.hid (run_loadAt_mid (P := Try.prog) _ q (j * 3) 80 _ _ hrow Try.underlying80 rfl (by kernel_rfl))
      have mI := (Mod.refl [] wr).alloc (.cells #[.int .i64 f, .int .i64 t, .int .i64 v] 80)
      have bI := heap_alloc_new wr (.cells #[.int .i64 f, .int .i64 t, .int .i64 v] 80)
      have i0 := cell_blk bI 0
      have i1 := cell_blk bI 1
      have i2 := cell_blk bI 2
      simp only [List.getElem?_toArray, List.getElem?_cons_succ, List.getElem?_cons_zero] at i0 i1 i2
      have hj0 : decide ((j : Int) < 0) = false := decide_eq_false (by omega)
      have hj1 : decide ((L.length : Int) ≤ (j : Int)) = false := decide_eq_false (by omega)
      have hj2 : decide ((j : Int) < (L.length : Int)) = true := decide_eq_true (by omega)
      have md := mI.drew
      have CF := Lib.hid (HFF.out _ v (q2.trans md))
      have HBI := Lib.hid (show (wr.alloc (.cells #[.int .i64 f, .int .i64 t, .int .i64 v] 80)).drew.heap[wr.heap.size]? = _ from bI)
      have HQ := Lib.hid (⟨q1.kept0 md, q2.trans md, q3.kept0 md⟩ : _ ∧ _ ∧ _)
      have HMV := Lib.hid hmv
      have HEND := Lib.hid (fun (W W' : World) (m5 : Mod [] (wr.alloc (.cells #[.int .i64 f, .int .i64 t, .int .i64 v] 80)).drew W) (hF : FillSt w (w.heap.size + 1) (j + 1) (mappedL h (L.take (j + 1)) (fun _ => 0)) W') (hml : ModL W W') =>
        show FillSt w (w.heap.size + 1) (j + 1) (mappedL h (L.take (j + 1)) (fun _ => 0)) W' ∧ Mod [] w W' ∧ OwnR encSg 3 80 W' w3.heap.size (.slice (some ⟨q, 0, none⟩) L.length lc) L from ⟨hF, by obtain ⟨B, _, h, _⟩ := hF; exact h, (HQ.out.2.2.kept0 m5).keptL hml (by unfold lineE; decide)⟩)
      clear q1 q2 q3 hrow mI bI hmv md
      go_wp2_with ((with_reducible refine xLoadAt rfl HLI.out ?_ ?_ ?_); exact rfl; exact rfl)
      refine wp_sched (by kernel_rfl) (sched_either 5 9 (by decide) (sched_plan1 [([0, 1, 3, 6, 7, 2, 4, 8], 5, [7, 8]), ([], 9, []), ([], 10, [])] [] (by kernel_rfl) ?L1) (sched_plan1 [([0, 1, 3, 6, 7, 2, 4, 8], 9, [1, 3, 2, 4]), ([], 5, [7, 8]), ([], 10, [])] [] (by kernel_rfl) ?L2))
      case L1 =>
        simp only [wpSegs, opsOf, List.map_cons, List.map_nil, opN, List.getD_cons_zero, List.getD_cons_succ]
        go_wp2_with fail
        refine ⟨by first | trivial | rfl, ?_⟩
        go_wp2_with fail
        refine ⟨?aa1, ?_⟩
        case aa1 =>
          intro i hi hw
          simp only [List.mem_cons, List.not_mem_nil, or_false] at hi
          rcases hi with rfl | rfl
          all_goals (simp only [opN, List.getD_cons_zero, List.getD_cons_succ, slotOf]; go_simp)
        go_wp2_with fail
        refine ⟨by first | trivial | rfl, ?_⟩
        go_wp2_with fail
        refine CF.out.mono ?_
        rintro e w5 ⟨rfl, m5⟩
        have CP := Lib.hid (put_fill (HQ.out.1.kept0 m5) (by omega) f t (h v))
        rw [← HMV.out] at CP
        have HM5 := Lib.hid m5
        clear m5
        go_wp2_with fail
        refine ⟨again_nil, ?_⟩
        go_wp2_with fail
        refine ⟨by first | trivial | rfl, ?_⟩
        go_wp2_with fail
        refine CP.out.mono ?_
        rintro e w6 ⟨⟨x, rfl⟩, hF, hml⟩
        have HN := Lib.hid (HEND.out w5 w6 HM5.out hF hml)
        clear hF hml CP
        go_wp2_with fail
        refine ⟨again_nil, ?_⟩
        go_wp2_with fail
        refine ⟨by first | trivial | rfl, ?_⟩
        go_wp2_with fail
        go_roundw
        case rel => exact ⟨j + 1, by omega, by go_num, HN⟩
        case measure => simp [intOf]; omega
      case L2 =>
        simp only [wpSegs, opsOf, List.map_cons, List.map_nil, opN, List.getD_cons_zero, List.getD_cons_succ]
        go_wp2_with fail
        refine ⟨by first | trivial | rfl, ?_⟩
        go_wp2_with fail
        refine CF.out.mono ?_
        rintro e w5 ⟨rfl, m5⟩
        have CP := Lib.hid (put_fill (HQ.out.1.kept0 m5) (by omega) f t (h v))
        rw [← HMV.out] at CP
        have b5 := m5.heap HBI.out (by simp)
        have k0 := cell_blk b5 0
        have k1 := cell_blk b5 1
        have k2 := cell_blk b5 2
        simp only [List.getElem?_toArray, List.getElem?_cons_succ, List.getElem?_cons_zero] at k0 k1 k2
        have HM5 := Lib.hid m5
        clear m5 b5
        go_wp2_with fail
        refine ⟨?aa2, ?_⟩
        case aa2 =>
          intro i hi hw
          simp only [List.mem_cons, List.not_mem_nil, or_false] at hi
          rcases hi with rfl | rfl | rfl | rfl
          all_goals (simp only [opN, List.getD_cons_zero, List.getD_cons_succ, slotOf]; go_simp)
        go_wp2_with fail
        refine ⟨by first | trivial | rfl, ?_⟩
        go_wp2_with fail
        refine ⟨?aa3, ?_⟩
        case aa3 =>
          intro i hi hw
          simp only [List.mem_cons, List.not_mem_nil, or_false] at hi
          rcases hi with rfl | rfl
          all_goals (simp only [opN, List.getD_cons_zero, List.getD_cons_succ, slotOf]; go_simp)
        go_wp2_with fail
        refine ⟨by first | trivial | rfl, ?_⟩
        go_wp2_with fail
        refine CP.out.mono ?_
        rintro e w6 ⟨⟨x, rfl⟩, hF, hml⟩
        have HN := Lib.hid (HEND.out w5 w6 HM5.out hF hml)
        clear hF hml CP
        go_wp2_with fail
        refine ⟨again_nil, ?_⟩
        go_wp2_with fail
        refine ⟨by first | trivial | rfl, ?_⟩
        go_wp2_with fail
        go_roundw
        case rel => exact ⟨j + 1, by omega, by go_num, HN⟩
        case measure => simp [intOf]; omega
    · have hje : j = L.length := by omega
      have hj2 : decide ((j : Int) < (L.length : Int)) = false := decide_eq_false (by omega)
      have HE := Lib.hid (show FillSt w (w.heap.size + 1) (4 * n + 1) (mappedF h gf) wr from by
        obtain ⟨B, h1, h2, h3⟩ := q1
        rw [List.take_of_length_le (by omega), mapped_all HS.out] at h1
        exact ⟨B, h1.le (by omega), h2, h3⟩)
      clear q1 q2 q3
      subst hje
      go_wp2_with fail
      go_ret
      exact ⟨_, rfl, HE.out⟩
end Go.Proofs.Ytngglpekdjhbdaa
