/- Layer 12: Parts, over days that may not be. -/
import Derived.Deep.LoopGhost
import Derived.Test.YtngglpekdjhbdaaRmN
namespace Go.Proofs.Ytngglpekdjhbdaa
open Go.RowKit Go.ChangeMaps Go.Deep Tr
set_option linter.unusedSimpArgs false
set_option linter.unusedVariables false
set_option maxRecDepth 20000

/-- a timeline: its block, its blocks, its puts at most, its values -/
structure Ln1 where
  g : Nat
  B : List Nat
  n : Nat
  f : Int → Int
def encP (t : Ln1) : List Value := [.pointer (some ⟨t.g, 0, none⟩)]
theorem encP_len (x : Ln1) : (encP x).length = 1 := rfl
def LinesAt (w : World) (ts : List Ln1) : Prop := ∀ t ∈ ts, LineAt w t.g t.B t.n t.f ∧ t.n ≤ 40000
theorem LinesAt.kept0 {w w' : World} {ts : List Ln1} (h : LinesAt w ts) (m : Mod [] w w') : LinesAt w' ts := fun t ht => ⟨(h t ht).1.kept0 m, (h t ht).2⟩
theorem own_ne {α : Type} {enc : α → List Value} {k : Nat} {E E' : TypeId} {w : World} {base : Nat} {v : Value} {l : List α} (h : OwnR enc k E w base v l) {b : Nat} {c : Array Value} {f : Nat × Nat} (hb : w.heap[b]? = some (.cells c E' f)) (hE : E ≠ E') : ∀ j, v.ownBlock = some j → j ≠ b := fun j hj e => by
  subst e
  obtain ⟨c', h1⟩ := ownsRow_cells h hj
  rw [h1] at hb
  cases hb
  exact hE rfl
theorem own_ne2 {α β : Type} {enc : α → List Value} {enc' : β → List Value} {k k' : Nat} {E E' : TypeId} {w : World} {base base' : Nat} {v v' : Value} {l : List α} {l' : List β} (h : OwnR enc k E w base v l) (h' : OwnR enc' k' E' w base' v' l') (hE : E ≠ E') : ∀ j, v.ownBlock = some j → j ∉ blk v' := fun j hj hm => by
  rw [mem_blk] at hm
  obtain ⟨c', h1⟩ := ownsRow_cells h' hm
  exact own_ne h h1 hE j hj rfl
/-- where the first loop of Parts stands -/
structure P1St (w : World) (a b : Int) (ts : List Ln1) (Sb : Nat) (Ls : List (List Sg)) (hs : List SlH) (ev : Value) (W : World) : Prop where
  len : hs.length = ts.length
  segs : ∀ (k : Nat) (t : Ln1) (L : List Sg), ts[k]? = some t → Ls[k]? = some L → SegsTo t.f a b L ∧ L.length ≤ 160001
  ends : OwnR encI 1 3 W w.heap.size ev (Ls.flatMap endsL)
  row : OwnR encH 1 76 W w.heap.size (.slice (some ⟨Sb, 0, none⟩) hs.length hs.length) hs
  rows : ∀ (k : Nat) (L : List Sg) (h : SlH), Ls[k]? = some L → hs[k]? = some h → OwnR encSg 3 80 W w.heap.size h.val L
  mod : Mod [] w W
  span : W.heap[w.heap.size]? = some (.cells #[.int .i64 a, .int .i64 b] 24 (0, 0))
theorem P1St.kept0 {w : World} {a b : Int} {ts : List Ln1} {Sb : Nat} {Ls : List (List Sg)} {hs : List SlH} {ev : Value} {W W' : World} (h : P1St w a b ts Sb Ls hs ev W) (m : Mod [] W W') : P1St w a b ts Sb Ls hs ev W' :=
  ⟨h.len, h.segs, h.ends.kept0 m, h.row.kept0 m, fun k L x h1 h2 => (h.rows k L x h1 h2).kept0 m, h.mod.trans m, m.heap h.span (by simp)⟩
theorem P1St.grow {w : World} {a b : Int} {ts : List Ln1} {Sb : Nat} {Ls : List (List Sg)} {hs : List SlH} {ev ev' : Value} {W W' : World} (h : P1St w a b ts Sb Ls hs ev W) {l : List Int} (ho : OwnR encI 1 3 W' w.heap.size ev' l) (gr : Grew W ev W' ev') :
    OwnR encI 1 3 W' w.heap.size ev' l ∧ OwnR encH 1 76 W' w.heap.size (.slice (some ⟨Sb, 0, none⟩) hs.length hs.length) hs ∧ (∀ (k : Nat) (L : List Sg) (x : SlH), Ls[k]? = some L → hs[k]? = some x → OwnR encSg 3 80 W' w.heap.size x.val L) ∧ Mod [] w W' ∧ W'.heap[w.heap.size]? = some (.cells #[.int .i64 a, .int .i64 b] 24 (0, 0)) := by
  refine ⟨ho, h.row.kept gr.mod (own_ne2 h.row h.ends (by decide)), fun k L x h1 h2 => (h.rows k L x h1 h2).kept gr.mod (own_ne2 (h.rows k L x h1 h2) h.ends (by decide)), Mod.into' h.mod gr.mod (fun k hk => .inl ?_), gr.mod.heap h.span (fun hm => ?_)⟩
  · rw [mem_blk] at hk
    exact (World.ownsRow.lt h.ends k hk).1
  · rw [mem_blk] at hm
    exact own_ne h.ends h.span (by decide) _ hm rfl
theorem flat_ends_len (Ls : List (List Sg)) (N : Nat) (h : ∀ L ∈ Ls, L.length ≤ N) : (Ls.flatMap endsL).length ≤ Ls.length * N := by
  induction Ls with
  | nil => simp
  | cons L Ls ih =>
    have h1 := ih fun x hx => h x (by simp [hx])
    have h2 := h L (by simp)
    rw [List.flatMap_cons, List.length_append, List.length_cons, Nat.add_mul, Nat.one_mul]
    have : (endsL L).length ≤ L.length := by unfold endsL; simp
    omega
/-- where the second loop of Parts stands: D, the days that are still to come -/
structure P2St (w9 : World) (wb Sb : Nat) (Ls : List (List Sg)) (D : List Int) (hs : List SlH) (W : World) : Prop where
  len : hs.length = Ls.length
  row : OwnR encH 1 76 W wb (.slice (some ⟨Sb, 0, none⟩) hs.length hs.length) hs
  rest : ∀ (k : Nat) (L : List Sg) (x : SlH), Ls[k]? = some L → hs[k]? = some x → ∃ R, (∀ c ∈ D, RestOf L c R) ∧ RowAt encSg w9 x.val R ∧ x.val.ownBlock ≠ some Sb
  mod : Mod [Sb] w9 W
theorem P2St.kept {w9 : World} {wb Sb : Nat} {Ls : List (List Sg)} {D : List Int} {hs : List SlH} {W W' : World} {l : List Nat} (h : P2St w9 wb Sb Ls D hs W) (m : Mod l W W') (h1 : Sb ∉ l) (h2 : ∀ k ∈ l, w9.heap.size ≤ k) : P2St w9 wb Sb Ls D hs W' :=
  ⟨h.len, h.row.kept m (fun k hk hm => by simp [Value.ownBlock] at hk; subst hk; exact h1 hm), h.rest, Mod.into' h.mod m (fun k hk => .inl (h2 k hk))⟩
theorem P2St.less {w9 : World} {wb Sb : Nat} {Ls : List (List Sg)} {D D' : List Int} {hs : List SlH} {W : World} (h : P2St w9 wb Sb Ls D hs W) (hD : ∀ c ∈ D', c ∈ D) : P2St w9 wb Sb Ls D' hs W :=
  ⟨h.len, h.row, fun k L x h1 h2 => by obtain ⟨R, r1, r2⟩ := h.rest k L x h1 h2; exact ⟨R, fun c hc => r1 c (hD c hc), r2⟩, h.mod⟩
theorem PtsAt.push {W W' : World} {base : Nat} {v v' : Value} {us : List Cu} {ps : List Pt} {u : Cu} {vals : List Int} (h : PtsAt W base v us ps) (ho : OwnR encU 3 45 W' base v' (us ++ [u])) (gr : Grew W v W' v') (hu : OwnR encI 1 3 W base u.2.2.val vals) : PtsAt W' base v' (us ++ [u]) (ps ++ [(u.1, u.2.1, vals)]) := by
  refine ⟨ho, by simp [h.len], fun i x p hx hp => ?_⟩
  by_cases hi : i < us.length
  · rw [List.getElem?_append_left hi] at hx
    rw [List.getElem?_append_left (by rw [← h.len]; exact hi)] at hp
    obtain ⟨e1, e2, e3⟩ := h.rel i x p hx hp
    exact ⟨e1, e2, e3.kept gr.mod (own_ne2 e3 h.own (by decide))⟩
  · have hi2 : i = us.length := by
      have := (List.getElem?_eq_some_iff.1 hx).1
      simp at this; omega
    subst hi2
    rw [List.getElem?_append_right (Nat.le_refl _)] at hx
    rw [h.len, List.getElem?_append_right (Nat.le_refl _)] at hp
    simp at hx hp
    subst hx hp
    exact ⟨rfl, rfl, hu.kept gr.mod (own_ne2 hu h.own (by decide))⟩
theorem PtsAt.mono {W : World} {base base' : Nat} {v : Value} {us : List Cu} {ps : List Pt} (h : PtsAt W base v us ps) (hb : base' ≤ base) : PtsAt W base' v us ps :=
  ⟨h.own.mono hb, h.len, fun i u p hu hp => by obtain ⟨e1, e2, e3⟩ := h.rel i u p hu hp; exact ⟨e1, e2, e3.mono hb⟩⟩
/-- where the third loop of Parts stands -/
structure P3St (w9 : World) (wb Sb : Nat) (Ls : List (List Sg)) (D : List Int) (W2 : World) (P : Nat) (f t : Int) (vals : List Int) (pv : SlH) (hs : List SlH) (W : World) : Prop where
  st : P2St w9 wb Sb Ls D hs W
  mod : Mod [Sb, P] W2 W
  cell : W.heap[P]? = some (.cells #[.int .i64 f, .int .i64 t, .slice pv.a pv.n pv.c] 45 (0, 0))
  own : OwnR encI 1 3 W W2.heap.size pv.val vals
theorem P3St.kept0 {w9 : World} {wb Sb : Nat} {Ls : List (List Sg)} {D : List Int} {W2 : World} {P : Nat} {f t : Int} {vals : List Int} {pv : SlH} {hs : List SlH} {W W' : World} (h : P3St w9 wb Sb Ls D W2 P f t vals pv hs W) (m : Mod [] W W') : P3St w9 wb Sb Ls D W2 P f t vals pv hs W' :=
  ⟨h.st.kept m (by simp) (by simp), h.mod.trans m.nil, m.heap h.cell (by simp), h.own.kept0 m⟩
/-- one row is passed over by a segment -/
theorem P3St.pass {w9 : World} {wb Sb : Nat} {Ls : List (List Sg)} {D : List Int} {W2 : World} {P : Nat} {f t : Int} {vals : List Int} {pv : SlH} {hs : List SlH} {W : World} (h : P3St w9 wb Sb Ls D W2 P f t vals pv hs W) {ii : Nat} {L : List Sg} (hL : Ls[ii]? = some L) (hi : ii < hs.length) {x' : SlH} {R : List Sg} (hR : ∀ c ∈ D, RestOf L c R) (hx : RowAt encSg w9 x'.val R) (hb : x'.val.ownBlock ≠ some Sb) (hP : P ≠ Sb) (hS9 : Sb < w9.heap.size) (h92 : w9.heap.size ≤ W2.heap.size) :
    P3St w9 wb Sb Ls D W2 P f t vals pv (hs.set ii x') (W.setCell ⟨Sb, ii, none⟩ x'.val) := by
  have ms : Mod [Sb] W (W.setCell ⟨Sb, ii, none⟩ x'.val) := (Mod.refl _ _).setCell (by simp) _
  have hset := h.st.row.set encH_len (i := ii) hi (j := 0) (by omega) (u := x'.val) (y := x') rfl
  simp only [Nat.mul_one, Nat.add_zero] at hset
  refine ⟨⟨by rw [List.length_set]; exact h.st.len, by rw [List.length_set]; exact hset, fun k L' x h1 h2 => ?_, h.st.mod.trans ms⟩, h.mod.trans (ms.mono (by simp)), ms.heap h.cell (by simpa using hP), h.own.kept ms (fun k hk => ?_)⟩
  · by_cases hk : ii = k
    · subst hk
      rw [List.getElem?_set_self hi] at h2
      cases h2
      rw [hL] at h1
      cases h1
      exact ⟨R, hR, hx, hb⟩
    · rw [List.getElem?_set_ne hk] at h2
      exact h.st.rest k L' x h1 h2
  · have := (World.ownsRow.lt h.own k hk).1
    simp; omega
theorem CutTo.sorted {P : Int → Prop} {a z : Int} {L : List Cs} (h : CutTo P a z L) : L.Pairwise (fun x y => x.1 ≤ y.1) ∧ (∀ c ∈ L, a ≤ c.1 ∧ c.1 < c.2 ∧ c.2 ≤ z) := by
  induction h with
  | nil => simp
  | snoc t h h1 h2 h3 ih =>
    obtain ⟨p, q⟩ := ih
    have hl := h.le
    refine ⟨List.pairwise_append.2 ⟨p, by simp, fun x hx y hy => ?_⟩, fun c hc => ?_⟩
    · simp at hy; subst hy
      have := q x hx
      dsimp only; omega
    · rcases List.mem_append.1 hc with hc | hc
      · have := q c hc; omega
      · simp at hc; subst hc; dsimp only; omega
set_option maxHeartbeats 4000000 in
theorem parts_may {w : World} {v : Value} {ts : List Ln1} (hv : RowAt encP w v ts) (hl : LinesAt w ts) (hn : ts.length ≤ 50) {a b : Int} (hab : mayS a b) :
    Calls Try.prog 11 #[.agg #[.int .i64 a, .int .i64 b], v] w fun e w' => ∃ (u : Value) (us : List Cu) (CL : List Cs) (Ls : List (List Sg)), e = .returned u ∧ Ls.length = ts.length ∧ (∀ (k : Nat) (t : Ln1) (L : List Sg), ts[k]? = some t → Ls[k]? = some L → SegsTo t.f a b L) ∧ CutTo (· ∈ Ls.flatMap endsL) a b CL ∧ PtsAt w' w.heap.size u us (CL.map fun c => (c.1, c.2, ts.map fun t => t.f c.1)) ∧ Mod [] w w' := by
  have mA := (Mod.refl [] w).alloc (.cells #[.int .i64 a, .int .i64 b] 24)
  have bA := heap_alloc_new w (.cells #[.int .i64 a, .int .i64 b] 24)
  obtain ⟨pa, pc, rfl⟩ := hv.form
  have hmk : ∀ u : World, (Instr.makeSlice 74 (.int .i64 ts.length) (.int .i64 ts.length)).run Try.prog u = .ok (.slice (some ⟨u.heap.size, 0, none⟩) ts.length ts.length) (u.alloc (.cells (Array.replicate ts.length (.slice none 0 0)) 76)) := fun u => run_makeSegs ts.length (by omega) u
  have HV := Lib.hid hv
  have HL := Lib.hid hl
  have hON := own_nones (w.alloc (.cells #[.int .i64 a, .int .i64 b] 24)) ts.length w.heap.size mA.size (by omega)
  have mB := mA.alloc (.cells (Array.replicate ts.length (.slice none 0 0)) 76)
  have bB := ((Mod.refl [] _).alloc (.cells (Array.replicate ts.length (.slice none 0 0)) 76)).heap bA (by simp)
  have HB := Lib.hid bB
  have HMB := Lib.hid mB
  have hSt : P1St w a b ts (w.heap.size + 1) [] (List.replicate ts.length SlH.none_) (.slice none 0 0) ((w.alloc (.cells #[.int .i64 a, .int .i64 b] 24)).alloc (.cells (Array.replicate ts.length (.slice none 0 0)) 76)) :=
    ⟨by simp, by simp, OwnR.nil_ _ _, by simpa using hON, by simp, mB, bB⟩
  have HST := Lib.hid hSt
  clear mA bA bB mB hON hSt hv hl
  go_enter Try.func11, Try.ntmps11
  go_wp2_with fail
  go_loopw [5, 18] (fun s5 s18 W => ∃ j : Nat, j ≤ ts.length ∧ s18 = .int .i64 j ∧ ∃ Ls hs, Ls.length = j ∧ Hid (P1St w a b ts (w.heap.size + 1) Ls hs s5 W)) (fun _ s18 _ => ts.length - (intOf s18).toNat)
  case atStart => exact ⟨0, by omega, rfl, [], _, rfl, HST⟩
  case round =>
    clear HST
    obtain ⟨j, hj, rfl, Ls, hs, hLs, hS⟩ := hrel
    by_cases hlt : j < ts.length
    · obtain ⟨t, ht⟩ : ∃ t, ts[j]? = some t := ⟨ts[j], List.getElem?_eq_getElem hlt⟩
      have htm : t ∈ ts := List.mem_of_getElem? ht
      have htg : ts[j] = t := by rw [List.getElem?_eq_getElem hlt] at ht; simpa using ht
      obtain ⟨q, o, rfl, hqc, hg⟩ := (HV.out.kept0 hS.out.mod).get encP_len hlt
      have k0 := hg 0 (.pointer (some ⟨t.g, 0, none⟩)) (by omega) (by rw [htg]; rfl)
      simp only [Nat.mul_one, Nat.add_zero] at k0
      have s0 := cell_blk hS.out.span 0
      have s1 := cell_blk hS.out.span 1
      simp only [List.getElem?_toArray, List.getElem?_cons_succ, List.getElem?_cons_zero] at s0 s1
      obtain ⟨hLA, htn⟩ := HL.out t htm
      have HLA := Lib.hid hLA
      have CE := Lib.hid (ends_line (hLA.kept0 hS.out.mod) htn hab)
      have hj0 : decide ((j : Int) < 0) = false := decide_eq_false (by omega)
      have hj1 : decide ((ts.length : Int) ≤ (j : Int)) = false := decide_eq_false (by omega)
      have hj2 : decide ((j : Int) < (ts.length : Int)) = true := decide_eq_true (by omega)
      clear hg hqc hLA htg
      go_wp2_with fail
      refine CE.out.mono ?_
      rintro e w1 ⟨v1, L1, rfl, o1, ⟨hs1, hl1⟩, m1⟩
      have S1 := hS.out.kept0 m1
      have hfl : (Ls.flatMap endsL).length ≤ 8000050 := by
        have h1 := flat_ends_len Ls 160001 (fun L hL => by
          obtain ⟨k, hk⟩ := List.getElem?_of_mem hL
          have hkl := (List.getElem?_eq_some_iff.1 hk).1
          exact (hS.out.segs k _ L (List.getElem?_eq_getElem (show k < ts.length by omega)) hk).2)
        exact Nat.le_trans h1 (Nat.le_trans (Nat.mul_le_mul_right _ (show Ls.length ≤ 50 by omega)) (by decide))
      have hel : (endsL L1).length ≤ 160001 := by unfold endsL; simp; omega
      obtain ⟨v', w', ra, ho', gr⟩ := own_append (P := Try.prog) (ty := 25) (tx := 25) elemInt encI_len S1.ends S1.mod.size (o1.row.src encI_len encI_one Try.underlying25) (by omega) (by omega)
      obtain ⟨a', n', c', rfl⟩ : ∃ a n c, v' = .slice a n c := by obtain ⟨a, c, e⟩ := ho'.lens; exact ⟨a, _, c, e⟩
      obtain ⟨q1, q2, q3, q4, q5⟩ := S1.grow ho' gr
      have RA := Lib.hid ra
      have CT := Lib.hid (there_line (HLA.out.kept0 q4.drew) htn)
      have hs0 := cell_blk q5 0
      have hs1' := cell_blk q5 1
      simp only [List.getElem?_toArray, List.getElem?_cons_succ, List.getElem?_cons_zero] at hs0 hs1'
      have HH := Lib.hid (⟨q1, q2, q3, q4, q5⟩ : _ ∧ _ ∧ _ ∧ _ ∧ _)
      have HS1 := Lib.hid hs1
      clear CE k0 s0 s1 S1 o1 m1 ra ho' gr q1 q2 q3 q4 q5 hs1
      go_wp2_with ((with_reducible refine xAppendAt RA.out rfl rfl ?_ ?_ ?_ ?_); exact rfl; exact rfl; exact rfl)
      refine wp_plan [([0, 1, 2, 4], 3, [4]), ([], 5, []), ([6], 7, [])] [] (by kernel_rfl) (by kernel_rfl) ?_
      simp only [wpSegs, opsOf, List.map_cons, List.map_nil, opN, List.getD_cons_zero, List.getD_cons_succ]
      go_wp2_with fail
      refine ⟨by first | trivial | rfl, ?_⟩
      go_wp2_with fail
      refine CT.out.mono ?_
      rintro e w3 ⟨rfl, m3⟩
      obtain ⟨q1, q2, q3, q4, q5⟩ := HH.out
      have m3' : Mod [] w' w3 := ((Mod.refl [] w').drew).trans m3
      have hb3 := m3'.heap q5 (by simp)
      have t0 := cell_blk hb3 0
      have t1 := cell_blk hb3 1
      simp only [List.getElem?_toArray, List.getElem?_cons_succ, List.getElem?_cons_zero] at t0 t1
      have CS := Lib.hid (segs_at HLA.out htn hab (q4.trans m3'))
      have HM3 := Lib.hid m3'
      clear CT q1 q2 q3 q4 q5 m3 m3' hb3 hs0 hs1'
      go_wp2_with fail
      refine ⟨?ag1, ?_⟩
      case ag1 =>
        intro i hi hw
        simp only [List.mem_cons, List.not_mem_nil, or_false] at hi
        subst hi
        all_goals (simp only [opN, List.getD_cons_zero, List.getD_cons_succ, slotOf]; go_simp)
      go_wp2_with fail
      refine ⟨by first | trivial | rfl, ?_⟩
      go_wp2_with fail
      refine CS.out.mono ?_
      rintro e w4 ⟨v4, L2, rfl, o4, ⟨hs4, hl4⟩, m4⟩
      obtain rfl : L2 = L1 := SegsTo.unique _ (Nat.le_refl _) hs4 HS1.out
      obtain ⟨q1, q2, q3, q4, q5⟩ := HH.out
      have m4' := HM3.out.trans m4
      obtain ⟨x4, rfl, hx4⟩ := o4.row.head
      obtain ⟨c5, c6⟩ := ((q2.kept0 m4').cell encH_len (i := j) (by rw [hS.out.len]; exact hlt) (j := 0) (by omega) (u := (hs[j]'(by rw [hS.out.len]; exact hlt)).val) rfl)
      have hset := (q2.kept0 m4').set encH_len (i := j) (by rw [hS.out.len]; exact hlt) (j := 0) (by omega) (u := x4.val) (y := x4) rfl
      simp only [Nat.mul_one, Nat.add_zero] at c5 c6 hset
      have ms : Mod [w.heap.size + 1] w4 (w4.setCell ⟨w.heap.size + 1, j, none⟩ x4.val) := (Mod.refl _ _).setCell (by simp) _
      have hN : P1St w a b ts (w.heap.size + 1) (Ls ++ [L2]) (hs.set j x4) (.slice a' n' c') (w4.setCell ⟨w.heap.size + 1, j, none⟩ x4.val) := by
        obtain ⟨cB, hcB⟩ := ownsRow_cells (q2.kept0 m4') (show (Value.slice (some ⟨w.heap.size + 1, 0, none⟩) hs.length hs.length).ownBlock = some (w.heap.size + 1) from rfl)
        refine ⟨by rw [List.length_set]; exact hS.out.len, fun k t' L ht' hL => ?_, ?_, by rw [List.length_set]; exact hset, fun k L x hL hx => ?_, Mod.into' (q4.trans m4') ms (fun k hk => .inl (by simp at hk; omega)), ms.heap (m4'.heap q5 (by simp)) (by simp)⟩
        · by_cases hk : k < Ls.length
          · rw [List.getElem?_append_left hk] at hL
            exact hS.out.segs k t' L ht' hL
          · rw [List.getElem?_append_right (by omega)] at hL
            have hk2 : k = j := by
              have := (List.getElem?_eq_some_iff.1 hL).1
              simp at this; omega
            subst hk2
            rw [hLs] at hL
            simp at hL
            subst hL
            rw [ht] at ht'
            cases ht'
            exact ⟨hs4, by omega⟩
        · rw [List.flatMap_append]
          simp only [List.flatMap_singleton]
          exact (q1.kept0 m4').kept ms (fun k hk => by have := own_ne (q1.kept0 m4') hcB (by decide) k hk; simpa using this)
        · by_cases hk : k < Ls.length
          · rw [List.getElem?_append_left hk] at hL
            rw [List.getElem?_set_ne (by omega)] at hx
            exact ((q3 k L x hL hx).kept0 m4').kept ms (fun i hi => by have := own_ne ((q3 k L x hL hx).kept0 m4') hcB (by decide) i hi; simpa using this)
          · rw [List.getElem?_append_right (by omega)] at hL
            have hk2 : k = j := by
              have := (List.getElem?_eq_some_iff.1 hL).1
              simp at this; omega
            subst hk2
            rw [hLs] at hL
            simp at hL
            subst hL
            rw [List.getElem?_set_self (by rw [hS.out.len]; exact hlt)] at hx
            cases hx
            have o4' : OwnR encSg 3 80 w4 w.heap.size x4.val L2 := o4.mono (by have := (q4.trans HM3.out).size; omega)
            exact o4'.kept ms (fun i hi => by have := own_ne o4' hcB (by decide) i hi; simpa using this)
      have HN := Lib.hid hN
      have hx : x4.val = .slice x4.a x4.n x4.c := rfl
      rw [hx] at HN ⊢
      clear q1 q2 q3 q4 q5 m4 m4' hset ms hN o4 hs4 HH CS t0 t1 hx4 hx
      go_wp2_with fail
      refine ⟨again_nil, ?_⟩
      go_wp2_with fail
      refine ⟨by first | trivial | rfl, ?_⟩
      go_wp2_with fail
      refine ⟨again_nil, ?_⟩
      go_wp2_with fail
      refine ⟨by first | trivial | rfl, ?_⟩
      go_wp2_with fail
      go_roundw
      case rel => exact ⟨j + 1, by omega, by go_num, Ls ++ [L2], hs.set j x4, by simp [hLs], HN⟩
      case measure => simp [intOf]; omega
    · have hje : j = ts.length := by omega
      have hj2 : decide ((j : Int) < (ts.length : Int)) = false := decide_eq_false (by omega)
      have s0 := cell_blk hS.out.span 0
      have s1 := cell_blk hS.out.span 1
      simp only [List.getElem?_toArray, List.getElem?_cons_succ, List.getElem?_cons_zero] at s0 s1
      have hfl : (Ls.flatMap endsL).length ≤ 8000050 := by
        have h1 := flat_ends_len Ls 160001 (fun L hL => by
          obtain ⟨k, hk⟩ := List.getElem?_of_mem hL
          have hkl := (List.getElem?_eq_some_iff.1 hk).1
          exact (hS.out.segs k _ L (List.getElem?_eq_getElem (show k < ts.length by omega)) hk).2)
        exact Nat.le_trans h1 (Nat.le_trans (Nat.mul_le_mul_right _ (show Ls.length ≤ 50 by omega)) (by decide))
      have CC := Lib.hid (cut_any hS.out.ends.row (by omega) hab)
      have hhl := hS.out.len
      go_wp2_with fail
      refine CC.out.mono ?_
      rintro e w9 ⟨cv, CL, rfl, oC, hCT, hCl, m9⟩
      obtain ⟨ca, cc, rfl⟩ := oC.lens
      have S9 := Lib.hid (hS.out.kept0 m9)
      have HOC := Lib.hid oC
      have HCT := Lib.hid hCT
      clear CC s0 s1 hS oC hCT m9
      have hLl : hs.length = Ls.length := by omega
      have hP0 : P2St w9 w.heap.size (w.heap.size + 1) Ls ((CL.drop 0).map (·.1)) hs w9 := ⟨hLl, S9.out.row, fun k L x hL hx => ⟨L, fun c _ => ⟨[], rfl, by simp⟩, (S9.out.rows k L x hL hx).row, fun e => by
        obtain ⟨cB, hcB⟩ := ownsRow_cells S9.out.row (show (Value.slice (some ⟨w.heap.size + 1, 0, none⟩) hs.length hs.length).ownBlock = some (w.heap.size + 1) from rfl)
        exact own_ne (S9.out.rows k L x hL hx) hcB (by decide) _ e rfl⟩, Mod.refl _ _⟩
      have HP0 := Lib.hid hP0
      have hPt0 : PtsAt w9 w9.heap.size (.slice none 0 0) [] ((CL.take 0).map fun c => (c.1, c.2, ts.map fun t => t.f c.1)) := ⟨OwnR.nil_ _ _, by simp, by simp⟩
      have HPt0 := Lib.hid hPt0
      clear hP0 hPt0
      go_wp2_with fail
      go_loopw [4, 40] (fun s4 s40 W => ∃ i : Nat, i ≤ CL.length ∧ s40 = .int .i64 i ∧ ∃ hs', Hid (P2St w9 w.heap.size (w.heap.size + 1) Ls ((CL.drop i).map (·.1)) hs' W) ∧ ∃ us, Hid (PtsAt W w9.heap.size s4 us ((CL.take i).map fun c => (c.1, c.2, ts.map fun t => t.f c.1)))) (fun _ s40 _ => CL.length - (intOf s40).toNat)
      case atStart => exact ⟨0, by omega, rfl, hs, HP0, [], HPt0⟩
      case round =>
        rename World => wr2
        obtain ⟨i, hi, rfl, hs', hP2, us, hPt⟩ := hrel
        by_cases hlt2 : i < CL.length
        · obtain ⟨c, hc⟩ : ∃ c, CL[i]? = some c := ⟨CL[i], List.getElem?_eq_getElem hlt2⟩
          have hcg : CL[i] = c := by rw [List.getElem?_eq_getElem hlt2] at hc; simpa using hc
          have hcm : c ∈ CL := List.mem_of_getElem? hc
          have hdr : CL.drop i = c :: CL.drop (i + 1) := by rw [List.drop_eq_getElem_cons hlt2, hcg]
          have htk : CL.take (i + 1) = CL.take i ++ [c] := by rw [List.take_succ_eq_append_getElem hlt2, hcg]
          obtain ⟨hsrt, hrng⟩ := HCT.out.sorted
          have hcr := hrng c hcm
          have hD : ∀ d ∈ (CL.drop i).map (·.1), c.1 ≤ d := fun d hd => by
            rw [hdr, List.map_cons] at hd
            rcases List.mem_cons.1 hd with rfl | hd
            · exact Int.le_refl _
            · obtain ⟨c', hc', rfl⟩ := List.mem_map.1 hd
              have hp : (CL.take i ++ CL.drop i).Pairwise (fun x y : Cs => x.1 ≤ y.1) := by rw [List.take_append_drop]; exact hsrt
              rw [hdr] at hp
              exact (List.pairwise_cons.1 (List.pairwise_append.1 hp).2.1).1 c' hc'
          have hDc : c.1 ∈ (CL.drop i).map (·.1) := by rw [hdr]; simp
          obtain ⟨f, t⟩ := c
          dsimp only at hcr hD hDc
          have hSb9 : w.heap.size + 1 < w9.heap.size := by
            obtain ⟨cB, hcB⟩ := ownsRow_cells S9.out.row (show (Value.slice (some ⟨w.heap.size + 1, 0, none⟩) hs.length hs.length).ownBlock = some (w.heap.size + 1) from rfl)
            exact lt_of_heap hcB
          obtain ⟨cSb, hcSb⟩ := ownsRow_cells S9.out.row (show (Value.slice (some ⟨w.heap.size + 1, 0, none⟩) hs.length hs.length).ownBlock = some (w.heap.size + 1) from rfl)
          have oCw := HOC.out.kept hP2.out.mod (fun k hk => by have := own_ne HOC.out hcSb (by decide) k hk; simpa using this)
          obtain ⟨q, cap, heq, hq, hcap⟩ := oCw.at_ hc
          simp only [Value.slice.injEq] at heq
          obtain ⟨rfl, _, rfl⟩ := heq
          have hrow : wr2.rangeAt q (i * 2) [.int .i64 f, .int .i64 t] := fun jj u hu => (oCw.cell encC_len hlt2 (j := jj) (by have := (List.getElem?_eq_some_iff.1 hu).1; simpa using this) (u := u) (by rw [hcg]; exact hu)).1
          have HLI := Lib.hid (run_loadAt_mid (P := Try.prog) _ q (i * 2) 24 _ _ hrow Try.underlying24 rfl (by kernel_rfl))
          have mI := (Mod.refl [] wr2).alloc (.cells #[.int .i64 f, .int .i64 t] 24)
          have bI := heap_alloc_new wr2 (.cells #[.int .i64 f, .int .i64 t] 24)
          obtain ⟨W1, hW1, bI, zI, mI⟩ := alloc_named2 wr2 (.cells #[.int .i64 f, .int .i64 t] 24)
          obtain ⟨W2, hW2, bP, zP, mP⟩ := alloc_named2 W1 (.cells #[.int .i64 f, .int .i64 t, .slice none 0 0] 45)
          rw [zI] at bP zP
          have HW2 := Lib.hid hW2
          clear hW2
          have bI2 := mP.heap bI (by simp)
          have i0 := cell_blk bI 0
          have i1 := cell_blk bI 1
          simp only [List.getElem?_toArray, List.getElem?_cons_succ, List.getElem?_cons_zero] at i0 i1
          have hi0 : decide ((i : Int) < 0) = false := decide_eq_false (by omega)
          have hi1 : decide ((CL.length : Int) ≤ (i : Int)) = false := decide_eq_false (by omega)
          have hi2 : decide ((i : Int) < (CL.length : Int)) = true := decide_eq_true (by omega)
          have HP3 := Lib.hid (show P3St w9 w.heap.size (w.heap.size + 1) Ls ((CL.drop i).map (·.1)) W2 (wr2.heap.size + 1) f t ((ts.take 0).map fun t => t.f f) SlH.none_ hs' W2 from ⟨(hP2.out.kept mI (by simp) (by simp)).kept mP (by simp) (by simp), Mod.refl _ _, bP, OwnR.nil_ _ _⟩)
          have HBI := Lib.hid bI2
          have HM2 := Lib.hid (mI.trans mP)
          have HD := Lib.hid hD
          have HDC := Lib.hid hDc
          have HZ := Lib.hid (show W2.heap.size = wr2.heap.size + 2 by omega)
          have HBP := Lib.hid bP
          have HCR := Lib.hid hcr
          have HW9 := Lib.hid (show w9.heap.size ≤ wr2.heap.size from hP2.out.mod.size)
          have hhl' : hs'.length = ts.length := by rw [hP2.out.len]; omega
          clear hrow mI bI bP mP bI2 hsrt hrng hcm oCw hcSb hD hDc hcr hq hcap hcg hdr
          go_wp2_with ((with_reducible refine xLoadAt rfl HLI.out ?_ ?_ ?_); exact rfl; exact rfl)
          rw [HW2.out]
          clear HW2
          go_loopw [51] (fun s51 W => ∃ ii : Nat, ii ≤ ts.length ∧ s51 = .int .i64 ii ∧ ∃ pv hs'', Hid (P3St w9 w.heap.size (w.heap.size + 1) Ls ((CL.drop i).map (·.1)) W2 (wr2.heap.size + 1) f t ((ts.take ii).map fun t => t.f f) pv hs'' W)) (fun s51 _ => ts.length - (intOf s51).toNat)
          case atStart => exact ⟨0, by omega, rfl, _, _, HP3⟩
          case round =>
            rename World => wr3
            obtain ⟨ii, hii, rfl, pv, hs'', hP⟩ := hrel
            by_cases hlt3 : ii < ts.length
            · obtain ⟨t1, ht1⟩ : ∃ t1, ts[ii]? = some t1 := ⟨ts[ii], List.getElem?_eq_getElem hlt3⟩
              obtain ⟨L, hL⟩ : ∃ L, Ls[ii]? = some L := ⟨Ls[ii]'(by omega), List.getElem?_eq_getElem (by omega)⟩
              have hSeg := (S9.out.segs ii t1 L ht1 hL).1
              have hhl2 : hs''.length = ts.length := by rw [hP.out.st.len]; omega
              obtain ⟨x0, hx0⟩ : ∃ x, hs''[ii]? = some x := ⟨hs''[ii]'(by omega), List.getElem?_eq_getElem (by omega)⟩
              have hi2a : decide ((ii : Int) < (ts.length : Int)) = true := decide_eq_true (by omega)
              have hi2b : decide ((ii : Int) < 0) = false := decide_eq_false (by omega)
              have hi2c : decide ((ts.length : Int) ≤ (ii : Int)) = false := decide_eq_false (by omega)
              have HSEG := Lib.hid hSeg
              clear hSeg HP3
              go_wp2_with fail
              go_loopg [] (x0.n) (fun k W => ∃ hs3 x, hs3[ii]? = some x ∧ k = x.n ∧ Hid (P3St w9 w.heap.size (w.heap.size + 1) Ls ((CL.drop i).map (·.1)) W2 (wr2.heap.size + 1) f t ((ts.take ii).map fun t => t.f f) pv hs3 W))
              case atStart => exact ⟨hs'', x0, hx0, rfl, hP⟩
              case round =>
                rename World => wr4
                obtain ⟨hs3, x, hx, rfl, hQ⟩ := hrel
                have hhl3 : hs3.length = ts.length := by rw [hQ.out.st.len]; omega
                obtain ⟨R, hR, hRow, hRb⟩ := hQ.out.st.rest ii L x hL hx
                have hRne := (hR f HDC.out).ne HSEG.out hab.2.1 (by have := HCR.out; omega)
                cases R with
                | nil => exact absurd rfl hRne
                | cons s R' =>
                  have hRW := hRow.kept hQ.out.st.mod (fun b hb => by simp at hb; subst hb; exact hRb)
                  have hxf := hRow.form
                  obtain ⟨xa, xc, hxe⟩ := hxf
                  obtain ⟨a0, n0, c0⟩ := x
                  simp only [SlH.val, Value.slice.injEq] at hxe
                  obtain ⟨rfl, rfl, rfl⟩ := hxe
                  obtain ⟨bq, oq, rfl, hcq, hg⟩ := RowAt.get encSg_len (i := 0) hRW (by simp)
                  have g1 := hg 1 (.int .i64 s.t) (by omega) rfl
                  have g2 := hg 2 (.int .i64 s.v) (by omega) rfl
                  simp only [Nat.zero_mul, Nat.zero_add] at g1 g2
                  have hx3 := (hQ.out.st.row.cell encH_len (i := ii) (by omega) (j := 0) (by omega) (u := .slice (some ⟨bq, oq, none⟩) (R'.length + 1) c0) (by
                    have : hs3[ii]'(by omega) = ⟨some ⟨bq, oq, none⟩, (s :: R').length, c0⟩ := by rw [List.getElem?_eq_getElem (by omega)] at hx; simpa using hx
                    rw [this]; rfl))
                  simp only [Nat.mul_one, Nat.add_zero] at hx3
                  obtain ⟨x3, x4⟩ := hx3
                  have hcb := hQ.out.mod.heap HBI.out (by simp; have := HW9.out; omega)
                  have k0 := cell_blk hcb 0
                  simp only [List.getElem?_toArray, List.getElem?_cons_zero] at k0
                  have hln : ((s :: R').length : Int) = (R'.length : Int) + 1 := by simp
                  have hz1 : decide ((R'.length : Int) + 1 ≤ 0) = false := decide_eq_false (by omega)
                  by_cases hst : s.t ≤ f
                  · have hsd : decide (s.t ≤ f) = true := decide_eq_true hst
                    have hR' : ∀ c ∈ (CL.drop i).map (·.1), RestOf L c R' := fun c hc => ((hR f HDC.out).next hst).mono (HD.out c hc)
                    have hRne' := (hR' f HDC.out).ne HSEG.out hab.2.1 (by have := HCR.out; omega)
                    have hRl : 0 < R'.length := List.length_pos_iff.2 hRne'
                    have hdrop := RowAt.drop encSg_len hRow 1 (by simp; omega)
                    simp only [List.length_cons, Nat.add_sub_cancel, List.drop_succ_cons, List.drop_zero, Nat.one_mul] at hdrop hcq
                    have hNX := (hQ.out.kept0 ((Mod.refl [] wr4).drew)).pass (x' := ⟨some ⟨bq, oq + 3, none⟩, R'.length, c0 - 1⟩) hL (by omega) hR' hdrop (by simpa [SlH.val, Value.ownBlock] using hRb) (by have := HW9.out; omega) hSb9 (by have := HW9.out; have := HZ.out; omega)
                    have HNX := Lib.hid hNX
                    have hc1 : decide ((c0 : Int) < 1) = false := decide_eq_false (by omega)
                    have hc2 : decide ((R'.length : Int) + 1 < 1) = false := decide_eq_false (by omega)
                    have hc3 : decide ((c0 : Int) < (R'.length : Int) + 1) = false := decide_eq_false (by omega)
                    clear hNX hdrop hRow hRW hg hcb hR hR' hRb
                    go_wp2_with fail
                    refine wp_plan [] [0, 1, 7, 8, 2, 3, 4, 5, 6, 9] (by kernel_rfl) (by kernel_rfl) ?_
                    simp only [wpSegs, opsOf, List.map_cons, List.map_nil, opN, List.getD_cons_zero, List.getD_cons_succ]
                    go_wp2_with fail
                    refine ⟨by first | trivial | rfl, ?_⟩
                    go_wp2_with fail
                    go_roundg (R'.length)
                    case rel => exact ⟨_, _, List.getElem?_set_self (by omega), rfl, HNX⟩
                    case measure => simp
                  · have hsd : decide (s.t ≤ f) = false := decide_eq_false hst
                    have hval := (hR f HDC.out).val HSEG.out HCR.out.1 (by omega)
                    have hpb := hQ.out.cell
                    have e2 := cell_blk hpb 2
                    simp only [List.getElem?_toArray, List.getElem?_cons_succ, List.getElem?_cons_zero] at e2
                    have hQd := (hQ.out.kept0 ((Mod.refl [] wr4).drew)).kept0 ((Mod.refl [] wr4.drew).drew)
                    have hW2 := hQ.out.mod.size
                    obtain ⟨pv', w', ra, ho', gr⟩ := own_append1 (P := Try.prog) (ty := 25) elemInt encI_len encI_one hQd.own (show W2.heap.size ≤ wr4.heap.size from hW2) s.v (by simp; omega) (by omega)
                    dsimp only [encI] at ra
                    obtain ⟨a', n', c', rfl⟩ : ∃ a n c, pv' = .slice a n c := by obtain ⟨a, c, e⟩ := ho'.lens; exact ⟨a, _, c, e⟩
                    have hpo : ∀ k, pv.val.ownBlock = some k → W2.heap.size ≤ k := fun k hk => (World.ownsRow.lt hQd.own k hk).1
                    have hz := HZ.out
                    have hw9 := HW9.out
                    have hpb' := gr.mod.heap hQd.cell (by rw [mem_blk]; intro hm; have := hpo _ hm; omega)
                    have e3 := cell_blk hpb' 2
                    have e4 := frozen_blk hpb' 2
                    simp only [List.getElem?_toArray, List.getElem?_cons_succ, List.getElem?_cons_zero] at e3
                    have hpb2 := heap_setCell_blk hpb' 2 (.slice a' n' c')
                    have ms : Mod [wr2.heap.size + 1] w' (w'.setCell ⟨wr2.heap.size + 1, 2, none⟩ (.slice a' n' c')) := (Mod.refl _ _).setCell (by simp) _
                    have hNX : P3St w9 w.heap.size (w.heap.size + 1) Ls ((CL.drop i).map (·.1)) W2 (wr2.heap.size + 1) f t ((ts.take (ii + 1)).map fun t => t.f f) ⟨a', n', c'⟩ hs3 (w'.setCell ⟨wr2.heap.size + 1, 2, none⟩ (.slice a' n' c')) := by
                      refine ⟨(hQd.st.kept gr.mod (by rw [mem_blk]; intro hm; have := hpo _ hm; omega) (fun k hk => by rw [mem_blk] at hk; have := hpo _ hk; omega)).kept ms (by simp; omega) (fun k hk => by simp at hk; omega), Mod.into' (Mod.into' hQd.mod gr.mod (fun k hk => .inl (by rw [mem_blk] at hk; exact hpo _ hk))) ms (fun k hk => .inr (by simp at hk; simp [hk])), by simpa using hpb2, ?_⟩
                      rw [List.take_succ_eq_append_getElem hlt3, List.map_append, List.map_singleton, show ts[ii] = t1 by rw [List.getElem?_eq_getElem hlt3] at ht1; simpa using ht1, hval]
                      exact ho'.kept ms (fun k hk => by have := own_ne ho' hpb' (by decide) k hk; simpa using this)
                    have HNX := Lib.hid hNX
                    have RA := Lib.hid ra
                    have ca := cell_blk (((Mod.refl [] wr4).alloc (.cells #[.int .i64 s.v] 3)).heap hpb (by simp)) 2
                    simp only [List.getElem?_toArray, List.getElem?_cons_succ, List.getElem?_cons_zero] at ca
                    clear hNX hpb hpb' hpb2 ms ho' gr ra hQd hRow hRW hg hcb hR hRb hval
                    go_wp2_with fail
                    refine wp_plan [] [0, 1, 7, 8, 2, 3, 4, 5, 6, 9] (by kernel_rfl) (by kernel_rfl) ?_
                    simp only [wpSegs, opsOf, List.map_cons, List.map_nil, opN, List.getD_cons_zero, List.getD_cons_succ]
                    go_wp2_with fail
                    refine ⟨by first | trivial | rfl, ?_⟩
                    go_wp2_with fail
                    refine wp_plan [([0, 2, 3, 1, 4, 5, 6, 7, 8], 9, [0, 1]), ([], 10, []), ([11], 12, [])] [] (by kernel_rfl) (by kernel_rfl) ?_
                    simp only [wpSegs, opsOf, List.map_cons, List.map_nil, opN, List.getD_cons_zero, List.getD_cons_succ]
                    go_wp2_with fail
                    refine ⟨by first | trivial | rfl, ?_⟩
                    go_wp2_with fail
                    refine ⟨?ag18, ?_⟩
                    case ag18 =>
                      intro i hi hw
                      simp only [List.mem_cons, List.not_mem_nil, or_false] at hi
                      rcases hi with rfl | rfl
                      all_goals (simp only [opN, List.getD_cons_zero, List.getD_cons_succ, slotOf]; go_simp)
                    go_wp2_with fail
                    refine ⟨by first | trivial | rfl, ?_⟩
                    go_wp2_with ((with_reducible refine xAppendAt RA.out rfl rfl ?_ ?_ ?_ ?_); exact rfl; exact rfl; exact rfl)
                    refine ⟨again_nil, ?_⟩
                    go_wp2_with fail
                    refine ⟨by first | trivial | rfl, ?_⟩
                    go_wp2_with fail
                    refine ⟨again_nil, ?_⟩
                    go_wp2_with fail
                    refine ⟨by first | trivial | rfl, ?_⟩
                    go_wp2_with fail
                    go_roundw
                    case rel => exact ⟨ii + 1, by omega, by go_num, _, hs3, HNX⟩
                    case measure => simp [intOf]; omega
            · have hie : ii = ts.length := by omega
              have hi2 : decide ((ii : Int) < (ts.length : Int)) = false := decide_eq_false (by omega)
              have hvals : ts.take ii = ts := List.take_of_length_le (by omega)
              have hz := HZ.out
              have hw9 := HW9.out
              have hPo : ∀ k, u4.ownBlock = some k → w9.heap.size ≤ k ∧ k < wr2.heap.size := fun k hk => World.ownsRow.lt hPt.out.own k hk
              have hPt3 := (hPt.out.kept HM2.out (by simp) (by simp)).kept hP.out.mod (fun k hk => by have := hPo k hk; simp; omega) (fun k hk => by
                simp at hk
                rcases hk with rfl | rfl
                · exact .inr (.inl hSb9)
                · exact .inr (.inr ⟨_, HBP.out⟩))
              have hpb := hP.out.cell
              have e0 := cell_blk hpb 0
              have e1 := cell_blk hpb 1
              have e2 := cell_blk hpb 2
              simp only [List.getElem?_toArray, List.getElem?_cons_succ, List.getElem?_cons_zero] at e0 e1 e2
              have husl : us.length < 1073741824 := by
                have := hPt.out.len
                rw [List.length_map, List.length_take] at this
                omega
              obtain ⟨ov', w', ra, ho', gr⟩ := own_append1 (P := Try.prog) (ty := 36) elemPart encU_len encU_one hPt3.own (show w9.heap.size ≤ wr3.heap.size from hP.out.st.mod.size) (f, t, pv) husl (by omega)
              dsimp only [encU] at ra
              have hpo := hP.out.own
              rw [hvals] at hpo
              have hNX := hPt3.push ho' gr (hpo.mono (by omega))
              have hN2 := (hP.out.st.kept gr.mod (by rw [mem_blk]; intro hm; have := hPo _ hm; omega) (fun k hk => by rw [mem_blk] at hk; exact (hPo _ hk).1)).less (D' := (CL.drop (i + 1)).map (·.1)) (fun c hc => by
                rw [← List.tail_drop] at hc
                rw [List.map_tail] at hc
                exact List.mem_of_mem_tail hc)
              have HNX := Lib.hid (show PtsAt w' w9.heap.size ov' (us ++ [(f, t, pv)]) ((CL.take (i + 1)).map fun c => (c.1, c.2, ts.map fun t => t.f c.1)) from by
                rw [htk, List.map_append]; exact hNX)
              have HN2 := Lib.hid hN2
              have RA := Lib.hid ra
              clear hNX hN2 hPt3 ho' gr ra hpb hpo HP3
              go_wp2_with ((with_reducible refine xAppendAt RA.out rfl rfl ?_ ?_ ?_ ?_); exact rfl; exact rfl; exact rfl)
              go_roundw
              case rel => exact ⟨i + 1, by omega, by go_num, hs'', HN2, _, HNX⟩
              case measure => simp [intOf]; omega
        · have hie : i = CL.length := by omega
          have hi2 : decide ((i : Int) < (CL.length : Int)) = false := decide_eq_false (by omega)
          have HE := Lib.hid (show PtsAt wr2 w.heap.size u4 us (CL.map fun c => (c.1, c.2, ts.map fun t => t.f c.1)) ∧ Mod [] w wr2 from by
            have h1 := hPt.out
            rw [List.take_of_length_le (by omega)] at h1
            exact ⟨h1.mono S9.out.mod.size, Mod.into' S9.out.mod hP2.out.mod (fun k hk => .inl (by simp at hk; omega))⟩)
          have HSG := Lib.hid (show ∀ (k : Nat) (t : Ln1) (L : List Sg), ts[k]? = some t → Ls[k]? = some L → SegsTo t.f a b L from fun k t L h1 h2 => (S9.out.segs k t L h1 h2).1)
          subst hie
          go_wp2_with fail
          go_ret
          exact ⟨_, us, CL, Ls, rfl, by omega, HSG.out, HCT.out, HE.out.1, HE.out.2⟩
end Go.Proofs.Ytngglpekdjhbdaa
namespace Go.Proofs.Ytngglpekdjhbdaa
open Go.RowKit Go.ChangeMaps Go.Deep Tr
set_option linter.unusedSimpArgs false
set_option linter.unusedVariables false
set_option maxRecDepth 20000

set_option maxHeartbeats 4000000 in
theorem parts_not {w : World} {v : Value} {ts : List Ln1} (hv : RowAt encP w v ts) (hl : LinesAt w ts) (hn : ts.length ≤ 50) {a b : Int} (hab : ¬ mayS a b) :
    Calls Try.prog 11 #[.agg #[.int .i64 a, .int .i64 b], v] w fun e w' => e = .returned (.slice none 0 0) ∧ Mod [] w w' := by
  have mA := (Mod.refl [] w).alloc (.cells #[.int .i64 a, .int .i64 b] 24)
  have bA := heap_alloc_new w (.cells #[.int .i64 a, .int .i64 b] 24)
  obtain ⟨pa, pc, rfl⟩ := hv.form
  have hmk : ∀ u : World, (Instr.makeSlice 74 (.int .i64 ts.length) (.int .i64 ts.length)).run Try.prog u = .ok (.slice (some ⟨u.heap.size, 0, none⟩) ts.length ts.length) (u.alloc (.cells (Array.replicate ts.length (.slice none 0 0)) 76)) := fun u => run_makeSegs ts.length (by omega) u
  have HV := Lib.hid hv
  have HL := Lib.hid hl
  have hON := own_nones (w.alloc (.cells #[.int .i64 a, .int .i64 b] 24)) ts.length w.heap.size mA.size (by omega)
  have mB := mA.alloc (.cells (Array.replicate ts.length (.slice none 0 0)) 76)
  have bB := ((Mod.refl [] _).alloc (.cells (Array.replicate ts.length (.slice none 0 0)) 76)).heap bA (by simp)
  have HB := Lib.hid bB
  have HMB := Lib.hid mB
  have hSt : P1St w a b ts (w.heap.size + 1) [] (List.replicate ts.length SlH.none_) (.slice none 0 0) ((w.alloc (.cells #[.int .i64 a, .int .i64 b] 24)).alloc (.cells (Array.replicate ts.length (.slice none 0 0)) 76)) :=
    ⟨by simp, by simp, OwnR.nil_ _ _, by simpa using hON, by simp, mB, bB⟩
  have HST := Lib.hid hSt
  clear mA bA bB mB hON hSt hv hl
  go_enter Try.func11, Try.ntmps11
  go_wp2_with fail
  go_loopw [5, 18] (fun s5 s18 W => ∃ j : Nat, j ≤ ts.length ∧ s18 = .int .i64 j ∧ ∃ hs, Hid (P1St w a b ts (w.heap.size + 1) [] hs s5 W)) (fun _ s18 _ => ts.length - (intOf s18).toNat)
  case atStart => exact ⟨0, by omega, rfl, _, HST⟩
  case round =>
    clear HST
    obtain ⟨j, hj, rfl, hs, hS⟩ := hrel
    by_cases hlt : j < ts.length
    · obtain ⟨t, ht⟩ : ∃ t, ts[j]? = some t := ⟨ts[j], List.getElem?_eq_getElem hlt⟩
      have htm : t ∈ ts := List.mem_of_getElem? ht
      have htg : ts[j] = t := by rw [List.getElem?_eq_getElem hlt] at ht; simpa using ht
      obtain ⟨q, o, rfl, hqc, hg⟩ := (HV.out.kept0 hS.out.mod).get encP_len hlt
      have k0 := hg 0 (.pointer (some ⟨t.g, 0, none⟩)) (by omega) (by rw [htg]; rfl)
      simp only [Nat.mul_one, Nat.add_zero] at k0
      have s0 := cell_blk hS.out.span 0
      have s1 := cell_blk hS.out.span 1
      simp only [List.getElem?_toArray, List.getElem?_cons_succ, List.getElem?_cons_zero] at s0 s1
      obtain ⟨hLA, htn⟩ := HL.out t htm
      have HLA := Lib.hid hLA
      have CE := Lib.hid (ends_not (hLA.kept0 hS.out.mod) hab)
      have hj0 : decide ((j : Int) < 0) = false := decide_eq_false (by omega)
      have hj1 : decide ((ts.length : Int) ≤ (j : Int)) = false := decide_eq_false (by omega)
      have hj2 : decide ((j : Int) < (ts.length : Int)) = true := decide_eq_true (by omega)
      clear hg hqc hLA htg
      go_wp2_with fail
      refine CE.out.mono ?_
      rintro e w1 ⟨v1, rfl, o1, m1⟩
      have S1 := hS.out.kept0 m1
      obtain ⟨v', w', ra, ho', gr⟩ := own_append (P := Try.prog) (ty := 25) (tx := 25) elemInt encI_len S1.ends S1.mod.size (o1.row.src encI_len encI_one Try.underlying25) (by simp) (by omega)
      obtain ⟨a', n', c', rfl⟩ : ∃ a n c, v' = .slice a n c := by obtain ⟨a, c, e⟩ := ho'.lens; exact ⟨a, _, c, e⟩
      obtain ⟨q1, q2, q3, q4, q5⟩ := S1.grow ho' gr
      have RA := Lib.hid ra
      have CT := Lib.hid (there_line (HLA.out.kept0 q4.drew) htn)
      have hs0 := cell_blk q5 0
      have hs1' := cell_blk q5 1
      simp only [List.getElem?_toArray, List.getElem?_cons_succ, List.getElem?_cons_zero] at hs0 hs1'
      have HH := Lib.hid (⟨q1, q2, q3, q4, q5⟩ : _ ∧ _ ∧ _ ∧ _ ∧ _)
      clear CE k0 s0 s1 S1 o1 m1 ra ho' gr q1 q2 q3 q4 q5
      go_wp2_with ((with_reducible refine xAppendAt RA.out rfl rfl ?_ ?_ ?_ ?_); exact rfl; exact rfl; exact rfl)
      refine wp_plan [([0, 1, 2, 4], 3, [4]), ([], 5, []), ([6], 7, [])] [] (by kernel_rfl) (by kernel_rfl) ?_
      simp only [wpSegs, opsOf, List.map_cons, List.map_nil, opN, List.getD_cons_zero, List.getD_cons_succ]
      go_wp2_with fail
      refine ⟨by first | trivial | rfl, ?_⟩
      go_wp2_with fail
      refine CT.out.mono ?_
      rintro e w3 ⟨rfl, m3⟩
      obtain ⟨q1, q2, q3, q4, q5⟩ := HH.out
      have m3' : Mod [] w' w3 := ((Mod.refl [] w').drew).trans m3
      have hb3 := m3'.heap q5 (by simp)
      have t0 := cell_blk hb3 0
      have t1 := cell_blk hb3 1
      simp only [List.getElem?_toArray, List.getElem?_cons_succ, List.getElem?_cons_zero] at t0 t1
      have CS := Lib.hid (segs_not (HLA.out.kept0 (q4.trans m3')) hab)
      have HM3 := Lib.hid m3'
      clear CT q1 q2 q3 q4 q5 m3 m3' hb3 hs0 hs1'
      go_wp2_with fail
      refine ⟨?ag1, ?_⟩
      case ag1 =>
        intro i hi hw
        simp only [List.mem_cons, List.not_mem_nil, or_false] at hi
        subst hi
        all_goals (simp only [opN, List.getD_cons_zero, List.getD_cons_succ, slotOf]; go_simp)
      go_wp2_with fail
      refine ⟨by first | trivial | rfl, ?_⟩
      go_wp2_with fail
      refine CS.out.mono ?_
      rintro e w4 ⟨rfl, m4⟩
      obtain ⟨q1, q2, q3, q4, q5⟩ := HH.out
      have m4' := HM3.out.trans m4
      obtain ⟨x4, hx4e⟩ : ∃ x : SlH, x = SlH.none_ := ⟨_, rfl⟩
      have hx4v : x4.val = .slice none 0 0 := by rw [hx4e]; rfl
      obtain ⟨c5, c6⟩ := ((q2.kept0 m4').cell encH_len (i := j) (by rw [hS.out.len]; exact hlt) (j := 0) (by omega) (u := (hs[j]'(by rw [hS.out.len]; exact hlt)).val) rfl)
      have hset := (q2.kept0 m4').set encH_len (i := j) (by rw [hS.out.len]; exact hlt) (j := 0) (by omega) (u := x4.val) (y := x4) rfl
      simp only [Nat.mul_one, Nat.add_zero] at c5 c6 hset
      have ms : Mod [w.heap.size + 1] w4 (w4.setCell ⟨w.heap.size + 1, j, none⟩ x4.val) := (Mod.refl _ _).setCell (by simp) _
      have hN : P1St w a b ts (w.heap.size + 1) [] (hs.set j x4) (.slice a' n' c') (w4.setCell ⟨w.heap.size + 1, j, none⟩ x4.val) := by
        obtain ⟨cB, hcB⟩ := ownsRow_cells (q2.kept0 m4') (show (Value.slice (some ⟨w.heap.size + 1, 0, none⟩) hs.length hs.length).ownBlock = some (w.heap.size + 1) from rfl)
        exact ⟨by rw [List.length_set]; exact hS.out.len, by simp, (q1.kept0 m4').kept ms (fun k hk => by have := own_ne (q1.kept0 m4') hcB (by decide) k hk; simpa using this), by rw [List.length_set]; exact hset, by simp, Mod.into' (q4.trans m4') ms (fun k hk => .inl (by simp at hk; omega)), ms.heap (m4'.heap q5 (by simp)) (by simp)⟩
      have HN := Lib.hid hN
      rw [hx4v] at HN
      clear q1 q2 q3 q4 q5 m4 m4' hset ms hN HH CS t0 t1 hx4v
      go_wp2_with fail
      refine ⟨again_nil, ?_⟩
      go_wp2_with fail
      refine ⟨by first | trivial | rfl, ?_⟩
      go_wp2_with fail
      refine ⟨again_nil, ?_⟩
      go_wp2_with fail
      refine ⟨by first | trivial | rfl, ?_⟩
      go_wp2_with fail
      go_roundw
      case rel => exact ⟨j + 1, by omega, by go_num, hs.set j x4, HN⟩
      case measure => simp [intOf]; omega
    · have hje : j = ts.length := by omega
      have hj2 : decide ((j : Int) < (ts.length : Int)) = false := decide_eq_false (by omega)
      have s0 := cell_blk hS.out.span 0
      have s1 := cell_blk hS.out.span 1
      simp only [List.getElem?_toArray, List.getElem?_cons_succ, List.getElem?_cons_zero] at s0 s1
      have CC := Lib.hid (cut_not (v := u5) (w := wr) hab)
      have HM := Lib.hid hS.out.mod
      clear hS
      go_wp2_with fail
      refine CC.out.mono ?_
      rintro e w9 ⟨rfl, m9⟩
      have HM9 := Lib.hid (HM.out.trans m9)
      clear CC s0 s1 m9 HM
      go_wp2_with fail
      go_loopw [4, 40] (fun s4 s40 W => s40 = .int .i64 0 ∧ s4 = .slice none 0 0 ∧ W = w9) (fun _ s40 _ => 0)
      case atStart => exact ⟨rfl, rfl, rfl⟩
      case round =>
        obtain ⟨rfl, rfl, rfl⟩ := hrel
        go_wp2_with fail
        go_ret
        exact ⟨rfl, HM9.out⟩
end Go.Proofs.Ytngglpekdjhbdaa
