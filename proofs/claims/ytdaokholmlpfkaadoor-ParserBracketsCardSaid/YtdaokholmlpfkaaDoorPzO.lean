/- Formulas: an atom. -/
import Derived.Test.YtdaokholmlpfkaaDoorPzN
namespace Go.Proofs.YtdaokholmlpfkaaDoor
open Go.RowKit Go.ChangeMaps Go.Deep
set_option linter.unusedSimpArgs false
set_option linter.unusedVariables false
set_option maxRecDepth 20000

theorem setCells_sz (b : Nat) : ∀ (vs : List Value) (o : Nat) (w : World), (w.setCells b o vs).heap.size = w.heap.size
  | [], o, w => rfl
  | v :: vs, o, w => by
    show ((w.setCell ⟨b, o, none⟩ v).setCells b (o + 1) vs).heap.size = _
    rw [setCells_sz b vs]
    exact World.size_setCell _ _ _
theorem store_z {P : Program} {w : World} {b : Nat} {c c0 : Array Value} {t : TypeId} (T : TypeId) (h : w.heap[b]? = some (.cells c0 t (0, 0))) (hs : c0.size = c.size) (hi : (P.info? T).map (·.size) = some c.size) (h1 : c.all (·.oneCell') = true) :
    ∃ w', (Instr.storeAt T (.pointer (some ⟨b, 0, none⟩)) (.agg c)).run P w = .ok () w' ∧ Mod [b] w w' ∧ w'.heap[b]? = some (.cells c t (0, 0)) ∧ w'.heap.size = w.heap.size := by
  refine ⟨_, run_storeAt_mid w b 0 T c (there_blk h 0 c.size (by omega)) hi h1, (Mod.refl _ _).setCells (by simp) _ _, ?_, setCells_sz _ _ _ _⟩
  rw [heap_setCells_blk b c.toList 0 w h]
  have e := setRange_mid [] c.toList c0.toList [] (by simp [hs])
  simp only [List.nil_append, List.append_nil, List.length_nil] at e
  rw [e]
section
variable {en : Int} {lev : Pz → Rz Int} {s : Pz} {t : Tk} {r : List Tk}
theorem atom_num (hl : s.l = t :: r) (h : t.kind = 2) : atomZ en lev s = nodeZ { nz0 1 t.at_ with c := t.c, s := t.s } s.next := by
  unfold atomZ
  rw [hl]
  dsimp only
  rw [if_pos h]
theorem atom_true (hl : s.l = t :: r) (h : t.kind ≠ 2) (h1 : t.text = bz "true") : atomZ en lev s = nodeZ (nz0 2 t.at_) s.next := by
  unfold atomZ
  rw [hl]
  dsimp only
  rw [if_neg h, if_pos h1]
theorem atom_false (hl : s.l = t :: r) (h : t.kind ≠ 2) (h1 : t.text ≠ bz "true") (h2 : t.text = bz "false") : atomZ en lev s = nodeZ (nz0 3 t.at_) s.next := by
  unfold atomZ
  rw [hl]
  dsimp only
  rw [if_neg h, if_neg h1, if_pos h2]
theorem atom_call (hl : s.l = t :: r) (h : t.kind ≠ 2) (h1 : t.text ≠ bz "true") (h2 : t.text ≠ bz "false") {c : Int × List Az × Int} (h3 : callZ t.text = some c) : atomZ en lev s = callRun en lev c s := by
  unfold atomZ
  rw [hl]
  dsimp only
  rw [if_neg h, if_neg h1, if_neg h2, h3]
theorem atom_open (hl : s.l = t :: r) (h : t.kind ≠ 2) (h1 : t.text ≠ bz "true") (h2 : t.text ≠ bz "false") (h3 : callZ t.text = none) (h4 : t.text = bz "(") : atomZ en lev s = (openZ en s).bind fun _ s1 => (lev s1.next).bind fun a s2 => (mustZ en (bz ")") s2).bind fun _ s3 => .ok a s3.close := by
  unfold atomZ
  rw [hl]
  dsimp only
  rw [if_neg h, if_neg h1, if_neg h2, h3]
  dsimp only
  rw [if_pos h4]
theorem atom_field (hl : s.l = t :: r) (h : t.kind ≠ 2) (h1 : t.text ≠ bz "true") (h2 : t.text ≠ bz "false") (h3 : callZ t.text = none) (h4 : t.text ≠ bz "(") : atomZ en lev s = (fieldZ en s).bind fun x s1 => nodeZ { nz0 4 t.at_ with name := x } s1 := by
  unfold atomZ
  rw [hl]
  dsimp only
  rw [if_neg h, if_neg h1, if_neg h2, h3]
  dsimp only
  rw [if_neg h4]
end
/-- ahead of the switch -/
structure AtomA (w W : World) (p : Nat) (en : Int) (s : Pz) (t : Tk) (CB : Nat) (co : Int) (ar : ByteArray) (mo : Int) : Prop where
  gl : Gl W
  at_ : PsAt W p en s
  up : Up p w W
  tok : W.heap[w.heap.size]? = some (.cells (encTk t).toArray 47 (0, 0))
  node : W.heap[w.heap.size + 1]? = some (.cells (encNz ⟨0, 0, 0, ByteArray.empty, 0, 0, 0, 0, t.at_⟩).toArray 34 (0, 0))
  nodeK : Keep W p (w.heap.size + 1)
  call : W.heap[CB]? = some (.cells #[.int .u8 co, .string ar, .int .i64 mo] 61 (0, 0))
theorem bz_words : bz "true" = ⟨#[116, 114, 117, 101]⟩ ∧ bz "false" = ⟨#[102, 97, 108, 115, 101]⟩ ∧ bz "(" = ⟨#[40]⟩ := by
  refine ⟨?_, ?_, ?_⟩ <;> decide +kernel
theorem text_not {x : ByteArray} {l : List UInt8} (h : x ≠ txZ l) : (x.toList == l) = false := by
  have := str_dec x (txZ l)
  rw [tx_list, decide_eq_false h] at this
  exact this
/-- the node so far -/
structure AtomB (w W : World) (p : Nat) (en : Int) (s : Pz) (n : Nz) : Prop where
  gl : Gl W
  at_ : PsAt W p en s
  up : Up p w W
  node : W.heap[w.heap.size + 1]? = some (.cells (encNz n).toArray 34 (0, 0))
  nodeK : Keep W p (w.heap.size + 1)
theorem AtomB.go {w W W' : World} {p : Nat} {en : Int} {s s' : Pz} {n : Nz} (hp : 9 ≤ p) (h : AtomB w W p en s n) (u : Up p W W') (hs : PsAt W' p en s') : AtomB w W' p en s' n :=
  ⟨u.gl h.at_ h.gl hp, hs, h.up.trans u, (h.nodeK.same u).trans h.node, h.nodeK.up u⟩
theorem AtomB.keep {w W W' : World} {p : Nat} {en : Int} {s : Pz} {n : Nz} (hp : 9 ≤ p) (h : AtomB w W p en s n) (m : Mod [] W W') : AtomB w W' p en s n := h.go hp (Up.keep m h.at_.lt) (h.at_.kept m)
theorem AtomB.own {w W W' : World} {p : Nat} {en : Int} {s : Pz} {n n2 : Nz} (hp : 9 ≤ p) (h : AtomB w W p en s n) (m : Mod [w.heap.size + 1] W W') (hn : W'.heap[w.heap.size + 1]? = some (.cells (encNz n2).toArray 34 (0, 0))) : AtomB w W' p en s n2 := by
  have hne : p ∉ [w.heap.size + 1] := by have := h.nodeK.1; simp; omega
  have kk : ∀ k ∈ [w.heap.size + 1], Keep W p k := by intro k hk; simp only [List.mem_singleton] at hk; subst hk; exact h.nodeK
  exact ⟨gl_own h.gl m (by intro k hk; have := (kk k hk).1; omega), h.at_.own_mod m kk, h.up.own m (by intro k hk; simp only [List.mem_singleton] at hk; omega) hne h.at_.lt, hn, h.nodeK.mod m hne h.at_.lt⟩
theorem AtomB.write {w W : World} {p : Nat} {en : Int} {s : Pz} {n n2 : Nz} (hp : 9 ≤ p) (h : AtomB w W p en s n) (i : Nat) (v : Value) (hn : (encNz n2).toArray = (encNz n).toArray.setIfInBounds i v) : AtomB w (W.setCell ⟨w.heap.size + 1, i, none⟩ v) p en s n2 :=
  h.own hp ((Mod.refl _ _).setCell (by simp) _) (by rw [hn]; exact heap_setCell_blk h.node i v)
theorem AtomB.dec {w W : World} {p : Nat} {en : Int} {s : Pz} {n : Nz} (hp : 9 ≤ p) (h : AtomB w W p en s n) (x y : Int) : ∃ w', (Instr.storeAt 31 (.pointer (some ⟨w.heap.size + 1, 1, none⟩)) (.agg #[.int .i64 x, .int .i64 y])).run Tryd.prog W = .ok () w' ∧ AtomB w w' p en s { n with c := x, s := y } := by
  refine ⟨_, run_storeAt_mid W (w.heap.size + 1) 1 31 #[.int .i64 x, .int .i64 y] (there_blk h.node 1 2 (by simp [encNz])) (by rw [sizeDec]; rfl) (by simp [Value.oneCell']), h.own hp ((Mod.refl _ _).setCells (by simp) _ _) ?_⟩
  rw [heap_setCells_blk _ _ 1 W h.node]
  rfl
theorem psx_token {w : World} {p : Nat} {en : Int} {s : Pz} {la : Option Addr} {lc : Nat} {tv : Value} (h : PsX w p en s la lc tv) {t : Tk} {r : List Tk} (hs : s.l = t :: r) : ∃ b o, la = some ⟨b, o, none⟩ ∧ b < p ∧ s.l.length ≤ lc ∧ w.rangeAt b o (encTk t) := by
  obtain ⟨b, o, rfl, hc, hg⟩ := h.row.get encTk_len (i := 0) (by rw [hs]; simp)
  have e : s.l[0]'(by rw [hs]; simp) = t := by simp [hs]
  rw [e] at hg
  refine ⟨b, o, rfl, h.low _ rfl, hc, fun j u hu => ?_⟩
  have := hg j u (by have := (List.getElem?_eq_some_iff.1 hu).1; rw [encTk_len] at this; exact this) hu
  simpa using this
set_option maxHeartbeats 8000000 in
theorem psAtom_at {w : World} {p : Nat} {en : Int} {s : Pz} (hp : 9 ≤ p) (hg : Gl w) (h : PsAt w p en s) (hs : s.sum ≤ 1000000) {lev : Pz → Rz Int} (C : s.l ≠ [] → LevC p en lev 0 (s.l.length - 1)) (S1 : LevSh lev) (T1 : LevTm lev) (D1 : LevDp lev) :
    Calls Tryd.prog 19 #[.pointer (some ⟨p, 0, none⟩)] w fun e w' => PsR p en w intV (atomZ en lev s) e w' := by
  cases hl : s.l with
  | nil =>
    have CF := Lib.hid (psFail_at h 4)
    have HV := Lib.hid (show atomZ en lev s = failZ en 4 s by unfold atomZ; rw [hl])
    obtain ⟨la, lc, tv, hx⟩ := h
    have c0 := cell_blk hx.blk 0
    simp only [List.getElem?_toArray, List.getElem?_cons_succ, List.getElem?_cons_zero] at c0
    rw [hl] at c0
    clear hx hl
    go_enter Tryd.func19, Tryd.ntmps19
    go_wp2_with fail
    refine CF.out.mono ?_
    rintro e w3 ⟨rfl, rfl⟩
    go_wp2_with fail
    exact ⟨rfl, PsR.fail HV.out rfl (Up.refl _ _)⟩
  | cons t r =>
    have C := C (by rw [hl]; simp)
    obtain ⟨la, lc, tv, hx⟩ := h
    have h : PsAt w p en s := ⟨_, _, _, hx⟩
    obtain ⟨b, o, rfl, hb, hc, hr⟩ := psx_token hx hl
    have hlt := h.lt
    have c0 := cell_blk hx.blk 0
    simp only [List.getElem?_toArray, List.getElem?_cons_succ, List.getElem?_cons_zero] at c0
    have hlen2 := hx.len
    have hlen : 0 < s.l.length := by rw [hl]; simp
    have htx := hx.txt t (by rw [hl]; simp)
    -- the word's own cells
    have hld := run_loadAt_mid (P := Tryd.prog) w b o 47 (encTk t) _ hr Tryd.underlying47 rfl (by rw [sizeTok]; rfl)
    obtain ⟨wa, hwa, na, za, ma⟩ := alloc_named2 w (.cells #[.int .u8 0, .string ⟨#[]⟩, .int .i64 0, .int .i64 0, .int .i64 0] 47)
    obtain ⟨wb, rb, mb, nb, zb⟩ := store_z (P := Tryd.prog) (c := (encTk t).toArray) 47 na rfl (by rw [sizeTok]; rfl) (by rw [List.all_toArray, List.all_eq_true]; exact encTk_one _)
    obtain ⟨wc, hwc, nc, zc, mc⟩ := alloc_named2 wb (.cells #[.int .u8 0, .int .i64 0, .int .i64 0, .string ⟨#[]⟩, .int .i64 0, .int .i64 0, .int .i64 0, .int .i64 0, .int .i64 0] 34)
    obtain ⟨wd, rd, md, nd, zd⟩ := store_z (P := Tryd.prog) (c := (encNz ⟨0, 0, 0, ByteArray.empty, 0, 0, 0, 0, t.at_⟩).toArray) 34 nc rfl (by rw [sizeNode]; rfl) (by rw [List.all_toArray, List.all_eq_true]; exact encNz_one _)
    have m1 : Mod [] w wb := mod_on ma mb (by simp)
    rw [za] at zb
    rw [zb] at rd nd nc md zc
    have m2 : Mod [] w wd := mod_on (m1.trans mc) md (by simp)
    have nb2 := md.heap (mc.heap nb (by simp)) (by simp)
    have RA := Lib.hid hld
    have RB := Lib.hid rb
    have RD := Lib.hid rd
    have b4 := cell_blk nb 4
    dsimp only [encTk] at b4
    simp only [List.getElem?_toArray, List.getElem?_cons_succ, List.getElem?_cons_zero] at b4
    have b1 := cell_blk nb2 1
    dsimp only [encTk] at b1
    simp only [List.getElem?_toArray, List.getElem?_cons_succ, List.getElem?_cons_zero] at b1
    have CC := Lib.hid (psCalls_at wd t.text)
    clear hld rb rd hb hx
    go_enter Tryd.func19, Tryd.ntmps19
    go_wp2_with (first | ((with_reducible refine xLoadAt rfl RA.out ?_ ?_ ?_); exact rfl; exact rfl) | ((with_reducible refine xStoreAt rfl RB.out ?_ ?_ ?_ ?_); exact rfl; exact rfl; exact rfl) | ((with_reducible refine xStoreAt rfl RD.out ?_ ?_ ?_ ?_); exact rfl; exact rfl; exact rfl))
    refine CC.out.mono ?_
    rintro e w5 ⟨⟨co, ar, mo, bo, rfl, hsp⟩, m5⟩
    obtain ⟨we, hwe, ne, ze, me⟩ := alloc_named2 w5 (.cells #[.int .u8 0, .string ⟨#[]⟩, .int .i64 0] 61)
    obtain ⟨wf, rf, mf, nf, zf⟩ := store_z (P := Tryd.prog) (c := #[.int .u8 co, .string ar, .int .i64 mo]) 61 ne rfl (by kernel_rfl) (by simp [Value.oneCell'])
    have h5 := m5.size
    have mW : Mod [] w wf := mod_on ((m2.trans m5).trans me) mf (by intro k hk; simp only [List.mem_singleton] at hk; have := m2.size; omega)
    have HA := Lib.hid (show AtomA w wf p en s t w5.heap.size co ar mo from
      ⟨hg.kept0 mW, h.kept mW, Up.keep mW hlt, mf.heap (me.heap (m5.heap nb2 (by simp)) (by simp)) (by simp; omega), mf.heap (me.heap (m5.heap nd (by simp)) (by simp)) (by simp; omega), Keep.new h mW (by omega) (by omega), nf⟩)
    have RF := Lib.hid rf
    have HSP := Lib.hid hsp
    have HQ := Lib.hid (And.intro hl (And.intro hs hr))
    clear nb2 nd ne nf ze zf me mf rf m5 h5 mW hsp m1 m2 ma mb mc md na nb nc RA RB RD b1 b4 CC hl hs hr h
    go_upto_region 8 with ((with_reducible refine xStoreAt rfl RF.out ?_ ?_ ?_ ?_); exact rfl; exact rfl; exact rfl)
    have HL := Lib.hid (And.intro C (And.intro S1 (And.intro T1 D1)))
    have t0 := cell_blk HA.out.tok 0
    have t1 := cell_blk HA.out.tok 1
    have t2 := cell_blk HA.out.tok 2
    have t3 := cell_blk HA.out.tok 3
    dsimp only [encTk] at t0 t1 t2 t3
    simp only [List.getElem?_toArray, List.getElem?_cons_succ, List.getElem?_cons_zero] at t0 t1 t2 t3
    have HB0 : Hid (AtomB w wf p en s ⟨0, 0, 0, ByteArray.empty, 0, 0, 0, 0, t.at_⟩) := Lib.hid ⟨HA.out.gl, HA.out.at_, HA.out.up, HA.out.node, HA.out.nodeK⟩
    clear C S1 T1 D1 c0
    by_cases hk : t.kind = 2
    · skip
      have HV := Lib.hid (show atomZ en lev s = nodeZ (kidsZ ⟨1, t.c, t.s, ByteArray.empty, 0, 0, 0, 0, t.at_⟩ []) s.next from atom_num HQ.out.1 hk)
      rw [hk] at t0
      obtain ⟨wg, hwg, mg⟩ : ∃ D, wf.drew = D ∧ Mod [] wf D := ⟨_, rfl, (Mod.refl [] wf).drew⟩
      have hBg := HB0.out.keep hp mg
      have tg := mg.heap HA.out.tok (by simp)
      have g2 := cell_blk tg 2
      have g3 := cell_blk tg 3
      dsimp only [encTk] at g2 g3
      simp only [List.getElem?_toArray, List.getElem?_cons_succ, List.getElem?_cons_zero] at g2 g3
      obtain ⟨wh, hwh⟩ : ∃ D, wg.setCell ⟨w.heap.size + 1, 0, none⟩ (.int .u8 1) = D := ⟨_, rfl⟩
      have hBh := hBg.write hp (n2 := ⟨1, 0, 0, ByteArray.empty, 0, 0, 0, 0, t.at_⟩) 0 (.int .u8 1) rfl
      have mh : Mod [w.heap.size + 1] wg (wg.setCell ⟨w.heap.size + 1, 0, none⟩ (.int .u8 1)) := (Mod.refl _ _).setCell (by simp) _
      rw [hwh] at hBh mh
      have th := mh.heap tg (by simp)
      have h2 := cell_blk th 2
      have h3 := cell_blk th 3
      dsimp only [encTk] at h2 h3
      simp only [List.getElem?_toArray, List.getElem?_cons_succ, List.getElem?_cons_zero] at h2 h3
      have hfz := frozen_blk hBg.node 0
      have hcl := cell_blk hBg.node 0
      dsimp only [encNz] at hcl
      simp only [List.getElem?_toArray, List.getElem?_cons_succ, List.getElem?_cons_zero] at hcl
      obtain ⟨wi, ri, hBi⟩ := hBh.dec hp t.c t.s
      have RI := Lib.hid ri
      have HB := Lib.hid hBi
      clear hBg tg hBh mh th ri hBi mg
      go_upto_region 9 with fail
      refine wp_plan [([0, 2, 1], 3, [0, 1]), ([4], 5, [])] [] (by kernel_rfl) (by kernel_rfl) ?_
      simp only [wpSegs, opsOf, List.map_cons, List.map_nil, opN, List.getD_cons_zero, List.getD_cons_succ]
      go_wp2_with fail
      refine ⟨?agK, ?_⟩
      case agK =>
        intro i hi hw
        simp only [List.mem_cons, List.not_mem_nil, or_false] at hi
        rcases hi with rfl | rfl
        all_goals (simp only [opN, List.getD_cons_zero, List.getD_cons_succ, slotOf]; go_simp)
      go_wp2_with fail
      refine ⟨by first | trivial | rfl | exact hwg.symm, ?_⟩
      go_wp2_with ((with_reducible refine xStoreAt rfl RI.out ?_ ?_ ?_ ?_); exact rfl; exact rfl; exact rfl)
      refine ⟨again_nil, ?_⟩
      go_wp2_with fail
      refine ⟨by first | trivial | rfl, ?_⟩
      clear HA RF g2 g3 h2 h3 hfz hcl hwh hwg t0 t1 t2 t3
      obtain ⟨la2, lc2, tv2, hx2⟩ := HB.out.at_
      obtain ⟨b2, o2, rfl, -, hc2, -, -, -, -, -⟩ := hx2.head HQ.out.1
      have c0 := cell_blk hx2.blk 0
      have f0 := frozen_blk hx2.blk 0
      simp only [List.getElem?_toArray, List.getElem?_cons_succ, List.getElem?_cons_zero] at c0
      have HT := Lib.hid (hx2.two HQ.out.1)
      have hsz2 : s.next.tree.length ≤ 1000000 := (sum_parts (Nat.le_trans (next_sum s) HQ.out.2.1)).2
      have HSZ := Lib.hid hsz2
      have hlen3 := hlen
      have hlen4 := hlen2
      clear hx2 hsz2
      generalize hnn : s.l.length = m at *
      have hm0 : ¬ m = 0 := by omega
      clear hnn
      by_cases hl1 : lc2 = 1
      · subst hl1
        obtain rfl : m = 1 := by omega
        have HH := Lib.hid (HT.out o2 (.inr (Nat.le_refl _)))
        change Hid (PsAt (wi.setCell ⟨p, 0, none⟩ (.slice (some ⟨b2, o2, none⟩) 0 0)) p en s.next ∧ Up p wi (wi.setCell ⟨p, 0, none⟩ (.slice (some ⟨b2, o2, none⟩) 0 0))) at HH
        obtain ⟨W4, hW4⟩ : ∃ W4, wi.setCell ⟨p, 0, none⟩ (.slice (some ⟨b2, o2, none⟩) 0 0) = W4 := ⟨_, rfl⟩
        rw [hW4] at HH
        have hB4 := HB.out.go hp HH.out.2 HH.out.1
        have LD := Lib.hid (load_w (P := Tryd.prog) 34 hB4.node (by rw [sizeNode]; rfl) Tryd.underlying34 rfl)
        have CN := Lib.hid (psNode_at HH.out.1 HSZ.out (⟨1, t.c, t.s, ByteArray.empty, 0, 0, 0, 0, t.at_⟩) (RowAt.nil (enc := encI) (w := W4) none 0) (by simp))
        have HUP := Lib.hid hB4.up
        unfold nodeV at CN
        clear hB4 HT
        go_wp2_with ((with_reducible refine xLoadAt rfl LD.out ?_ ?_ ?_); exact rfl; exact rfl)
        refine CN.out.mono ?_
        rintro e w8 ⟨rfl, h8, u8⟩
        have HH8 := Lib.hid (And.intro h8 (HUP.out.trans u8))
        clear h8 u8
        go_wp2_with fail
        first | go_ret3 | go_ret2 | go_ret
        exact PsR.mk_ok HV.out rfl HH8.out.1 HH8.out.2
      · have HH := Lib.hid (HT.out (o2 + 5) (.inl rfl))
        obtain ⟨W4, hW4⟩ : ∃ W4, wi.setCell ⟨p, 0, none⟩ (.slice (some ⟨b2, o2 + 5, none⟩) (m - 1) (lc2 - 1)) = W4 := ⟨_, rfl⟩
        rw [hW4] at HH
        have hB4 := HB.out.go hp HH.out.2 HH.out.1
        have LD := Lib.hid (load_w (P := Tryd.prog) 34 hB4.node (by rw [sizeNode]; rfl) Tryd.underlying34 rfl)
        have CN := Lib.hid (psNode_at HH.out.1 HSZ.out (⟨1, t.c, t.s, ByteArray.empty, 0, 0, 0, 0, t.at_⟩) (RowAt.nil (enc := encI) (w := W4) none 0) (by simp))
        have HUP := Lib.hid hB4.up
        unfold nodeV at CN
        clear hB4 HT
        go_wp2_with ((with_reducible refine xLoadAt rfl LD.out ?_ ?_ ?_); exact rfl; exact rfl)
        refine CN.out.mono ?_
        rintro e w8 ⟨rfl, h8, u8⟩
        have HH8 := Lib.hid (And.intro h8 (HUP.out.trans u8))
        clear h8 u8
        go_wp2_with fail
        first | go_ret3 | go_ret2 | go_ret
        exact PsR.mk_ok HV.out rfl HH8.out.1 HH8.out.2
    · skip
      have dk : (t.kind == 2) = false := by simpa using hk
      by_cases h1 : t.text = bz "true"
      · skip
        have HV := Lib.hid (show atomZ en lev s = nodeZ (kidsZ ⟨2, 0, 0, ByteArray.empty, 0, 0, 0, 0, t.at_⟩ []) s.next from atom_true HQ.out.1 hk h1)
        rw [h1, bz_words.1] at t1
        obtain ⟨wi, hwi⟩ : ∃ D, wf.setCell ⟨w.heap.size + 1, 0, none⟩ (.int .u8 2) = D := ⟨_, rfl⟩
        have hBi := HB0.out.write hp (n2 := ⟨2, 0, 0, ByteArray.empty, 0, 0, 0, 0, t.at_⟩) 0 (.int .u8 2) rfl
        rw [hwi] at hBi
        have HB := Lib.hid hBi
        have hfz := frozen_blk HB0.out.node 0
        have hcl := cell_blk HB0.out.node 0
        dsimp only [encNz] at hcl
        simp only [List.getElem?_toArray, List.getElem?_cons_succ, List.getElem?_cons_zero] at hcl
        clear hBi
        go_upto_region 23 with fail
        clear HA RF hfz hcl hwi t0 t1 t2 t3
        obtain ⟨la2, lc2, tv2, hx2⟩ := HB.out.at_
        obtain ⟨b2, o2, rfl, -, hc2, -, -, -, -, -⟩ := hx2.head HQ.out.1
        have c0 := cell_blk hx2.blk 0
        have f0 := frozen_blk hx2.blk 0
        simp only [List.getElem?_toArray, List.getElem?_cons_succ, List.getElem?_cons_zero] at c0
        have HT := Lib.hid (hx2.two HQ.out.1)
        have hsz2 : s.next.tree.length ≤ 1000000 := (sum_parts (Nat.le_trans (next_sum s) HQ.out.2.1)).2
        have HSZ := Lib.hid hsz2
        have hlen3 := hlen
        have hlen4 := hlen2
        clear hx2 hsz2
        generalize hnn : s.l.length = m at *
        have hm0 : ¬ m = 0 := by omega
        clear hnn
        by_cases hl1 : lc2 = 1
        · subst hl1
          obtain rfl : m = 1 := by omega
          have HH := Lib.hid (HT.out o2 (.inr (Nat.le_refl _)))
          change Hid (PsAt (wi.setCell ⟨p, 0, none⟩ (.slice (some ⟨b2, o2, none⟩) 0 0)) p en s.next ∧ Up p wi (wi.setCell ⟨p, 0, none⟩ (.slice (some ⟨b2, o2, none⟩) 0 0))) at HH
          obtain ⟨W4, hW4⟩ : ∃ W4, wi.setCell ⟨p, 0, none⟩ (.slice (some ⟨b2, o2, none⟩) 0 0) = W4 := ⟨_, rfl⟩
          rw [hW4] at HH
          have hB4 := HB.out.go hp HH.out.2 HH.out.1
          have LD := Lib.hid (load_w (P := Tryd.prog) 34 hB4.node (by rw [sizeNode]; rfl) Tryd.underlying34 rfl)
          have CN := Lib.hid (psNode_at HH.out.1 HSZ.out (⟨2, 0, 0, ByteArray.empty, 0, 0, 0, 0, t.at_⟩) (RowAt.nil (enc := encI) (w := W4) none 0) (by simp))
          have HUP := Lib.hid hB4.up
          unfold nodeV at CN
          clear hB4 HT
          go_wp2_with ((with_reducible refine xLoadAt rfl LD.out ?_ ?_ ?_); exact rfl; exact rfl)
          refine CN.out.mono ?_
          rintro e w8 ⟨rfl, h8, u8⟩
          have HH8 := Lib.hid (And.intro h8 (HUP.out.trans u8))
          clear h8 u8
          go_wp2_with fail
          first | go_ret3 | go_ret2 | go_ret
          exact PsR.mk_ok HV.out rfl HH8.out.1 HH8.out.2
        · have HH := Lib.hid (HT.out (o2 + 5) (.inl rfl))
          obtain ⟨W4, hW4⟩ : ∃ W4, wi.setCell ⟨p, 0, none⟩ (.slice (some ⟨b2, o2 + 5, none⟩) (m - 1) (lc2 - 1)) = W4 := ⟨_, rfl⟩
          rw [hW4] at HH
          have hB4 := HB.out.go hp HH.out.2 HH.out.1
          have LD := Lib.hid (load_w (P := Tryd.prog) 34 hB4.node (by rw [sizeNode]; rfl) Tryd.underlying34 rfl)
          have CN := Lib.hid (psNode_at HH.out.1 HSZ.out (⟨2, 0, 0, ByteArray.empty, 0, 0, 0, 0, t.at_⟩) (RowAt.nil (enc := encI) (w := W4) none 0) (by simp))
          have HUP := Lib.hid hB4.up
          unfold nodeV at CN
          clear hB4 HT
          go_wp2_with ((with_reducible refine xLoadAt rfl LD.out ?_ ?_ ?_); exact rfl; exact rfl)
          refine CN.out.mono ?_
          rintro e w8 ⟨rfl, h8, u8⟩
          have HH8 := Lib.hid (And.intro h8 (HUP.out.trans u8))
          clear h8 u8
          go_wp2_with fail
          first | go_ret3 | go_ret2 | go_ret
          exact PsR.mk_ok HV.out rfl HH8.out.1 HH8.out.2
      · skip
        have n1 := text_not (x := t.text) (l := [116, 114, 117, 101]) (by rw [← show bz "true" = txZ [116, 114, 117, 101] from bz_words.1]; exact h1)
        by_cases h2 : t.text = bz "false"
        · skip
          have HV := Lib.hid (show atomZ en lev s = nodeZ (kidsZ ⟨3, 0, 0, ByteArray.empty, 0, 0, 0, 0, t.at_⟩ []) s.next from atom_false HQ.out.1 hk h1 h2)
          rw [h2, bz_words.2.1] at t1
          obtain ⟨wi, hwi⟩ : ∃ D, wf.setCell ⟨w.heap.size + 1, 0, none⟩ (.int .u8 3) = D := ⟨_, rfl⟩
          have hBi := HB0.out.write hp (n2 := ⟨3, 0, 0, ByteArray.empty, 0, 0, 0, 0, t.at_⟩) 0 (.int .u8 3) rfl
          rw [hwi] at hBi
          have HB := Lib.hid hBi
          have hfz := frozen_blk HB0.out.node 0
          have hcl := cell_blk HB0.out.node 0
          dsimp only [encNz] at hcl
          simp only [List.getElem?_toArray, List.getElem?_cons_succ, List.getElem?_cons_zero] at hcl
          clear hBi
          go_upto_region 23 with fail
          clear HA RF hfz hcl hwi t0 t1 t2 t3
          obtain ⟨la2, lc2, tv2, hx2⟩ := HB.out.at_
          obtain ⟨b2, o2, rfl, -, hc2, -, -, -, -, -⟩ := hx2.head HQ.out.1
          have c0 := cell_blk hx2.blk 0
          have f0 := frozen_blk hx2.blk 0
          simp only [List.getElem?_toArray, List.getElem?_cons_succ, List.getElem?_cons_zero] at c0
          have HT := Lib.hid (hx2.two HQ.out.1)
          have hsz2 : s.next.tree.length ≤ 1000000 := (sum_parts (Nat.le_trans (next_sum s) HQ.out.2.1)).2
          have HSZ := Lib.hid hsz2
          have hlen3 := hlen
          have hlen4 := hlen2
          clear hx2 hsz2
          generalize hnn : s.l.length = m at *
          have hm0 : ¬ m = 0 := by omega
          clear hnn
          by_cases hl1 : lc2 = 1
          · subst hl1
            obtain rfl : m = 1 := by omega
            have HH := Lib.hid (HT.out o2 (.inr (Nat.le_refl _)))
            change Hid (PsAt (wi.setCell ⟨p, 0, none⟩ (.slice (some ⟨b2, o2, none⟩) 0 0)) p en s.next ∧ Up p wi (wi.setCell ⟨p, 0, none⟩ (.slice (some ⟨b2, o2, none⟩) 0 0))) at HH
            obtain ⟨W4, hW4⟩ : ∃ W4, wi.setCell ⟨p, 0, none⟩ (.slice (some ⟨b2, o2, none⟩) 0 0) = W4 := ⟨_, rfl⟩
            rw [hW4] at HH
            have hB4 := HB.out.go hp HH.out.2 HH.out.1
            have LD := Lib.hid (load_w (P := Tryd.prog) 34 hB4.node (by rw [sizeNode]; rfl) Tryd.underlying34 rfl)
            have CN := Lib.hid (psNode_at HH.out.1 HSZ.out (⟨3, 0, 0, ByteArray.empty, 0, 0, 0, 0, t.at_⟩) (RowAt.nil (enc := encI) (w := W4) none 0) (by simp))
            have HUP := Lib.hid hB4.up
            unfold nodeV at CN
            clear hB4 HT
            go_wp2_with ((with_reducible refine xLoadAt rfl LD.out ?_ ?_ ?_); exact rfl; exact rfl)
            refine CN.out.mono ?_
            rintro e w8 ⟨rfl, h8, u8⟩
            have HH8 := Lib.hid (And.intro h8 (HUP.out.trans u8))
            clear h8 u8
            go_wp2_with fail
            first | go_ret3 | go_ret2 | go_ret
            exact PsR.mk_ok HV.out rfl HH8.out.1 HH8.out.2
          · have HH := Lib.hid (HT.out (o2 + 5) (.inl rfl))
            obtain ⟨W4, hW4⟩ : ∃ W4, wi.setCell ⟨p, 0, none⟩ (.slice (some ⟨b2, o2 + 5, none⟩) (m - 1) (lc2 - 1)) = W4 := ⟨_, rfl⟩
            rw [hW4] at HH
            have hB4 := HB.out.go hp HH.out.2 HH.out.1
            have LD := Lib.hid (load_w (P := Tryd.prog) 34 hB4.node (by rw [sizeNode]; rfl) Tryd.underlying34 rfl)
            have CN := Lib.hid (psNode_at HH.out.1 HSZ.out (⟨3, 0, 0, ByteArray.empty, 0, 0, 0, 0, t.at_⟩) (RowAt.nil (enc := encI) (w := W4) none 0) (by simp))
            have HUP := Lib.hid hB4.up
            unfold nodeV at CN
            clear hB4 HT
            go_wp2_with ((with_reducible refine xLoadAt rfl LD.out ?_ ?_ ?_); exact rfl; exact rfl)
            refine CN.out.mono ?_
            rintro e w8 ⟨rfl, h8, u8⟩
            have HH8 := Lib.hid (And.intro h8 (HUP.out.trans u8))
            clear h8 u8
            go_wp2_with fail
            first | go_ret3 | go_ret2 | go_ret
            exact PsR.mk_ok HV.out rfl HH8.out.1 HH8.out.2
        · skip
          have n2 := text_not (x := t.text) (l := [102, 97, 108, 115, 101]) (by rw [← show bz "false" = txZ [102, 97, 108, 115, 101] from bz_words.2.1]; exact h2)
          cases h3 : callZ t.text with
          | some c =>
            have hsp := HSP.out
            rw [h3] at hsp
            obtain ⟨rfl, rfl, rfl, rfl⟩ := hsp
            have HV := Lib.hid (show atomZ en lev s = callRun en lev (c.1, c.2.1, c.2.2) s from atom_call HQ.out.1 hk h1 h2 h3)
            have LC := Lib.hid (load_w (P := Tryd.prog) 61 HA.out.call (by kernel_rfl) Tryd.underlying61 rfl)
            have CP := Lib.hid (psCall_at hp HA.out.gl HA.out.at_ HQ.out.2.1 HQ.out.1 HL.out.1 HL.out.2.1 HL.out.2.2.1 HL.out.2.2.2 c.1 c.2.1 c.2.2 (callZ_few h3))
            have HUP := Lib.hid HA.out.up
            clear HA HB0 HSP h3
            go_wp2_with ((with_reducible refine xLoadAt rfl LC.out ?_ ?_ ?_); exact rfl; exact rfl)
            refine CP.out.mono ?_
            intro e w6 hR
            cases hu : callRun en lev (c.1, c.2.1, c.2.2) s with
            | bad q2 y =>
              rw [hu] at hR HV
              obtain ⟨rfl, u6⟩ := hR
              have HU := Lib.hid (HUP.out.trans u6)
              clear hu u6
              go_wp2_with fail
              exact ⟨rfl, PsR.mk_bad HV.out rfl HU.out⟩
            | ok a s6 =>
              rw [hu] at hR HV
              obtain ⟨rfl, h6, u6⟩ := hR
              have HU := Lib.hid (And.intro h6 (HUP.out.trans u6))
              clear hu h6 u6
              go_wp2_with fail
              first | go_ret3 | go_ret2 | go_ret
              exact PsR.mk_ok HV.out rfl HU.out.1 HU.out.2
          | none =>
            have hsp := HSP.out
            rw [h3] at hsp
            subst hsp
            by_cases h4 : t.text = bz "("
            · have HV := Lib.hid (show atomZ en lev s = _ from atom_open HQ.out.1 hk h1 h2 h3 h4)
              rw [bz_lits.2.1] at HV
              have CO := Lib.hid (psOpen_at HA.out.at_)
              rw [h4, bz_words.2.2] at t1
              go_wp2_with fail
              refine CO.out.mono ?_
              intro e w6 hR
              cases ho : openZ en s with
              | bad q2 y =>
                rw [ho] at hR HV
                obtain ⟨rfl, u6⟩ := hR
                have HU := Lib.hid (HA.out.up.trans u6)
                clear ho u6
                go_wp2_with fail
                exact ⟨rfl, PsR.mk_bad HV.out rfl HU.out⟩
              | ok u s1 =>
                rw [ho] at hR HV
                rw [Rz.bind_ok] at HV
                obtain ⟨rfl, h6, u6⟩ := hR
                have e1 : s1 = { s with deep := s.deep + 1 } := by
                  unfold openZ at ho
                  split at ho
                  · cases ho
                  · cases ho; rfl
                have hl1 : s1.l = t :: r := by rw [e1]; exact HQ.out.1
                have HSM := Lib.hid (show s1.next.sum ≤ 999999 ∧ s1.next.l.length ≤ s.l.length - 1 ∧ s1.next.deep = s.deep + 1 from by
                  refine ⟨?_, ?_, ?_⟩
                  · have := next_sum1 hl1
                    have := HQ.out.2.1
                    have : s1.sum = s.sum := by rw [e1]; rfl
                    omega
                  · rw [next_len, e1]; exact Nat.le_refl _
                  · rw [e1]; rfl)
                have HGL := Lib.hid (u6.gl HA.out.at_ HA.out.gl hp)
                have HUP := Lib.hid (HA.out.up.trans u6)
                have HD0 := Lib.hid HA.out.at_.deep
                have HPS := Lib.hid h6
                obtain ⟨la2, lc2, tv2, hx2⟩ := h6
                obtain ⟨b2, o2, rfl, -, hc2, -, -, -, -, -⟩ := hx2.head hl1
                have c0 := cell_blk hx2.blk 0
                have f0 := frozen_blk hx2.blk 0
                simp only [List.getElem?_toArray, List.getElem?_cons_succ, List.getElem?_cons_zero] at c0
                have HT := Lib.hid (hx2.two hl1)
                have hlen3 := hx2.len
                have hlen4 : 0 < s1.l.length := by rw [hl1]; simp
                clear hx2 e1 hl1 ho u6 HA HB0 HSP t0 t1 t2 t3 RF h3 h4
                generalize hnn : s1.l.length = m at *
                have hm0 : ¬ m = 0 := by omega
                clear hnn
                go_upto_region 18 with fail
                go_cut [] from 67 to 74 (fun wx => Hid (PsAt wx p en s1.next ∧ Up p w6 wx))
                case first =>
                  by_cases hl1 : lc2 = 1
                  · subst hl1
                    obtain rfl : m = 1 := by omega
                    have HH := Lib.hid (HT.out o2 (.inr (Nat.le_refl _)))
                    go_wp2_with fail
                    go_meet
                    case rel => exact HH
                  · have HH := Lib.hid (HT.out (o2 + 5) (.inl rfl))
                    go_wp2_with fail
                    go_meet
                    case rel => exact HH
                case rest =>
                  have HH := hcut
                  have CLV := Lib.hid (HL.out.1 wc s1.next (HH.out.2.gl HPS.out HGL.out hp) HH.out.1 (by have := HSM.out.1; omega) HSM.out.2.1)
                  clear hcut HT c0 f0 hc2
                  go_wp2_with fail
                  refine CLV.out.mono ?_
                  intro e w7 hR
                  cases hu : lev s1.next with
                  | bad q2 y =>
                    rw [hu] at hR HV
                    obtain ⟨rfl, u7⟩ := hR
                    have HU := Lib.hid (HUP.out.trans (HH.out.2.trans u7))
                    clear hu u7
                    go_wp2_with fail
                    exact ⟨rfl, PsR.mk_bad HV.out rfl HU.out⟩
                  | ok a s2 =>
                    rw [hu] at hR HV
                    rw [Rz.bind_ok] at HV
                    obtain ⟨rfl, h7, u7⟩ := hR
                    have HD2 := Lib.hid (show s2.deep = s.deep + 1 from (HL.out.2.2.2 s1.next a s2 hu).trans HSM.out.2.2)
                    have CM := Lib.hid (psMust_at h7 ⟨#[41]⟩)
                    have HU7 := Lib.hid (HUP.out.trans (HH.out.2.trans u7))
                    clear hu h7 u7
                    go_wp2_with fail
                    refine CM.out.mono ?_
                    intro e w8 hR
                    cases hm : mustZ en ⟨#[41]⟩ s2 with
                    | bad q2 y =>
                      rw [hm] at hR HV
                      obtain ⟨rfl, u8⟩ := hR
                      have HU := Lib.hid (HU7.out.trans u8)
                      clear hm u8
                      go_wp2_with fail
                      exact ⟨rfl, PsR.mk_bad HV.out rfl HU.out⟩
                    | ok u s3 =>
                      rw [hm] at hR HV
                      rw [Rz.bind_ok] at HV
                      obtain ⟨rfl, h8, u8⟩ := hR
                      have hd3 : s3.deep = s.deep + 1 := mustZ_dp (s := s2) HD2.out _ _ hm
                      have hd0 := HD0.out
                      have hd8 := h8.deep
                      obtain ⟨h9, hup9⟩ := h8.shut (by omega)
                      obtain ⟨k2, g2⟩ := h8.cells
                      have hwr : IntKind.i64.wrap (s3.deep - 1) = s3.deep - 1 := by rw [IntKind.wrap_i64]; omega
                      have HU := Lib.hid (And.intro h9 (HU7.out.trans (u8.trans hup9)))
                      generalize s3.deep = d3 at *
                      clear hm h8 u8 h9 hup9 hd3 hd0 hd8
                      unfold intV
                      go_wp2_with fail
                      first | go_ret3 | go_ret2 | go_ret
                      exact PsR.mk_ok HV.out rfl HU.out.1 HU.out.2
            · have n4 := text_not (x := t.text) (l := [40]) (by rw [← show bz "(" = txZ [40] from bz_words.2.2]; exact h4)
              have HV := Lib.hid (show atomZ en lev s = _ from atom_field HQ.out.1 hk h1 h2 h3 h4)
              have CF := Lib.hid (psField_at HA.out.gl HA.out.at_)
              have HUP := Lib.hid HA.out.up
              clear HA HSP RF t2 t3 HL
              go_wp2_with fail
              clear t0 t1
              refine CF.out.mono ?_
              intro e w6 hR
              cases hu : fieldZ en s with
              | bad q2 y =>
                rw [hu] at hR HV
                obtain ⟨rfl, u6⟩ := hR
                have HU := Lib.hid (HUP.out.trans u6)
                clear hu u6
                go_wp2_with fail
                exact ⟨rfl, PsR.mk_bad HV.out rfl HU.out⟩
              | ok x s6 =>
                rw [hu] at hR HV
                rw [Rz.bind_ok] at HV
                obtain ⟨rfl, h6, u6⟩ := hR
                have HSZ := Lib.hid (show s6.tree.length ≤ 1000000 from (sum_parts (Nat.le_trans (fieldZ_tm (n := s.sum) (Nat.le_refl _) _ _ hu) (by have := HQ.out.2.1; omega))).2)
                have hB6 := HB0.out.go hp u6 h6
                have hB7 := hB6.write hp (n2 := ⟨4, 0, 0, ByteArray.empty, 0, 0, 0, 0, t.at_⟩) 0 (.int .u8 4) rfl
                obtain ⟨w7, hw7⟩ : ∃ D, w6.setCell ⟨w.heap.size + 1, 0, none⟩ (.int .u8 4) = D := ⟨_, rfl⟩
                rw [hw7] at hB7
                have hB8 := hB7.write hp (n2 := ⟨4, 0, 0, x, 0, 0, 0, 0, t.at_⟩) 3 (.string x) rfl
                obtain ⟨w8, hw8⟩ : ∃ D, w7.setCell ⟨w.heap.size + 1, 3, none⟩ (.string x) = D := ⟨_, rfl⟩
                rw [hw8] at hB8
                have k0 := cell_blk hB6.node 0
                have g0 := frozen_blk hB6.node 0
                have k3 := cell_blk hB7.node 3
                have g3 := frozen_blk hB7.node 3
                dsimp only [encNz] at k0 k3
                simp only [List.getElem?_toArray, List.getElem?_cons_succ, List.getElem?_cons_zero] at k0 k3
                have LD := Lib.hid (load_w (P := Tryd.prog) 34 hB8.node (by rw [sizeNode]; rfl) Tryd.underlying34 rfl)
                have CN := Lib.hid (psNode_at hB8.at_ HSZ.out (⟨4, 0, 0, x, 0, 0, 0, 0, t.at_⟩) (RowAt.nil (enc := encI) (w := w8) none 0) (by simp))
                have HU8 := Lib.hid hB8.up
                have HV2 := Lib.hid (show atomZ en lev s = nodeZ (kidsZ ⟨4, 0, 0, x, 0, 0, 0, 0, t.at_⟩ []) s6 from HV.out)
                unfold nodeV at CN
                unfold strV
                clear hu h6 u6 hB6 hB7 hB8 HB0
                go_wp2_with ((with_reducible refine xLoadAt rfl LD.out ?_ ?_ ?_); exact rfl; exact rfl)
                refine CN.out.mono ?_
                rintro e w9 ⟨rfl, h9, u9⟩
                have HH9 := Lib.hid (And.intro h9 (HU8.out.trans u9))
                clear h9 u9
                go_wp2_with fail
                first | go_ret3 | go_ret2 | go_ret
                exact PsR.mk_ok HV2.out rfl HH9.out.1 HH9.out.2
end Go.Proofs.YtdaokholmlpfkaaDoor
