/- Layer 8: a node that leans is turned. -/
import Derived.Test.YtngglpekdjhbdaaGreatWzK
import Derived.Laws.EntriesVeiled
namespace Go.Proofs.YtngglpekdjhbdaaGreat
open Go.RowKit Go.ChangeMaps Go.Deep Tr
set_option linter.unusedSimpArgs false
set_option linter.unusedVariables false
set_option maxRecDepth 20000

/-- what a double turn to the left finds -/
theorem dblR {N : List Nd} {p q s : Nat} {l c d b : Tr} {x y z : It} (h1 : N[p]? = some (nd l x (node q (node s c z d) y b))) (hl1 : rep N l) (hr1 : rep N (node q (node s c z d) y b)) (hn : (p :: (l.places ++ (node q (node s c z d) y b).places)).Nodup) :
    ∃ N1 N2 h t, turnN N q false = (N1, (s : Int)) ∧ hangN N1 p true s = N2 ∧ N1[p]? = some (nd l x (node q (node s c z d) y b)) ∧ N2[p]? = some ⟨x, l.at_, (s : Int), h, t, true⟩ ∧ N2[s]? = some (nd c z (node q d y b)) ∧ rep N2 l ∧ rep N2 c ∧ rep N2 (node q d y b) := by
  obtain ⟨hpn, hn2⟩ := List.nodup_cons.1 hn
  obtain ⟨hnl, hnr, hdis⟩ := List.nodup_append.1 hn2
  have pl : p ∉ l.places := fun e => hpn (List.mem_append_left _ e)
  have pr : p ∉ (node q (node s c z d) y b).places := fun e => hpn (List.mem_append_right _ e)
  obtain ⟨hq1, ⟨hs1, hc1, hd1⟩, hb1⟩ := hr1
  simp only [places, List.mem_cons, List.mem_append, not_or, List.nodup_cons, List.nodup_append] at hnr pr
  obtain ⟨⟨⟨qs, qc, qd⟩, qb⟩, ⟨⟨sc, sd⟩, nc, ndd, dcd⟩, nb, dab⟩ := hnr
  obtain ⟨hpq, ⟨hps, pc, pd⟩, pb⟩ := pr
  have sb : s ∉ b.places := fun e => dab s (.inl rfl) s e rfl
  have lq : q ∉ l.places := fun e => hdis q e q (by simp [places]) rfl
  have sl : s ∉ l.places := fun e => hdis s e s (by simp [places]) rfl
  have P1 := turnR (p := q) (q := s) (a := c) (b := d) (r := b) hq1 hs1 hb1 hc1 hd1 qs qb qc qd sb sc sd
  have hp2 : (turnN N q false).1[p]? = some (nd l x (node q (node s c z d) y b)) := by
    rw [P1.other p (by simp [hpq, hps])]; exact h1
  have eh : hangN (turnN N q false).1 p true (s : Int) = (turnN N q false).1.set p ⟨x, l.at_, (s : Int), (nd l x (node q (node s c z d) y b)).h, (nd l x (node q (node s c z d) y b)).t, true⟩ := by
    simp [hangN, nodeN_some hp2, nd, at_]
  obtain ⟨r1, r2, r3⟩ := P1.rep
  have hl3 : rep (turnN N q false).1 l := rep_congr (fun i hi => P1.other i (by
    simp only [List.mem_cons, List.not_mem_nil, or_false, not_or]
    exact ⟨fun e => lq (e ▸ hi), fun e => sl (e ▸ hi)⟩)) hl1
  have pN : p ∉ (node q d y b).places := by
    simp only [places, List.mem_cons, List.mem_append, not_or]
    exact ⟨hpq, pd, pb⟩
  refine ⟨_, _, _, _, Prod.ext rfl P1.root, eh, hp2, set_self hp2, ?_, rep_set hl3 pl _, rep_set r2 pc _, rep_set r3 pN _⟩
  rw [set_other (Ne.symm hps)]; exact r1
theorem dblL {N : List Nd} {p q s : Nat} {a c d r : Tr} {x y z : It} (h1 : N[p]? = some (nd (node q a y (node s c z d)) x r)) (hl1 : rep N (node q a y (node s c z d))) (hr1 : rep N r) (hn : (p :: ((node q a y (node s c z d)).places ++ r.places)).Nodup) :
    ∃ N1 N2 h t, turnN N q true = (N1, (s : Int)) ∧ hangN N1 p false s = N2 ∧ N1[p]? = some (nd (node q a y (node s c z d)) x r) ∧ N2[p]? = some ⟨x, (s : Int), r.at_, h, t, true⟩ ∧ N2[s]? = some (nd (node q a y c) z d) ∧ rep N2 r ∧ rep N2 (node q a y c) ∧ rep N2 d := by
  obtain ⟨hpn, hn2⟩ := List.nodup_cons.1 hn
  obtain ⟨hnl, hnr, hdis⟩ := List.nodup_append.1 hn2
  have pl : p ∉ (node q a y (node s c z d)).places := fun e => hpn (List.mem_append_left _ e)
  have pr : p ∉ r.places := fun e => hpn (List.mem_append_right _ e)
  obtain ⟨hq1, ha1, ⟨hs1, hc1, hd1⟩⟩ := hl1
  simp only [places, List.mem_cons, List.mem_append, not_or, List.nodup_cons, List.nodup_append] at hnl pl
  obtain ⟨⟨qa, qs, qc, qd⟩, na, ⟨⟨sc, sd⟩, nc, ndd, dcd⟩, dab⟩ := hnl
  obtain ⟨hpq, pa, hps, pc, pd⟩ := pl
  have sa : s ∉ a.places := fun e => dab s e s (.inl rfl) rfl
  have rq : q ∉ r.places := fun e => hdis q (by simp [places]) q e rfl
  have sr : s ∉ r.places := fun e => hdis s (by simp [places]) s e rfl
  have P1 := turnL (p := q) (q := s) (l := a) (a := c) (b := d) hq1 hs1 ha1 hc1 hd1 qs qa qc qd sa sc sd
  have hp2 : (turnN N q true).1[p]? = some (nd (node q a y (node s c z d)) x r) := by
    rw [P1.other p (by simp [hpq, hps])]; exact h1
  have eh : hangN (turnN N q true).1 p false (s : Int) = (turnN N q true).1.set p ⟨x, (s : Int), r.at_, (nd (node q a y (node s c z d)) x r).h, (nd (node q a y (node s c z d)) x r).t, true⟩ := by
    simp [hangN, nodeN_some hp2, nd, at_]
  obtain ⟨r1, r2, r3⟩ := P1.rep
  have hr3 : rep (turnN N q true).1 r := rep_congr (fun i hi => P1.other i (by
    simp only [List.mem_cons, List.not_mem_nil, or_false, not_or]
    exact ⟨fun e => rq (e ▸ hi), fun e => sr (e ▸ hi)⟩)) hr1
  have pN : p ∉ (node q a y c).places := by
    simp only [places, List.mem_cons, List.mem_append, not_or]
    exact ⟨hpq, pa, pc⟩
  refine ⟨_, _, _, _, Prod.ext rfl P1.root, eh, hp2, set_self hp2, ?_, rep_set hr3 pr _, rep_set r2 pN _, rep_set r3 pd _⟩
  rw [set_other (Ne.symm hps)]; exact r1
set_option maxHeartbeats 8000000 in
theorem mended_rs {w : World} {b0 : Nat} {nv fv : Value} {ns : List Nd} {fr : List Int} {root many : Int} (h0 : TreeAt w b0 nv fv ns fr root many) {p q : Nat} {l a b : Tr} {x y : It} {h t : Int} (hp : ns[p]? = some ⟨x, l.at_, (node q a y b).at_, h, t, true⟩) (hl : rep ns l) (hr : rep ns (node q a y b)) (hn : (p :: (l.places ++ (node q a y b).places)).Nodup) (bl : l.ht ≤ 800) (br : (node q a y b).ht ≤ 800)
    (hg : 1 < (node q a y b).ht - l.ht) (hab : ¬ b.ht < a.ht) :
    Calls Tryz.prog 80 #[.pointer (some ⟨b0, 0, none⟩), .int .i64 p] w (TPost w b0 nv fv (mendedN ns p).1 fr root many (.int .i64 (mendedN ns p).2)) := by
  obtain ⟨hpn, hn2⟩ := List.nodup_cons.1 hn
  obtain ⟨hnl, hnr, hdis⟩ := List.nodup_append.1 hn2
  have pl : p ∉ l.places := fun e => hpn (List.mem_append_left _ e)
  have pr : p ∉ (node q a y b).places := fun e => hpn (List.mem_append_right _ e)
  have hs := Lib.hid (sum_rep h0 hp hl hr pl pr (by omega) (by omega))
  have HLN := lean_of hp hl hr pl pr
  have hL0 := ht_nonneg l
  have hA0 := ht_nonneg a
  have hB0 := ht_nonneg b
  have hH : (node q a y b).ht = 1 + max a.ht b.ht := rfl
  have g1 := HLN.side true
  have g2 := HLN.eq
  obtain ⟨hq1, ha1, hb1⟩ := HLN.r
  have t1 : sideN (sumN ns p) q true = b.at_ := by simp [sideN, nodeN_some hq1, nd]
  have t2 : sideN (sumN ns p) q false = a.at_ := by simp [sideN, nodeN_some hq1, nd]
  have gat : (node q a y b).at_ = (q : Int) := rfl
  have eM : mendedN ns p = turnN (sumN ns p) p true := by
    unfold mendedN
    simp only [g2]
    rw [if_neg (by omega), decide_eq_true (show 0 < (node q a y b).ht - l.ht by omega), g1, Bool.not_true]
    simp only [if_true]
    rw [gat, show ((q : Int).toNat) = q by omega, t1, t2, htN_rep ha1, htN_rep hb1, if_neg hab]
  rw [eM]
  have C1 := Lib.hid (fun (W : World) (T : TreeAt W b0 nv fv (sumN ns p) fr root many) => height_lk T (rep_lk HLN.l))
  have C2 := Lib.hid (fun (W : World) (T : TreeAt W b0 nv fv (sumN ns p) fr root many) => height_lk T (rep_lk HLN.r))
  have C3 := Lib.hid (fun (W : World) (T : TreeAt W b0 nv fv (sumN ns p) fr root many) => side_at T HLN.nd true)
  have C4 := Lib.hid (fun (W : World) (T : TreeAt W b0 nv fv (sumN ns p) fr root many) => side_at T hq1 false)
  have C5 := Lib.hid (fun (W : World) (T : TreeAt W b0 nv fv (sumN ns p) fr root many) => side_at T hq1 true)
  have C6 := Lib.hid (fun (W : World) (T : TreeAt W b0 nv fv (sumN ns p) fr root many) => height_lk T (rep_lk ha1))
  have C7 := Lib.hid (fun (W : World) (T : TreeAt W b0 nv fv (sumN ns p) fr root many) => height_lk T (rep_lk hb1))
  rw [htN_rep HLN.l] at C1
  rw [htN_rep HLN.r] at C2
  rw [g1] at C3
  simp only [if_true, Bool.false_eq_true, if_false] at C3
  rw [gat] at C3
  rw [t2] at C4
  rw [t1] at C5
  rw [htN_rep ha1] at C6
  rw [htN_rep hb1] at C7
  simp only [places, List.mem_cons, List.mem_append, not_or, List.nodup_cons, List.nodup_append] at hnr pr
  obtain ⟨⟨qa, qb⟩, na, nb, dab⟩ := hnr
  obtain ⟨hpq, pa, pb⟩ := pr
  have oq : q ∉ l.places := fun e => hdis q e q (by simp [places]) rfl
  have C8 := Lib.hid (fun (W : World) (T : TreeAt W b0 nv fv (sumN ns p) fr root many) => toLeft_at (turnL_at T HLN.nd hq1 HLN.l ha1 hb1 hpq pl pa pb oq qa qb (by omega) (by omega) (by omega)))
  have HND := Lib.hid HLN.nd
  unfold TPost at hs C8 ⊢
  try dsimp only
  unfold Tr.nd at HND
  generalize (node q a y b).ht = Hh at *
  generalize hAh : a.ht = Ah at *
  generalize hBh : b.ht = Bh at *
  generalize l.ht = Oh at *
  generalize hAa : a.at_ = Aa at *
  generalize hBa : b.at_ = Ba at *
  generalize l.at_ = Oa at *
  rw [gat] at HND
  try rw [gat] at C1
  try rw [gat] at C2
  clear h0 hp hl hr HLN hn hpn hn2 hdis g1 g2 hq1 ha1 hb1 t1 t2 gat eM
  try clear hnr
  try clear hnl
  have hA1 : Ah + 1 ≤ Hh := by omega
  have hB1 : Bh + 1 ≤ Hh := by omega
  clear hH
  have hd0 : decide (Hh - Oh < 0) = false := decide_eq_false (by omega)
  have hd1 : decide (0 < Hh - Oh) = true := decide_eq_true (by omega)
  have hd2 : decide (Hh < Oh) = false := decide_eq_false (by omega)
  have hd3 : decide (Oh < Hh) = true := decide_eq_true (by omega)
  generalize sumN ns p = N at *
  go_enter Tryz.func80, Tryz.ntmps80
  go_wp2_with fail
  refine hs.out.mono ?_
  rintro e w1 ⟨rfl, T1, m1⟩
  obtain ⟨g, cap, rfl, hg', hcap⟩ := T1.row.at_ HND.out
  have hlt := (List.getElem?_eq_some_iff.1 HND.out).1
  have c1 := cell_blk T1.blk 1
  simp only [List.getElem?_toArray, List.getElem?_cons_succ, List.getElem?_cons_zero] at c1
  have c3 := (nd_cells T1.row HND.out 3 _ rfl).1
  have c4 := (nd_cells T1.row HND.out 4 _ rfl).1
  have T2 := T1.kept0 ((Mod.refl [] w1).drew)
  have D1 := Lib.hid (C1.out _ T2)
  have D2 := Lib.hid (C2.out _ T2)
  have HT := Lib.hid T2
  have HM := Lib.hid m1.drew
  have TA := T1.kept0 (((Mod.refl [] w1).alloc (.cells #[.func (.func 89) #[] #[], .func (.func 90) #[] #[]] 160)).drew)
  have HMA := Lib.hid ((m1.alloc (.cells #[.func (.func 89) #[] #[], .func (.func 90) #[] #[]] 160)).drew)
  have D3 := Lib.hid (C3.out _ TA)
  have D4 := Lib.hid (C4.out _ TA)
  have D5 := Lib.hid (C5.out _ TA)
  have D6 := Lib.hid (C6.out _ TA)
  have D7 := Lib.hid (C7.out _ TA)
  have D8 := Lib.hid (C8.out _ TA)
  have hgs : g < w1.heap.size := hg'
  have hbx : ((w1.alloc (.cells #[.func (.func 89) #[] #[], .func (.func 90) #[] #[]] 160)).drew).heap[w1.heap.size]? = some (.cells #[.func (.func 89) #[] #[], .func (.func 90) #[] #[]] 160 (0, 0)) := heap_alloc_new w1 _
  have HBX := Lib.hid hbx
  clear T1 m1 T2 hs TA hbx C1 C2 C3 C4 C5 C6 C7 C8
  go_wp2_with fail
  refine wp_plan [([0, 1, 5, 11, 12, 16, 2, 13, 3, 14, 4, 15, 6, 17, 7, 18, 8, 19, 9, 20], 10, [13, 14, 15, 17, 18, 19, 20]), ([], 21, [])] [22, 23] (by kernel_rfl) (by kernel_rfl) ?_
  simp only [wpSegs, opsOf, List.map_cons, List.map_nil, opN, List.getD_cons_zero, List.getD_cons_succ]
  go_wp2_with fail
  refine ⟨by first | trivial | rfl, ?_⟩
  go_wp2_with fail
  refine D2.out.mono ?_
  rintro e w2 ⟨rfl, rfl⟩
  go_wp2_with fail
  refine ⟨?agA, ?_⟩
  case agA =>
    intro i hi hw
    simp only [List.mem_cons, List.not_mem_nil, or_false] at hi
    rcases hi with rfl | rfl | rfl | rfl | rfl | rfl | rfl
    all_goals (simp only [opN, List.getD_cons_zero, List.getD_cons_succ, slotOf]; go_simp)
  go_wp2_with fail
  refine ⟨by first | trivial | rfl, ?_⟩
  go_wp2_with fail
  refine D1.out.mono ?_
  rintro e w2 ⟨rfl, rfl⟩
  go_wp2_with fail
  refine ⟨again_nil, ?_⟩
  go_wp2_with fail
  refine ⟨by first | trivial | rfl, ?_⟩
  go_wp2_with fail
  refine D3.out.mono ?_
  rintro e w2 ⟨rfl, rfl⟩
  go_wp2_with fail
  refine D4.out.mono ?_
  rintro e w2 ⟨rfl, rfl⟩
  go_wp2_with fail
  refine D6.out.mono ?_
  rintro e w2 ⟨rfl, rfl⟩
  go_wp2_with fail
  refine D5.out.mono ?_
  rintro e w2 ⟨rfl, rfl⟩
  go_wp2_with fail
  refine D7.out.mono ?_
  rintro e w2 ⟨rfl, rfl⟩
  go_wp2_with fail
  refine D8.out.mono ?_
  rintro e w2 ⟨rfl, T2, m2⟩
  have HT2 := Lib.hid T2
  have HM2 := Lib.hid (HMA.out.trans m2)
  clear T2 m2
  go_wp2_with fail
  go_ret
  exact ⟨rfl, HT2.out, HM2.out⟩
set_option maxHeartbeats 8000000 in
theorem mended_rd {w : World} {b0 : Nat} {nv fv : Value} {ns : List Nd} {fr : List Int} {root many : Int} (h0 : TreeAt w b0 nv fv ns fr root many) {p q s : Nat} {l c d b : Tr} {x y z : It} {h t : Int} (hp : ns[p]? = some ⟨x, l.at_, (node q (node s c z d) y b).at_, h, t, true⟩) (hl : rep ns l) (hr : rep ns (node q (node s c z d) y b)) (hn : (p :: (l.places ++ (node q (node s c z d) y b).places)).Nodup) (bl : l.ht ≤ 800) (br : (node q (node s c z d) y b).ht ≤ 800)
    (hg : 1 < (node q (node s c z d) y b).ht - l.ht) (hab : b.ht < (node s c z d).ht) :
    Calls Tryz.prog 80 #[.pointer (some ⟨b0, 0, none⟩), .int .i64 p] w (TPost w b0 nv fv (mendedN ns p).1 fr root many (.int .i64 (mendedN ns p).2)) := by
  obtain ⟨hpn, hn2⟩ := List.nodup_cons.1 hn
  obtain ⟨hnl, hnr, hdis⟩ := List.nodup_append.1 hn2
  have pl : p ∉ l.places := fun e => hpn (List.mem_append_left _ e)
  have pr : p ∉ (node q (node s c z d) y b).places := fun e => hpn (List.mem_append_right _ e)
  have hs := Lib.hid (sum_rep h0 hp hl hr pl pr (by omega) (by omega))
  have HLN := lean_of hp hl hr pl pr
  have hL0 := ht_nonneg l
  have hA0 := ht_nonneg (node s c z d)
  have hB0 := ht_nonneg b
  have hH : (node q (node s c z d) y b).ht = 1 + max (node s c z d).ht b.ht := rfl
  have g1 := HLN.side true
  have g2 := HLN.eq
  obtain ⟨hq1, ⟨hs1, hc1, hd1⟩, hb1⟩ := HLN.r
  have ha1 : rep (sumN ns p) (node s c z d) := ⟨hs1, hc1, hd1⟩
  have t1 : sideN (sumN ns p) q true = b.at_ := by simp [sideN, nodeN_some hq1, nd]
  have t2 : sideN (sumN ns p) q false = (node s c z d).at_ := by simp [sideN, nodeN_some hq1, nd]
  have gat : (node q (node s c z d) y b).at_ = (q : Int) := rfl
  have eM : mendedN ns p = turnN (hangN (turnN (sumN ns p) q false).1 p true (turnN (sumN ns p) q false).2) p true := by
    unfold mendedN
    simp only [g2]
    rw [if_neg (by omega), decide_eq_true (show 0 < (node q (node s c z d) y b).ht - l.ht by omega), g1, Bool.not_true]
    simp only [if_true]
    rw [gat, show ((q : Int).toNat) = q by omega, t1, t2, htN_rep ha1, htN_rep hb1, if_pos hab]
  rw [eM]
  have C1 := Lib.hid (fun (W : World) (T : TreeAt W b0 nv fv (sumN ns p) fr root many) => height_lk T (rep_lk HLN.l))
  have C2 := Lib.hid (fun (W : World) (T : TreeAt W b0 nv fv (sumN ns p) fr root many) => height_lk T (rep_lk HLN.r))
  have C3 := Lib.hid (fun (W : World) (T : TreeAt W b0 nv fv (sumN ns p) fr root many) => side_at T HLN.nd true)
  have C4 := Lib.hid (fun (W : World) (T : TreeAt W b0 nv fv (sumN ns p) fr root many) => side_at T hq1 false)
  have C5 := Lib.hid (fun (W : World) (T : TreeAt W b0 nv fv (sumN ns p) fr root many) => side_at T hq1 true)
  have C6 := Lib.hid (fun (W : World) (T : TreeAt W b0 nv fv (sumN ns p) fr root many) => height_lk T (rep_lk ha1))
  have C7 := Lib.hid (fun (W : World) (T : TreeAt W b0 nv fv (sumN ns p) fr root many) => height_lk T (rep_lk hb1))
  rw [htN_rep HLN.l] at C1
  rw [htN_rep HLN.r] at C2
  rw [g1] at C3
  simp only [if_true, Bool.false_eq_true, if_false] at C3
  rw [gat] at C3
  rw [t2] at C4
  rw [t1] at C5
  rw [htN_rep ha1] at C6
  rw [htN_rep hb1] at C7
  obtain ⟨N1, N2, h2, t2', eT, eH, hp2, hp3, hs3, ho3, hc3, hd3⟩ := dblR HLN.nd HLN.l HLN.r hn
  simp only [places, List.mem_cons, List.mem_append, not_or, List.nodup_cons, List.nodup_append] at hnr pr
  obtain ⟨⟨⟨qs, qc, qd⟩, qo⟩, ⟨⟨sc, sd⟩, nc, ndd, dcd⟩, nb, dab⟩ := hnr
  obtain ⟨hpq, ⟨hps, pc, pd⟩, po⟩ := pr
  have so : s ∉ b.places := fun e => dab s (.inl rfl) s e rfl
  have oq : q ∉ l.places := fun e => hdis q e q (by simp [places]) rfl
  have os : s ∉ l.places := fun e => hdis s e s (by simp [places]) rfl
  have hc0 := ht_nonneg c
  have hd0 := ht_nonneg d
  have hA : (node s c z d).ht = 1 + max c.ht d.ht := rfl
  have C8 := Lib.hid (fun (W : World) (T : TreeAt W b0 nv fv (sumN ns p) fr root many) => toRight_at (turnR_at T hq1 hs1 hb1 hc1 hd1 qs qo qc qd so sc sd (by omega) (by omega) (by omega)))
  rw [eT] at C8
  have C9 := Lib.hid (fun (W : World) (T : TreeAt W b0 nv fv N1 fr root many) => hang_at T hp2 true (s : Int))
  rw [eH] at C9
  have hbig : (node q d y b).ht = 1 + max d.ht b.ht := rfl
  have C10 := Lib.hid (fun (W : World) (T : TreeAt W b0 nv fv N2 fr root many) => toLeft_at (turnL_at T hp3 hs3 ho3 hc3 hd3 hps pl pc (by simp [places, hpq, pd, po]) os sc (by simp [places, Ne.symm qs, sd, so]) (by omega) (by omega) (by omega)))
  rw [eT]
  dsimp only
  rw [eH]
  dsimp only at C8
  have HND := Lib.hid HLN.nd
  unfold TPost at hs C8 C10 ⊢
  try dsimp only
  unfold Tr.nd at HND
  generalize (node q (node s c z d) y b).ht = Hh at *
  generalize hAh : (node s c z d).ht = Ah at *
  generalize hBh : b.ht = Bh at *
  generalize l.ht = Oh at *
  generalize hAa : (node s c z d).at_ = Aa at *
  generalize hBa : b.at_ = Ba at *
  generalize l.at_ = Oa at *
  rw [gat] at HND
  try rw [gat] at C1
  try rw [gat] at C2
  clear h0 hp hl hr HLN hn hpn hn2 hdis g1 g2 hq1 ha1 hb1 t1 t2 gat eM
  try clear hnr
  try clear hnl
  have hA1 : Ah + 1 ≤ Hh := by omega
  have hB1 : Bh + 1 ≤ Hh := by omega
  clear hH
  have hd0 : decide (Hh - Oh < 0) = false := decide_eq_false (by omega)
  have hd1 : decide (0 < Hh - Oh) = true := decide_eq_true (by omega)
  have hd2 : decide (Hh < Oh) = false := decide_eq_false (by omega)
  have hd3 : decide (Oh < Hh) = true := decide_eq_true (by omega)
  generalize sumN ns p = N at *
  go_enter Tryz.func80, Tryz.ntmps80
  go_wp2_with fail
  refine hs.out.mono ?_
  rintro e w1 ⟨rfl, T1, m1⟩
  obtain ⟨g, cap, rfl, hg', hcap⟩ := T1.row.at_ HND.out
  have hlt := (List.getElem?_eq_some_iff.1 HND.out).1
  have c1 := cell_blk T1.blk 1
  simp only [List.getElem?_toArray, List.getElem?_cons_succ, List.getElem?_cons_zero] at c1
  have c3 := (nd_cells T1.row HND.out 3 _ rfl).1
  have c4 := (nd_cells T1.row HND.out 4 _ rfl).1
  have T2 := T1.kept0 ((Mod.refl [] w1).drew)
  have D1 := Lib.hid (C1.out _ T2)
  have D2 := Lib.hid (C2.out _ T2)
  have HT := Lib.hid T2
  have HM := Lib.hid m1.drew
  have TA := T1.kept0 (((Mod.refl [] w1).alloc (.cells #[.func (.func 89) #[] #[], .func (.func 90) #[] #[]] 160)).drew)
  have HMA := Lib.hid ((m1.alloc (.cells #[.func (.func 89) #[] #[], .func (.func 90) #[] #[]] 160)).drew)
  have D3 := Lib.hid (C3.out _ TA)
  have D4 := Lib.hid (C4.out _ TA)
  have D5 := Lib.hid (C5.out _ TA)
  have D6 := Lib.hid (C6.out _ TA)
  have D7 := Lib.hid (C7.out _ TA)
  have D8 := Lib.hid (C8.out _ TA)
  have hgs : g < w1.heap.size := hg'
  have hbx : ((w1.alloc (.cells #[.func (.func 89) #[] #[], .func (.func 90) #[] #[]] 160)).drew).heap[w1.heap.size]? = some (.cells #[.func (.func 89) #[] #[], .func (.func 90) #[] #[]] 160 (0, 0)) := heap_alloc_new w1 _
  have HBX := Lib.hid hbx
  clear T1 m1 T2 hs TA hbx C1 C2 C3 C4 C5 C6 C7 C8
  go_wp2_with fail
  refine wp_plan [([0, 1, 5, 11, 12, 16, 2, 13, 3, 14, 4, 15, 6, 17, 7, 18, 8, 19, 9, 20], 10, [13, 14, 15, 17, 18, 19, 20]), ([], 21, [])] [22, 23] (by kernel_rfl) (by kernel_rfl) ?_
  simp only [wpSegs, opsOf, List.map_cons, List.map_nil, opN, List.getD_cons_zero, List.getD_cons_succ]
  go_wp2_with fail
  refine ⟨by first | trivial | rfl, ?_⟩
  go_wp2_with fail
  refine D2.out.mono ?_
  rintro e w2 ⟨rfl, rfl⟩
  go_wp2_with fail
  refine ⟨?agA, ?_⟩
  case agA =>
    intro i hi hw
    simp only [List.mem_cons, List.not_mem_nil, or_false] at hi
    rcases hi with rfl | rfl | rfl | rfl | rfl | rfl | rfl
    all_goals (simp only [opN, List.getD_cons_zero, List.getD_cons_succ, slotOf]; go_simp)
  go_wp2_with fail
  refine ⟨by first | trivial | rfl, ?_⟩
  go_wp2_with fail
  refine D1.out.mono ?_
  rintro e w2 ⟨rfl, rfl⟩
  go_wp2_with fail
  refine ⟨again_nil, ?_⟩
  go_wp2_with fail
  refine ⟨by first | trivial | rfl, ?_⟩
  go_wp2_with fail
  refine D3.out.mono ?_
  rintro e w2 ⟨rfl, rfl⟩
  go_wp2_with fail
  refine D4.out.mono ?_
  rintro e w2 ⟨rfl, rfl⟩
  go_wp2_with fail
  refine D6.out.mono ?_
  rintro e w2 ⟨rfl, rfl⟩
  go_wp2_with fail
  refine D5.out.mono ?_
  rintro e w2 ⟨rfl, rfl⟩
  go_wp2_with fail
  refine D7.out.mono ?_
  rintro e w2 ⟨rfl, rfl⟩
  go_wp2_with fail
  refine D8.out.mono ?_
  rintro e w2 ⟨rfl, T2, m2⟩
  have D9 := Lib.hid (C9.out _ T2)
  have HM2 := Lib.hid (HMA.out.trans m2)
  have HB2 := Lib.hid (m2.heap HBX.out (by simp [blk, Value.ownBlock]; omega))
  clear T2 m2
  go_wp2_with fail
  refine D9.out.mono ?_
  rintro e w3 ⟨rfl, T3, m3⟩
  have D10 := Lib.hid (C10.out _ T3)
  have HM3 := Lib.hid (HM2.out.trans m3)
  have hb3 := m3.heap HB2.out (by simp [blk, Value.ownBlock]; omega)
  have x0 := cell_blk hb3 0
  have x1 := cell_blk hb3 1
  simp only [List.getElem?_toArray, List.getElem?_cons_succ, List.getElem?_cons_zero] at x0 x1
  clear T3 m3 hb3
  go_wp2_with fail
  refine D10.out.mono ?_
  rintro e w4 ⟨rfl, T4, m4⟩
  have HT4 := Lib.hid T4
  have HM4 := Lib.hid (HM3.out.trans m4)
  clear T4 m4
  go_wp2_with fail
  go_ret
  exact ⟨rfl, HT4.out, HM4.out⟩
set_option maxHeartbeats 8000000 in
theorem mended_ls {w : World} {b0 : Nat} {nv fv : Value} {ns : List Nd} {fr : List Int} {root many : Int} (h0 : TreeAt w b0 nv fv ns fr root many) {p q : Nat} {r a b : Tr} {x y : It} {h t : Int} (hp : ns[p]? = some ⟨x, (node q a y b).at_, r.at_, h, t, true⟩) (hl : rep ns (node q a y b)) (hr : rep ns r) (hn : (p :: ((node q a y b).places ++ r.places)).Nodup) (bl : (node q a y b).ht ≤ 800) (br : r.ht ≤ 800)
    (hg : 1 < (node q a y b).ht - r.ht) (hab : ¬ a.ht < b.ht) :
    Calls Tryz.prog 80 #[.pointer (some ⟨b0, 0, none⟩), .int .i64 p] w (TPost w b0 nv fv (mendedN ns p).1 fr root many (.int .i64 (mendedN ns p).2)) := by
  obtain ⟨hpn, hn2⟩ := List.nodup_cons.1 hn
  obtain ⟨hnl, hnr, hdis⟩ := List.nodup_append.1 hn2
  have pl : p ∉ (node q a y b).places := fun e => hpn (List.mem_append_left _ e)
  have pr : p ∉ r.places := fun e => hpn (List.mem_append_right _ e)
  have hs := Lib.hid (sum_rep h0 hp hl hr pl pr (by omega) (by omega))
  have HLN := lean_of hp hl hr pl pr
  have hL0 := ht_nonneg r
  have hA0 := ht_nonneg a
  have hB0 := ht_nonneg b
  have hH : (node q a y b).ht = 1 + max a.ht b.ht := rfl
  have g1 := HLN.side false
  have g2 := HLN.eq
  obtain ⟨hq1, ha1, hb1⟩ := HLN.l
  have t1 : sideN (sumN ns p) q true = b.at_ := by simp [sideN, nodeN_some hq1, nd]
  have t2 : sideN (sumN ns p) q false = a.at_ := by simp [sideN, nodeN_some hq1, nd]
  have gat : (node q a y b).at_ = (q : Int) := rfl
  have eM : mendedN ns p = turnN (sumN ns p) p false := by
    unfold mendedN
    simp only [g2]
    rw [if_neg (by omega), decide_eq_false (show ¬ 0 < r.ht - (node q a y b).ht by omega), g1, Bool.not_false]
    simp only [if_false, Bool.false_eq_true]
    rw [gat, show ((q : Int).toNat) = q by omega, t1, t2, htN_rep ha1, htN_rep hb1, if_neg hab]
  rw [eM]
  have C1 := Lib.hid (fun (W : World) (T : TreeAt W b0 nv fv (sumN ns p) fr root many) => height_lk T (rep_lk HLN.l))
  have C2 := Lib.hid (fun (W : World) (T : TreeAt W b0 nv fv (sumN ns p) fr root many) => height_lk T (rep_lk HLN.r))
  have C3 := Lib.hid (fun (W : World) (T : TreeAt W b0 nv fv (sumN ns p) fr root many) => side_at T HLN.nd false)
  have C4 := Lib.hid (fun (W : World) (T : TreeAt W b0 nv fv (sumN ns p) fr root many) => side_at T hq1 true)
  have C5 := Lib.hid (fun (W : World) (T : TreeAt W b0 nv fv (sumN ns p) fr root many) => side_at T hq1 false)
  have C6 := Lib.hid (fun (W : World) (T : TreeAt W b0 nv fv (sumN ns p) fr root many) => height_lk T (rep_lk hb1))
  have C7 := Lib.hid (fun (W : World) (T : TreeAt W b0 nv fv (sumN ns p) fr root many) => height_lk T (rep_lk ha1))
  rw [htN_rep HLN.l] at C1
  rw [htN_rep HLN.r] at C2
  rw [g1] at C3
  simp only [if_true, Bool.false_eq_true, if_false] at C3
  rw [gat] at C3
  rw [t1] at C4
  rw [t2] at C5
  rw [htN_rep hb1] at C6
  rw [htN_rep ha1] at C7
  simp only [places, List.mem_cons, List.mem_append, not_or, List.nodup_cons, List.nodup_append] at hnl pl
  obtain ⟨⟨qa, qb⟩, na, nb, dab⟩ := hnl
  obtain ⟨hpq, pa, pb⟩ := pl
  have oq : q ∉ r.places := fun e => hdis q (by simp [places]) q e rfl
  have C8 := Lib.hid (fun (W : World) (T : TreeAt W b0 nv fv (sumN ns p) fr root many) => toRight_at (turnR_at T HLN.nd hq1 HLN.r ha1 hb1 hpq pr pa pb oq qa qb (by omega) (by omega) (by omega)))
  have HND := Lib.hid HLN.nd
  unfold TPost at hs C8 ⊢
  try dsimp only
  unfold Tr.nd at HND
  generalize (node q a y b).ht = Hh at *
  generalize hAh : a.ht = Ah at *
  generalize hBh : b.ht = Bh at *
  generalize r.ht = Oh at *
  generalize hAa : a.at_ = Aa at *
  generalize hBa : b.at_ = Ba at *
  generalize r.at_ = Oa at *
  rw [gat] at HND
  try rw [gat] at C1
  try rw [gat] at C2
  clear h0 hp hl hr HLN hn hpn hn2 hdis g1 g2 hq1 ha1 hb1 t1 t2 gat eM
  try clear hnr
  try clear hnl
  have hA1 : Ah + 1 ≤ Hh := by omega
  have hB1 : Bh + 1 ≤ Hh := by omega
  clear hH
  have hd0 : decide (Oh - Hh < 0) = true := decide_eq_true (by omega)
  have hd1 : decide (0 < Oh - Hh) = false := decide_eq_false (by omega)
  have hd2 : decide (Hh < Oh) = false := decide_eq_false (by omega)
  have hd3 : decide (Oh < Hh) = true := decide_eq_true (by omega)
  generalize sumN ns p = N at *
  go_enter Tryz.func80, Tryz.ntmps80
  go_wp2_with fail
  refine hs.out.mono ?_
  rintro e w1 ⟨rfl, T1, m1⟩
  obtain ⟨g, cap, rfl, hg', hcap⟩ := T1.row.at_ HND.out
  have hlt := (List.getElem?_eq_some_iff.1 HND.out).1
  have c1 := cell_blk T1.blk 1
  simp only [List.getElem?_toArray, List.getElem?_cons_succ, List.getElem?_cons_zero] at c1
  have c3 := (nd_cells T1.row HND.out 3 _ rfl).1
  have c4 := (nd_cells T1.row HND.out 4 _ rfl).1
  have T2 := T1.kept0 ((Mod.refl [] w1).drew)
  have D1 := Lib.hid (C1.out _ T2)
  have D2 := Lib.hid (C2.out _ T2)
  have HT := Lib.hid T2
  have HM := Lib.hid m1.drew
  have TA := T1.kept0 (((Mod.refl [] w1).alloc (.cells #[.func (.func 89) #[] #[], .func (.func 90) #[] #[]] 160)).drew)
  have HMA := Lib.hid ((m1.alloc (.cells #[.func (.func 89) #[] #[], .func (.func 90) #[] #[]] 160)).drew)
  have D3 := Lib.hid (C3.out _ TA)
  have D4 := Lib.hid (C4.out _ TA)
  have D5 := Lib.hid (C5.out _ TA)
  have D6 := Lib.hid (C6.out _ TA)
  have D7 := Lib.hid (C7.out _ TA)
  have D8 := Lib.hid (C8.out _ TA)
  have hgs : g < w1.heap.size := hg'
  have hbx : ((w1.alloc (.cells #[.func (.func 89) #[] #[], .func (.func 90) #[] #[]] 160)).drew).heap[w1.heap.size]? = some (.cells #[.func (.func 89) #[] #[], .func (.func 90) #[] #[]] 160 (0, 0)) := heap_alloc_new w1 _
  have HBX := Lib.hid hbx
  clear T1 m1 T2 hs TA hbx C1 C2 C3 C4 C5 C6 C7 C8
  go_wp2_with fail
  refine wp_plan [([0, 1, 5, 11, 12, 16, 2, 13, 3, 14, 4, 15, 6, 17, 7, 18, 8, 19, 9, 20], 10, [13, 14, 15, 17, 18, 19, 20]), ([], 21, [])] [22, 23] (by kernel_rfl) (by kernel_rfl) ?_
  simp only [wpSegs, opsOf, List.map_cons, List.map_nil, opN, List.getD_cons_zero, List.getD_cons_succ]
  go_wp2_with fail
  refine ⟨by first | trivial | rfl, ?_⟩
  go_wp2_with fail
  refine D2.out.mono ?_
  rintro e w2 ⟨rfl, rfl⟩
  go_wp2_with fail
  refine ⟨?agA, ?_⟩
  case agA =>
    intro i hi hw
    simp only [List.mem_cons, List.not_mem_nil, or_false] at hi
    rcases hi with rfl | rfl | rfl | rfl | rfl | rfl | rfl
    all_goals (simp only [opN, List.getD_cons_zero, List.getD_cons_succ, slotOf]; go_simp)
  go_wp2_with fail
  refine ⟨by first | trivial | rfl, ?_⟩
  go_wp2_with fail
  refine D1.out.mono ?_
  rintro e w2 ⟨rfl, rfl⟩
  go_wp2_with fail
  refine ⟨again_nil, ?_⟩
  go_wp2_with fail
  refine ⟨by first | trivial | rfl, ?_⟩
  go_wp2_with fail
  refine D3.out.mono ?_
  rintro e w2 ⟨rfl, rfl⟩
  go_wp2_with fail
  refine D4.out.mono ?_
  rintro e w2 ⟨rfl, rfl⟩
  go_wp2_with fail
  refine D6.out.mono ?_
  rintro e w2 ⟨rfl, rfl⟩
  go_wp2_with fail
  refine D5.out.mono ?_
  rintro e w2 ⟨rfl, rfl⟩
  go_wp2_with fail
  refine D7.out.mono ?_
  rintro e w2 ⟨rfl, rfl⟩
  go_wp2_with fail
  refine D8.out.mono ?_
  rintro e w2 ⟨rfl, T2, m2⟩
  have HT2 := Lib.hid T2
  have HM2 := Lib.hid (HMA.out.trans m2)
  clear T2 m2
  go_wp2_with fail
  go_ret
  exact ⟨rfl, HT2.out, HM2.out⟩
set_option maxHeartbeats 8000000 in
theorem mended_ld {w : World} {b0 : Nat} {nv fv : Value} {ns : List Nd} {fr : List Int} {root many : Int} (h0 : TreeAt w b0 nv fv ns fr root many) {p q s : Nat} {r c d a : Tr} {x y z : It} {h t : Int} (hp : ns[p]? = some ⟨x, (node q a y (node s c z d)).at_, r.at_, h, t, true⟩) (hl : rep ns (node q a y (node s c z d))) (hr : rep ns r) (hn : (p :: ((node q a y (node s c z d)).places ++ r.places)).Nodup) (bl : (node q a y (node s c z d)).ht ≤ 800) (br : r.ht ≤ 800)
    (hg : 1 < (node q a y (node s c z d)).ht - r.ht) (hab : a.ht < (node s c z d).ht) :
    Calls Tryz.prog 80 #[.pointer (some ⟨b0, 0, none⟩), .int .i64 p] w (TPost w b0 nv fv (mendedN ns p).1 fr root many (.int .i64 (mendedN ns p).2)) := by
  obtain ⟨hpn, hn2⟩ := List.nodup_cons.1 hn
  obtain ⟨hnl, hnr, hdis⟩ := List.nodup_append.1 hn2
  have pl : p ∉ (node q a y (node s c z d)).places := fun e => hpn (List.mem_append_left _ e)
  have pr : p ∉ r.places := fun e => hpn (List.mem_append_right _ e)
  have hs := Lib.hid (sum_rep h0 hp hl hr pl pr (by omega) (by omega))
  have HLN := lean_of hp hl hr pl pr
  have hL0 := ht_nonneg r
  have hA0 := ht_nonneg a
  have hB0 := ht_nonneg (node s c z d)
  have hH : (node q a y (node s c z d)).ht = 1 + max a.ht (node s c z d).ht := rfl
  have g1 := HLN.side false
  have g2 := HLN.eq
  obtain ⟨hq1, ha1, ⟨hs1, hc1, hd1⟩⟩ := HLN.l
  have hb1 : rep (sumN ns p) (node s c z d) := ⟨hs1, hc1, hd1⟩
  have t1 : sideN (sumN ns p) q true = (node s c z d).at_ := by simp [sideN, nodeN_some hq1, nd]
  have t2 : sideN (sumN ns p) q false = a.at_ := by simp [sideN, nodeN_some hq1, nd]
  have gat : (node q a y (node s c z d)).at_ = (q : Int) := rfl
  have eM : mendedN ns p = turnN (hangN (turnN (sumN ns p) q true).1 p false (turnN (sumN ns p) q true).2) p false := by
    unfold mendedN
    simp only [g2]
    rw [if_neg (by omega), decide_eq_false (show ¬ 0 < r.ht - (node q a y (node s c z d)).ht by omega), g1, Bool.not_false]
    simp only [if_false, Bool.false_eq_true]
    rw [gat, show ((q : Int).toNat) = q by omega, t1, t2, htN_rep ha1, htN_rep hb1, if_pos hab]
  rw [eM]
  have C1 := Lib.hid (fun (W : World) (T : TreeAt W b0 nv fv (sumN ns p) fr root many) => height_lk T (rep_lk HLN.l))
  have C2 := Lib.hid (fun (W : World) (T : TreeAt W b0 nv fv (sumN ns p) fr root many) => height_lk T (rep_lk HLN.r))
  have C3 := Lib.hid (fun (W : World) (T : TreeAt W b0 nv fv (sumN ns p) fr root many) => side_at T HLN.nd false)
  have C4 := Lib.hid (fun (W : World) (T : TreeAt W b0 nv fv (sumN ns p) fr root many) => side_at T hq1 true)
  have C5 := Lib.hid (fun (W : World) (T : TreeAt W b0 nv fv (sumN ns p) fr root many) => side_at T hq1 false)
  have C6 := Lib.hid (fun (W : World) (T : TreeAt W b0 nv fv (sumN ns p) fr root many) => height_lk T (rep_lk hb1))
  have C7 := Lib.hid (fun (W : World) (T : TreeAt W b0 nv fv (sumN ns p) fr root many) => height_lk T (rep_lk ha1))
  rw [htN_rep HLN.l] at C1
  rw [htN_rep HLN.r] at C2
  rw [g1] at C3
  simp only [if_true, Bool.false_eq_true, if_false] at C3
  rw [gat] at C3
  rw [t1] at C4
  rw [t2] at C5
  rw [htN_rep hb1] at C6
  rw [htN_rep ha1] at C7
  obtain ⟨N1, N2, h2, t2', eT, eH, hp2, hp3, hs3, ho3, hc3, hd3⟩ := dblL HLN.nd HLN.l HLN.r hn
  simp only [places, List.mem_cons, List.mem_append, not_or, List.nodup_cons, List.nodup_append] at hnl pl
  obtain ⟨⟨qo, qs, qc, qd⟩, na, ⟨⟨sc, sd⟩, nc, ndd, dcd⟩, dab⟩ := hnl
  obtain ⟨hpq, po, hps, pc, pd⟩ := pl
  have so : s ∉ a.places := fun e => dab s e s (.inl rfl) rfl
  have oq : q ∉ r.places := fun e => hdis q (by simp [places]) q e rfl
  have os : s ∉ r.places := fun e => hdis s (by simp [places]) s e rfl
  have hc0 := ht_nonneg c
  have hd0 := ht_nonneg d
  have hA : (node s c z d).ht = 1 + max c.ht d.ht := rfl
  have C8 := Lib.hid (fun (W : World) (T : TreeAt W b0 nv fv (sumN ns p) fr root many) => toLeft_at (turnL_at T hq1 hs1 ha1 hc1 hd1 qs qo qc qd so sc sd (by omega) (by omega) (by omega)))
  rw [eT] at C8
  have C9 := Lib.hid (fun (W : World) (T : TreeAt W b0 nv fv N1 fr root many) => hang_at T hp2 false (s : Int))
  rw [eH] at C9
  have hbig : (node q a y c).ht = 1 + max a.ht c.ht := rfl
  have C10 := Lib.hid (fun (W : World) (T : TreeAt W b0 nv fv N2 fr root many) => toRight_at (turnR_at T hp3 hs3 ho3 hc3 hd3 hps pr (by simp [places, hpq, po, pc]) pd os (by simp [places, Ne.symm qs, so, sc]) sd (by omega) (by omega) (by omega)))
  rw [eT]
  dsimp only
  rw [eH]
  dsimp only at C8
  have HND := Lib.hid HLN.nd
  unfold TPost at hs C8 C10 ⊢
  try dsimp only
  unfold Tr.nd at HND
  generalize (node q a y (node s c z d)).ht = Hh at *
  generalize hAh : a.ht = Ah at *
  generalize hBh : (node s c z d).ht = Bh at *
  generalize r.ht = Oh at *
  generalize hAa : a.at_ = Aa at *
  generalize hBa : (node s c z d).at_ = Ba at *
  generalize r.at_ = Oa at *
  rw [gat] at HND
  try rw [gat] at C1
  try rw [gat] at C2
  clear h0 hp hl hr HLN hn hpn hn2 hdis g1 g2 hq1 ha1 hb1 t1 t2 gat eM
  try clear hnr
  try clear hnl
  have hA1 : Ah + 1 ≤ Hh := by omega
  have hB1 : Bh + 1 ≤ Hh := by omega
  clear hH
  have hd0 : decide (Oh - Hh < 0) = true := decide_eq_true (by omega)
  have hd1 : decide (0 < Oh - Hh) = false := decide_eq_false (by omega)
  have hd2 : decide (Hh < Oh) = false := decide_eq_false (by omega)
  have hd3 : decide (Oh < Hh) = true := decide_eq_true (by omega)
  generalize sumN ns p = N at *
  go_enter Tryz.func80, Tryz.ntmps80
  go_wp2_with fail
  refine hs.out.mono ?_
  rintro e w1 ⟨rfl, T1, m1⟩
  obtain ⟨g, cap, rfl, hg', hcap⟩ := T1.row.at_ HND.out
  have hlt := (List.getElem?_eq_some_iff.1 HND.out).1
  have c1 := cell_blk T1.blk 1
  simp only [List.getElem?_toArray, List.getElem?_cons_succ, List.getElem?_cons_zero] at c1
  have c3 := (nd_cells T1.row HND.out 3 _ rfl).1
  have c4 := (nd_cells T1.row HND.out 4 _ rfl).1
  have T2 := T1.kept0 ((Mod.refl [] w1).drew)
  have D1 := Lib.hid (C1.out _ T2)
  have D2 := Lib.hid (C2.out _ T2)
  have HT := Lib.hid T2
  have HM := Lib.hid m1.drew
  have TA := T1.kept0 (((Mod.refl [] w1).alloc (.cells #[.func (.func 89) #[] #[], .func (.func 90) #[] #[]] 160)).drew)
  have HMA := Lib.hid ((m1.alloc (.cells #[.func (.func 89) #[] #[], .func (.func 90) #[] #[]] 160)).drew)
  have D3 := Lib.hid (C3.out _ TA)
  have D4 := Lib.hid (C4.out _ TA)
  have D5 := Lib.hid (C5.out _ TA)
  have D6 := Lib.hid (C6.out _ TA)
  have D7 := Lib.hid (C7.out _ TA)
  have D8 := Lib.hid (C8.out _ TA)
  have hgs : g < w1.heap.size := hg'
  have hbx : ((w1.alloc (.cells #[.func (.func 89) #[] #[], .func (.func 90) #[] #[]] 160)).drew).heap[w1.heap.size]? = some (.cells #[.func (.func 89) #[] #[], .func (.func 90) #[] #[]] 160 (0, 0)) := heap_alloc_new w1 _
  have HBX := Lib.hid hbx
  clear T1 m1 T2 hs TA hbx C1 C2 C3 C4 C5 C6 C7 C8
  go_wp2_with fail
  refine wp_plan [([0, 1, 5, 11, 12, 16, 2, 13, 3, 14, 4, 15, 6, 17, 7, 18, 8, 19, 9, 20], 10, [13, 14, 15, 17, 18, 19, 20]), ([], 21, [])] [22, 23] (by kernel_rfl) (by kernel_rfl) ?_
  simp only [wpSegs, opsOf, List.map_cons, List.map_nil, opN, List.getD_cons_zero, List.getD_cons_succ]
  go_wp2_with fail
  refine ⟨by first | trivial | rfl, ?_⟩
  go_wp2_with fail
  refine D2.out.mono ?_
  rintro e w2 ⟨rfl, rfl⟩
  go_wp2_with fail
  refine ⟨?agA, ?_⟩
  case agA =>
    intro i hi hw
    simp only [List.mem_cons, List.not_mem_nil, or_false] at hi
    rcases hi with rfl | rfl | rfl | rfl | rfl | rfl | rfl
    all_goals (simp only [opN, List.getD_cons_zero, List.getD_cons_succ, slotOf]; go_simp)
  go_wp2_with fail
  refine ⟨by first | trivial | rfl, ?_⟩
  go_wp2_with fail
  refine D1.out.mono ?_
  rintro e w2 ⟨rfl, rfl⟩
  go_wp2_with fail
  refine ⟨again_nil, ?_⟩
  go_wp2_with fail
  refine ⟨by first | trivial | rfl, ?_⟩
  go_wp2_with fail
  refine D3.out.mono ?_
  rintro e w2 ⟨rfl, rfl⟩
  go_wp2_with fail
  refine D4.out.mono ?_
  rintro e w2 ⟨rfl, rfl⟩
  go_wp2_with fail
  refine D6.out.mono ?_
  rintro e w2 ⟨rfl, rfl⟩
  go_wp2_with fail
  refine D5.out.mono ?_
  rintro e w2 ⟨rfl, rfl⟩
  go_wp2_with fail
  refine D7.out.mono ?_
  rintro e w2 ⟨rfl, rfl⟩
  go_wp2_with fail
  refine D8.out.mono ?_
  rintro e w2 ⟨rfl, T2, m2⟩
  have D9 := Lib.hid (C9.out _ T2)
  have HM2 := Lib.hid (HMA.out.trans m2)
  have HB2 := Lib.hid (m2.heap HBX.out (by simp [blk, Value.ownBlock]; omega))
  clear T2 m2
  go_wp2_with fail
  refine D9.out.mono ?_
  rintro e w3 ⟨rfl, T3, m3⟩
  have D10 := Lib.hid (C10.out _ T3)
  have HM3 := Lib.hid (HM2.out.trans m3)
  have hb3 := m3.heap HB2.out (by simp [blk, Value.ownBlock]; omega)
  have x0 := cell_blk hb3 0
  have x1 := cell_blk hb3 1
  simp only [List.getElem?_toArray, List.getElem?_cons_succ, List.getElem?_cons_zero] at x0 x1
  clear T3 m3 hb3
  go_wp2_with fail
  refine D10.out.mono ?_
  rintro e w4 ⟨rfl, T4, m4⟩
  have HT4 := Lib.hid T4
  have HM4 := Lib.hid (HM3.out.trans m4)
  clear T4 m4
  go_wp2_with fail
  go_ret
  exact ⟨rfl, HT4.out, HM4.out⟩
end Go.Proofs.YtngglpekdjhbdaaGreat
