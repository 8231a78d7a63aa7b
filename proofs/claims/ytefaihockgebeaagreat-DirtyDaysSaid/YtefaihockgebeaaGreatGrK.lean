/- Graph: links sorted by To and Back, each To once. -/
import Derived.Test.YtefaihockgebeaaGreatSpK
import Derived.Test.YtefaihockgebeaaGreatGrJ
namespace Go.Proofs.YtefaihockgebeaaGreat
open Go.RowKit Go.ChangeMaps Go.Deep Go.Shelf Go.Sort
set_option linter.unusedSimpArgs false
set_option linter.unusedVariables false
set_option maxRecDepth 20000

def cmpL (x y : Sp) : Int := orI (Lib.compareInt x.1 y.1) (Lib.compareInt y.2 x.2)
theorem lt_link (x y : Sp) : ltOf cmpL x y = decide (x.1 < y.1 ∨ (x.1 = y.1 ∧ y.2 < x.2)) := by
  unfold ltOf cmpL orI Lib.compareInt
  by_cases h1 : x.1 < y.1
  · simp [h1]
  · by_cases h2 : y.1 < x.1
    · have : ¬ x.1 = y.1 := by omega
      simp [h1, h2, this]
    · have : x.1 = y.1 := by omega
      by_cases h3 : y.2 < x.2
      · simp [this, h3]
      · by_cases h4 : x.2 < y.2 <;> simp [this, h3, h4]
theorem swo_link : SWO (ltOf cmpL) where
  irrefl x := by rw [lt_link]; simp
  trans x y z h1 h2 := by rw [lt_link] at *; simp at *; omega
  ntrans x y z h1 h2 := by rw [lt_link] at *; simp at *; omega
set_option maxHeartbeats 1000000 in
theorem grOnce1_any (x y : Sp) (W : World) : Calls Tryz.prog 29 #[.agg #[.int .i64 x.1, .int .i64 x.2], .agg #[.int .i64 y.1, .int .i64 y.2]] W fun e w' => e = .returned (.int .i64 (cmpL x y)) ∧ ∃ q os', w' = grow (W.drewN q) os' := by
  have HC1 := Lib.hid (fun W' => Tryz.cmp_Compare_int x.1 y.1 W')
  have HC2 := Lib.hid (fun W' => Tryz.cmp_Compare_int y.2 x.2 W')
  have HR := Lib.hid (show cmpL x y = orI (Lib.compareInt x.1 y.1) (Lib.compareInt y.2 x.2) from rfl)
  generalize Lib.compareInt x.1 y.1 = r1 at HC1 HR
  generalize Lib.compareInt y.2 x.2 = r2 at HC2 HR
  go_enter Tryz.func29, Tryz.ntmps29
  go_wp2_with fail
  refine wp_plan [([0, 2, 5, 7, 1, 3, 6, 8], 4, [5, 7, 6, 8]), ([], 9, []), ([], 10, []), ([], 11, [])] [12] (by kernel_rfl) (by kernel_rfl) ?_
  simp only [wpSegs, opsOf, List.map_cons, List.map_nil, opN, List.getD_cons_zero, List.getD_cons_succ]
  go_wp2_with fail
  refine ⟨by first | trivial | rfl, ?_⟩
  go_wp2_with fail
  refine (HC1.out _).mono ?_
  rintro e w1 ⟨rfl, rfl⟩
  go_wp2_with fail
  refine ⟨?ag1, ?_⟩
  case ag1 =>
    intro i hi hw
    simp only [List.mem_cons, List.not_mem_nil, or_false] at hi
    rcases hi with rfl | rfl | rfl | rfl
    all_goals (simp only [opN, List.getD_cons_zero, List.getD_cons_succ, slotOf]; go_simp)
  go_wp2_with fail
  refine ⟨by first | trivial | rfl, ?_⟩
  go_wp2_with fail
  refine (HC2.out _).mono ?_
  rintro e w1 ⟨rfl, rfl⟩
  go_wp2_with fail
  refine ⟨again_nil, ?_⟩
  go_wp2_with fail
  refine ⟨by first | trivial | rfl, ?_⟩
  go_wp2_with fail
  refine ⟨again_nil, ?_⟩
  go_wp2_with fail
  refine ⟨by first | trivial | rfl, ?_⟩
  go_wp2_with fail
  refine (cmpOr_any _ r1 r2 _ (by
    have h := heap_alloc_new ((W.alloc (.cells #[.int .i64 x.1, .int .i64 x.2] 41)).alloc (.cells #[.int .i64 y.1, .int .i64 y.2] 41)) (.cells #[.int .i64 r1, .int .i64 r2] 3)
    have e : ((W.alloc (.cells #[.int .i64 x.1, .int .i64 x.2] 41)).alloc (.cells #[.int .i64 y.1, .int .i64 y.2] 41)).heap.size = W.heap.size + 1 + 1 := by simp
    rw [e] at h
    exact h)).mono ?_
  rintro e w1 ⟨rfl, rfl⟩
  go_wp2_with fail
  refine ⟨again_nil, ?_⟩
  go_wp2_with fail
  refine ⟨by first | trivial | rfl, ?_⟩
  go_wp2_with fail
  go_ret
  refine ⟨by rw [HR.out]; rfl, 1, #[.cells #[.int .i64 x.1, .int .i64 x.2] 41, .cells #[.int .i64 y.1, .int .i64 y.2] 41, .cells #[.int .i64 r1, .int .i64 r2] 3], ?_⟩
  rw [alloc_eq_grow, alloc_eq_grow, alloc_eq_grow, grow_grow, grow_grow]
  rfl
theorem cmpLays_link (blk off size : Nat) (w : World) : CmpLays Tryz.prog 29 #[] encS 2 cmpL blk off size w :=
  fun _ _ _ _ x y => grOnce1_any x y _
theorem sortLink_any (v : Value) (l : List Sp) (w : World) (base : Nat) (h : OwnL w base v l) (hl : l.length ≤ 1000000) :
    Calls Tryz.prog 28 #[v, .func (.func 29) #[] #[]] w fun e w' => e = .returned (.tuple #[]) ∧ ∃ l', l.Perm l' ∧ Sorted2 l' ∧ OwnL w' base v l' ∧ Mod (blk v) w w' := by
  rcases h.form with ⟨rfl, rfl⟩ | ⟨g, cap, rfl, hb, hg, hc⟩
  · refine (AnyF.slices_SortFunc_none Tryz.sortLink none 0 (.func (.func 29) #[] #[]) w).mono ?_
    rintro e w' ⟨rfl, rfl⟩
    exact ⟨rfl, [], .refl _, by simp [Sorted2], h, Mod.refl _ _⟩
  · have eg : ∀ args w, (callFunc 29 args).run Tryz.prog w = .ok (.enter 29 args) w := enters_of Tryz.func29 (by kernel_rfl) rfl
    have hcon := AnyQ.slices_SortFunc Tryz.sortLink 2 Tryz.isAgg41 Tryz.sizeOf41 encS encS_len encS_one cmpL swo_link 29 #[] g 0 cap l.toArray w eg (cmpLays_link g 0 _ w) (h.holds encS_len) hg (by simp; omega)
    refine Calls.mono (show Calls Tryz.prog 28 #[.slice (some ⟨g, 0, none⟩) l.length cap, .func (.func 29) #[] #[]] w _ from hcon) ?_
    rintro e w' ⟨rfl, d', n, os, hp, hs, rfl⟩
    obtain ⟨hp1, hp2⟩ := perm_of hp
    refine ⟨rfl, d'.toList, hp1, ?_, h.sorted encS_len n d' os hp2, mod_sorted w g n d' os⟩
    have := pairwise_of (d := d') (lt := ltOf cmpL) (by rw [hp2]; simpa using hs)
    exact this.imp fun {x y} h => by
      rw [lt_link] at h
      simp at h
      omega
/-- links, each once -/
theorem grOnce_any (v : Value) (l : List Sp) (w : World) (h : SpansAt w v l) (hl : l.length ≤ 1000000) :
    Calls Tryz.prog 17 #[v] w fun e w' => ∃ v' R, e = .returned v' ∧ OwnL w' w.heap.size v' R ∧ Mod [] w w' ∧ IsOnce l R ∧ R.length ≤ l.length := by
  have HC := Lib.hid (cloneLink_any v l w h (by omega))
  clear h
  go_enter Tryz.func17, Tryz.ntmps17
  go_wp2_with fail
  refine HC.out.mono ?_
  rintro e w1 ⟨v1, rfl, o1, m1⟩
  have HO1 := Lib.hid o1
  have HM1 := Lib.hid m1
  have HS := Lib.hid (sortLink_any v1 l w1 w.heap.size o1 (by omega))
  clear o1 m1 HC
  go_wp2_with fail
  refine HS.out.mono ?_
  rintro e w2 ⟨rfl, l', hp, hu, o2, m2⟩
  have HP := Lib.hid hp
  have HU := Lib.hid hu
  have HM2 := Lib.hid ((show Grew w1 v1 w2 v1 from ⟨m2, .inl rfl⟩).intoNil HO1.out (Nat.le_refl _) HM1.out)
  have hll : l'.length = l.length := hp.length_eq.symm
  have HK := Lib.hid (compactLink_any v1 l' w2 w.heap.size o2 (by omega))
  have HLL := Lib.hid hll
  have HO2 := Lib.hid o2
  clear hp hu o2 m2 HS hll HO1 HM1
  go_wp2_with fail
  refine HK.out.mono ?_
  rintro e w3 ⟨v3, rfl, o3, m3, e3⟩
  have HO3 := Lib.hid o3
  have HM3 := Lib.hid ((show Grew w2 v1 w3 v3 from ⟨m3, .inl e3⟩).intoNil HO2.out (Nat.le_refl _) HM2.out)
  clear o3 m3 e3 HK
  go_wp2_with fail
  go_ret
  exact ⟨_, _, rfl, HO3.out, HM3.out, (cutUp_once HU.out).perm HP.out, by have := cutUp_len l' l'.length; have := HLL.out; omega⟩
end Go.Proofs.YtefaihockgebeaaGreat
