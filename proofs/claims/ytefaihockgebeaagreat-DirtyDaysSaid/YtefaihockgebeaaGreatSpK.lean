/- Spans: sorted; Of. -/
import Derived.Test.YtefaihockgebeaaGreatSpJ
import Derived.Test.YtefaihockgebeaaGreatRow2
import Derived.Test.YtefaihockgebeaaGreatShelf
namespace Go.Proofs.YtefaihockgebeaaGreat
open Go.RowKit Go.ChangeMaps Go.Deep Go.Shelf Go.Sort
set_option linter.unusedSimpArgs false
set_option linter.unusedVariables false
set_option maxRecDepth 20000

theorem spOf1_any (x y : Sp) (W : World) : Calls Tryz.prog 43 #[.agg #[.int .i64 x.1, .int .i64 x.2], .agg #[.int .i64 y.1, .int .i64 y.2]] W fun e w' => e = .returned (.int .i64 (Lib.compareInt x.1 y.1)) ∧ ∃ q os', w' = grow (W.drewN q) os' := by
  have hcon := fun W' => Tryz.cmp_Compare_int x.1 y.1 W'
  generalize Lib.compareInt x.1 y.1 = r at hcon ⊢
  go_enter Tryz.func43, Tryz.ntmps43
  go_wp2_with (go_at_call 31; refine (hcon _).mono ?_; rintro e w' ⟨rfl, rfl⟩)
  go_ret
  exact ⟨rfl, 0, _, by rw [alloc_eq_grow, alloc_eq_grow, grow_grow]; rfl⟩
theorem cmpLays_span (blk off size : Nat) (w : World) : CmpLays Tryz.prog 43 #[] encS 2 (fun x y : Sp => Lib.compareInt x.1 y.1) blk off size w :=
  fun _ _ _ _ x y => spOf1_any x y _
theorem lt_span (x y : Sp) : ltOf (fun x y : Sp => Lib.compareInt x.1 y.1) x y = decide (x.1 < y.1) := by
  unfold ltOf Lib.compareInt
  by_cases h1 : x.1 < y.1
  · simp [h1]
  · by_cases h2 : y.1 < x.1 <;> simp [h1, h2]
theorem swo_span : SWO (ltOf fun x y : Sp => Lib.compareInt x.1 y.1) where
  irrefl x := by rw [lt_span]; simp
  trans x y z h1 h2 := by rw [lt_span] at *; simp at *; omega
  ntrans x y z h1 h2 := by rw [lt_span] at *; simp at *; omega
theorem sortSpan_any (v : Value) (l : List Sp) (w : World) (base : Nat) (h : OwnS w base v l) (hl : l.length ≤ 1000000) :
    Calls Tryz.prog 42 #[v, .func (.func 43) #[] #[]] w fun e w' => e = .returned (.tuple #[]) ∧ ∃ l', l.Perm l' ∧ Up l' ∧ OwnS w' base v l' ∧ Mod (blk v) w w' := by
  rcases h.form with ⟨rfl, rfl⟩ | ⟨g, cap, rfl, hb, hg, hc⟩
  · refine (AnyF.slices_SortFunc_none Tryz.sortSpan none 0 (.func (.func 43) #[] #[]) w).mono ?_
    rintro e w' ⟨rfl, rfl⟩
    exact ⟨rfl, [], .refl _, by simp [Up], h, Mod.refl _ _⟩
  · have eg : ∀ args w, (callFunc 43 args).run Tryz.prog w = .ok (.enter 43 args) w := enters_of Tryz.func43 (by kernel_rfl) rfl
    have hcon := AnyQ.slices_SortFunc Tryz.sortSpan 2 Tryz.isAgg45 Tryz.sizeOf45 encS encS_len encS_one (fun x y : Sp => Lib.compareInt x.1 y.1) swo_span 43 #[] g 0 cap l.toArray w eg (cmpLays_span g 0 _ w) (h.holds encS_len) hg (by simp; omega)
    refine Calls.mono (show Calls Tryz.prog 42 #[.slice (some ⟨g, 0, none⟩) l.length cap, .func (.func 43) #[] #[]] w _ from hcon) ?_
    rintro e w' ⟨rfl, d', n, os, hp, hs, rfl⟩
    obtain ⟨hp1, hp2⟩ := perm_of hp
    refine ⟨rfl, d'.toList, hp1, ?_, h.sorted encS_len n d' os hp2, mod_sorted w g n d' os⟩
    have := pairwise_of (d := d') (lt := ltOf fun x y : Sp => Lib.compareInt x.1 y.1) (by rw [hp2]; simpa using hs)
    exact this.imp fun {x y} h => by
      rw [lt_span] at h
      simp at h
      exact h
end Go.Proofs.YtefaihockgebeaaGreat
