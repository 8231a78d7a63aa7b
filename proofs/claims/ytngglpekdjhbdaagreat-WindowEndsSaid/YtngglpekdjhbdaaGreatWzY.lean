/- Layer 11: Put. -/
import Derived.Test.YtngglpekdjhbdaaGreatWzV
namespace Go.Proofs.YtngglpekdjhbdaaGreat
open Go.RowKit Go.ChangeMaps Go.Deep Tr
set_option linter.unusedSimpArgs false
set_option linter.unusedVariables false
set_option maxRecDepth 20000

def sg (e : It × Int) : Sg := ⟨e.1.f, e.1.t, e.2⟩
theorem frm_snoc (a v : Int) (X : List Sg) (e : Sg) : frm a v (X ++ [e]) = if e.v = v then min (frm a v X) e.f else frm a v X := by simp [frm]
theorem too_snoc (a v : Int) (X : List Sg) (e : Sg) : too a v (X ++ [e]) = if e.v = v then max (too a v X) e.t else too a v X := by simp [too]
theorem take_pieces_len {a b v : Int} {XS : List Sg} (hX : ∀ e ∈ XS, a ≤ e.t ∧ e.f ≤ b) (hd : XS.Pairwise dis) (j : Nat) : ((XS.take j).flatMap (pieces a b v)).length ≤ 2 := by
  exact pieces_len (fun e he => hX e (List.mem_of_mem_take he)) (List.Pairwise.sublist (List.take_sublist _ _) hd)
theorem laidE.len {E E' : List (It × Int)} {f t v : Int} (h : laidE E f t v E') : E'.length ≤ E.length + 1 := by
  rcases h with ⟨_, _, id, rfl⟩ | ⟨_, rfl⟩
  · simp
  · omega
theorem laid_two {F F1 F2 : List (It × Int)} {f t a b v xv : Int} (hv0 : xv ≠ 0) (hvv : xv ≠ v) (h1 : laidE F f (min t a) xv F1) (h2 : laidE F1 (max f b) t xv F2) : ∃ Q, F2 = Q ++ F ∧ (Q.map sg).Perm (pieces a b v ⟨f, t, xv⟩) := by
  unfold pieces
  rw [if_neg (show ¬ xv = v from hvv)]
  dsimp only
  rcases h1 with ⟨c1, _, i1, rfl⟩ | ⟨c1, rfl⟩ <;> rcases h2 with ⟨c2, _, i2, rfl⟩ | ⟨c2, rfl⟩
  · refine ⟨[(⟨max f b, t, i2⟩, xv), (⟨f, min t a, i1⟩, xv)], rfl, ?_⟩
    rw [if_pos c1, if_pos c2]
    exact List.Perm.swap _ _ _
  · refine ⟨[(⟨f, min t a, i1⟩, xv)], rfl, ?_⟩
    rw [if_pos c1, if_neg (fun h => c2 ⟨h, hv0⟩)]
    exact List.Perm.refl _
  · refine ⟨[(⟨max f b, t, i2⟩, xv)], rfl, ?_⟩
    rw [if_neg (fun h => c1 ⟨h, hv0⟩), if_pos c2]
    exact List.Perm.refl _
  · refine ⟨[], rfl, ?_⟩
    rw [if_neg (fun h => c1 ⟨h, hv0⟩), if_neg (fun h => c2 ⟨h, hv0⟩)]
    exact List.Perm.refl _
end Go.Proofs.YtngglpekdjhbdaaGreat
