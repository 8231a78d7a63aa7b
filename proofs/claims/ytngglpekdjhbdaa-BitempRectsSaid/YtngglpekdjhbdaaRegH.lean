/- The plans of an either-or, over the region's own operations. -/
import Derived.Test.YtngglpekdjhbdaaRegG
namespace Go.Proofs.Ytngglpekdjhbdaa
set_option linter.unusedSimpArgs false
set_option linter.unusedVariables false
section
variable {P : Program} {l : List Oper} {Q : Exit → Act → World → Prop}
theorem opN_waits (k i j : Nat) : ∃ X, opN (waits l k i) j = { opN l j with after := X } := by
  unfold opN
  rw [List.getD_eq_getElem?_getD, List.getD_eq_getElem?_getD, waits_get]
  cases l[j]? with
  | none => exact ⟨(default : Oper).after, rfl⟩
  | some o =>
    simp only [Option.map_some, Option.getD_some]
    split
    · exact ⟨_, rfl⟩
    · exact ⟨o.after, rfl⟩
theorem wpList_waits (k i : Nat) (Q : Exit → Act → World → Prop) : ∀ is : List Nat, wpList P (waits l k i).toArray Q (opsOf (waits l k i) is) = wpList P l.toArray Q (opsOf l is)
  | [] => rfl
  | j :: is => by
    funext a w
    obtain ⟨X, h⟩ := opN_waits (l := l) k i j
    simp only [opsOf, List.map_cons, wpList]
    have ih := wpList_waits k i Q is
    simp only [opsOf] at ih
    rw [ih, h, waits_yielded]
    rfl
theorem again_waits (k i : Nat) (cs : List Nat) (a : Act) (w : World) : Again P (waits l k i) cs a w = Again P l cs a w := by
  unfold Again
  apply propext
  constructor
  · intro h j hj hw
    obtain ⟨X, e⟩ := opN_waits (l := l) k i j
    have := h j hj
    rw [e, waits_yielded] at this
    exact this hw
  · intro h j hj hw
    obtain ⟨X, e⟩ := opN_waits (l := l) k i j
    rw [e, waits_yielded] at hw
    rw [e]
    exact h j hj hw
theorem wpSegs_waits (k i : Nat) (K : Act → World → Prop) (last : List Nat) : ∀ segs : List (List Nat × Nat × List Nat), wpSegs P (waits l k i) K last segs = wpSegs P l K last segs
  | [] => by
    funext a w
    simp only [wpSegs, wpList_waits]
  | (pre, x, cs) :: rest => by
    funext a w
    have h1 := fun Q => wpList_waits (P := P) (l := l) k i Q [x]
    simp only [opsOf, List.map_cons, List.map_nil] at h1
    simp only [wpSegs, wpList_waits, wpSegs_waits k i K last rest, h1, again_waits]
theorem sched_plan1 {k i : Nat} (segs : List (List Nat × Nat × List Nat)) (last : List Nat) {a : Act} {w : World} (hok : planOk P (waits l k i) segs last = true) (h : wpSegs P l (fun a w => Q .normal a w) last segs a w) : Sched P (waits l k i) Q a w :=
  sched_plan segs last hok (by rw [wpSegs_waits]; exact h)
theorem sched_plan2 {k i k2 i2 : Nat} (segs : List (List Nat × Nat × List Nat)) (last : List Nat) {a : Act} {w : World} (hok : planOk P (waits (waits l k i) k2 i2) segs last = true) (h : wpSegs P l (fun a w => Q .normal a w) last segs a w) : Sched P (waits (waits l k i) k2 i2) Q a w :=
  sched_plan segs last hok (by rw [wpSegs_waits, wpSegs_waits]; exact h)
end
end Go.Proofs.Ytngglpekdjhbdaa
