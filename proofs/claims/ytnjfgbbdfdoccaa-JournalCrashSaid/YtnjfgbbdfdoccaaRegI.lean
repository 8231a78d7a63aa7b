/- Regions whose writing operations are not ordered: plans behind three and more choices. -/
import Derived.Test.YtnjfgbbdfdoccaaRegH
namespace Go.Proofs.Ytnjfgbbdfdoccaa
open Go.RowKit Go.ChangeMaps
set_option linter.unusedSimpArgs false
set_option linter.unusedVariables false
section
variable {P : Program} {l : List Oper} {Q : Exit → Act → World → Prop}
theorem sched_plan3 {k1 i1 k2 i2 k3 i3 : Nat} (segs : List (List Nat × Nat × List Nat)) (last : List Nat) {a : Act} {w : World} (hok : planOk P (waits (waits (waits l k1 i1) k2 i2) k3 i3) segs last = true) (h : wpSegs P l (fun a w => Q .normal a w) last segs a w) : Sched P (waits (waits (waits l k1 i1) k2 i2) k3 i3) Q a w :=
  sched_plan segs last hok (by rw [wpSegs_waits, wpSegs_waits, wpSegs_waits]; exact h)
theorem sched_plan4 {k1 i1 k2 i2 k3 i3 k4 i4 : Nat} (segs : List (List Nat × Nat × List Nat)) (last : List Nat) {a : Act} {w : World} (hok : planOk P (waits (waits (waits (waits l k1 i1) k2 i2) k3 i3) k4 i4) segs last = true) (h : wpSegs P l (fun a w => Q .normal a w) last segs a w) : Sched P (waits (waits (waits (waits l k1 i1) k2 i2) k3 i3) k4 i4) Q a w :=
  sched_plan segs last hok (by rw [wpSegs_waits, wpSegs_waits, wpSegs_waits, wpSegs_waits]; exact h)
theorem sched_plan5 {k1 i1 k2 i2 k3 i3 k4 i4 k5 i5 : Nat} (segs : List (List Nat × Nat × List Nat)) (last : List Nat) {a : Act} {w : World} (hok : planOk P (waits (waits (waits (waits (waits l k1 i1) k2 i2) k3 i3) k4 i4) k5 i5) segs last = true) (h : wpSegs P l (fun a w => Q .normal a w) last segs a w) : Sched P (waits (waits (waits (waits (waits l k1 i1) k2 i2) k3 i3) k4 i4) k5 i5) Q a w :=
  sched_plan segs last hok (by rw [wpSegs_waits, wpSegs_waits, wpSegs_waits, wpSegs_waits, wpSegs_waits]; exact h)
theorem sched_plan6 {k1 i1 k2 i2 k3 i3 k4 i4 k5 i5 k6 i6 : Nat} (segs : List (List Nat × Nat × List Nat)) (last : List Nat) {a : Act} {w : World} (hok : planOk P (waits (waits (waits (waits (waits (waits l k1 i1) k2 i2) k3 i3) k4 i4) k5 i5) k6 i6) segs last = true) (h : wpSegs P l (fun a w => Q .normal a w) last segs a w) : Sched P (waits (waits (waits (waits (waits (waits l k1 i1) k2 i2) k3 i3) k4 i4) k5 i5) k6 i6) Q a w :=
  sched_plan segs last hok (by rw [wpSegs_waits, wpSegs_waits, wpSegs_waits, wpSegs_waits, wpSegs_waits, wpSegs_waits]; exact h)
end
end Go.Proofs.Ytnjfgbbdfdoccaa
