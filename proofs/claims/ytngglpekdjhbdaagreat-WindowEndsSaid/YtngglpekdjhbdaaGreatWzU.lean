/- Layer 11: lay, at a place that was free. -/
import Derived.Test.YtngglpekdjhbdaaGreatWzT
import Derived.Test.YtngglpekdjhbdaaGreatWzO
namespace Go.Proofs.YtngglpekdjhbdaaGreat
open Go.RowKit Go.ChangeMaps Go.Deep Tr
set_option linter.unusedSimpArgs false
set_option linter.unusedVariables false
set_option maxRecDepth 20000

end Go.Proofs.YtngglpekdjhbdaaGreat
namespace Go.Proofs.YtngglpekdjhbdaaGreat
open Go.RowKit Go.ChangeMaps Go.Deep Tr
set_option linter.unusedSimpArgs false
set_option linter.unusedVariables false
set_option maxRecDepth 20000

end Go.Proofs.YtngglpekdjhbdaaGreat
namespace Go.Proofs.YtngglpekdjhbdaaGreat
open Go.RowKit Go.ChangeMaps Go.Deep Tr
set_option linter.unusedSimpArgs false
set_option linter.unusedVariables false
set_option maxRecDepth 20000

/-- what lay does to the segments -/
def laidE (E : List (It × Int)) (f t v : Int) (E' : List (It × Int)) : Prop := (f < t ∧ v ≠ 0 ∧ ∃ id, E' = (⟨f, t, id⟩, v) :: E) ∨ (¬ (f < t ∧ v ≠ 0) ∧ E' = E)
end Go.Proofs.YtngglpekdjhbdaaGreat
