/- CellsCounts at its arguments. -/
import Derived.Test.YtkobaidamdffmaaLaw15b
import Derived.Test.YtkobaidamdffmaaReads15
namespace Go.Proofs.Ytkobaidamdffmaa
open Go.RowKit Go.ChangeShapes Go.WideShapes Go.Deep
set_option linter.unusedVariables false
set_option linter.unusedSimpArgs false

theorem counts15_walk (z : Value × List RC) (w : World) (h : Sl w w.heap.size z.1 10 z.2.length (rcs z.2) ∧ z.2.length * 104 ≤ 140737488351232 ∧ ∀ x ∈ z.2, RCQ w x) :
    Calls Try.prog 4 #[z.1] w fun e w' => e = .returned (.bool true) ∧ Below w.heap.size w w' := counts15_ok z.1 z.2 w h.1 h.2.2

end Go.Proofs.Ytkobaidamdffmaa
