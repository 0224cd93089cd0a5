/- CellsApart at its arguments. -/
import Derived.Test.YtkobaidamdffmaaLaw15a
import Derived.Test.YtkobaidamdffmaaReads15
namespace Go.Proofs.Ytkobaidamdffmaa
open Go.RowKit Go.ChangeShapes Go.WideShapes Go.Deep
set_option linter.unusedVariables false
set_option linter.unusedSimpArgs false

theorem apart15_walk (z : Value × List RC) (o : Op15) (w : World) (h : Sl w w.heap.size z.1 10 z.2.length (rcs z.2) ∧ z.2.length * 104 ≤ 140737488351232 ∧ ∀ x ∈ z.2, RCQ w x) (ho : RCQ w o.x) :
    Calls Try.prog 3 #[z.1, .agg o.cells.toArray] w fun e w' => e = .returned (.bool true) ∧ Below w.heap.size w w' := apart15_ok z.1 z.2 o.k o.x w h.1 h.2.2 ho

end Go.Proofs.Ytkobaidamdffmaa
