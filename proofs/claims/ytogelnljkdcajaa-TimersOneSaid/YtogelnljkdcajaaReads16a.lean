/- TimersOne at its arguments. -/
import Derived.Test.YtogelnljkdcajaaLaw16b
import Derived.Test.YtogelnljkdcajaaReads16
namespace Go.Proofs.Ytogelnljkdcajaa
open Go.RowKit Go.ChangeShapes Go.WideShapes Go.Deep
set_option linter.unusedVariables false
set_option linter.unusedSimpArgs false

theorem one16_walk (x y : TV) (z : Value × List TV) (w : World) (hx : TmQ w x) (hy : TmQ w y) (h : Sl w w.heap.size z.1 5 z.2.length (tms z.2) ∧ z.2.length * 56 ≤ 140737488351232 ∧ ∀ x ∈ z.2, TmQ w x) :
    Calls Try.prog 3 #[.agg x.cells.toArray, .agg y.cells.toArray, z.1] w fun e w' => e = .returned (.bool true) ∧ Below w.heap.size w w' := one16_ok x y z.1 z.2 w hx hy h.1 h.2.2

end Go.Proofs.Ytogelnljkdcajaa
