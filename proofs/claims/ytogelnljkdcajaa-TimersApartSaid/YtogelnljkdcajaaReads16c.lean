/- TimersApart at its arguments. -/
import Derived.Test.YtogelnljkdcajaaLaw16f
import Derived.Test.YtogelnljkdcajaaReads16
namespace Go.Proofs.Ytogelnljkdcajaa
open Go.RowKit Go.ChangeShapes Go.WideShapes Go.Deep
set_option linter.unusedVariables false
set_option linter.unusedSimpArgs false

theorem apart16_walk {p q : Prop} (z : Value × List TV) (a b : Int) (w : World) (h : Sl w w.heap.size z.1 5 z.2.length (tms z.2) ∧ z.2.length * 56 ≤ 140737488351232 ∧ ∀ x ∈ z.2, TmQ w x) (_ : p) (_ : q) :
    Calls Try.prog 5 #[z.1, .int .i64 a, .int .i64 b] w fun e w' => e = .returned (.bool true) ∧ Below w.heap.size w w' := apart16_ok z.1 z.2 a b w h.1 h.2.2

end Go.Proofs.Ytogelnljkdcajaa
