/- WindowSides at its arguments. -/
import Derived.Test.YtbnppocaeflghaaDoorReads07
import Derived.Test.YtbnppocaeflghaaDoorSides
namespace Go.Proofs.YtbnppocaeflghaaDoor
open Go.RowKit
set_option linter.unusedVariables false
theorem sides_walk (f : Wfn) (p : Win) (w : World) (h : I64 f.k ∧ I64 f.s ∧ I64 f.p ∧ I64 f.o) (hp : I64 p.f ∧ I64 p.t) :
    Calls Tryd.prog 9 #[.agg f.cells.toArray, .agg p.cells.toArray] w fun e w' => e = .returned (.bool true) ∧ Below w.heap.size w w' := sides_any f p.f p.t w
end Go.Proofs.YtbnppocaeflghaaDoor
