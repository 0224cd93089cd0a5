/- WindowTiles at its argument. -/
import Derived.Test.YtbnppocaeflghaaDoorReads07
import Derived.Test.YtbnppocaeflghaaDoorTile
namespace Go.Proofs.YtbnppocaeflghaaDoor
open Go.RowKit
set_option linter.unusedVariables false
theorem tiles_walk (z : Til) (w : World) (h : I64 z.s ∧ I64 z.o ∧ I64 z.t ∧ I64 z.u) :
    Calls Tryd.prog 7 #[.agg z.cells.toArray] w fun e w' => e = .returned (.bool true) ∧ Below w.heap.size w w' := tiles_any z.s z.o z.t z.u w
end Go.Proofs.YtbnppocaeflghaaDoor
