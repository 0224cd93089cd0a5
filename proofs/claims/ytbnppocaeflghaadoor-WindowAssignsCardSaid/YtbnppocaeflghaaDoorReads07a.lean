/- WindowAssigns at its arguments. -/
import Derived.Test.YtbnppocaeflghaaDoorReads07
import Derived.Test.YtbnppocaeflghaaDoorAssigns
namespace Go.Proofs.YtbnppocaeflghaaDoor
open Go.RowKit
set_option linter.unusedVariables false
theorem assigns_walk (f : Wfn) (t : Int) (w : World) (h : I64 f.k ∧ I64 f.s ∧ I64 f.p ∧ I64 f.o) (ht : (Lit.int .i64 t).wf = true) :
    Calls Tryd.prog 5 #[.agg f.cells.toArray, .int .i64 t] w fun e w' => e = .returned (.bool true) ∧ Below w.heap.size w w' := assigns_any f t w
end Go.Proofs.YtbnppocaeflghaaDoor
