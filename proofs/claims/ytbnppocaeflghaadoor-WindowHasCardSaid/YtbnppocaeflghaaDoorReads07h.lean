/- WindowHas at its arguments. -/
import Derived.Test.YtbnppocaeflghaaDoorReads07
import Derived.Test.YtbnppocaeflghaaDoorHas
namespace Go.Proofs.YtbnppocaeflghaaDoor
open Go.RowKit
set_option linter.unusedVariables false
theorem has_walk (f : Wfn) (t u : Int) (w : World) (h : I64 f.k ∧ I64 f.s ∧ I64 f.p ∧ I64 f.o) (ht : (Lit.int .i64 t).wf = true) (hu : (Lit.int .i64 u).wf = true) :
    Calls Tryd.prog 10 #[.agg f.cells.toArray, .int .i64 t, .int .i64 u] w fun e w' => e = .returned (.bool true) ∧ Below w.heap.size w w' := has_any f t u w
end Go.Proofs.YtbnppocaeflghaaDoor
