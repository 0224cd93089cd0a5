/- How the arguments of JournalLoads read. -/
import Derived.Test.YtlllocfcljgacaaLaw18e
import Derived.Test.YtlllocfcljgacaaReads18
namespace Go.Proofs.Ytlllocfcljgacaa
open Go.RowKit Go.ChangeShapes Go.WideShapes Go.Deep
set_option linter.unusedVariables false
set_option linter.unusedSimpArgs false

theorem loads_walk (cap : Int) (z : Rec) (w : World) (h1 : (Lit.int .i64 cap).wf = true) (h : BytesQ w z) :
    Calls Try.prog 5 #[.int .i64 cap, z.1] w fun e w' => e = .returned (.bool true) ∧ Below w.heap.size w w' :=
  loads_any cap z.1 z.2 _ w h.1 h.2.2 (Nat.le_refl _)

end Go.Proofs.Ytlllocfcljgacaa
