/- JournalPlays at its arguments. -/
import Derived.Test.YtlllocfcljgacaaLaw18g
import Derived.Test.YtlllocfcljgacaaReads18p
namespace Go.Proofs.Ytlllocfcljgacaa
open Go.RowKit
set_option linter.unusedVariables false

theorem plays_walk (cap : Int) (z : Value × List Op18) (w : World) (h1 : (Lit.int .i64 cap).wf = true) (h : ScriptQ w z) (hk : bulkS z.2 ≤ 1048576) :
    Calls Try.prog 7 #[.int .i64 cap, z.1] w fun e w' => e = .returned (.bool true) ∧ Below w.heap.size w w' :=
  plays_any cap z.1 z.2 z.2.length _ w h.1 rfl (fun o ho => (h.2 o ho).1) (by have := totS_bulk z.2; omega) (Nat.le_refl _) (fun o ho r hr => ((h.2 o ho).2.2 r hr).2)

end Go.Proofs.Ytlllocfcljgacaa
