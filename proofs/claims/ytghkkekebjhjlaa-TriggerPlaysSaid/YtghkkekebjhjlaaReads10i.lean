/- TriggerPlays, its arguments opened. -/
import Derived.Test.YtghkkekebjhjlaaReads10d
import Derived.Test.YtghkkekebjhjlaaLaw10i
namespace Go.Proofs.Ytghkkekebjhjlaa
open Go.RowKit
set_option linter.unusedVariables false
theorem plays_walk (s : Spc) (z : Value × List Op10) (w : World) (h0 : True) (h : Sl w w.heap.size z.1 3 z.2.length (ops10 z.2) ∧ z.2.length * 24 ≤ 140737488351232) :
    Calls Try.prog 6 #[.agg s.cells.toArray, z.1] w fun e w' => e = .returned (.bool true) ∧ Below w.heap.size w w' := by
  cases hs : s.ok
  · exact plays_bad s z.1 w hs
  · exact plays_ok s z.1 z.2 _ w hs h.1 rfl h.2
end Go.Proofs.Ytghkkekebjhjlaa
