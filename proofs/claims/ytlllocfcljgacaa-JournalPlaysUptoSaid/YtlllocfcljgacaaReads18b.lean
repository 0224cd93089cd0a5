/- How the arguments of JournalBreaks read. -/
import Derived.Test.YtlllocfcljgacaaLaw18c
import Derived.Test.YtlllocfcljgacaaReads18
namespace Go.Proofs.Ytlllocfcljgacaa
open Go.RowKit Go.ChangeShapes Go.WideShapes Go.Deep
set_option linter.unusedVariables false
set_option linter.unusedSimpArgs false

theorem totB_bulk (R : List Rec) : totB R ≤ 9 * bulkR R := by
  induction R with
  | nil => simp [totB]
  | cons r R ih =>
    have h1 : totB (r :: R) = r.2.length + 9 + totB R := by simp [totB]
    have h2 : bulkR (r :: R) = r.2.length + 1 + bulkR R := by simp [bulkR]
    omega
theorem breaks_walk (z : Value × List Rec) (turn cut : Int) (w : World) (h : RecsQ w z) (h1 : (Lit.int .i64 turn).wf = true) (h2 : (Lit.int .i64 cut).wf = true) (hk : bulkR z.2 ≤ 1048576) :
    Calls Try.prog 4 #[z.1, .int .i64 turn, .int .i64 cut] w fun e w' => e = .returned (.bool true) ∧ Below w.heap.size w w' :=
  breaks_any z.1 z.2 turn cut _ w h.1 (by have := totB_bulk z.2; omega) (fun r hr => (h.2.2 r hr).2) (Nat.le_refl _)

end Go.Proofs.Ytlllocfcljgacaa
