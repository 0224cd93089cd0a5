/- WindowTexts at its arguments. -/
import Derived.Test.YtbnppocaeflghaaDoorReads07
import Derived.Test.YtbnppocaeflghaaDoorTexts
import Derived.Test.YtbnppocaeflghaaDoorRows
import Derived.MakeChecks
import Derived.Stop.LaidErr
namespace Go.Proofs.YtbnppocaeflghaaDoor
open Go.RowKit Go.ChangeShapes Go.WideShapes Go.Deep
set_option linter.unusedVariables false
theorem i64_in {n : Int} (h : I64 n) : -9223372036854775808 ≤ n ∧ n ≤ 9223372036854775807 := by
  simpa [I64, Lit.wf, IntKind.min, IntKind.max, IntKind.signed, IntKind.bits] using h
theorem tab_of (w : World) (hL : laidMetH Tryd.prog Rows.windowTextsRow.laid w) : Tab10 w := by
  rw [MakeChecks.laidMetH_plain _ _ _ (by kernel_rfl)] at hL
  have h3 := (laidMet.tail (laidMet.tail hL))
  exact Lib.tabIs_of_head (g := 0) (n := 20) (by kernel_rfl) (by kernel_rfl) Tryd.underlying108 Tryd.underlying90 (by kernel_rfl) (by kernel_rfl) h3
theorem texts_walk (a b : Win) (w : World) (h : I64 a.f ∧ I64 a.t) (h2 : I64 b.f ∧ I64 b.t) (hL : laidMetH Tryd.prog Rows.windowTextsRow.laid w) :
    Calls Tryd.prog 6 #[.agg a.cells.toArray, .agg b.cells.toArray] w fun e w' => e = .returned (.bool true) ∧ Below w.heap.size w w' :=
  texts_any a.f a.t b.f b.t (i64_in h.1).1 (i64_in h.1).2 (i64_in h.2).1 (i64_in h.2).2 (i64_in h2.1).1 (i64_in h2.1).2 (i64_in h2.2).1 (i64_in h2.2).2 w (tab_of w hL)
end Go.Proofs.YtbnppocaeflghaaDoor
