/- ShufflePlays at its argument. -/
import Derived.Test.YtlaijnabdlidiaaLaw17e
import Derived.Test.YtlaijnabdlidiaaReads17d
namespace Go.Proofs.Ytlaijnabdlidiaa
open Go.RowKit
set_option linter.unusedVariables false

theorem plays17_walk (z : Value × List SOp) (w : World) (h : Sl w w.heap.size z.1 3 z.2.length (sops z.2) ∧ z.2.length * 40 ≤ 140737488351232 ∧ ∀ o ∈ z.2, Sl w w.heap.size o.v 2 o.it.length (its o.it)) (hb : tot z.2 ≤ 1048576) :
    Calls Try.prog 6 #[z.1] w fun e w' => e = .returned (.bool true) ∧ Below w.heap.size w w' := plays17_ok z.1 z.2 w h.1 h.2.2 hb

end Go.Proofs.Ytlaijnabdlidiaa
