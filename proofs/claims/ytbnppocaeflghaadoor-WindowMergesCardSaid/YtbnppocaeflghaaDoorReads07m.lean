/- WindowMerges at its argument. -/
import Derived.Test.YtbnppocaeflghaaDoorReads07
import Derived.Test.YtbnppocaeflghaaDoorMerges
namespace Go.Proofs.YtbnppocaeflghaaDoor
open Go.RowKit Go.ChangeShapes Go.WideShapes Go.Deep
set_option linter.unusedVariables false
theorem rd_winsm {H : Type} (enc : TypeId × Value → H) (w : World) : Reads1 enc Tryd.prog w 28 (fun s : Value × List Win => [s.1]) (fun s => Sl w w.heap.size s.1 2 s.2.length (wins s.2)) :=
  (reads_slice (sz := 2) (E := Win.cells) Tryd.underlying28 (by kernel_rfl) (fun _ => rfl) (by omega) (rd_win enc w)).map id (fun _ => rfl) (fun _ h => h.1)
theorem merges_walk (z : Value × List Win) (w : World) (h : Sl w w.heap.size z.1 2 z.2.length (wins z.2)) :
    Calls Tryd.prog 4 #[z.1] w fun e w' => e = .returned (.bool true) ∧ Below w.heap.size w w' := merges_any z.1 z.2 z.2.length w.heap.size w h rfl (Nat.le_refl _)
end Go.Proofs.YtbnppocaeflghaaDoor
