/- WindowOne at its arguments. -/
import Derived.Test.YtbnppocaeflghaaDoorReads07
import Derived.Test.YtbnppocaeflghaaDoorOne
namespace Go.Proofs.YtbnppocaeflghaaDoor
open Go.RowKit Go.ChangeShapes Go.WideShapes Go.Deep
set_option linter.unusedVariables false
theorem rd_wins {H : Type} (enc : TypeId × Value → H) (w : World) : Reads1 enc Tryd.prog w 28 (fun s : Value × List Win => [s.1]) (fun s => Sl w w.heap.size s.1 2 s.2.length (wins s.2)) :=
  (reads_slice (sz := 2) (E := Win.cells) Tryd.underlying28 (by kernel_rfl) (fun _ => rfl) (by omega) (rd_win enc w)).map id (fun _ => rfl) (fun _ h => h.1)
theorem one_walk (z : Value × List Win) (t : Int) (w : World) (h : Sl w w.heap.size z.1 2 z.2.length (wins z.2)) (ht : (Lit.int .i64 t).wf = true) :
    Calls Tryd.prog 11 #[z.1, .int .i64 t] w fun e w' => e = .returned (.bool true) ∧ Below w.heap.size w w' := one_any z.1 z.2 z.2.length w.heap.size t w h rfl (Nat.le_refl _)
end Go.Proofs.YtbnppocaeflghaaDoor
