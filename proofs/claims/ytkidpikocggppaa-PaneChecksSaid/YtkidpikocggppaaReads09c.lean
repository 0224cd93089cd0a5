/- How the arguments of PaneChecks read. -/
import Derived.Test.YtkidpikocggppaaOpen
import Derived.Test.YtkidpikocggppaaLaw09c
namespace Go.Proofs.Ytkidpikocggppaa
open Go.RowKit Go.ChangeShapes Go.WideShapes Go.Deep
set_option linter.unusedVariables false

section
variable {H : Type} (enc : TypeId × Value → H) (w : World)
theorem rd_info : Reads1 enc Try.prog w 31 Inf.cells (fun _ => True) :=
  (reads_struct Try.underlying31 (by kernel_rfl)
    (reads_f1 (reads_int Try.underlying3) rfl (by kernel_rfl) (reads_f1 (reads_int Try.underlying3) rfl (by kernel_rfl) (reads_f1 (reads_bool Try.underlying4) rfl (by kernel_rfl) (reads_fnil _))))).map
    (fun p => ⟨p.1, p.2.1, p.2.2.1⟩) (fun _ => rfl) (fun _ _ => trivial)
theorem rd_infos : Reads1 enc Try.prog w 39 (fun s : Value × List Inf => [s.1]) (fun s => Sl w w.heap.size s.1 3 s.2.length (infs s.2)) :=
  (reads_slice Try.underlying39 (by kernel_rfl) Inf.cells3 (by omega) (rd_info enc w)).map id (fun _ => rfl) (fun _ h => h.1)
end
theorem checks_walk (z : Value × List Inf) (w : World) (h : Sl w w.heap.size z.1 3 z.2.length (infs z.2)) :
    Calls Try.prog 5 #[z.1] w fun e w' => e = .returned (.bool true) ∧ Below w.heap.size w w' := checks_any z.1 z.2 _ w h rfl
end Go.Proofs.Ytkidpikocggppaa
