/- How the arguments of the laws of layer 9 read. -/
import Derived.Test.YtkidpikocggppaaOpen
import Derived.Test.YtkidpikocggppaaLaw09e

namespace Go.Proofs.Ytkidpikocggppaa
open Go.RowKit Go.ChangeShapes Go.WideShapes Go.Deep
set_option linter.unusedVariables false

section
variable {H : Type} (enc : TypeId × Value → H) (w : World)
theorem rd_try : Reads1 enc Try.prog w 28 Tr.cells (fun _ => True) :=
  (reads_struct Try.underlying28 (by kernel_rfl)
    (reads_f1 (reads_int Try.underlying3) rfl (by kernel_rfl) (reads_f1 (reads_bool Try.underlying4) rfl (by kernel_rfl) (reads_fnil _)))).map
    (fun p => ⟨p.1, p.2.1⟩) (fun _ => rfl) (fun _ _ => trivial)
theorem rd_tries : Reads1 enc Try.prog w 22 (fun s : Value × List Tr => [s.1]) (fun s => Sl w w.heap.size s.1 2 s.2.length (trs s.2)) :=
  (reads_slice Try.underlying22 (by kernel_rfl) Tr.cells2 (by omega) (rd_try enc w)).map id (fun _ => rfl) (fun _ h => h.1)
end
end Go.Proofs.Ytkidpikocggppaa
