/- How items read. -/
import Derived.Test.YtlaijnabdlidiaaOpen
import Derived.Test.YtlaijnabdlidiaaQueue
namespace Go.Proofs.Ytlaijnabdlidiaa
open Go.RowKit Go.ChangeShapes Go.WideShapes Go.Deep
set_option linter.unusedVariables false

section
variable {H : Type} (enc : TypeId × Value → H) (w : World)
theorem rd_item : Reads1 enc Try.prog w 26 Itm.cells (fun _ => True) :=
  (reads_struct Try.underlying26 (by kernel_rfl)
    (reads_f1 (reads_int Try.underlying3) rfl (by kernel_rfl) (reads_f1 (reads_int Try.underlying3) rfl (by kernel_rfl) (reads_fnil _)))).map
    (fun p => ⟨p.1, p.2.1⟩) (fun _ => rfl) (fun _ _ => trivial)
theorem rd_items : Reads1 enc Try.prog w 29 (fun s : Value × List Itm => [s.1]) (fun s => Sl w w.heap.size s.1 2 s.2.length (its s.2)) :=
  (reads_slice Try.underlying29 (by kernel_rfl) Itm.cells2 (by omega) (rd_item enc w)).map id (fun _ => rfl) (fun _ h => h.1)
theorem rd_ints : Reads1 enc Try.prog w 44 (fun s : Value × List Int => [s.1]) (fun s => Sl w w.heap.size s.1 1 s.2.length (s.2.flatMap fun n => [.int .i64 n]) ∧ ∀ n ∈ s.2, (Lit.int .i64 n).wf = true) :=
  reads_slice (sz := 1) (E := fun n : Int => [.int .i64 n]) Try.underlying44 (by kernel_rfl) (fun _ => rfl) (by omega) (reads_int Try.underlying3)
theorem rd_bools : Reads1 enc Try.prog w 45 (fun s : Value × List Bool => [s.1]) (fun s => Sl w w.heap.size s.1 1 s.2.length (s.2.flatMap fun n => [.bool n])) :=
  (reads_slice (sz := 1) (E := fun n : Bool => [.bool n]) Try.underlying45 (by kernel_rfl) (fun _ => rfl) (by omega) (reads_bool Try.underlying4)).map id (fun _ => rfl) (fun _ h => h.1)
end
end Go.Proofs.Ytlaijnabdlidiaa
