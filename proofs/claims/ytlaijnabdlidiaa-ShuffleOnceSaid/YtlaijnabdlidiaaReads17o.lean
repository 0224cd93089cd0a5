/- How items, numbers and bools read, with their sizes. -/
import Derived.Test.YtlaijnabdlidiaaOpen2
import Derived.Test.YtlaijnabdlidiaaLaw17c
namespace Go.Proofs.Ytlaijnabdlidiaa
open Go.RowKit Go.ChangeShapes Go.WideShapes Go.Deep
set_option linter.unusedVariables false

section
variable {H : Type} (enc : TypeId × Value → H) (w : World)
theorem rd2_item : Reads2 enc Try.prog w 26 Itm.cells (fun _ => True) (fun _ => 1) :=
  (reads2_struct Try.underlying26 (by kernel_rfl)
    (reads2_f1 (reads2_int Try.underlying3) rfl (by kernel_rfl) (reads2_f1 (reads2_int Try.underlying3) rfl (by kernel_rfl) (reads2_fnil _)))).map
    (fun p => ⟨p.1, p.2.1⟩) (fun _ => rfl) (fun _ _ => trivial) (fun _ => by omega)
theorem rd2_items : Reads2 enc Try.prog w 29 (fun s : Value × List Itm => [s.1]) (fun s => Sl w w.heap.size s.1 2 s.2.length (its s.2) ∧ s.2.length * 16 ≤ 140737488351232 ∧ ∀ a ∈ s.2, True) (fun s => (s.2.map fun _ => 1).sum + 1) :=
  reads2_slice (E := Itm.cells) Try.underlying29 (by kernel_rfl) (by kernel_rfl) Itm.cells2 (by omega) (rd2_item enc w)
theorem rd2_ints : Reads2 enc Try.prog w 44 (fun s : Value × List Int => [s.1]) (fun s => Sl w w.heap.size s.1 1 s.2.length (sIt s.2) ∧ s.2.length * 8 ≤ 140737488351232 ∧ ∀ n ∈ s.2, (Lit.int .i64 n).wf = true) (fun s => (s.2.map fun _ => 1).sum + 1) :=
  reads2_slice (E := fun n : Int => [.int .i64 n]) Try.underlying44 (by kernel_rfl) (by kernel_rfl) (fun _ => rfl) (by omega) (reads2_int Try.underlying3)
theorem rd2_bools : Reads2 enc Try.prog w 45 (fun s : Value × List Bool => [s.1]) (fun s => Sl w w.heap.size s.1 1 s.2.length (sBo s.2) ∧ s.2.length * 1 ≤ 140737488351232 ∧ ∀ n ∈ s.2, True) (fun s => (s.2.map fun _ => 1).sum + 1) :=
  reads2_slice (E := fun n : Bool => [.bool n]) Try.underlying45 (by kernel_rfl) (by kernel_rfl) (fun _ => rfl) (by omega) (reads2_bool Try.underlying4)
end
end Go.Proofs.Ytlaijnabdlidiaa
