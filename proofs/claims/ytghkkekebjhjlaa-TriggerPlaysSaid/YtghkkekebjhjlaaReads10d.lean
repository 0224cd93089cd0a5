/- How the arguments of the laws of layer 10 read. -/
import Derived.Test.YtghkkekebjhjlaaOpen2
import Derived.Test.YtghkkekebjhjlaaLaw10d
namespace Go.Proofs.Ytghkkekebjhjlaa
open Go.RowKit Go.ChangeShapes Go.WideShapes Go.Deep
set_option linter.unusedVariables false

section
variable {H : Type} (enc : TypeId × Value → H) (w : World)
theorem rd2_spec : Reads2 enc Try.prog w 28 Spc.cells (fun _ => True) (fun _ => 1) :=
  (reads2_struct Try.underlying28 (by kernel_rfl)
    (reads2_f1 (reads2_int Try.underlying3) rfl (by kernel_rfl) (reads2_f1 (reads2_int Try.underlying3) rfl (by kernel_rfl) (reads2_f1 (reads2_int Try.underlying3) rfl (by kernel_rfl) (reads2_f1 (reads2_bool Try.underlying4) rfl (by kernel_rfl) (reads2_fnil _)))))).map
    (fun p => ⟨p.1, p.2.1, p.2.2.1, p.2.2.2.1⟩) (fun _ => rfl) (fun _ _ => trivial) (fun _ => by omega)
theorem rd2_op10 : Reads2 enc Try.prog w 52 Op10.cells (fun _ => True) (fun _ => 1) :=
  (reads2_struct Try.underlying52 (by kernel_rfl)
    (reads2_f1 (reads2_int Try.underlying3) rfl (by kernel_rfl) (reads2_f1 (reads2_int Try.underlying3) rfl (by kernel_rfl) (reads2_f1 (reads2_bool Try.underlying4) rfl (by kernel_rfl) (reads2_fnil _))))).map
    (fun p => ⟨p.1, p.2.1, p.2.2.1⟩) (fun _ => rfl) (fun _ _ => trivial) (fun _ => by omega)
theorem rd2_script10 : Reads2 enc Try.prog w 43 (fun s : Value × List Op10 => [s.1]) (fun s => Sl w w.heap.size s.1 3 s.2.length (ops10 s.2) ∧ s.2.length * 24 ≤ 140737488351232) (fun _ => 1) :=
  (reads2_slice (E := Op10.cells) Try.underlying43 (by kernel_rfl) (by kernel_rfl) Op10.cells3 (by omega) (rd2_op10 enc w)).map id (fun _ => rfl) (fun _ h => ⟨h.1, h.2.1⟩) (fun s => by omega)
end
theorem panes_walk (s : Spc) (z : Value × List Op10) (w : World) (h0 : True) (h : Sl w w.heap.size z.1 3 z.2.length (ops10 z.2) ∧ z.2.length * 24 ≤ 140737488351232) :
    Calls Try.prog 7 #[.agg s.cells.toArray, z.1] w fun e w' => e = .returned (.bool true) ∧ Below w.heap.size w w' := by
  cases hs : s.ok
  · exact panes_bad s z.1 w hs
  · exact panes_ok s z.1 z.2 _ w hs h.1 rfl h.2
end Go.Proofs.Ytghkkekebjhjlaa
