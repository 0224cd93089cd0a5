/- How a script of ShuffleAll reads, with its sizes. -/
import Derived.Test.YtlaijnabdlidiaaOpen2
import Derived.Test.YtlaijnabdlidiaaLaw17d
namespace Go.Proofs.Ytlaijnabdlidiaa
open Go.RowKit Go.ChangeShapes Go.WideShapes Go.Deep
set_option linter.unusedVariables false

theorem ones_sum {α : Type} (l : List α) : (l.map fun _ => 1).sum = l.length := by
  induction l with
  | nil => rfl
  | cons x l ih => rw [List.map_cons, List.sum_cons, ih, List.length_cons]; omega
section
variable {H : Type} (enc : TypeId × Value → H) (w : World)
theorem rd2_itemd : Reads2 enc Try.prog w 26 Itm.cells (fun _ => True) (fun _ => 1) :=
  (reads2_struct Try.underlying26 (by kernel_rfl)
    (reads2_f1 (reads2_int Try.underlying3) rfl (by kernel_rfl) (reads2_f1 (reads2_int Try.underlying3) rfl (by kernel_rfl) (reads2_fnil _)))).map
    (fun p => ⟨p.1, p.2.1⟩) (fun _ => rfl) (fun _ _ => trivial) (fun _ => by omega)
theorem rd2_itemsd : Reads2 enc Try.prog w 29 (fun s : Value × List Itm => [s.1]) (fun s => Sl w w.heap.size s.1 2 s.2.length (its s.2) ∧ s.2.length * 16 ≤ 140737488351232 ∧ ∀ a ∈ s.2, True) (fun s => s.2.length) :=
  (reads2_slice (E := Itm.cells) Try.underlying29 (by kernel_rfl) (by kernel_rfl) Itm.cells2 (by omega) (rd2_itemd enc w)).map id (fun _ => rfl) (fun _ h => h) (fun s => by rw [ones_sum]; simp)
theorem rd2_op : Reads2 enc Try.prog w 31 SOp.cells (fun o => Sl w w.heap.size o.v 2 o.it.length (its o.it)) (fun o => o.it.length) :=
  (reads2_struct Try.underlying31 (by kernel_rfl)
    (reads2_f1 (reads2_int Try.underlying3) rfl (by kernel_rfl) (reads2_f1 (reads2_int Try.underlying3) rfl (by kernel_rfl) (reads2_f1 (rd2_itemsd enc w) rfl (by kernel_rfl) (reads2_fnil _))))).map
    (fun p => ⟨p.1, p.2.1, p.2.2.1.1, p.2.2.1.2⟩) (fun _ => rfl) (fun _ h => h.2.2.1.1) (fun p => by show p.2.2.1.2.length ≤ _; omega)
theorem rd2_script : Reads2 enc Try.prog w 22 (fun s : Value × List SOp => [s.1]) (fun s => Sl w w.heap.size s.1 3 s.2.length (sops s.2) ∧ s.2.length * 40 ≤ 140737488351232 ∧ ∀ o ∈ s.2, Sl w w.heap.size o.v 2 o.it.length (its o.it)) (fun s => tot s.2) :=
  (reads2_slice (E := SOp.cells) Try.underlying22 (by kernel_rfl) (by kernel_rfl) SOp.cells3 (by omega) (rd2_op enc w)).map id (fun _ => rfl) (fun _ h => h) (fun s => by simp [tot])
end
end Go.Proofs.Ytlaijnabdlidiaa
