/- How the arguments of the laws of layer 16 read. -/
import Derived.Test.YtogelnljkdcajaaLaw16c
import Derived.Test.YtogelnljkdcajaaOpen2
namespace Go.Proofs.Ytogelnljkdcajaa
open Go.RowKit Go.ChangeShapes Go.WideShapes Go.Deep
set_option linter.unusedVariables false
set_option linter.unusedSimpArgs false

theorem ones_sum {α : Type} (l : List α) : (l.map fun _ => 1).sum = l.length := by
  induction l with
  | nil => rfl
  | cons x l ih => rw [List.map_cons, List.sum_cons, ih, List.length_cons]; omega
section
variable {H : Type} (enc : TypeId × Value → H) (w : World)
theorem rd2_bytes : Reads2 enc Try.prog w 22 (fun r : Value × List Int => [r.1]) (fun r => Sl w w.heap.size r.1 1 r.2.length (bys r.2) ∧ r.2.length ≤ 140737488351232 ∧ Bytes8 r.2) (fun r => r.2.length + 1) :=
  Reads2.map (Q := fun s : Value × List Int => Sl w w.heap.size s.1 1 s.2.length (s.2.flatMap fun n : Int => [Value.int .u8 n]) ∧ s.2.length * 1 ≤ 140737488351232 ∧ ∀ a ∈ s.2, (Lit.int .u8 a).wf = true) (m := fun s => (s.2.map fun _ => 1).sum + 1)
    (reads2_slice (sz := 1) (by_ := 1) (E := fun n : Int => [.int .u8 n]) Try.underlying22 (by kernel_rfl) (by kernel_rfl) (fun _ => rfl) (by omega) (reads2_int (by kernel_rfl))) id (fun _ => rfl)
    (fun s h => ⟨h.1, by have := h.2.1; show s.2.length ≤ _; omega, fun c hc => by
      have h9 := h.2.2 c hc
      simpa [Lit.wf, IntKind.min, IntKind.max, IntKind.signed, IntKind.bits] using h9⟩) (fun s => by rw [ones_sum]; exact Nat.le_refl _)
theorem rd2_win : Reads2 enc Try.prog w 24 Win.cells (fun _ => True) (fun _ => 1) :=
  (reads2_struct Try.underlying24 (by kernel_rfl)
    (reads2_f1 (reads2_int Try.underlying3) rfl (by kernel_rfl) (reads2_f1 (reads2_int Try.underlying3) rfl (by kernel_rfl) (reads2_fnil _)))).map
    (fun p => ⟨p.1, p.2.1⟩) (fun _ => rfl) (fun _ _ => trivial) (fun _ => by omega)
theorem rd2_tm : Reads2 enc Try.prog w 26 TV.cells (TmQ w) (fun x => x.kb.length + 1) :=
  (reads2_struct Try.underlying26 (by kernel_rfl)
    (reads2_f1 (reads2_int Try.underlying3) rfl (by kernel_rfl) (reads2_f1 (rd2_bytes enc w) rfl (by kernel_rfl) (reads2_fcons (n := 2) (rd2_win enc w) rfl (by kernel_rfl) (reads2_f1 (reads2_int Try.underlying3) rfl (by kernel_rfl) (reads2_fnil _)))))).map
    (fun p => ⟨p.1, p.2.1.1, p.2.1.2, p.2.2.1.f, p.2.2.1.t, p.2.2.2.1⟩) (fun _ => rfl) (fun _ h => ⟨⟨h.2.1.1, h.2.1.2.2⟩, Nat.le_trans h.2.1.2.1 (by decide)⟩) (fun p => by show p.2.1.2.length + 1 ≤ _; omega)
theorem rd2_tms : Reads2 enc Try.prog w 27 (fun s : Value × List TV => [s.1]) (fun s => Sl w w.heap.size s.1 5 s.2.length (tms s.2) ∧ s.2.length * 56 ≤ 140737488351232 ∧ ∀ x ∈ s.2, TmQ w x) (fun s => (s.2.map fun x => x.kb.length + 1).sum + 1) :=
  (reads2_slice (E := TV.cells) Try.underlying27 (by kernel_rfl) (by kernel_rfl) TV.cells5 (by omega) (rd2_tm enc w)).map id (fun _ => rfl) (fun _ h => h) (fun s => Nat.le_refl _)
end

end Go.Proofs.Ytogelnljkdcajaa
