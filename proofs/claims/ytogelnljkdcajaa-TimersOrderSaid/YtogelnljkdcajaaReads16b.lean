/- TimersOrder at its arguments. -/
import Derived.Test.YtogelnljkdcajaaLaw16e
import Derived.Test.YtogelnljkdcajaaReads16
namespace Go.Proofs.Ytogelnljkdcajaa
open Go.RowKit Go.ChangeShapes Go.WideShapes Go.Deep
set_option linter.unusedVariables false
set_option linter.unusedSimpArgs false

section
variable {H : Type} (enc : TypeId × Value → H) (w : World)
theorem rd2_ints : Reads2 enc Try.prog w 45 (fun s : Value × List Int => [s.1]) (fun s => Sl w w.heap.size s.1 1 s.2.length (ins s.2) ∧ s.2.length * 8 ≤ 140737488351232) (fun s => s.2.length + 1) :=
  (reads2_slice (sz := 1) (by_ := 8) (E := fun n : Int => [.int .i64 n]) Try.underlying45 (by kernel_rfl) (by kernel_rfl) (fun _ => rfl) (by omega) (reads2_int Try.underlying3)).map id (fun _ => rfl) (fun _ h => ⟨h.1, h.2.1⟩) (fun s => by rw [ones_sum]; exact Nat.le_refl _)
end
theorem order16_walk (z : Value × List TV) (s : Value × List Int) (w : World) (h : Sl w w.heap.size z.1 5 z.2.length (tms z.2) ∧ z.2.length * 56 ≤ 140737488351232 ∧ ∀ x ∈ z.2, TmQ w x) (k : Sl w w.heap.size s.1 1 s.2.length (ins s.2) ∧ s.2.length * 8 ≤ 140737488351232) :
    Calls Try.prog 4 #[z.1, s.1] w fun e w' => e = .returned (.bool true) ∧ Below w.heap.size w w' := order16_ok z.1 z.2 s.1 s.2 w h.1 h.2.2 k.1 k.2

end Go.Proofs.Ytogelnljkdcajaa
