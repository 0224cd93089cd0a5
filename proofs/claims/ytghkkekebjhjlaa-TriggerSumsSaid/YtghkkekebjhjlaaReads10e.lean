/- How the arguments of TriggerSums read. -/
import Derived.Test.YtghkkekebjhjlaaReads10d
import Derived.Test.YtghkkekebjhjlaaLaw10e
namespace Go.Proofs.Ytghkkekebjhjlaa
open Go.RowKit Go.ChangeShapes Go.WideShapes Go.Deep
set_option linter.unusedVariables false

section
variable {H : Type} (enc : TypeId × Value → H) (w : World)
theorem rd2_ints10 : Reads2 enc Try.prog w 36 (fun s : Value × List Int => [s.1]) (fun s => Sl w w.heap.size s.1 1 s.2.length (sInt s.2)) (fun _ => 1) :=
  Reads2.map (Q := fun s : Value × List Int => Sl w w.heap.size s.1 1 s.2.length (s.2.flatMap fun n : Int => [Value.int .i64 n]) ∧ s.2.length * 8 ≤ 140737488351232 ∧ ∀ a ∈ s.2, (Lit.int .i64 a).wf = true) (m := fun s => (s.2.map fun _ => 1).sum + 1)
    (reads2_slice (sz := 1) (by_ := 8) (E := fun n : Int => [.int .i64 n]) Try.underlying36 (by kernel_rfl) (by kernel_rfl) (fun _ => rfl) (by omega) (reads2_int Try.underlying3)) id (fun _ => rfl) (fun _ h => h.1) (fun s => by simp)
end
theorem sums_walk (s : Spc) (z : Value × List Int) (w : World) (h0 : True) (h : Sl w w.heap.size z.1 1 z.2.length (sInt z.2)) :
    Calls Try.prog 4 #[.agg s.cells.toArray, z.1] w fun e w' => e = .returned (.bool true) ∧ Below w.heap.size w w' := by
  cases hs : (⟨0, s.l, s.t, s.a⟩ : Spc).ok
  · exact sums_bad s.e s.l s.t s.a z.1 w hs
  · exact sums_ok s.e s.l s.t s.a z.1 z.2 _ w hs h rfl
end Go.Proofs.Ytghkkekebjhjlaa
