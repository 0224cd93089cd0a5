/- How the arguments of JournalPlays read. -/
import Derived.Test.YtlllocfcljgacaaLaw18f
import Derived.Test.YtlllocfcljgacaaReads18b
namespace Go.Proofs.Ytlllocfcljgacaa
open Go.RowKit Go.ChangeShapes Go.WideShapes Go.Deep
set_option linter.unusedVariables false
set_option linter.unusedSimpArgs false

/-- a script as an argument -/
def ScriptQ (w : World) (z : Value × List Op18) : Prop := Sl w w.heap.size z.1 3 z.2.length (ops18 z.2) ∧ ∀ o ∈ z.2, RecsQ w o.z
def bulkS (S : List Op18) : Nat := (S.map fun o => bulkR o.z.2).sum
theorem totS_bulk (S : List Op18) : totS S ≤ 9 * bulkS S := by
  induction S with
  | nil => simp [totS]
  | cons o S ih =>
    have h1 : totS (o :: S) = totB o.z.2 + totS S := by simp [totS]
    have h2 : bulkS (o :: S) = bulkR o.z.2 + bulkS S := by simp [bulkS]
    have h3 := totB_bulk o.z.2
    omega
section
variable {H : Type} (enc : TypeId × Value → H) (w : World)
theorem rd2_op18 : Reads2 enc Try.prog w 50 Op18.cells (fun o => RecsQ w o.z) (fun o => bulkR o.z.2) :=
  (reads2_struct Try.underlying50 (by kernel_rfl)
    (reads2_f1 (reads2_int Try.underlying3) rfl (by kernel_rfl) (reads2_f1 (reads2_int Try.underlying3) rfl (by kernel_rfl) (reads2_f1 (rd2_recs enc w) rfl (by kernel_rfl) (reads2_fnil _))))).map
    (fun p => ⟨p.1, p.2.1, p.2.2.1⟩) (fun _ => rfl) (fun _ h => h.2.2.1) (fun _ => by simp only; omega)
theorem rd2_script18 : Reads2 enc Try.prog w 48 (fun s : Value × List Op18 => [s.1]) (ScriptQ w) (fun s => bulkS s.2) :=
  (reads2_slice (sz := 3) (by_ := 40) (E := Op18.cells) Try.underlying48 (by kernel_rfl) (by kernel_rfl) (fun _ => rfl) (by omega) (rd2_op18 enc w)).map id (fun _ => rfl) (fun _ h => ⟨h.1, h.2.2⟩) (fun s => by show bulkS s.2 ≤ _; unfold bulkS; omega)
end

end Go.Proofs.Ytlllocfcljgacaa
