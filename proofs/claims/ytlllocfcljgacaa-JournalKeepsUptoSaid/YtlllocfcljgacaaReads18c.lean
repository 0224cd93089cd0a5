/- How the argument of JournalKeeps reads. -/
import Derived.Test.YtlllocfcljgacaaLaw18d
import Derived.Test.YtlllocfcljgacaaReads18b
namespace Go.Proofs.Ytlllocfcljgacaa
open Go.RowKit Go.ChangeShapes Go.WideShapes Go.Deep
set_option linter.unusedVariables false
set_option linter.unusedSimpArgs false

structure Los where
  a : Value × List Rec
  b : Value × List Rec
  k : Int
  m : Rec
def Los.cells (z : Los) : List Value := [z.a.1, z.b.1, .int .i64 z.k, z.m.1]
section
variable {H : Type} (enc : TypeId × Value → H) (w : World)
theorem rd2_loss : Reads2 enc Try.prog w 45 Los.cells (fun z => RecsQ w z.a ∧ RecsQ w z.b ∧ BytesQ w z.m) (fun z => bulkR z.a.2 + bulkR z.b.2 + z.m.2.length) :=
  (reads2_struct Try.underlying45 (by kernel_rfl)
    (reads2_f1 (rd2_recs enc w) rfl (by kernel_rfl) (reads2_f1 (rd2_recs enc w) rfl (by kernel_rfl) (reads2_f1 (reads2_int Try.underlying3) rfl (by kernel_rfl) (reads2_f1 (rd2_bytes enc w) rfl (by kernel_rfl) (reads2_fnil _)))))).map
    (fun p => ⟨p.1, p.2.1, p.2.2.1, p.2.2.2.1⟩) (fun _ => rfl) (fun _ h => ⟨h.1, h.2.1, h.2.2.2.1⟩) (fun _ => by simp only; omega)
end
theorem keeps_walk (z : Los) (w : World) (h : RecsQ w z.a ∧ RecsQ w z.b ∧ BytesQ w z.m) (hk : bulkR z.a.2 + bulkR z.b.2 + z.m.2.length ≤ 1048576) :
    Calls Try.prog 6 #[.agg z.cells.toArray] w fun e w' => e = .returned (.bool true) ∧ Below w.heap.size w w' :=
  keeps_any z.a.1 z.b.1 z.m.1 z.a.2 z.b.2 z.k z.m.2 _ w h.1.1 h.2.1.1 h.2.2.1 (by have := totB_bulk z.a.2; have := totB_bulk z.b.2; omega) (fun r hr => (h.1.2.2 r hr).2) (fun r hr => (h.2.1.2.2 r hr).2) h.2.2.2.2 (Nat.le_refl _)

end Go.Proofs.Ytlllocfcljgacaa
