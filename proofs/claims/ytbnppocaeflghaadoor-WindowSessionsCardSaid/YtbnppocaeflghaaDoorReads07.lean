/- How the arguments of the laws of layer 7 read. -/
import Derived.Test.YtbnppocaeflghaaDoorOpen
import Derived.Test.YtbnppocaeflghaaDoorAwk07
namespace Go.Proofs.YtbnppocaeflghaaDoor
open Go.RowKit Go.ChangeShapes Go.WideShapes Go.Deep
set_option linter.unusedVariables false
set_option linter.unusedSimpArgs false

def I64 (n : Int) : Prop := (Lit.int .i64 n).wf = true
def Wfn.cells (f : Wfn) : List Value := [.int .i64 f.k, .int .i64 f.s, .int .i64 f.p, .int .i64 f.o]
structure Til where
  s : Int
  o : Int
  t : Int
  u : Int
def Til.cells (f : Til) : List Value := [.int .i64 f.s, .int .i64 f.o, .int .i64 f.t, .int .i64 f.u]
section
variable {H : Type} (enc : TypeId × Value → H) (w : World)
theorem rd_fn : Reads1 enc Tryd.prog w 24 Wfn.cells (fun f => I64 f.k ∧ I64 f.s ∧ I64 f.p ∧ I64 f.o) :=
  (reads_struct Tryd.underlying24 (by kernel_rfl)
    (reads_f1 (reads_int Tryd.underlying3) rfl (by kernel_rfl) (reads_f1 (reads_int Tryd.underlying3) rfl (by kernel_rfl) (reads_f1 (reads_int Tryd.underlying3) rfl (by kernel_rfl) (reads_f1 (reads_int Tryd.underlying3) rfl (by kernel_rfl) (reads_fnil _)))))).map
    (fun p => ⟨p.1, p.2.1, p.2.2.1, p.2.2.2.1⟩) (fun _ => rfl) (fun _ h => ⟨h.1, h.2.1, h.2.2.1, h.2.2.2.1⟩)
theorem rd_til : Reads1 enc Tryd.prog w 57 Til.cells (fun f => I64 f.s ∧ I64 f.o ∧ I64 f.t ∧ I64 f.u) :=
  (reads_struct Tryd.underlying57 (by kernel_rfl)
    (reads_f1 (reads_int Tryd.underlying3) rfl (by kernel_rfl) (reads_f1 (reads_int Tryd.underlying3) rfl (by kernel_rfl) (reads_f1 (reads_int Tryd.underlying3) rfl (by kernel_rfl) (reads_f1 (reads_int Tryd.underlying3) rfl (by kernel_rfl) (reads_fnil _)))))).map
    (fun p => ⟨p.1, p.2.1, p.2.2.1, p.2.2.2.1⟩) (fun _ => rfl) (fun _ h => ⟨h.1, h.2.1, h.2.2.1, h.2.2.2.1⟩)
theorem rd_win : Reads1 enc Tryd.prog w wT Win.cells (fun f => I64 f.f ∧ I64 f.t) :=
  (reads_struct Tryd.underlying33 (by kernel_rfl)
    (reads_f1 (reads_int Tryd.underlying3) rfl (by kernel_rfl) (reads_f1 (reads_int Tryd.underlying3) rfl (by kernel_rfl) (reads_fnil _)))).map
    (fun p => ⟨p.1, p.2.1⟩) (fun _ => rfl) (fun _ h => ⟨h.1, h.2.1⟩)
end

end Go.Proofs.YtbnppocaeflghaaDoor
