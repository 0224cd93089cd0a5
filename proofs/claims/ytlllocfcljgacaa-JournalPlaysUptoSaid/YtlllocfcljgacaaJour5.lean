/- Append. -/
import Derived.Test.YtlllocfcljgacaaJour4
import Derived.Deep.QuietTactic
import Derived.BigQuiet
namespace Go.Proofs.Ytlllocfcljgacaa
open Go.RowKit
set_option linter.unusedVariables false
set_option linter.unusedSimpArgs false

theorem tyN : SlTy Try.prog 56 nT 1 8 (.int .i64 0) := ⟨Try.underlying56, info_parts (by kernel_rfl), rfl, by omega⟩
theorem nums_ok (D : List Int) : ∀ u ∈ nums D, u.oneCell' = true := by
  intro u hu
  simp only [nums, List.mem_flatMap, List.mem_singleton] at hu
  obtain ⟨c, _, rfl⟩ := hu
  rfl
def frames (R : List Rec) : List Int := R.flatMap fun r => frameB r.2
def endsB (o : Nat) : List Rec → List Int
  | [] => []
  | r :: R => ((o + (frameB r.2).length : Nat) : Int) :: endsB (o + (frameB r.2).length) R
theorem endsB_snoc : ∀ (R : List Rec) (o : Nat) (r : Rec), endsB o (R ++ [r]) = endsB o R ++ [((o + (frames R).length + (frameB r.2).length : Nat) : Int)]
  | [], o, r => by simp [endsB, frames]
  | q :: R, o, r => by
    rw [List.cons_append, endsB, endsB, endsB_snoc R]
    simp [frames]
    omega
theorem endsB_len : ∀ (R : List Rec) (o : Nat), (endsB o R).length = R.length
  | [], o => rfl
  | q :: R, o => by rw [endsB, List.length_cons, endsB_len R]; rfl
theorem frameB_len (D : List Int) (h : D.length ≤ 1048576) : (frameB D).length ≤ D.length + 7 := by
  have := cntB_len D.length (by omega)
  simp [frameB, tailB]
  omega
theorem frames_snoc (R : List Rec) (k : Nat) (hk : k < R.length) : frames (R.take (k + 1)) = frames (R.take k) ++ frameB R[k].2 := by
  rw [List.take_succ_eq_append_getElem hk, frames, List.flatMap_append]
  simp [frames]

end Go.Proofs.Ytlllocfcljgacaa
