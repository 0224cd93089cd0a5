/- window.Check. -/
import Derived.Test.YtkobaidamdffmaaOrd
namespace Go.Proofs.Ytkobaidamdffmaa
open Go.RowKit Go.Sort
set_option linter.unusedVariables false
set_option linter.unusedSimpArgs false

def Win.good (p : Win) : Prop := -1048576 ≤ p.f ∧ p.f < p.t ∧ p.t ≤ 2097153
instance (p : Win) : Decidable p.good := by unfold Win.good; exact inferInstance
def Win.stamp (p : Win) : Int := if p.t - 1 > 1048576 then 1048576 else p.t - 1

set_option maxHeartbeats 4000000 in
theorem wcheck_any (f t : Int) (w : World) : Calls Try.prog 61 #[.agg #[.int .i64 f, .int .i64 t]] w fun e w' => e = .returned (.int .i64 (if (Win.mk f t).good then 0 else 70)) ∧ Below w.heap.size w w' := by
  obtain ⟨r, hr⟩ : ∃ r : Int, r = if (Win.mk f t).good then 0 else 70 := ⟨_, rfl⟩
  rw [← hr]
  have HR := hide hr
  clear hr
  have hc : f < -1048576 ∨ (¬ f < -1048576 ∧ t ≤ f) ∨ (¬ f < -1048576 ∧ ¬ t ≤ f ∧ 2097153 < t) ∨ (¬ f < -1048576 ∧ ¬ t ≤ f ∧ ¬ 2097153 < t) := by omega
  rcases hc with h1 | ⟨h1, h2⟩ | ⟨h1, h2, h3⟩ | ⟨h1, h2, h3⟩
  all_goals
    go_enter Try.func61, Try.ntmps61
    go_wp2_with fail
    go_ret
    refine ⟨?_, (Below.refl _ _).alloc (Nat.le_refl _) _⟩
    refine congrArg (fun b => Ending.returned (Value.int .i64 b)) (?_ : _ = r)
    rw [HR.out]
    first
      | (rw [if_neg (by unfold Win.good; simp only; omega)])
      | (rw [if_pos (by unfold Win.good; simp only; omega)])

end Go.Proofs.Ytkobaidamdffmaa
