/- Windows: Check, Stamp; the reference's Good, Stamp. -/
import Derived.Test.YtbnppocaeflghaaDoorRasg
namespace Go.Proofs.YtbnppocaeflghaaDoor
open Go.RowKit
set_option linter.unusedVariables false
set_option linter.unusedSimpArgs false

def Win.good (p : Win) : Prop := -1048576 ≤ p.f ∧ p.f < p.t ∧ p.t ≤ 2097153
instance (p : Win) : Decidable p.good := by unfold Win.good; exact inferInstance
def Win.stamp (p : Win) : Int := if p.t - 1 > 1048576 then 1048576 else p.t - 1

set_option maxHeartbeats 4000000 in
theorem wcheck_any (f t : Int) (w : World) : Calls Tryd.prog 19 #[.agg #[.int .i64 f, .int .i64 t]] w fun e w' => e = .returned (.int .i64 (if (Win.mk f t).good then 0 else 70)) ∧ Below w.heap.size w w' := by
  obtain ⟨r, hr⟩ : ∃ r : Int, r = if (Win.mk f t).good then 0 else 70 := ⟨_, rfl⟩
  rw [← hr]
  have HR := hide hr
  clear hr
  have hc : f < -1048576 ∨ (¬ f < -1048576 ∧ t ≤ f) ∨ (¬ f < -1048576 ∧ ¬ t ≤ f ∧ 2097153 < t) ∨ (¬ f < -1048576 ∧ ¬ t ≤ f ∧ ¬ 2097153 < t) := by omega
  rcases hc with h1 | ⟨h1, h2⟩ | ⟨h1, h2, h3⟩ | ⟨h1, h2, h3⟩
  all_goals
    go_enter Tryd.func19, Tryd.ntmps19
    go_wp2_with fail
    go_ret
    refine ⟨?_, (Below.refl _ _).alloc (Nat.le_refl _) _⟩
    refine congrArg (fun b => Ending.returned (Value.int .i64 b)) (?_ : _ = r)
    rw [HR.out]
    first
      | (rw [if_neg (by unfold Win.good; simp only; omega)])
      | (rw [if_pos (by unfold Win.good; simp only; omega)])

set_option maxHeartbeats 4000000 in
theorem wstamp_good (f t : Int) (w : World) (h : (Win.mk f t).good) : Calls Tryd.prog 18 #[.agg #[.int .i64 f, .int .i64 t]] w fun e w' => e = .returned (.tuple #[.int .i64 (Win.mk f t).stamp, .int .i64 0]) ∧ Below w.heap.size w w' := by
  have HG := hide h
  unfold Win.good at h
  simp only at h
  obtain ⟨g1, g2, g3⟩ := h
  obtain ⟨r, hr⟩ : ∃ r : Int, r = (Win.mk f t).stamp := ⟨_, rfl⟩
  rw [← hr]
  have HR := hide hr
  clear hr
  by_cases hc : t - 1 > 1048576
  all_goals
    go_enter Tryd.func18, Tryd.ntmps18
    go_wp2_with fail
    refine (wcheck_any f t _).mono ?_
    rw [if_pos HG.out]
    rintro e w2 ⟨rfl, hb⟩
    have hk := (Blk.new w wT #[.int .i64 f, .int .i64 t]).below hb (by simp)
    have c1 : w2.cell? ⟨w.heap.size, 1, none⟩ = some (.int .i64 t) := hk.cell 1
    have hlt := hk.lt
    have HB := hide (((Below.refl w.heap.size w).alloc (Nat.le_refl _) (.cells #[.int .i64 f, .int .i64 t] wT)).trans (hb.mono (by simp)))
    clear hb hk
    go_wp2_with fail
    go_ret2
    refine ⟨?_, HB.out⟩
    refine congrArg (fun b => Ending.returned (Value.tuple #[Value.int .i64 b, .int .i64 0])) (?_ : _ = r)
    rw [HR.out]
    unfold Win.stamp
    simp only
    first | (rw [if_pos (by omega)]; omega) | (rw [if_neg (by omega)]; omega) | (split <;> omega) | (split <;> simp <;> omega)
theorem wstamp_bad (f t : Int) (w : World) (h : ¬ (Win.mk f t).good) : Calls Tryd.prog 18 #[.agg #[.int .i64 f, .int .i64 t]] w fun e w' => e = .returned (.tuple #[.int .i64 0, .int .i64 70]) ∧ Below w.heap.size w w' := by
  have HG := hide h
  clear h
  go_enter Tryd.func18, Tryd.ntmps18
  go_wp2_with fail
  refine (wcheck_any f t _).mono ?_
  rw [if_neg HG.out]
  rintro e w2 ⟨rfl, hb⟩
  have HB := hide (((Below.refl w.heap.size w).alloc (Nat.le_refl _) (.cells #[.int .i64 f, .int .i64 t] wT)).trans (hb.mono (by simp)))
  clear hb
  go_wp2_with fail
  go_ret2
  exact ⟨rfl, HB.out⟩

set_option maxHeartbeats 4000000 in
theorem rgood_any (f t : Int) (w : World) : Calls Tryd.prog 17 #[.agg #[.int .i64 f, .int .i64 t]] w fun e w' => e = .returned (.bool (decide (Win.mk f t).good)) ∧ Below w.heap.size w w' := by
  obtain ⟨r, hr⟩ : ∃ r : Bool, r = decide (Win.mk f t).good := ⟨_, rfl⟩
  rw [← hr]
  have HR := hide hr
  clear hr
  have hc : f < -1048576 ∨ (¬ f < -1048576 ∧ t ≤ f) ∨ (¬ f < -1048576 ∧ ¬ t ≤ f ∧ 2097153 < t) ∨ (¬ f < -1048576 ∧ ¬ t ≤ f ∧ ¬ 2097153 < t) := by omega
  rcases hc with h1 | ⟨h1, h2⟩ | ⟨h1, h2, h3⟩ | ⟨h1, h2, h3⟩
  all_goals
    go_enter Tryd.func17, Tryd.ntmps17
    go_wp2_with fail
    go_ret
    refine ⟨?_, (Below.refl _ _).alloc (Nat.le_refl _) _⟩
    refine congrArg (fun b => Ending.returned (Value.bool b)) (?_ : _ = r)
    rw [HR.out]
    first
      | (rw [eq_comm, decide_eq_false_iff_not]; unfold Win.good; simp only; omega)
      | (rw [eq_comm, decide_eq_true_iff]; unfold Win.good; simp only; omega)
      | (rw [Bool.eq_iff_iff]; unfold Win.good; simp; omega)
      | (rw [Bool.eq_iff_iff]; simp only [decide_eq_true_iff]; unfold Win.good; simp only; omega)

set_option maxHeartbeats 4000000 in
theorem rstamp_any (f t : Int) (w : World) (h : (Win.mk f t).good) : Calls Tryd.prog 20 #[.agg #[.int .i64 f, .int .i64 t]] w fun e w' => e = .returned (.int .i64 (Win.mk f t).stamp) ∧ Below w.heap.size w w' := by
  unfold Win.good at h
  simp only at h
  obtain ⟨g1, g2, g3⟩ := h
  obtain ⟨r, hr⟩ : ∃ r : Int, r = (Win.mk f t).stamp := ⟨_, rfl⟩
  rw [← hr]
  have HR := hide hr
  clear hr
  by_cases hc : t - 1 > 1048576
  all_goals
    go_enter Tryd.func20, Tryd.ntmps20
    go_wp2_with fail
    go_ret
    refine ⟨?_, (Below.refl _ _).alloc (Nat.le_refl _) _⟩
    refine congrArg (fun b => Ending.returned (Value.int .i64 b)) (?_ : _ = r)
    rw [HR.out]
    unfold Win.stamp
    simp only
    first | (rw [if_pos (by omega)]) | (rw [if_neg (by omega)])

theorem asg_pos (f : Wfn) (t : Int) (hr : f.right) : 1 ≤ (f.asg t).length := by
  obtain ⟨k, s, p, o⟩ := f
  have hc : k = 0 ∨ k = 3 ∨ k = 1 ∨ k = 2 := by unfold Wfn.right at hr; simp only at hr; omega
  rcases hc with rfl | rfl | rfl | rfl
  · simp [Wfn.asg]
  · simp [Wfn.asg]
  · obtain ⟨m, T, hasg, hm1, _⟩ := gen_asg 1 s p o t s hr (by omega)
    rw [hasg, List.length_reverse, downW_len]; exact hm1
  · obtain ⟨m, T, hasg, hm1, _⟩ := gen_asg 2 s p o t p hr (by omega)
    rw [hasg, List.length_reverse, downW_len]; exact hm1

end Go.Proofs.YtbnppocaeflghaaDoor
