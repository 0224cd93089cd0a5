/- WindowHas: what is plain about the windows of a time. -/
import Derived.Test.YtbnppocaeflghaaDoorWin2
namespace Go.Proofs.YtbnppocaeflghaaDoor
open Go.RowKit
set_option linter.unusedVariables false
set_option linter.unusedSimpArgs false

/-- the four windowings, one by one -/
theorem asg_cases (f : Wfn) (t : Int) (hr : f.right) : (f.k = 0 ∧ f.asg t = [⟨0, 1048577⟩]) ∨ (f.k = 3 ∧ f.asg t = [⟨t, t + f.s⟩] ∧ 1 ≤ f.s ∧ f.s ≤ 1048576) ∨
    (¬ f.k = 0 ∧ ¬ f.k = 3 ∧ ∃ (st : Int) (m : Nat) (T : Int), st = f.step ∧ 1 ≤ st ∧ st ≤ f.s ∧ f.s ≤ 1048576 ∧ f.s ≤ 16 * st ∧ f.asg t = (downW T st f.s m).reverse ∧ 1 ≤ m ∧ t - st < T ∧ T ≤ t ∧ T - (m : Int) * st ≤ t - f.s ∧ (∀ j : Nat, j < m → t - f.s < T - (j : Int) * st) ∧ (T - f.o) % st = 0) := by
  obtain ⟨k, s, p, o⟩ := f
  have hc : k = 0 ∨ k = 3 ∨ k = 1 ∨ k = 2 := by unfold Wfn.right at hr; simp only at hr; omega
  rcases hc with rfl | rfl | rfl | rfl
  · exact .inl ⟨rfl, by simp [Wfn.asg]⟩
  · refine .inr (.inl ⟨rfl, by simp [Wfn.asg], ?_⟩)
    unfold Wfn.right at hr
    simp only at hr ⊢
    omega
  · obtain ⟨m, T, h⟩ := gen_asg 1 s p o t s hr (by omega)
    refine .inr (.inr ⟨by simp, by simp, s, m, T, by simp [Wfn.step], ?_⟩)
    unfold Wfn.right at hr
    simp only at hr ⊢
    exact ⟨by omega, by omega, by omega, by omega, h⟩
  · obtain ⟨m, T, h⟩ := gen_asg 2 s p o t p hr (by omega)
    refine .inr (.inr ⟨by simp, by simp, p, m, T, by simp [Wfn.step], ?_⟩)
    unfold Wfn.right at hr
    simp only at hr ⊢
    exact ⟨by omega, by omega, by omega, by omega, h⟩
theorem mem_down {T st s : Int} {m : Nat} {x : Win} (h : x ∈ (downW T st s m).reverse) : ∃ j : Nat, j < m ∧ x = ⟨T - (j : Int) * st, T - (j : Int) * st + s⟩ := by
  rw [List.mem_reverse, downW, List.mem_map] at h
  obtain ⟨j, hj, rfl⟩ := h
  exact ⟨j, List.mem_range.1 hj, rfl⟩
theorem asg_all (f : Wfn) (t : Int) (hr : f.right) (h0 : 0 ≤ t) (h1 : t ≤ 1048576) : ∀ x ∈ f.asg t, x.f ≤ t ∧ t < x.t ∧ x.good ∧ -1048576 ≤ x.f ∧ x.t ≤ 2097153 := by
  intro x hx
  unfold Win.good
  rcases asg_cases f t hr with ⟨_, ha⟩ | ⟨_, ha, hs, hs2⟩ | ⟨_, _, st, m, T, hst, hs1, hs2, hs3, hs4, ha, hm1, hT1, hT2, hlast, hall, hdv⟩
  · rw [ha, List.mem_singleton] at hx
    subst hx
    simp
    omega
  · rw [ha, List.mem_singleton] at hx
    subst hx
    simp
    omega
  · rw [ha] at hx
    obtain ⟨j, hj, rfl⟩ := mem_down hx
    have h9 := hall j hj
    have h10 : 0 ≤ (j : Int) * st := Int.mul_nonneg (by omega) (by omega)
    simp only
    omega
theorem asg_next (f : Wfn) (t : Int) (hr : f.right) (i : Nat) (h : i + 1 < (f.asg t).length) : ((f.asg t)[i]'(by omega)).t < ((f.asg t)[i + 1]'h).t := by
  rcases asg_cases f t hr with ⟨_, ha⟩ | ⟨_, ha, _⟩ | ⟨_, _, st, m, T, hst, hs1, hs2, hs3, hs4, ha, hm1, hT1, hT2, hlast, hall, hdv⟩
  · rw [ha] at h
    simp at h
  · rw [ha] at h
    simp at h
  · have key : ∀ (M : List Win) (hM : M = (downW T st f.s m).reverse) (h9 : i + 1 < M.length), (M[i]'(by omega)).t < (M[i + 1]'h9).t := by
      rintro M rfl h9
      rw [slide_get, slide_get]
      simp only
      have e : ((m : Int) - 1 - ((i + 1 : Nat) : Int)) * st = ((m : Int) - 1 - (i : Int)) * st - st := by
        rw [show (m : Int) - 1 - ((i + 1 : Nat) : Int) = ((m : Int) - 1 - (i : Int)) - 1 by omega, Int.sub_mul, Int.one_mul]
      omega
    exact key _ ha h
theorem asg_sixteen (f : Wfn) (t : Int) (hr : f.right) (h3 : ¬ f.k = 3) : (f.asg t).length ≤ 16 := by
  rcases asg_cases f t hr with ⟨_, ha⟩ | ⟨h, _⟩ | ⟨_, _, st, m, T, hst, hs1, hs2, hs3, hs4, ha, hm1, hT1, hT2, hlast, hall, hdv⟩
  · rw [ha]; simp
  · exact absurd h h3
  · rw [ha, List.length_reverse, downW_len]
    have h9 := hall (m - 1) (by omega)
    by_cases h : m ≤ 16
    · exact h
    · have h10 : (16 : Int) * st ≤ ((m - 1 : Nat) : Int) * st := Int.mul_le_mul_of_nonneg_right (by omega) (by omega)
      omega
theorem asg_one (f : Wfn) (t : Int) (hr : f.right) (h3 : f.k = 3) : (f.asg t).length = 1 := by
  rcases asg_cases f t hr with ⟨h, _⟩ | ⟨_, ha, _⟩ | ⟨_, h, _⟩
  · omega
  · rw [ha]; simp
  · exact absurd h3 h
/-- a window of a near time is a window of this time just if it has it -/
theorem asg_mem (f : Wfn) (t u : Int) (hr : f.right) (h3 : ¬ f.k = 3) (h0 : 0 ≤ t) (h1 : t ≤ 1048576) (x : Win) (hx : x ∈ f.asg u) : x ∈ f.asg t ↔ (x.f ≤ t ∧ t < x.t) := by
  refine ⟨fun h => ⟨(asg_all f t hr h0 h1 x h).1, (asg_all f t hr h0 h1 x h).2.1⟩, fun h => ?_⟩
  rcases asg_cases f u hr with ⟨hk, ha⟩ | ⟨hk, _⟩ | ⟨_, _, st, m, T, hst, hs1, hs2, hs3, hs4, ha, hm1, hT1, hT2, hlast, hall, hdv⟩
  · rcases asg_cases f t hr with ⟨_, hb⟩ | ⟨hk', _⟩ | ⟨hk', _⟩
    · rw [hb, ← ha]; exact hx
    · omega
    · exact absurd hk hk'
  · exact absurd hk h3
  · rcases asg_cases f t hr with ⟨hk', _⟩ | ⟨hk', _⟩ | ⟨_, _, st', m', T', hst', hs1', hs2', hs3', hs4', hb, hm1', hT1', hT2', hlast', hall', hdv'⟩
    · omega
    · exact absurd hk' h3
    · obtain rfl : st = st' := by rw [hst, hst']
      rw [ha] at hx
      obtain ⟨j, hj, rfl⟩ := mem_down hx
      simp only at h
      rw [hb, List.mem_reverse, downW, List.mem_map]
      -- the number of the window in the list of t
      have hd : (T' - (T - (j : Int) * st)) % st = 0 := by
        have e1 := Int.dvd_of_emod_eq_zero hdv
        have e2 := Int.dvd_of_emod_eq_zero hdv'
        have e3 : T' - (T - (j : Int) * st) = (T' - f.o) - (T - f.o) + (j : Int) * st := by omega
        rw [e3]
        exact Int.emod_eq_zero_of_dvd (Int.dvd_add (Int.dvd_sub e2 e1) (Int.dvd_mul_left _ _))
      obtain ⟨q, hq⟩ := Int.dvd_of_emod_eq_zero hd
      have hq0 : 0 ≤ q := by
        by_cases h9 : 0 ≤ q
        · exact h9
        · have h10 : st * q ≤ st * (-1) := Int.mul_le_mul_of_nonneg_left (by omega) (by omega)
          omega
      obtain ⟨r, rfl⟩ := Int.eq_ofNat_of_zero_le hq0
      have hrm : r < m' := by
        by_cases h9 : r < m'
        · exact h9
        · have h10 : (m' : Int) * st ≤ (r : Int) * st := Int.mul_le_mul_of_nonneg_right (by omega) (by omega)
          rw [Int.mul_comm (r : Int) st] at h10
          omega
      refine ⟨r, List.mem_range.2 hrm, ?_⟩
      rw [Int.mul_comm (r : Int) st]
      simp only [Win.mk.injEq]
      omega

end Go.Proofs.YtbnppocaeflghaaDoor
