/- Assign, whatever comes of it; the windows of Sliding. -/
import Derived.Test.YtbnppocaeflghaaDoorAsg
namespace Go.Proofs.YtbnppocaeflghaaDoor
open Go.RowKit
set_option linter.unusedVariables false
set_option linter.unusedSimpArgs false

theorem sub_mod_zero (x s : Int) : (x - x % s) % s = 0 := by
  have := Int.mul_ediv_add_emod x s
  rw [show x - x % s = s * (x / s) by omega]
  exact Int.mul_emod_right _ _

/-- Assign, whatever comes of it -/
theorem assign_any (f : Wfn) (t : Int) (w : World) :
    Calls Tryd.prog 14 #[f.v, .int .i64 t] w fun e w' => ∃ v n, e = .returned (.tuple #[v, .int .i64 n]) ∧ Below w.heap.size w w' ∧
      ((f.right ∧ 0 ≤ t ∧ t ≤ 1048576 ∧ n = 0 ∧ Own w' w.heap.size wT 2 v (f.asg t).length (wins (f.asg t))) ∨ (¬ f.right ∧ n = 70 ∧ v = .slice none 0 0) ∨ (f.right ∧ ¬ (0 ≤ t ∧ t ≤ 1048576) ∧ n = 71 ∧ v = .slice none 0 0)) := by
  by_cases hr : f.right
  · by_cases ht : 0 ≤ t ∧ t ≤ 1048576
    · refine (assign_ok f t w hr ht.1 ht.2).mono ?_
      rintro e w' ⟨v, rfl, ho, hb⟩
      exact ⟨v, 0, rfl, hb, .inl ⟨hr, ht.1, ht.2, rfl, ho⟩⟩
    · refine (assign_time f t w hr (by omega)).mono ?_
      rintro e w' ⟨rfl, hb⟩
      exact ⟨_, 71, rfl, hb, .inr (.inr ⟨hr, ht, rfl, rfl⟩)⟩
  · refine (assign_bad f t w hr).mono ?_
    rintro e w' ⟨rfl, hb⟩
    exact ⟨_, 70, rfl, hb, .inr (.inl ⟨hr, rfl, rfl⟩)⟩

theorem below_cell {w w' : World} {a : Addr} {v : Value} (hb : Below w.heap.size w w') (ha : a.block < w.heap.size) (h : w.cell? a = some v) : w'.cell? a = some v := (World.cell?_of_block (hb.block _ ha)).trans h

theorem slide_get (top step size : Int) (m i : Nat) (h : i < (downW top step size m).reverse.length) : (downW top step size m).reverse[i] = ⟨top - ((m : Int) - 1 - i) * step, top - ((m : Int) - 1 - i) * step + size⟩ := by
  rw [List.length_reverse, downW_len] at h
  rw [List.getElem_reverse]
  simp only [downW, List.getElem_map, List.getElem_range, List.length_map, List.length_range]
  rw [show ((m - 1 - i : Nat) : Int) = (m : Int) - 1 - i by omega]
/-- the windows of a time by Sliding: m of them, down from T -/
theorem slide_asg (s p o t : Int) (hr : Wfn.right ⟨2, s, p, o⟩) : ∃ (m : Nat) (T : Int), Wfn.asg ⟨2, s, p, o⟩ t = (downW T p s m).reverse ∧ 1 ≤ m ∧ t - p < T ∧ T ≤ t ∧ T - (m : Int) * p ≤ t - s ∧ (∀ j : Nat, j < m → t - s < T - (j : Int) * p) ∧ (∀ j : Nat, (T - (j : Int) * p - o).tmod p = 0) := by
  have hs : 1 ≤ p ∧ p ≤ s := by unfold Wfn.right at hr; simp only at hr; omega
  have h0 := Int.emod_nonneg (t - o) (show p ≠ 0 by omega)
  have h1 := Int.emod_lt_of_pos (t - o) (show 0 < p by omega)
  have hst : Wfn.step ⟨2, s, p, o⟩ = p := by simp [Wfn.step]
  have htop : Wfn.top ⟨2, s, p, o⟩ t = t - (t - o) % p := by simp only [Wfn.top, hst]
  have hiff := cntW_iff (t - (t - o) % p) (t - s) p (by omega)
  have hc : Wfn.cnt ⟨2, s, p, o⟩ t = cntW (t - (t - o) % p) (t - s) p := by simp only [Wfn.cnt, htop, hst]
  refine ⟨cntW (t - (t - o) % p) (t - s) p, t - (t - o) % p, ?_, ?_, by omega, by omega, ?_, fun j hj => (hiff j).1 hj, fun j => ?_⟩
  · simp only [Wfn.asg]
    rw [if_neg (by omega), if_neg (by omega), hc, htop, hst]
  · have := (hiff 0).2 (by simp; omega)
    omega
  · have h9 : ¬ (cntW (t - (t - o) % p) (t - s) p) < cntW (t - (t - o) % p) (t - s) p := Nat.lt_irrefl _
    have h10 : ¬ (t - s < t - (t - o) % p - ((cntW (t - (t - o) % p) (t - s) p : Nat) : Int) * p) := fun h => h9 ((hiff _).2 h)
    omega
  · have h9 := Int.mul_ediv_add_emod (t - o) p
    rw [show t - (t - o) % p - (j : Int) * p - o = p * ((t - o) / p) - (j : Int) * p by omega, Int.mul_comm (j : Int) p, ← Int.mul_sub]
    exact Int.mul_tmod_right _ _

end Go.Proofs.YtbnppocaeflghaaDoor
