/- What Check, between, floor of package window compute; windows as cells. -/
import Derived.Test.YtbnppocaeflghaaDoorProg
import Derived.Test.YtbnppocaeflghaaDoorApp
import Derived.Test.YtbnppocaeflghaaDoorCut
namespace Go.Proofs.YtbnppocaeflghaaDoor
open Go.RowKit
set_option linter.unusedVariables false
set_option linter.unusedSimpArgs false

/-- a window -/
structure Win where
  f : Int
  t : Int
deriving DecidableEq
def Win.cells (p : Win) : List Value := [.int .i64 p.f, .int .i64 p.t]
theorem Win.cells2 (p : Win) : p.cells.length = 2 := rfl
def wins (D : List Win) : List Value := D.flatMap Win.cells
theorem wins_app (C D : List Win) : wins (C ++ D) = wins C ++ wins D := List.flatMap_append ..
theorem wins_len (D : List Win) : (wins D).length = D.length * 2 := flat_len _ 2 Win.cells2 D
theorem wins_ok (D : List Win) : ∀ u ∈ wins D, u.oneCell' = true := by
  intro u hu
  simp only [wins, List.mem_flatMap] at hu
  obtain ⟨p, _, hp⟩ := hu
  simp only [Win.cells, List.mem_cons, List.not_mem_nil, or_false] at hp
  rcases hp with rfl | rfl <;> rfl
abbrev wT : Nat := 33
theorem tyW : SlTy Tryd.prog 28 wT 2 16 (.agg #[.int .i64 0, .int .i64 0]) := ⟨Tryd.underlying28, info_parts (by kernel_rfl), rfl, by omega⟩
theorem win_at {w : World} {B n c : Nat} {A : Option Addr} {S : List Win} (h : Sl w B (.slice A n c) 2 n (wins S)) {k : Nat} (hk : k < n) (hD : S.length = n) :
    ∃ ad, A = some ad ∧ (ad.add (k * 2)).block < B ∧ w.cell? (ad.add (k * 2)) = some (.int .i64 (S[k]'(by omega)).f) ∧ w.cell? ⟨(ad.add (k * 2)).block, (ad.add (k * 2)).off + 1, none⟩ = some (.int .i64 (S[k]'(by omega)).t) := by
  obtain ⟨ad, rfl, hb, hh⟩ := h.at_ hk
  rw [wins, part_of Win.cells 2 (fun _ => rfl) S k (by omega)] at hh
  refine ⟨ad, rfl, by rw [add_blk]; exact hb, ?_, ?_⟩
  · have := hh 0 _ rfl
    rwa [add_add'] at this
  · have := hh 1 _ rfl
    rw [add_add', add_fld ad (k * 2) 1 (by omega)] at this
    exact this

/-- a windowing -/
structure Wfn where
  k : Int
  s : Int
  p : Int
  o : Int
deriving DecidableEq
def Wfn.v (f : Wfn) : Value := .agg #[.int .i64 f.k, .int .i64 f.s, .int .i64 f.p, .int .i64 f.o]
/-- is it right? -/
def Wfn.right (f : Wfn) : Prop :=
  (f.k = 0 ∧ f.s = 0 ∧ f.p = 0 ∧ f.o = 0) ∨ (f.k = 1 ∧ 1 ≤ f.s ∧ f.s ≤ 1048576 ∧ f.p = 0 ∧ 0 ≤ f.o ∧ f.o < f.s) ∨
  (f.k = 2 ∧ 1 ≤ f.p ∧ f.p ≤ 1048576 ∧ f.p ≤ f.s ∧ f.s ≤ 1048576 ∧ f.s ≤ 16 * f.p ∧ 0 ≤ f.o ∧ f.o < f.p) ∨ (f.k = 3 ∧ 1 ≤ f.s ∧ f.s ≤ 1048576 ∧ f.p = 0 ∧ f.o = 0)
instance (f : Wfn) : Decidable f.right := by unfold Wfn.right; exact inferInstance

theorem between_any (n lo hi : Int) (w : World) : Calls Tryd.prog 36 #[.int .i64 n, .int .i64 lo, .int .i64 hi] w fun e w' => e = .returned (.bool (decide (lo ≤ n) && decide (n ≤ hi))) ∧ w' = w := by
  by_cases h1 : lo ≤ n
  · by_cases h2 : n ≤ hi
    · go_enter Tryd.func36, Tryd.ntmps36
      go_wp2_with fail
      go_ret
      simp [h1, h2]
    · go_enter Tryd.func36, Tryd.ntmps36
      go_wp2_with fail
      go_ret
      simp [h1, h2]
  · go_enter Tryd.func36, Tryd.ntmps36
    go_wp2_with fail
    go_ret
    simp
    intro h9
    omega

theorem tmod_floor (n b : Int) (hb : 1 ≤ b) : (n.tmod b + b).tmod b = n % b := by
  have h0 := Int.emod_nonneg n (show b ≠ 0 by omega)
  have h1 := Int.emod_lt_of_pos n (show 0 < b by omega)
  have e := Int.tmod_eq_emod (a := n) (b := b)
  rw [e]
  split
  · rw [Int.tmod_eq_emod_of_nonneg (by omega)]
    simp
  · have h2 : (b.natAbs : Int) = b := by omega
    rw [h2, Int.sub_add_cancel, Int.tmod_eq_emod_of_nonneg h0, Int.emod_emod]
theorem tmod_in (n b : Int) (hb : 1 ≤ b) : -b < n.tmod b ∧ n.tmod b < b := by
  have h0 := Int.emod_nonneg n (show b ≠ 0 by omega)
  have h1 := Int.emod_lt_of_pos n (show 0 < b by omega)
  rw [Int.tmod_eq_emod]
  split
  · omega
  · rename_i h
    have h2 : (b.natAbs : Int) = b := by omega
    have h3 : n % b ≠ 0 := fun h9 => h (.inr (Int.dvd_of_emod_eq_zero h9))
    omega
theorem floor_any (n b : Int) (w : World) (hb : 1 ≤ b) (hb2 : b ≤ 1048576) (hn : -4194304 ≤ n) (hn2 : n ≤ 4194304) :
    Calls Tryd.prog 37 #[.int .i64 n, .int .i64 b] w fun e w' => e = .returned (.int .i64 (n - n % b)) ∧ w' = w := by
  have h1 := tmod_in n b hb
  have h2 := tmod_floor n b hb
  have h0 := Int.emod_nonneg n (show b ≠ 0 by omega)
  have h3 := Int.emod_lt_of_pos n (show 0 < b by omega)
  go_enter Tryd.func37, Tryd.ntmps37
  go_wp2_with fail
  go_ret
  exact ⟨rfl, rfl⟩

set_option maxHeartbeats 8000000 in
theorem check_any (f : Wfn) (w : World) : Calls Tryd.prog 12 #[f.v] w fun e w' => e = .returned (.int .i64 (if f.right then 0 else 70)) ∧ Below w.heap.size w w' := by
  obtain ⟨r, hr⟩ : ∃ r : Int, r = if f.right then 0 else 70 := ⟨_, rfl⟩
  rw [← hr]
  have HR := hide hr
  clear hr
  obtain ⟨k, s, p, o⟩ := f
  unfold Wfn.v
  have hc : k = 0 ∨ k = 1 ∨ k = 2 ∨ k = 3 ∨ (k ≠ 0 ∧ k ≠ 1 ∧ k ≠ 2 ∧ k ≠ 3) := by omega
  rcases hc with rfl | rfl | rfl | rfl | ⟨n0, n1, n2, n3⟩
  all_goals
    go_enter Tryd.func12, Tryd.ntmps12
    go_wp2_with (go_at_call 36; refine (between_any _ _ _ _).mono ?_; rintro e w' ⟨rfl, rfl⟩)
    all_goals
      go_ret
      refine ⟨?_, (Below.refl _ _).alloc (Nat.le_refl _) _⟩
      rw [HR.out]
      split
      all_goals
        rename_i h
        unfold Wfn.right at h
        simp only at h
        first
          | rfl
          | (exfalso; simp at *; omega)
          | (exfalso; simp_all; omega)
          | trace_state

end Go.Proofs.YtbnppocaeflghaaDoor
