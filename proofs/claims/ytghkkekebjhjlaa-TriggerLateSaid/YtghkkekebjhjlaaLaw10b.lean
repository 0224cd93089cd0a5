/- TriggerEarly. -/
import Derived.Test.YtghkkekebjhjlaaLaw10a
namespace Go.Proofs.Ytghkkekebjhjlaa
open Go.RowKit
set_option linter.unusedVariables false
set_option linter.unusedSimpArgs false

theorem divs (q N r : Nat) (h : r < N) : ((q * N + r : Nat) : Int).tdiv (N : Int) = q ∧ ((q * N + r : Nat) : Int).tmod (N : Int) = r := by
  have h1 : (q * N + r) / N = q := by rw [Nat.mul_comm, Nat.mul_add_div (by omega), Nat.div_eq_of_lt h]; rfl
  have h2 : (q * N + r) % N = r := by rw [Nat.mul_comm, Nat.mul_add_mod, Nat.mod_eq_of_lt h]
  refine ⟨?_, ?_⟩
  · rw [Int.tdiv_eq_ediv_of_nonneg (by omega), ← Int.natCast_ediv, h1]
  · rw [Int.tmod_eq_emod_of_nonneg (by omega), ← Int.natCast_emod, h2]

set_option maxRecDepth 100000 in
set_option maxHeartbeats 4000000 in
theorem early_out (n vs : Int) (w : World) (h : n < 1 ∨ 1000 < n ∨ vs < 0 ∨ 3000 < vs) : Calls Try.prog 3 #[.int .i64 n, .int .i64 vs] w fun e w' => e = .returned (.bool true) ∧ Below w.heap.size w w' := by
  have awk := awake10
  by_cases h1 : n < 1
  · clear h
    go_enter Try.func3, Try.ntmps3
    go_wp2_with fail
    refine (awk _).mono ?_
    rintro e w1 ⟨rfl, hba⟩
    go_wp2_with fail
    go_ret
    exact ⟨rfl, hba⟩
  by_cases h2 : 1000 < n
  · clear h
    go_enter Try.func3, Try.ntmps3
    go_wp2_with fail
    refine (awk _).mono ?_
    rintro e w1 ⟨rfl, hba⟩
    go_wp2_with fail
    go_ret
    exact ⟨rfl, hba⟩
  by_cases h3 : vs < 0
  · clear h
    go_enter Try.func3, Try.ntmps3
    go_wp2_with fail
    refine (awk _).mono ?_
    rintro e w1 ⟨rfl, hba⟩
    go_wp2_with fail
    go_ret
    exact ⟨rfl, hba⟩
  have h4 : 3000 < vs := by omega
  clear h
  go_enter Try.func3, Try.ntmps3
  go_wp2_with fail
  refine (awk _).mono ?_
  rintro e w1 ⟨rfl, hba⟩
  go_wp2_with fail
  go_ret
  exact ⟨rfl, hba⟩

theorem step_at (q N r k : Nat) (h : r < N) (hk : k = q * N + r) : (r + 1 = N ∧ k + 1 = (q + 1) * N + 0) ∨ (r + 1 < N ∧ k + 1 = q * N + (r + 1)) := by
  by_cases h1 : r + 1 = N
  · left; refine ⟨h1, ?_⟩; rw [Nat.add_mul, hk]; omega
  · right; omega

set_option maxRecDepth 100000 in
set_option maxHeartbeats 8000000 in
theorem early_in (N V : Nat) (w : World) (hN1 : 1 ≤ N) (hN2 : N ≤ 1000) (hV : V ≤ 3000) : Calls Try.prog 3 #[.int .i64 N, .int .i64 V] w fun e w' => e = .returned (.bool true) ∧ Below w.heap.size w w' := by
  have awk := awake10
  have n0 : ¬ (N : Int) = 0 := by omega
  have n0' : ((N : Int) = 0) = False := by simp; omega
  go_enter Try.func3, Try.ntmps3
  go_wp2_with fail
  refine (tnew_ok _ ⟨N, 0, 0, false⟩ (by simp [Spc.ok]; omega)).mono ?_
  rintro e w1 ⟨b, l, rfl, hm, hbel, hb, hl⟩
  have HM := hide hm
  have HB := hide hbel
  clear hm hbel
  go_wp2_with fail
  go_loopw [7, 41] (fun f i wr => ∃ q r k : Nat, k ≤ V ∧ k = q * N + r ∧ r < N ∧ q ≤ k ∧ i = .int .i64 k ∧ f = .int .i64 q ∧ Hid (MR wr b l ⟨N, 0, 0, false⟩ ⟨q, 0, r, false, false⟩) ∧ Hid (Below w.heap.size w wr)) (fun _ i _ => V - (intOf i).toNat)
  case atStart => exact ⟨0, 0, 0, by omega, by omega, by omega, by omega, rfl, rfl, HM, HB⟩
  case round =>
    obtain ⟨q, r, k, hk, hkq, hr, hqk, rfl, rfl, HR, HBR⟩ := hrel
    by_cases hlt : k < V
    · rcases step_at q N r k hr hkq with ⟨h1, h2⟩ | ⟨h1, h2⟩
      · have hrem : ((k : Int) + 1).tmod N = 0 := by
          have := (divs (q + 1) N 0 (by omega)).2
          rw [← h2] at this
          exact_mod_cast this
        have HK := hide (And.intro hkq h2)
        clear hkq h2
        go_wp2_with fail
        refine (add_fires_false _ b l _ _ 1 HR.out rfl rfl rfl (by simp) (by simp; omega) (by simp; omega) (by simp; omega) rfl (by simp) (by simp; omega)).mono ?_
        rintro e w3 ⟨v, rfl, ho, hm, hf⟩
        obtain ⟨g, cap, rfl, hg1, hg2, c0, c1, c2, hcap⟩ := one_at ho
        have HM3 := hide hm
        have HB3 := hide (HBR.out.trans (hf.away hb hl HBR.out.size))
        clear hm hf ho
        go_wp2_with fail
        go_roundw
        case rel => exact ⟨q + 1, 0, k + 1, by omega, HK.out.2, by omega, by omega, by simp, by simp, by simpa using HM3, HB3⟩
        case measure => simp [intOf]; omega
      · have hrem : ((k : Int) + 1).tmod N = (r : Int) + 1 := by
          have := (divs q N (r + 1) (by omega)).2
          rw [← h2] at this
          exact_mod_cast this
        have HK := hide (And.intro hkq h2)
        clear hkq h2
        go_wp2_with fail
        refine (add_not_false _ b l _ _ 1 HR.out rfl rfl rfl (by simp) (by simp; omega) (.inr (by simp; omega))).mono ?_
        rintro e w3 ⟨rfl, hm, hf⟩
        have HM3 := hide hm
        have HB3 := hide (HBR.out.trans (hf.away hb hl HBR.out.size))
        clear hm hf
        go_wp2_with fail
        go_roundw
        case rel => exact ⟨q, r + 1, k + 1, by omega, HK.out.2, by omega, by omega, by simp, by simp, by simpa using HM3, HB3⟩
        case measure => simp [intOf]; omega
    · have hkV : k = V := by omega
      subst hkV
      have hquo : (k : Int).tdiv N = q := by rw [hkq]; exact (divs q N r hr).1
      clear hkq
      go_wp2_with fail
      refine (pass_fires _ b l _ _ true HR.out rfl rfl rfl (by simp) (by simp; omega)).mono ?_
      rintro e w3 ⟨v, rfl, ho, hm, hf⟩
      obtain ⟨g, cap, rfl, hg1, hg2, c0, c1, c2, hcap⟩ := one_at ho
      have HB3 := hide (HBR.out.trans (hf.away hb hl HBR.out.size))
      clear hm hf ho
      go_wp2_with fail
      refine (awk _).mono ?_
      rintro e w1 ⟨rfl, hba⟩
      have HB4 := hide (HB3.out.trans (hba.mono HB3.out.size))
      clear hba
      go_wp2_with fail
      go_ret
      exact ⟨rfl, HB4.out⟩

theorem early_walk (n vs : Int) (W : World) (w0 : (Lit.int .i64 n).wf = true) (w1 : (Lit.int .i64 vs).wf = true) :
    Calls Try.prog 3 #[.int .i64 n, .int .i64 vs] W fun e w' => e = .returned (.bool true) ∧ Below W.heap.size W w' := by
  by_cases h : n < 1 ∨ 1000 < n ∨ vs < 0 ∨ 3000 < vs
  · exact early_out n vs W h
  · obtain ⟨N, rfl⟩ := Int.eq_ofNat_of_zero_le (show 0 ≤ n by omega)
    obtain ⟨V, rfl⟩ := Int.eq_ofNat_of_zero_le (show 0 ≤ vs by omega)
    exact early_in N V W (by omega) (by omega) (by omega)

end Go.Proofs.Ytghkkekebjhjlaa
