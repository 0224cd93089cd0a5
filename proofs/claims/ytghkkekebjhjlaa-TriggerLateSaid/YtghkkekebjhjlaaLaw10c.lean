/- TriggerLate. -/
import Derived.Test.YtghkkekebjhjlaaLaw10b
namespace Go.Proofs.Ytghkkekebjhjlaa
open Go.RowKit
set_option linter.unusedVariables false
set_option linter.unusedSimpArgs false

set_option maxRecDepth 100000 in
set_option maxHeartbeats 4000000 in
theorem late_out (n ah vs : Int) (w : World) (h : n < 1 ∨ 1000 < n ∨ vs < 0 ∨ 3000 < vs ∨ ah < 1 ∨ 1000 < ah) : Calls Try.prog 5 #[.int .i64 n, .int .i64 ah, .int .i64 vs] w fun e w' => e = .returned (.bool true) ∧ Below w.heap.size w w' := by
  have awk := awake10
  by_cases h1 : n < 1
  · clear h
    go_enter Try.func5, Try.ntmps5
    go_wp2_with fail
    refine (awk _).mono ?_
    rintro e w1 ⟨rfl, hba⟩
    go_wp2_with fail
    go_ret
    exact ⟨rfl, hba⟩
  by_cases h2 : 1000 < n
  · clear h
    go_enter Try.func5, Try.ntmps5
    go_wp2_with fail
    refine (awk _).mono ?_
    rintro e w1 ⟨rfl, hba⟩
    go_wp2_with fail
    go_ret
    exact ⟨rfl, hba⟩
  by_cases h3 : vs < 0
  · clear h
    go_enter Try.func5, Try.ntmps5
    go_wp2_with fail
    refine (awk _).mono ?_
    rintro e w1 ⟨rfl, hba⟩
    go_wp2_with fail
    go_ret
    exact ⟨rfl, hba⟩
  by_cases h4 : 3000 < vs
  · clear h
    go_enter Try.func5, Try.ntmps5
    go_wp2_with fail
    refine (awk _).mono ?_
    rintro e w1 ⟨rfl, hba⟩
    go_wp2_with fail
    go_ret
    exact ⟨rfl, hba⟩
  by_cases h5 : ah < 1
  · clear h
    go_enter Try.func5, Try.ntmps5
    go_wp2_with fail
    refine (awk _).mono ?_
    rintro e w1 ⟨rfl, hba⟩
    go_wp2_with fail
    go_ret
    exact ⟨rfl, hba⟩
  have h6 : 1000 < ah := by omega
  clear h
  go_enter Try.func5, Try.ntmps5
  go_wp2_with fail
  refine (awk _).mono ?_
  rintro e w1 ⟨rfl, hba⟩
  go_wp2_with fail
  go_ret
  exact ⟨rfl, hba⟩

set_option maxRecDepth 100000 in
set_option maxHeartbeats 16000000 in
theorem late_in (N A V : Nat) (w : World) (hN1 : 1 ≤ N) (hN2 : N ≤ 1000) (hV : V ≤ 3000) (hA1 : 1 ≤ A) (hA2 : A ≤ 1000) : Calls Try.prog 5 #[.int .i64 N, .int .i64 A, .int .i64 V] w fun e w' => e = .returned (.bool true) ∧ Below w.heap.size w w' := by
  have awk := awake10
  have n0 : ¬ (N : Int) = 0 := by omega
  have n0' : ((N : Int) = 0) = False := by simp; omega
  go_enter Try.func5, Try.ntmps5
  go_wp2_with fail
  refine (tnew_ok _ ⟨0, N, 5, false⟩ (by simp [Spc.ok]; omega)).mono ?_
  rintro e w1 ⟨b, l, rfl, hm, hbel, hb, hl⟩
  have HM := hide hm
  have HB := hide hbel
  clear hm hbel
  go_wp2_with fail
  refine (add_not_false _ b l _ _ (A : Int) HM.out (by simp [btw]; omega) rfl rfl (by simp) (by simp) (.inl rfl)).mono ?_
  rintro e w3 ⟨rfl, hm, hf⟩
  have HM3 := hide hm
  have HB3 := hide (HB.out.trans (hf.away hb hl HB.out.size))
  clear hm hf
  go_wp2_with fail
  refine (pass_fires _ b l _ _ false HM3.out rfl rfl rfl (by simp) (by simp)).mono ?_
  rintro e w4 ⟨v, rfl, ho, hm, hf⟩
  obtain ⟨g, cap, rfl, hg1, hg2, c0, c1, c2, hcap⟩ := one_at ho
  have HM4 := hide hm
  have HB4 := hide (HB3.out.trans (hf.away hb hl HB3.out.size))
  clear hm hf ho
  go_wp2_with fail
  clear c0 c1 c2
  go_loopw [75] (fun i wr => ∃ q r k : Nat, k ≤ V ∧ k = q * N + r ∧ r < N ∧ q ≤ k ∧ i = .int .i64 k ∧ ∃ st : Int, fok st 2 = true ∧ Hid (MR wr b l ⟨0, N, 5, false⟩ ⟨1 + q, st, r, true, false⟩) ∧ Hid (Below w.heap.size w wr)) (fun i _ => V - (intOf i).toNat)
  case atStart => exact ⟨0, 0, 0, by omega, by omega, by omega, by omega, rfl, 1, rfl, by simpa [fnext] using HM4, HB4⟩
  case round =>
    obtain ⟨q, r, k, hk, hkq, hr, hqk, rfl, st, hst, HR, HBR⟩ := hrel
    have HST := hide hst
    clear hst
    by_cases hlt : k < V
    · rcases step_at q N r k hr hkq with ⟨h1, h2⟩ | ⟨h1, h2⟩
      · have hrem : ((k : Int) + 1).tmod N = 0 := by
          have := (divs (q + 1) N 0 (by omega)).2
          rw [← h2] at this
          exact_mod_cast this
        have HK := hide (And.intro hkq h2)
        clear hkq h2
        go_wp2_with fail
        refine (add_fires_true _ b l _ _ 1 HR.out rfl rfl rfl (by simp) (by simp; omega) (by simp; omega) (by simp; omega) HST.out (by simp; omega) (by simp; omega)).mono ?_
        rintro e w3 ⟨v, rfl, ho, hm, hf⟩
        obtain ⟨g, cap, rfl, hg1, hg2, c0, c1, c2, hcap⟩ := one_at ho
        have HM3 := hide hm
        have HB3 := hide (HBR.out.trans (hf.away hb hl HBR.out.size))
        clear hm hf ho
        go_wp2_with fail
        go_roundw
        case rel => exact ⟨q + 1, 0, k + 1, by omega, HK.out.2, by omega, by omega, by simp, 2, rfl, (by have := HM3.out; rw [show (1 : Int) + ((q + 1 : Nat) : Int) = 1 + q + 1 by omega]; exact this), HB3⟩
        case measure => simp [intOf]; omega
      · have hrem : ((k : Int) + 1).tmod N = (r : Int) + 1 := by
          have := (divs q N (r + 1) (by omega)).2
          rw [← h2] at this
          exact_mod_cast this
        have HK := hide (And.intro hkq h2)
        clear hkq h2
        go_wp2_with fail
        refine (add_not_true _ b l _ _ 1 HR.out rfl rfl rfl (by simp) (by simp; omega) (.inr (by simp; omega))).mono ?_
        rintro e w3 ⟨rfl, hm, hf⟩
        have HM3 := hide hm
        have HB3 := hide (HBR.out.trans (hf.away hb hl HBR.out.size))
        clear hm hf
        go_wp2_with fail
        go_roundw
        case rel => exact ⟨q, r + 1, k + 1, by omega, HK.out.2, by omega, by omega, by simp, st, HST.out, by simpa using HM3, HB3⟩
        case measure => simp [intOf]; omega
    · have hkV : k = V := by omega
      subst hkV
      have hquo : (k : Int).tdiv N = q := by rw [hkq]; exact (divs q N r hr).1
      have hrem : (k : Int).tmod N = r := by rw [hkq]; exact (divs q N r hr).2
      clear hkq
      by_cases hr0 : r = 0
      · subst hr0
        go_wp2_with fail
        refine (close_none _ b l _ _ HR.out rfl rfl rfl).mono ?_
        rintro e w3 ⟨rfl, hm, hf⟩
        have HM3 := hide hm
        have HB3 := hide (HBR.out.trans (hf.away hb hl HBR.out.size))
        clear hm hf
        go_wp2_with fail
        go_quiet (fail)
        go_wp2_with fail
        refine (add_closed _ b l _ _ 1 (HM3.out.drewN _) rfl rfl).mono ?_
        rintro e w5 ⟨rfl, rfl⟩
        go_wp2_with fail
        refine (awk _).mono ?_
        rintro e w6 ⟨rfl, hba⟩
        have HB6 := hide ((HB3.out.drewN _).trans (hba.mono (HB3.out.drewN _).size))
        clear hba
        go_wp2_with fail
        go_ret
        exact ⟨rfl, HB6.out⟩
      · have hr1 : ((r : Int) != 0) = true := by simpa using hr0
        have hr2 : ((r : Int) == 0) = false := by simpa using hr0
        have hr3 : ¬ (r : Int) = 0 := by omega
        go_wp2_with fail
        refine (close_fires _ b l _ _ HR.out rfl rfl (by simpa using hr0) HST.out (by simp; omega) (by simp; omega)).mono ?_
        rintro e w3 ⟨v, rfl, ho, hm, hf⟩
        obtain ⟨g, cap, rfl, hg1, hg2, c0, c1, c2, hcap⟩ := one_at ho
        have HM3 := hide hm
        have HB3 := hide (HBR.out.trans (hf.away hb hl HBR.out.size))
        clear hm hf ho
        go_wp2_with fail
        go_quiet (fail)
        go_wp2_with fail
        refine (add_closed _ b l _ _ 1 (HM3.out.drewN _) rfl rfl).mono ?_
        rintro e w5 ⟨rfl, rfl⟩
        go_wp2_with fail
        refine (awk _).mono ?_
        rintro e w6 ⟨rfl, hba⟩
        have HB6 := hide ((HB3.out.drewN _).trans (hba.mono (HB3.out.drewN _).size))
        clear hba
        go_wp2_with fail
        go_ret
        exact ⟨rfl, HB6.out⟩

theorem late_walk (n ah vs : Int) (W : World) (w0 : (Lit.int .i64 n).wf = true) (w1 : (Lit.int .i64 ah).wf = true) (w2 : (Lit.int .i64 vs).wf = true) :
    Calls Try.prog 5 #[.int .i64 n, .int .i64 ah, .int .i64 vs] W fun e w' => e = .returned (.bool true) ∧ Below W.heap.size W w' := by
  by_cases h : n < 1 ∨ 1000 < n ∨ vs < 0 ∨ 3000 < vs ∨ ah < 1 ∨ 1000 < ah
  · exact late_out n ah vs W h
  · obtain ⟨N, rfl⟩ := Int.eq_ofNat_of_zero_le (show 0 ≤ n by omega)
    obtain ⟨A, rfl⟩ := Int.eq_ofNat_of_zero_le (show 0 ≤ ah by omega)
    obtain ⟨V, rfl⟩ := Int.eq_ofNat_of_zero_le (show 0 ≤ vs by omega)
    exact late_in N A V W (by omega) (by omega) (by omega) (by omega) (by omega)

end Go.Proofs.Ytghkkekebjhjlaa
