/- The reference of layer 18: begins, length. -/
import Derived.Test.YtlllocfcljgacaaRef18
namespace Go.Proofs.Ytlllocfcljgacaa
open Go.RowKit
set_option linter.unusedVariables false
set_option linter.unusedSimpArgs false

theorem take_eq_ne {F X : List Int} {k : Nat} (h1 : k < F.length) (h2 : k < X.length) (h : F[k] ≠ X[k]) : decide (F = X.take F.length) = false := by
  rw [decide_eq_false_iff_not]
  intro h9
  have h3 : F[k]? = (X.take F.length)[k]? := by rw [← h9]
  rw [List.getElem?_take_of_lt h1, List.getElem?_eq_getElem h1, List.getElem?_eq_getElem h2] at h3
  injection h3 with h3
  exact h h3

set_option maxRecDepth 100000 in
set_option maxHeartbeats 4000000 in
theorem rbegins_any (v u : Value) (F X : List Int) (m n B : Nat) (w : World) (hs : Sl w B v 1 m (bys F)) (hu : Sl w B u 1 n (bys X)) (hF : F.length = m) (hX : X.length = n) :
    Calls Try.prog 31 #[v, u] w fun e w' => e = .returned (.bool (decide (F = X.take F.length))) ∧ ∃ j, w' = w.drewN j := by
  obtain ⟨A, c, rfl, hc⟩ := hs.form
  obtain ⟨A', c', rfl, hc'⟩ := hu.form
  have hmax := hs.max
  have HS := hide hs
  have HU := hide hu
  have HF := hide hF
  have HX := hide hX
  clear hs hu hF hX
  by_cases hmn : n < m
  · have HR : Hid (decide (F = X.take F.length) = false) := by
      rw [Hid, decide_eq_false_iff_not]
      intro h9
      have h10 := congrArg List.length h9
      rw [List.length_take, HF.out, HX.out] at h10
      omega
    go_enter Try.func31, Try.ntmps31
    go_wp2_with fail
    go_ret
    exact ⟨by rw [HR.out]; rfl, ⟨0, rfl⟩⟩
  · go_enter Try.func31, Try.ntmps31
    go_wp2_with fail
    go_loopw [5] (fun i wr => ∃ k : Nat, k ≤ m ∧ i = .int .i64 k ∧ Hid (F.take k = X.take k) ∧ Hid (∃ j, wr = w.drewN j)) (fun i _ => m - (intOf i).toNat)
    case atStart => exact ⟨0, Nat.zero_le _, rfl, by simp [Hid], ⟨0, rfl⟩⟩
    case round =>
      obtain ⟨k, hk, rfl, HT, HJ⟩ := hrel
      have HD : Hid (∀ m, ∃ j, wr.drewN m = w.drewN j) := by obtain ⟨j, rfl⟩ := HJ.out; exact fun m => ⟨j + m, World.drewN_drewN w j m⟩
      by_cases hlt : k < m
      · have hkF : k < F.length := by rw [HF.out]; exact hlt
        have hkX : k < X.length := by rw [HX.out]; omega
        have HSr : Hid (Sl wr B (.slice A m c) 1 m (bys F)) := by obtain ⟨j, rfl⟩ := HJ.out; exact HS.out
        have HUr : Hid (Sl wr B (.slice A' n c') 1 n (bys X)) := by obtain ⟨j, rfl⟩ := HJ.out; exact HU.out
        obtain ⟨ad, rfl, hb, h0⟩ := by_at HSr.out hlt HF.out
        obtain ⟨ad', rfl, hb', h0'⟩ := by_at HUr.out (show k < n by omega) HX.out
        have HNE := hide (take_eq_ne hkF hkX)
        have HEQ : Hid (F[k] = X[k] → F.take (k + 1) = X.take (k + 1)) := by
          intro h
          rw [List.take_succ_eq_append_getElem hkF, List.take_succ_eq_append_getElem hkX, HT.out, h]
        have b0 : 0 ≤ (k : Int) := by omega
        have b1 : (k : Int) < m := by omega
        have b2 : (k : Int) < n := by omega
        generalize F[k] = x at h0 HNE HEQ
        generalize X[k] = y at h0' HNE HEQ
        by_cases hxy : x = y
        · have HX1 := hide (HEQ.out hxy)
          subst hxy
          go_wp2_with fail
          go_quiet (fail)
          go_wp2_with fail
          go_roundw
          case rel => exact ⟨k + 1, by omega, by go_num, HX1.out, HD.out _⟩
          case measure => simp [intOf]; omega
        · have e3 : (x == y) = false := by simpa using hxy
          have e4 : (x != y) = true := by simpa using hxy
          have HX1 := hide (HNE.out hxy)
          clear hxy
          go_wp2_with fail
          go_quiet (fail)
          go_wp2_with fail
          go_ret
          exact ⟨by rw [HX1.out]; rfl, HD.out _⟩
      · have HR : Hid (decide (F = X.take F.length) = true) := by
          have h := HT.out
          rw [show k = F.length by rw [HF.out]; omega, List.take_length] at h
          rw [Hid, decide_eq_true_iff]
          exact h
        go_wp2_with fail
        go_ret
        exact ⟨by rw [HR.out]; rfl, HJ.out⟩

set_option maxRecDepth 100000 in
set_option maxHeartbeats 8000000 in
theorem rlength_any (v : Value) (X : List Int) (n B m z : Nat) (w : World) (hs : Sl w B v 1 n (bys X)) (hX : X.length = n) (h8 : Bytes8 X) (hl : lenA 0 0 X = (m, z)) :
    Calls Try.prog 30 #[v] w fun e w' => e = .returned (.tuple #[.int .i64 m, .int .i64 z]) ∧ w = w' := by
  obtain ⟨A, c, rfl, hc⟩ := hs.form
  have hmax := hs.max
  have HS := hide hs
  have HX := hide hX
  have H8 := hide h8
  have HL := hide hl
  clear hs hX h8 hl
  go_enter Try.func30, Try.ntmps30
  go_wp2_with fail
  go_loop [4, 5, 6] (fun a s i => ∃ k acc : Nat, k ≤ n ∧ k ≤ 3 ∧ i = .int .i64 k ∧ a = .int .i64 acc ∧ s = .int .i64 (128 ^ k : Nat) ∧ acc < 128 ^ k ∧ Hid (lenA k acc (X.drop k) = (m, z))) (fun _ _ i => n - (intOf i).toNat)
  case atStart => exact ⟨0, 0, Nat.zero_le _, by omega, rfl, rfl, rfl, by simp, HL.out⟩
  case round =>
    obtain ⟨k, acc, hk, hk3, rfl, rfl, rfl, hacc, HG⟩ := hrel
    by_cases hlt : k < n
    · have hD : X.drop k = X[k]'(by rw [HX.out]; exact hlt) :: X.drop (k + 1) := List.drop_eq_getElem_cons (by rw [HX.out]; exact hlt)
      obtain ⟨ad, rfl, hb, h0⟩ := by_at HS.out hlt HX.out
      have hc8 := H8.out (X[k]'(by rw [HX.out]; exact hlt)) (List.getElem_mem _)
      generalize X[k]'(by rw [HX.out]; exact hlt) = x at h0 hD hc8
      obtain ⟨hx0, hx1⟩ := hc8
      have HD := hide hD
      clear hD
      rcases (by omega : k = 0 ∨ k = 1 ∨ k = 2 ∨ k = 3) with rfl | rfl | rfl | rfl
      all_goals
        simp only [Nat.reducePow, Nat.pow_zero] at hacc ⊢
      case inr.inr.inr =>
        have h9 := HG.out
        rw [HD.out, lenA, if_pos (by omega)] at h9
        simp only [Prod.mk.injEq] at h9
        obtain ⟨rfl, rfl⟩ := h9
        clear h0
        go_wp2_with fail
        go_ret2
        exact ⟨rfl, rfl⟩
      all_goals
        first
          | rw [show ad.add 0 = ad from rfl] at h0
          | rw [show ad.add 1 = ⟨ad.block, ad.off + 1, none⟩ from rfl] at h0
          | rw [show ad.add 2 = ⟨ad.block, ad.off + 2, none⟩ from rfl] at h0
        by_cases h128 : x < 128
        · have hr : x.tmod 128 = x := by rw [Int.tmod_eq_emod_of_nonneg hx0]; omega
          have h9 := HG.out
          rw [HD.out, lenA, if_neg (by omega), if_pos h128] at h9
          simp only [Prod.mk.injEq, Nat.reducePow, Nat.pow_zero] at h9
          obtain ⟨rfl, rfl⟩ := h9
          go_wp2_with fail
          go_ret2
          refine ⟨?_, rfl⟩
          simp
          first | done | omega
        · have hr : x.tmod 128 = x - 128 := by rw [Int.tmod_eq_emod_of_nonneg hx0]; omega
          have h9 := HG.out
          rw [HD.out, lenA, if_neg (by omega), if_neg h128] at h9
          have HG2 := hide h9
          clear h9
          go_wp2_with fail
          go_round
          case rel =>
            refine ⟨_, _, ?_, ?_, ?_, ?_, ?_, ?_, HG2.out⟩
            all_goals first | omega | rfl | (congr 1; omega) | (simp; omega)
          case measure => simp [intOf]; omega
    · have h9 := HG.out
      rw [List.drop_eq_nil_of_le (by rw [HX.out]; omega), lenA] at h9
      simp only [Prod.mk.injEq] at h9
      obtain ⟨rfl, rfl⟩ := h9
      go_wp2_with fail
      go_ret2
      exact ⟨rfl, rfl⟩

end Go.Proofs.Ytlllocfcljgacaa
