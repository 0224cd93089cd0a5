/- Right, same, and the stage of a run. -/
import Derived.Test.YtghkkekebjhjlaaRef10c
namespace Go.Proofs.Ytghkkekebjhjlaa
open Go.RowKit
set_option linter.unusedVariables false
set_option linter.unusedSimpArgs false

set_option maxHeartbeats 4000000 in
theorem right_any (w : World) (s : Spc) : Calls Try.prog 15 #[s.val] w fun e w' => e = .returned (.bool s.ok) ∧ Below w.heap.size w w' := by
  obtain ⟨se, sl, st, sa⟩ := s
  simp only [Spc.val]
  by_cases h0 : se < 0
  · have HX : Hid ((⟨se, sl, st, sa⟩ : Spc).ok = false) := by simp [Hid, Spc.ok]; omega
    go_enter Try.func15, Try.ntmps15
    go_wp2_with fail
    go_ret
    exact ⟨by rw [HX.out]; rfl, (Below.refl _ _).alloc (Nat.le_refl _) _⟩
  by_cases h1 : 1000 < se
  · have HX : Hid ((⟨se, sl, st, sa⟩ : Spc).ok = false) := by simp [Hid, Spc.ok]; omega
    go_enter Try.func15, Try.ntmps15
    go_wp2_with fail
    go_ret
    exact ⟨by rw [HX.out]; rfl, (Below.refl _ _).alloc (Nat.le_refl _) _⟩
  by_cases h2 : sl < 0
  · have HX : Hid ((⟨se, sl, st, sa⟩ : Spc).ok = false) := by simp [Hid, Spc.ok]; omega
    go_enter Try.func15, Try.ntmps15
    go_wp2_with fail
    go_ret
    exact ⟨by rw [HX.out]; rfl, (Below.refl _ _).alloc (Nat.le_refl _) _⟩
  by_cases h3 : 1000 < sl
  · have HX : Hid ((⟨se, sl, st, sa⟩ : Spc).ok = false) := by simp [Hid, Spc.ok]; omega
    go_enter Try.func15, Try.ntmps15
    go_wp2_with fail
    go_ret
    exact ⟨by rw [HX.out]; rfl, (Below.refl _ _).alloc (Nat.le_refl _) _⟩
  by_cases h4 : st < 0
  · have HX : Hid ((⟨se, sl, st, sa⟩ : Spc).ok = false) := by simp [Hid, Spc.ok]; omega
    go_enter Try.func15, Try.ntmps15
    go_wp2_with fail
    go_ret
    exact ⟨by rw [HX.out]; rfl, (Below.refl _ _).alloc (Nat.le_refl _) _⟩
  by_cases h5 : 1048576 < st
  · have HX : Hid ((⟨se, sl, st, sa⟩ : Spc).ok = false) := by simp [Hid, Spc.ok]; omega
    go_enter Try.func15, Try.ntmps15
    go_wp2_with fail
    go_ret
    exact ⟨by rw [HX.out]; rfl, (Below.refl _ _).alloc (Nat.le_refl _) _⟩
  by_cases h6 : 0 < st
  · have HX : Hid ((⟨se, sl, st, sa⟩ : Spc).ok = true) := by simp [Hid, Spc.ok]; omega
    go_enter Try.func15, Try.ntmps15
    go_wp2_with fail
    go_ret
    exact ⟨by rw [HX.out]; rfl, (Below.refl _ _).alloc (Nat.le_refl _) _⟩
  by_cases h7 : sl = 0
  · subst h7
    have HX : Hid ((⟨se, 0, st, sa⟩ : Spc).ok = true) := by simp [Hid, Spc.ok]; omega
    go_enter Try.func15, Try.ntmps15
    go_wp2_with fail
    go_ret
    exact ⟨by rw [HX.out]; rfl, (Below.refl _ _).alloc (Nat.le_refl _) _⟩
  · have HX : Hid ((⟨se, sl, st, sa⟩ : Spc).ok = false) := by simp [Hid, Spc.ok]; omega
    have e1 : (sl == 0) = false := by simpa using h7
    clear h7
    go_enter Try.func15, Try.ntmps15
    go_wp2_with fail
    go_ret
    exact ⟨by rw [HX.out]; rfl, (Below.refl _ _).alloc (Nat.le_refl _) _⟩

set_option maxHeartbeats 4000000 in
theorem same10 (v u : Value) (D : List Inf) (B B' : Nat) (w : World) (hs : Sl w B v 3 D.length (infs D)) (hu : Sl w B' u 3 D.length (infs D)) :
    Calls Try.prog 29 #[v, u] w fun e w' => e = .returned (.bool true) ∧ ∃ j, w' = w.drewN j := by
  obtain ⟨A, c, rfl, hc⟩ := hs.form
  obtain ⟨A', c', rfl, hc'⟩ := hu.form
  have hmax := hs.max
  have HS := hide hs
  have HU := hide hu
  clear hs hu
  go_enter Try.func29, Try.ntmps29
  go_wp2_with fail
  go_loopw [13] (fun i wr => ∃ k j : Nat, k ≤ D.length ∧ i = .int .i64 k ∧ wr = w.drewN j) (fun i _ => D.length - (intOf i).toNat)
  case atStart => exact ⟨0, 0, Nat.zero_le _, rfl, rfl⟩
  case round =>
    obtain ⟨k, j, hk, rfl, rfl⟩ := hrel
    by_cases hlt : k < D.length
    · obtain ⟨ad, rfl, hb, h0, h1, h2⟩ := inf_at HS.out hlt rfl
      obtain ⟨ad', rfl, hb', h0', h1', h2'⟩ := inf_at HU.out hlt rfl
      generalize D[k] = p at h0 h1 h2 h0' h1' h2'
      obtain ⟨pi, pt, pl⟩ := p
      simp only at h0 h1 h2 h0' h1' h2'
      go_wp2_with fail
      go_quiet (fail)
      go_wp2_with fail
      go_roundw
      case rel => exact ⟨k + 1, j + nq, by omega, by simp, by simp⟩
      case measure => simp [intOf]; omega
    · go_wp2_with fail
      go_ret
      exact ⟨rfl, j, rfl⟩

theorem run_stg : ∀ (N : Nat) (D : List Inf) (n st : Int), D.length = N → prun 0 0 D = some (n, st) → stg D = st ∧ 0 ≤ st ∧ st ≤ 3
  | 0, D, n, st, hN, h => by
    obtain rfl := List.length_eq_zero_iff.1 hN
    simp [prun] at h
    refine ⟨?_, ?_, ?_⟩ <;> first | (rw [← h.2]; rfl) | omega
  | N + 1, E, n, st, hN, h => by
    obtain ⟨D, p, rfl, hD⟩ : ∃ D p, E = D ++ [p] ∧ D.length = N := ⟨E.take N, E[N], by rw [← List.take_succ_eq_append_getElem (by omega), List.take_of_length_le (by omega)], by simp; omega⟩
    obtain ⟨st2, h2⟩ := prun_take _ D.length _ _ _ _ h (by simp)
    rw [List.take_left' rfl] at h2
    obtain ⟨i1, i2, i3⟩ := run_stg N D _ _ hD h2
    rw [prun_snoc D 0 0 _ _ _ h2] at h
    split at h
    · rename_i hc
      simp only [Bool.and_eq_true] at hc
      have h8 : st = fnext p.t p.l := by injection h with h; injection h with _ h; exact h.symm
      have h9 := stg_step i2 i3 p hc.1
      refine ⟨by rw [stg_snoc, i1, h9, h8], ?_, ?_⟩
      · rw [h8, fnext]; split <;> first | omega | (have := hc.1; simp [fok] at this; omega)
      · rw [h8, fnext]; split <;> first | omega | (have := hc.1; simp [fok] at this; omega)
    · cases h
theorem GI.stg {D : List Inf} {m : Mst} (h : GI D m) : stg D = m.st := (run_stg _ D _ _ rfl h.run).1

end Go.Proofs.Ytghkkekebjhjlaa
