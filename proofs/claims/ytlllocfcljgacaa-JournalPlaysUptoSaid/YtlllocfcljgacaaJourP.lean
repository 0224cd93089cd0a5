/- The tape as plain lists: what stands whole, the scan, cuts. -/
import Derived.Test.YtlllocfcljgacaaWholeP
namespace Go.Proofs.Ytlllocfcljgacaa
set_option linter.unusedVariables false
set_option linter.unusedSimpArgs false

theorem cnt_grp (n : Nat) : ∀ (k acc : Nat) (Y : List Int), k + (cntB n).length ≤ 3 → (0 < k → n ≠ 0) → grp k acc (cntB n ++ Y) = some (acc + n * 128 ^ k, k + (cntB n).length) := by
  induction n using Nat.strongRecOn with
  | _ n ih =>
    intro k acc Y hk h0
    by_cases h : n < 128
    · rw [cntB, if_pos h] at hk ⊢
      simp only [List.length_singleton] at hk ⊢
      rw [List.singleton_append, grp, if_neg (by omega), if_pos (by omega), if_neg (by omega)]
      simp
    · rw [cntB, if_neg h] at hk ⊢
      simp only [List.length_cons] at hk ⊢
      rw [List.cons_append, grp, if_neg (by omega), if_neg (by omega), ih (n / 128) (by omega) (k + 1) _ Y (by omega) (by omega)]
      have h1 : ((n % 128 + 128 : Nat) : Int).toNat - 128 = n % 128 := by omega
      have h2 : n % 128 * 128 ^ k + n / 128 * 128 ^ (k + 1) = n * 128 ^ k := by
        rw [Nat.pow_succ, Nat.mul_comm (128 ^ k) 128, ← Nat.mul_assoc, ← Nat.add_mul]
        rw [show n % 128 + n / 128 * 128 = n by omega]
      rw [h1]
      simp only [Option.some.injEq, Prod.mk.injEq]
      refine ⟨by omega, by omega⟩
theorem grp_cnt : ∀ (D : List Int) (k acc m j : Nat), Bytes8 D → grp k acc D = some (m, j) → ∃ n, m = acc + n * 128 ^ k ∧ D.take (j - k) = cntB n ∧ k < j ∧ j ≤ 3 ∧ j - k ≤ D.length ∧ (0 < k → n ≠ 0)
  | [], k, acc, m, j, _, h => by simp [grp] at h
  | c :: D, k, acc, m, j, h8, h => by
    rw [grp] at h
    have hc := h8 c List.mem_cons_self
    split at h
    · cases h
    · rename_i hk
      split at h
      · rename_i hlt
        split at h
        · cases h
        · rename_i hz
          simp only [Option.some.injEq, Prod.mk.injEq] at h
          obtain ⟨rfl, rfl⟩ := h
          refine ⟨c.toNat, rfl, ?_, by omega, by omega, by simp, by omega⟩
          rw [show k + 1 - k = 1 by omega, cntB, if_pos (by omega)]
          simp
          omega
      · rename_i hge
        obtain ⟨n, rfl, h2, h3, h4, h5, h6⟩ := grp_cnt D (k + 1) _ m j (fun x hx => h8 x (List.mem_cons_of_mem _ hx)) h
        refine ⟨(c.toNat - 128) + n * 128, ?_, ?_, by omega, by omega, by rw [List.length_cons]; omega, by omega⟩
        · rw [Nat.add_mul, Nat.pow_succ, Nat.mul_comm (128 ^ k) 128, ← Nat.mul_assoc]
          omega
        · have h9 := h6 (by omega)
          rw [show j - k = (j - (k + 1)) + 1 by omega, List.take_succ_cons, h2, cntB.eq_1 (c.toNat - 128 + n * 128), if_neg (by omega),
            show (c.toNat - 128 + n * 128) / 128 = n by omega, show (c.toNat - 128 + n * 128) % 128 + 128 = c.toNat by omega]
          congr 1
          omega
theorem grp_len {D : List Int} : ∀ {k acc m j : Nat}, grp k acc D = some (m, j) → k < j := by
  induction D with
  | nil => intro k acc m j h; simp [grp] at h
  | cons c D ih =>
    intro k acc m j h
    rw [grp] at h
    split at h
    · cases h
    · split at h
      · split at h
        · cases h
        · simp only [Option.some.injEq, Prod.mk.injEq] at h
          omega
      · have := ih h
        omega
theorem wholeB_len {D r : List Int} {m : Nat} (h : wholeB D = some (r, m)) : 5 ≤ m ∧ m ≤ D.length := by
  rw [wholeB] at h
  split at h
  · cases h
  · rename_i n k hg
    have := grp_len hg
    split at h
    · cases h
    · split at h
      · simp only [Option.some.injEq, Prod.mk.injEq] at h
        omega
      · cases h
theorem tailB_len (r : List Int) : (tailB r).length = 4 := rfl
theorem frameB_eq (r : List Int) : (frameB r).length = (cntB r.length).length + 4 + r.length := by simp [frameB, tailB_len]; omega
theorem wholeB_frame (r Y : List Int) (h : r.length ≤ 1048576) : wholeB (frameB r ++ Y) = some (r, (frameB r).length) := by
  have hc := cntB_len r.length (by omega)
  have hg : grp 0 0 (frameB r ++ Y) = some (r.length, (cntB r.length).length) := by
    rw [frameB, List.append_assoc, List.append_assoc, cnt_grp r.length 0 0 _ (by omega) (by omega)]
    simp
  have hd : (frameB r ++ Y).drop (cntB r.length).length = tailB r ++ (r ++ Y) := by
    rw [frameB, List.append_assoc, List.append_assoc, List.drop_left]
  have hd2 : (frameB r ++ Y).drop ((cntB r.length).length + 4) = r ++ Y := by
    rw [← List.drop_drop, hd, ← tailB_len r, List.drop_left]
  rw [whole_on hg (by have := frameB_eq r; rw [List.length_append]; omega), hd, hd2, List.take_left, if_pos (by rw [← tailB_len r, List.take_left]), frameB_eq]
theorem wholeB_some {D r : List Int} {m : Nat} (h8 : Bytes8 D) (h : wholeB D = some (r, m)) : D = frameB r ++ D.drop m ∧ m = (frameB r).length ∧ r.length ≤ 1048576 := by
  rw [wholeB] at h
  split at h
  · cases h
  · rename_i n k hg
    split at h
    · cases h
    · rename_i hb
      split at h
      · rename_i ht
        simp only [Option.some.injEq, Prod.mk.injEq] at h
        obtain ⟨rfl, rfl⟩ := h
        obtain ⟨n', h1, h2, h3, h4, h5, _⟩ := grp_cnt D 0 0 n k h8 hg
        simp only [Nat.zero_add, Nat.pow_zero, Nat.mul_one, Nat.sub_zero] at h1 h2 h5
        subst h1
        have hr : ((D.drop (k + 4)).take n).length = n := by rw [List.length_take, List.length_drop]; omega
        have hk : (cntB n).length = k := by rw [← h2, List.length_take]; omega
        generalize hR : (D.drop (k + 4)).take n = R at *
        refine ⟨?_, by rw [frameB_eq, hr, hk], by omega⟩
        rw [frameB, hr, ← h2, ← ht, ← hR, List.append_assoc, List.append_assoc]
        conv => lhs; rw [← List.take_append_drop k D]
        congr 1
        conv => lhs; rw [← List.take_append_drop 4 (D.drop k)]
        congr 1
        rw [List.drop_drop]
        conv => lhs; rw [← List.take_append_drop n (D.drop (k + 4))]
        congr 1
        rw [List.drop_drop]
      · cases h

/-- the records that bytes begin with -/
def scanB (D : List Int) : List (List Int) :=
  match h : wholeB D with
  | none => []
  | some (r, m) => r :: scanB (D.drop m)
termination_by D.length
decreasing_by
  have := wholeB_len h
  rw [List.length_drop]
  omega
theorem scanB_none {D : List Int} (h : wholeB D = none) : scanB D = [] := by
  rw [scanB]
  split
  · rfl
  · rename_i h2
    rw [h] at h2
    cases h2
theorem scanB_some {D r : List Int} {m : Nat} (h : wholeB D = some (r, m)) : scanB D = r :: scanB (D.drop m) := by
  rw [scanB]
  split
  · rename_i h2
    rw [h] at h2
    cases h2
  · rename_i h2
    rw [h] at h2
    simp only [Option.some.injEq, Prod.mk.injEq] at h2
    rw [h2.1, h2.2]
def framesL (L : List (List Int)) : List Int := L.flatMap frameB
theorem framesL_app (L M : List (List Int)) : framesL (L ++ M) = framesL L ++ framesL M := List.flatMap_append ..
theorem framesL_cons (r : List Int) (L : List (List Int)) : framesL (r :: L) = frameB r ++ framesL L := List.flatMap_cons ..
/-- records that may stand on a tape -/
def Fit (L : List (List Int)) : Prop := ∀ r ∈ L, r.length ≤ 1048576
theorem scan_frames : ∀ (L : List (List Int)) (Y : List Int), Fit L → scanB (framesL L ++ Y) = L ++ scanB Y
  | [], Y, _ => rfl
  | r :: L, Y, h => by
    rw [framesL_cons, List.append_assoc, scanB_some (wholeB_frame r _ (h r List.mem_cons_self)), List.drop_left, scan_frames L Y (fun q hq => h q (List.mem_cons_of_mem _ hq))]
    rfl
theorem scanB_nil : scanB [] = [] := scanB_none rfl
theorem scan_all (L : List (List Int)) (h : Fit L) : scanB (framesL L) = L := by
  have := scan_frames L [] h
  rwa [List.append_nil, scanB_nil, List.append_nil] at this
/-- what a scan finds -/
theorem scan_spec (D : List Int) (h8 : Bytes8 D) : Fit (scanB D) ∧ framesL (scanB D) ++ D.drop (framesL (scanB D)).length = D ∧ wholeB (D.drop (framesL (scanB D)).length) = none := by
  generalize hn : D.length = n
  induction n using Nat.strongRecOn generalizing D with
  | _ n ih =>
    match h : wholeB D with
    | none =>
      rw [scanB_none h]
      exact ⟨fun r hr => by simp at hr, rfl, h⟩
    | some (r, m) =>
      have hl := wholeB_len h
      obtain ⟨h1, h2, h3⟩ := wholeB_some h8 h
      obtain ⟨i1, i2, i3⟩ := ih (D.drop m).length (by rw [List.length_drop]; omega) (D.drop m) (fun c hc => h8 c (List.mem_of_mem_drop hc)) rfl
      rw [scanB_some h]
      have hlen : (framesL (r :: scanB (D.drop m))).length = m + (framesL (scanB (D.drop m))).length := by rw [framesL_cons, List.length_append, h2]
      refine ⟨?_, ?_, ?_⟩
      · intro q hq
        rcases List.mem_cons.1 hq with rfl | hq
        · exact h3
        · exact i1 q hq
      · rw [hlen, framesL_cons, ← List.drop_drop, List.append_assoc, i2]
        exact h1.symm
      · rw [hlen, ← List.drop_drop]
        exact i3
theorem frame_bytes8 {r : List Int} (h : Bytes8 r) : Bytes8 (frameB r) := by
  have hc : ∀ n : Nat, Bytes8 (cntB n) := by
    intro n
    induction n using Nat.strongRecOn with
    | _ n ih =>
      intro c hc
      rw [cntB] at hc
      split at hc
      · rw [List.mem_singleton] at hc
        omega
      · rcases List.mem_cons.1 hc with rfl | hc
        · omega
        · exact ih (n / 128) (by omega) c hc
  intro c hm
  rw [frameB, List.mem_append, List.mem_append] at hm
  rcases hm with (hm | hm) | hm
  · exact hc _ c hm
  · have := sumB_in r
    simp only [tailB, List.mem_cons, List.not_mem_nil, or_false] at hm
    omega
  · exact h c hm
theorem framesL_bytes8 {L : List (List Int)} (h : ∀ r ∈ L, Bytes8 r) : Bytes8 (framesL L) := by
  intro c hc
  obtain ⟨r, hr, hc⟩ := List.mem_flatMap.1 hc
  exact frame_bytes8 (h r hr) c hc
theorem frame_pos (r : List Int) : 5 ≤ (frameB r).length := by
  have h : 1 ≤ (cntB r.length).length := by
    rw [cntB]
    split <;> simp
  rw [frameB_eq]
  omega
/-- a frame that is cut off is not whole -/
theorem whole_cut (r Y : List Int) (n : Nat) (h8 : Bytes8 r) (hr : r.length ≤ 1048576) (hn : n < (frameB r).length) : wholeB ((frameB r ++ Y).take n) = none := by
  match h : wholeB ((frameB r ++ Y).take n) with
  | none => rfl
  | some (q, m) =>
    have he : (frameB r ++ Y).take n = (frameB r).take n := by rw [List.take_append_of_le_length (by omega)]
    rw [he] at h
    obtain ⟨h1, h2, h3⟩ := wholeB_some (fun c hc => frame_bytes8 h8 c (List.mem_of_mem_take hc)) h
    have h4 : frameB r = frameB q ++ (((frameB r).take n).drop m ++ (frameB r).drop n) := by
      rw [← List.append_assoc, ← h1, List.take_append_drop]
    have h5 := wholeB_frame q (((frameB r).take n).drop m ++ (frameB r).drop n) h3
    rw [← h4] at h5
    have h6 := wholeB_frame r [] hr
    rw [List.append_nil, h5] at h6
    simp only [Option.some.injEq, Prod.mk.injEq] at h6
    have h7 := (wholeB_len h).2
    rw [List.length_take] at h7
    omega
/-- a tape that is cut off -/
theorem scan_take : ∀ (L : List (List Int)) (n : Nat), Fit L → (∀ r ∈ L, Bytes8 r) → ∃ t, t ≤ L.length ∧ scanB ((framesL L).take n) = L.take t ∧ (framesL (L.take t)).length ≤ n ∧ (t < L.length → n < (framesL (L.take (t + 1))).length)
  | [], n, _, _ => ⟨0, Nat.le_refl _, by simp [framesL, scanB_nil], by simp [framesL], by simp⟩
  | r :: L, n, hf, h8 => by
    by_cases hn : n < (frameB r).length
    · refine ⟨0, Nat.zero_le _, ?_, by simp [framesL], fun _ => ?_⟩
      · rw [framesL_cons, scanB_none (whole_cut r _ n (h8 r List.mem_cons_self) (hf r List.mem_cons_self) hn)]
        rfl
      · simpa [framesL] using hn
    · obtain ⟨t, h1, h2, h3, h4⟩ := scan_take L (n - (frameB r).length) (fun q hq => hf q (List.mem_cons_of_mem _ hq)) (fun q hq => h8 q (List.mem_cons_of_mem _ hq))
      refine ⟨t + 1, by rw [List.length_cons]; omega, ?_, ?_, ?_⟩
      · rw [framesL_cons, List.take_append, List.take_of_length_le (by omega), scanB_some (wholeB_frame r _ (hf r List.mem_cons_self)), List.drop_left, h2]
        rfl
      · rw [List.take_succ_cons, framesL_cons, List.length_append]
        omega
      · intro h
        rw [List.length_cons] at h
        have := h4 (by omega)
        rw [List.take_succ_cons, framesL_cons, List.length_append]
        omega

end Go.Proofs.Ytlllocfcljgacaa
