/- Numerals, plain. -/
import Derived.Lib.ItoaNum
import Derived.Test.YtbnppocaeflghaaDoorLib
namespace Go.Proofs.YtbnppocaeflghaaDoor
open Go.Lib
set_option linter.unusedVariables false
set_option linter.unusedSimpArgs false

theorem dd_small {u : Nat} (h : u < 10) : decDigits u = [UInt8.ofNat (48 + u)] := by rw [decDigits, dif_pos h]
theorem dd_big {u : Nat} (h : ¬ u < 10) : decDigits u = decDigits (u / 10) ++ [UInt8.ofNat (48 + u % 10)] := by rw [decDigits, dif_neg h]
theorem byte_nat {u : Nat} (h : u < 10) : (UInt8.ofNat (48 + u)).toNat = 48 + u := by rw [UInt8.toNat_ofNat']; omega
theorem dd_mem (u : Nat) : ∀ b ∈ decDigits u, 48 ≤ b.toNat ∧ b.toNat ≤ 57 := by
  induction u using Nat.strongRecOn with
  | _ u ih =>
    intro b hb
    by_cases h : u < 10
    · rw [dd_small h, List.mem_singleton] at hb
      rw [hb, byte_nat h]
      omega
    · rw [dd_big h, List.mem_append, List.mem_singleton] at hb
      rcases hb with hb | hb
      · exact ih (u / 10) (by omega) b hb
      · rw [hb, byte_nat (by omega)]
        omega
theorem dd_pos (u : Nat) : 0 < (decDigits u).length := by
  by_cases h : u < 10
  · rw [dd_small h]; simp
  · rw [dd_big h]; simp
theorem dd_head (u : Nat) (c : UInt8) (l : List UInt8) (h : decDigits u = c :: l) (hu : u ≠ 0) : c.toNat ≠ 48 := by
  induction u using Nat.strongRecOn generalizing l with
  | _ u ih =>
    by_cases h1 : u < 10
    · rw [dd_small h1] at h
      injection h with h2 _
      rw [← h2, byte_nat h1]
      omega
    · rw [dd_big h1] at h
      cases hd : decDigits (u / 10) with
      | nil => have := dd_pos (u / 10); rw [hd] at this; simp at this
      | cons d m =>
        rw [hd, List.cons_append] at h
        injection h with h2 _
        subst h2
        exact ih (u / 10) (by omega) m hd (by omega)
theorem dd_zero (u : Nat) (h : 1 < (decDigits u).length) : u ≠ 0 := by
  rintro rfl
  rw [dd_small (by omega)] at h
  simp at h
theorem dd_inj (u v : Nat) (h : decDigits u = decDigits v) : u = v := by
  induction u using Nat.strongRecOn generalizing v with
  | _ u ih =>
    by_cases h1 : u < 10
    · by_cases h2 : v < 10
      · rw [dd_small h1, dd_small h2] at h
        injection h with h3 _
        have := congrArg UInt8.toNat h3
        rw [byte_nat h1, byte_nat h2] at this
        omega
      · have h3 := congrArg List.length h
        rw [dd_small h1, dd_big h2] at h3
        have := dd_pos (v / 10)
        simp only [List.length_append, List.length_singleton] at h3
        omega
    · by_cases h2 : v < 10
      · have h3 := congrArg List.length h
        rw [dd_small h2, dd_big h1] at h3
        have := dd_pos (u / 10)
        simp only [List.length_append, List.length_singleton] at h3
        omega
      · rw [dd_big h1, dd_big h2] at h
        obtain ⟨h3, h4⟩ := List.append_inj' h rfl
        have h5 := ih (u / 10) (by omega) (v / 10) h3
        injection h4 with h6 _
        have := congrArg UInt8.toNat h6
        rw [byte_nat (by omega), byte_nat (by omega)] at this
        omega
theorem itoa_neg {n : Int} (h : n < 0) : itoa n = 45 :: decDigits n.natAbs := by rw [itoa, if_pos h]
theorem itoa_nn {n : Int} (h : ¬ n < 0) : itoa n = decDigits n.natAbs := by rw [itoa, if_neg h]; congr 1; omega
theorem itoa_mem (n : Int) : ∀ b ∈ itoa n, b.toNat ≠ 46 := by
  intro b hb
  by_cases h : n < 0
  · rw [itoa_neg h] at hb
    rcases List.mem_cons.1 hb with rfl | hb
    · decide
    · have := dd_mem _ b hb; omega
  · rw [itoa_nn h] at hb
    have := dd_mem _ b hb; omega
theorem dd_ne45 (u : Nat) (l : List UInt8) (h : decDigits u = 45 :: l) : False := by
  have := dd_mem u 45 (by rw [h]; exact List.mem_cons_self)
  have h2 : (45 : UInt8).toNat = 45 := rfl
  omega
theorem itoa_inj {n m : Int} (h : itoa n = itoa m) : n = m := by
  by_cases h1 : n < 0
  · by_cases h2 : m < 0
    · rw [itoa_neg h1, itoa_neg h2] at h
      injection h with _ h
      have := dd_inj _ _ h
      omega
    · rw [itoa_neg h1, itoa_nn h2] at h
      exact (dd_ne45 _ _ h.symm).elim
  · by_cases h2 : m < 0
    · rw [itoa_nn h1, itoa_neg h2] at h
      exact (dd_ne45 _ _ h).elim
    · rw [itoa_nn h1, itoa_nn h2] at h
      have := dd_inj _ _ h
      omega
theorem dot_split {A C X Y : List UInt8} (hA : ∀ b ∈ A, b.toNat ≠ 46) (hC : ∀ b ∈ C, b.toNat ≠ 46) (h : A ++ 46 :: X = C ++ 46 :: Y) : A = C ∧ X = Y := by
  have h46 : (46 : UInt8).toNat = 46 := rfl
  induction A generalizing C with
  | nil =>
    cases C with
    | nil => simpa using h
    | cons c C =>
      simp only [List.nil_append, List.cons_append] at h
      injection h with h1 _
      exact absurd (by rw [← h1]; exact h46) (hC c List.mem_cons_self)
  | cons a A ih =>
    cases C with
    | nil =>
      simp only [List.nil_append, List.cons_append] at h
      injection h with h1 _
      exact absurd (by rw [h1]; exact h46) (hA a List.mem_cons_self)
    | cons c C =>
      simp only [List.cons_append] at h
      injection h with h1 h2
      obtain ⟨h3, h4⟩ := ih (fun b hb => hA b (List.mem_cons_of_mem _ hb)) (fun b hb => hC b (List.mem_cons_of_mem _ hb)) h2
      exact ⟨by rw [h1, h3], h4⟩
/-- a window's text -/
def textW (f t : Int) : List UInt8 := itoa f ++ 46 :: 46 :: itoa t
theorem textW_inj {a b c d : Int} (h : textW a b = textW c d) : a = c ∧ b = d := by
  obtain ⟨h1, h2⟩ := dot_split (itoa_mem a) (itoa_mem c) h
  injection h2 with _ h3
  exact ⟨itoa_inj h1, itoa_inj h3⟩
theorem textW_at (f t : Int) : (∀ k, k < (itoa f).length → ∃ b, (textW f t)[k]? = some b ∧ b.toNat ≠ 46) ∧ (textW f t)[(itoa f).length]? = some 46 ∧ (textW f t)[(itoa f).length + 1]? = some 46 ∧ (textW f t).length = (itoa f).length + 2 + (itoa t).length := by
  refine ⟨fun k hk => ⟨(itoa f)[k], ?_, itoa_mem f _ (List.getElem_mem hk)⟩, ?_, ?_, ?_⟩
  · rw [textW, List.getElem?_append_left hk, List.getElem?_eq_getElem hk]
  · rw [textW, List.getElem?_append_right (Nat.le_refl _), Nat.sub_self]
    rfl
  · rw [textW, List.getElem?_append_right (by omega), show (itoa f).length + 1 - (itoa f).length = 1 by omega]
    rfl
  · rw [textW]; simp; omega
theorem textW_take (f t : Int) : (textW f t).take (itoa f).length = itoa f := List.take_left
theorem textW_drop (f t : Int) : (textW f t).drop ((itoa f).length + 2) = itoa t := by
  rw [textW, List.drop_append, List.drop_of_length_le (by omega), List.nil_append, show (itoa f).length + 2 - (itoa f).length = 2 by omega]
  rfl
theorem nd_le : ∀ (k u : Nat), u < 10 ^ (k + 1) → nDigits u ≤ k + 1 := by
  intro k
  induction k with
  | zero => intro u h; rw [nDigits_small (by simpa using h)]; omega
  | succ k ih =>
    intro u h
    by_cases h10 : u < 10
    · rw [nDigits_small h10]; omega
    · rw [nDigits_big h10]
      rw [Nat.pow_succ] at h
      have := ih (u / 10) (by omega)
      omega
theorem dd_len (u : Nat) (h : u < 18446744073709551616) : (decDigits u).length ≤ 20 := by
  rw [decDigits_length]
  exact nd_le 19 u (by omega)
theorem itoa_len (n : Int) (h : -9223372036854775808 ≤ n) (h1 : n ≤ 9223372036854775807) : (itoa n).length ≤ 21 := by
  by_cases h2 : n < 0
  · rw [itoa_neg h2, List.length_cons]
    have := dd_len n.natAbs (by omega)
    omega
  · rw [itoa_nn h2]
    have := dd_len n.natAbs (by omega)
    omega
theorem itoa_pos (n : Int) : 0 < (itoa n).length := by
  by_cases h2 : n < 0
  · rw [itoa_neg h2]; simp
  · rw [itoa_nn h2]; exact dd_pos _

theorem dd_head0 (u : Nat) (h : 1 < (decDigits u).length) (h0 : 0 < (decDigits u).length) : (decDigits u)[0].toNat ≠ 48 := by
  have e := List.drop_eq_getElem_cons h0
  rw [List.drop_zero] at e
  exact dd_head u _ _ e (dd_zero u h)
/-- the last digit -/
theorem dd_step {D : List UInt8} {p u : Nat} (hp : p < D.length) (h : D.take (p + 1) = decDigits u) : D[p].toNat = 48 + u % 10 ∧ (0 < p → D.take p = decDigits (u / 10)) ∧ (p = 0 → u / 10 = 0) := by
  rw [List.take_succ_eq_append_getElem hp] at h
  by_cases h1 : u < 10
  · rw [dd_small h1] at h
    have h2 := congrArg List.length h
    simp only [List.length_append, List.length_singleton, List.length_take] at h2
    have h3 : p = 0 := by omega
    subst h3
    simp only [List.take_zero, List.nil_append] at h
    injection h with h4 _
    refine ⟨?_, fun h => by omega, fun _ => by omega⟩
    rw [h4, byte_nat h1]
    omega
  · rw [dd_big h1] at h
    obtain ⟨h3, h4⟩ := List.append_inj' h rfl
    injection h4 with h5 _
    refine ⟨by rw [h5, byte_nat (by omega)], fun _ => h3, fun h6 => ?_⟩
    subst h6
    have := dd_pos (u / 10)
    rw [← h3] at this
    simp at this
theorem tmod_abs (m : Int) : (m.tmod 10 < 0 ∧ -(m.tmod 10) = ((m.natAbs % 10 : Nat) : Int)) ∨ (¬ m.tmod 10 < 0 ∧ m.tmod 10 = ((m.natAbs % 10 : Nat) : Int)) := by
  have h := Int.natAbs_tmod m 10
  have h2 : (10 : Int).natAbs = 10 := rfl
  rw [h2] at h
  omega
theorem tdiv_abs (m : Int) : (m.tdiv 10).natAbs = m.natAbs / 10 := by
  rw [Int.natAbs_tdiv]
  rfl

end Go.Proofs.YtbnppocaeflghaaDoor
