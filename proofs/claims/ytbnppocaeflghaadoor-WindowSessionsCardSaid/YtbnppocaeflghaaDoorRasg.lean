/- The reference's Assign of layer 7. -/
import Derived.Test.YtbnppocaeflghaaDoorRef07
namespace Go.Proofs.YtbnppocaeflghaaDoor
open Go.RowKit
set_option linter.unusedVariables false
set_option linter.unusedSimpArgs false

theorem tmod_cases (n b : Int) (hb : 1 ≤ b) : (0 ≤ n.tmod b ∧ n.tmod b = n % b) ∨ (n.tmod b < 0 ∧ n.tmod b + b = n % b) := by
  have h0 := Int.emod_nonneg n (show b ≠ 0 by omega)
  have h1 := Int.emod_lt_of_pos n (show 0 < b by omega)
  rw [Int.tmod_eq_emod]
  split
  · left; omega
  · have h2 : (b.natAbs : Int) = b := by omega
    right; omega
theorem tile_apart' (s a b : Int) (hs : 1 ≤ s) (ha : a % s = 0) (hb : b % s = 0) : a = b ∨ a + s ≤ b ∨ b + s ≤ a := by
  obtain ⟨p, rfl⟩ := Int.dvd_of_emod_eq_zero ha
  obtain ⟨q, rfl⟩ := Int.dvd_of_emod_eq_zero hb
  rcases Int.lt_trichotomy p q with h | h | h
  · have h1 : s * (p + 1) ≤ s * q := Int.mul_le_mul_of_nonneg_left (by omega) (by omega)
    rw [Int.mul_add, Int.mul_one] at h1
    exact .inr (.inl h1)
  · subst h
    exact .inl rfl
  · have h1 : s * (q + 1) ≤ s * p := Int.mul_le_mul_of_nonneg_left (by omega) (by omega)
    rw [Int.mul_add, Int.mul_one] at h1
    exact .inr (.inr h1)
/-- two places at which windows begin, less than a step apart -/
theorem uniq_mod (a b o s : Int) (hs : 1 ≤ s) (ha : (a - o) % s = 0) (hb : (b - o) % s = 0) (h1 : a < b + s) (h2 : b < a + s) : a = b := by
  have h := tile_apart' s (a - o) (b - o) hs ha hb
  omega
/-- the windows of a time by Fixed or Sliding -/
theorem gen_asg (k s p o t st : Int) (hr : Wfn.right ⟨k, s, p, o⟩) (hk : (k = 1 ∧ st = s) ∨ (k = 2 ∧ st = p)) : ∃ (m : Nat) (T : Int), Wfn.asg ⟨k, s, p, o⟩ t = (downW T st s m).reverse ∧ 1 ≤ m ∧ t - st < T ∧ T ≤ t ∧ T - (m : Int) * st ≤ t - s ∧ (∀ j : Nat, j < m → t - s < T - (j : Int) * st) ∧ (T - o) % st = 0 := by
  have hs : 1 ≤ st ∧ st ≤ s := by unfold Wfn.right at hr; simp only at hr; omega
  have h0 := Int.emod_nonneg (t - o) (show st ≠ 0 by omega)
  have h1 := Int.emod_lt_of_pos (t - o) (show 0 < st by omega)
  have hst : Wfn.step ⟨k, s, p, o⟩ = st := by
    simp only [Wfn.step]
    rcases hk with ⟨h, h'⟩ | ⟨h, h'⟩
    · rw [if_pos h, h']
    · rw [if_neg (by omega), h']
  have htop : Wfn.top ⟨k, s, p, o⟩ t = t - (t - o) % st := by simp only [Wfn.top, hst]
  have hiff := cntW_iff (t - (t - o) % st) (t - s) st (by omega)
  have hc : Wfn.cnt ⟨k, s, p, o⟩ t = cntW (t - (t - o) % st) (t - s) st := by simp only [Wfn.cnt, htop, hst]
  refine ⟨cntW (t - (t - o) % st) (t - s) st, t - (t - o) % st, ?_, ?_, by omega, by omega, ?_, fun j hj => (hiff j).1 hj, ?_⟩
  · simp only [Wfn.asg]
    rw [if_neg (by omega), if_neg (by omega), hc, htop, hst]
  · have := (hiff 0).2 (by simp; omega)
    omega
  · have h9 : ¬ (cntW (t - (t - o) % st) (t - s) st) < cntW (t - (t - o) % st) (t - s) st := Nat.lt_irrefl _
    have h10 : ¬ (t - s < t - (t - o) % st - ((cntW (t - (t - o) % st) (t - s) st : Nat) : Int) * st) := fun h => h9 ((hiff _).2 h)
    omega
  · rw [show t - (t - o) % st - o = (t - o) - (t - o) % st by omega]
    exact sub_mod_zero _ _

set_option maxRecDepth 100000 in
set_option maxHeartbeats 8000000 in
theorem rassign_any (f : Wfn) (t : Int) (w : World) (h : f.right) (h0 : 0 ≤ t) (h1 : t ≤ 1048576) :
    Calls Tryd.prog 30 #[f.v, .int .i64 t] w fun e w' => ∃ v, e = .returned v ∧ Own w' w.heap.size rT 2 v (f.asg t).length (wins (f.asg t)) ∧ Below w.heap.size w w' := by
  have HR := hide h
  obtain ⟨fv, hfv⟩ : ∃ fv, fv = f.v := ⟨_, rfl⟩
  have HF := hide hfv
  obtain ⟨L, hL⟩ : ∃ L, L = f.asg t := ⟨_, rfl⟩
  rw [← hL]
  have HL := hide hL
  clear hL
  obtain ⟨k, s, p, o⟩ := f
  simp only [Wfn.v] at hfv
  rw [← HF.out]
  subst hfv
  have hc : k = 0 ∨ k = 3 ∨ k = 1 ∨ k = 2 := by unfold Wfn.right at h; simp only at h; omega
  rcases hc with rfl | rfl | rfl | rfl
  · unfold Wfn.right at h
    simp only at h
    go_enter Tryd.func30, Tryd.ntmps30
    go_wp2_with fail
    go_ret
    have hL : L = [⟨0, 1048577⟩] := by rw [HL.out]; simp [Wfn.asg]
    refine ⟨_, rfl, ?_, ((Below.refl w.heap.size w).alloc (Nat.le_refl _) _).alloc (by simp) _⟩
    rw [hL]
    have h9 := Own.new (n := 1) (sz := 2) (e := rT) (w.alloc (.cells #[.int .i64 0, .int .i64 s, .int .i64 p, .int .i64 o] 48)) w.heap.size #[.int .i64 0, .int .i64 1048577] (by simp) (by omega) rfl
    simp at h9
    exact h9
  · unfold Wfn.right at h
    simp only at h
    go_enter Tryd.func30, Tryd.ntmps30
    go_wp2_with fail
    go_ret
    have hL : L = [⟨t, t + s⟩] := by rw [HL.out]; simp [Wfn.asg]
    refine ⟨_, rfl, ?_, ((Below.refl w.heap.size w).alloc (Nat.le_refl _) _).alloc (by simp) _⟩
    rw [hL]
    have h9 := Own.new (n := 1) (sz := 2) (e := rT) (w.alloc (.cells #[.int .i64 3, .int .i64 s, .int .i64 p, .int .i64 o] 48)) w.heap.size #[.int .i64 t, .int .i64 (t + s)] (by simp) (by omega) rfl
    simp at h9
    exact h9
  · have hs : 1 ≤ s ∧ s ≤ 1048576 ∧ s ≤ s ∧ s ≤ 1048576 ∧ 0 ≤ o ∧ o < s := by unfold Wfn.right at h; simp only at h; omega
    obtain ⟨hs1, hs2, hs3, hs4, hs5, hs6⟩ := hs
    obtain ⟨m, T, hasg, hm1, hT1, hT2, hlast, hall, hdv⟩ := gen_asg 1 s p o t s h (by omega)
    have hmm := hall (m - 1) (by omega)
    obtain ⟨m1, hm⟩ : ∃ m1, m = m1 + 1 := ⟨m - 1, by omega⟩
    have hF0 := Int.emod_nonneg (o - (t - s + 1)) (show s ≠ 0 by omega)
    have hF1 := Int.emod_lt_of_pos (o - (t - s + 1)) (show 0 < s by omega)
    have hFm : (t - s + 1 + (o - (t - s + 1)) % s - o) % s = 0 := by
      have h9 := sub_mod_zero (o - (t - s + 1)) s
      rw [show t - s + 1 + (o - (t - s + 1)) % s - o = -((o - (t - s + 1)) - (o - (t - s + 1)) % s) by omega]
      exact Int.emod_eq_zero_of_dvd (Int.dvd_neg.mpr (Int.dvd_of_emod_eq_zero h9))
    have hmul0 : (m : Int) * s = (m1 : Int) * s + s := by rw [hm, show ((m1 + 1 : Nat) : Int) = (m1 : Int) + 1 by omega, Int.add_mul, Int.one_mul]
    have hmul1 : ((m - 1 : Nat) : Int) = (m1 : Int) := by omega
    rw [hmul1] at hmm
    have hTm : (T - (m1 : Int) * s - o) % s = 0 := by
      rw [show T - (m1 : Int) * s - o = (T - o) - (m1 : Int) * s by omega, Int.sub_mul_emod_self_right]
      exact hdv
    have hFirst : t - s + 1 + (o - (t - s + 1)) % s = T - (m1 : Int) * s := uniq_mod _ _ o s hs1 hFm hTm (by omega) (by omega)
    have HFirst := hide hFirst
    have hmb : (m1 : Int) ≤ 1048576 := by
      have h10 := Int.mul_le_mul_of_nonneg_left (show (1 : Int) ≤ s by omega) (show (0 : Int) ≤ (m1 : Int) by omega)
      omega
    have HASG : Hid (L = (downW T s s m).reverse) := by rw [Hid, HL.out, hasg]
    have HLEN : Hid (L.length = m) := by rw [Hid, HASG.out, List.length_reverse, downW_len]
    have hqc := tmod_cases (o - (t - s + 1)) s hs1
    have HM := hide hm
    have hmI : (m : Int) = (m1 : Int) + 1 := by omega
    have hmul9 : 0 ≤ (m1 : Int) * s := Int.mul_nonneg (by omega) (by omega)
    clear hasg hall hdv hFm hTm hm h hmul1
    rw [HLEN.out]
    obtain ⟨q, hq⟩ : ∃ q, q = (o - (t - s + 1)).tmod s := ⟨_, rfl⟩
    rw [← hq] at hqc
    have hp0 : ¬ s = 0 := by omega
    have e1 : IntKind.i64.wrap (t - s) = t - s := IntWalk.i64_in _ (by omega)
    go_enter Tryd.func30, Tryd.ntmps30
    have hcase : (q < 0 ∧ q + s = (o - (t - s + 1)) % s) ∨ (¬ q < 0 ∧ q = (o - (t - s + 1)) % s) := by omega
    have HQ := hide hq
    clear hq hqc
    rcases hcase with ⟨hq1, hq2⟩ | ⟨hq1, hq2⟩
    all_goals
      have hqt : (o - (t - s + 1)).tmod s = q := HQ.out.symm
      go_wp2_with fail
      clear hqt e1
      have HBk : Hid (Blk (w.alloc (.cells #[.int .i64 1, .int .i64 s, .int .i64 p, .int .i64 o] 48)) w.heap.size 48 #[.int .i64 1, .int .i64 s, .int .i64 p, .int .i64 o]) := Blk.new w _ _
      have HB0 := hide ((Below.refl w.heap.size w).alloc (Nat.le_refl _) (.cells #[.int .i64 1, .int .i64 s, .int .i64 p, .int .i64 o] 48))
      generalize w.alloc (.cells #[.int .i64 1, .int .i64 s, .int .i64 p, .int .i64 o] 48) = w1 at *
      go_loopw [6, 8] (fun a oo wr => ∃ (j : Nat) (x : Int), j ≤ m ∧ a = .int .i64 x ∧ Hid (x = T - (m1 : Int) * s + (j : Int) * s) ∧ Hid (Own wr w.heap.size rT 2 oo j (wins (L.take j))) ∧ Hid (Blk wr w.heap.size 48 #[.int .i64 1, .int .i64 s, .int .i64 p, .int .i64 o]) ∧ Hid (Below w.heap.size w wr)) (fun a _ _ => (t + 1 - intOf a + 4194304).toNat)
      case atStart => exact ⟨0, _, Nat.zero_le _, rfl, by (have h9 := HFirst.out; rw [Hid, show ((0 : Nat) : Int) * s = 0 by simp]; omega), Own.nil _ _ _ _, HBk.out, HB0.out⟩
      case round =>
        obtain ⟨j, x, hj, rfl, HX, HO, HK, HB⟩ := hrel
        obtain ⟨oA, oc, rfl, hoc⟩ := HO.out.sl.form
        have hzr := HB.out.size
        have c1 : wr.cell? ⟨w.heap.size, 1, none⟩ = some (.int .i64 s) := HK.out.cell 1
        have hklt := HK.out.lt
        have hjm : (j : Int) * s ≤ (m : Int) * s := Int.mul_le_mul_of_nonneg_right (by omega) (by omega)
        have hj0 : 0 ≤ (j : Int) * s := Int.mul_nonneg (by omega) (by omega)
        have hx := HX.out
        have hxb : -4194304 ≤ x ∧ x ≤ 4194304 := by omega
        obtain ⟨hxb1, hxb2⟩ := hxb
        by_cases hlt : j < m
        · have hjm1 : (j : Int) * s ≤ (m1 : Int) * s := Int.mul_le_mul_of_nonneg_right (by have := HM.out; omega) (by omega)
          have hxt : x ≤ t := by omega
          have hTK : L.take (j + 1) = L.take j ++ [⟨x, x + s⟩] := by
            rw [List.take_succ_eq_append_getElem (by rw [HLEN.out]; exact hlt)]
            congr 2
            have h9 : ∀ (M : List Win) (hM : M = (downW T s s m).reverse) (hj9 : j < M.length), M[j] = ⟨x, x + s⟩ := by
              rintro M rfl hj9
              rw [slide_get]
              have e9 : ((m : Int) - 1 - (j : Int)) * s = (m1 : Int) * s - (j : Int) * s := by rw [hmI, show (m1 : Int) + 1 - 1 - (j : Int) = (m1 : Int) - j by omega, Int.sub_mul]
              rw [e9, show T - ((m1 : Int) * s - (j : Int) * s) = x by omega]
            exact h9 L HASG.out _
          have HTK := hide hTK
          clear hTK hx
          have HN : Hid (Sl (wr.alloc (.cells #[.int .i64 x, .int .i64 (x + s)] rT)) (wr.heap.size + 1) (.slice (some ⟨wr.heap.size, 0, none⟩) 1 1) 2 1 (wins [⟨x, x + s⟩])) :=
            Sl.of_own (Own.new (n := 1) (sz := 2) (e := rT) (base := 0) wr #[.int .i64 x, .int .i64 (x + s)] (by omega) (by omega) rfl) |>.mono (by simp)
          go_wp2_with (at_builtin; refine wpList_app rfl tyR (.tmp 56) (.tmp 63) rfl w.heap.size (n := j) (m := 1) (B := wr.heap.size + 1) (xs := wins (L.take j)) (news := wins [⟨x, x + s⟩]) rfl rfl (HO.out.alloc _) HN.out (wins_ok _) (by omega) (by omega) (by simp <;> omega) ?_)
          intro v1 w5 ha
          have HO1 : Hid (Own w5 w.heap.size rT 2 v1 (j + 1) (wins (L.take (j + 1)))) := by
            rw [HTK.out, wins_app]; exact ha.own
          have HB1 := hide ((HB.out.alloc (o := .cells #[.int .i64 x, .int .i64 (x + s)] rT) HB.out.size).trans (ha.fr.below (B := w.heap.size) (by simp <;> omega) (fun k hk h => by have := ((HO.out.lt k h).1); omega)))
          have HK1 := hide (ha.fr.blk (HK.out.alloc (.cells #[.int .i64 x, .int .i64 (x + s)] rT)) (HO.out.ne HK.out (by decide)))
          clear ha
          go_wp2_with fail
          go_roundw
          case rel => exact ⟨j + 1, x + s, by omega, rfl, by (have h9 := HX.out; rw [Hid, show ((j + 1 : Nat) : Int) = (j : Int) + 1 by omega, Int.add_mul, Int.one_mul]; omega), HO1, HK1, HB1⟩
          case measure => simp [intOf]; omega
        · obtain rfl : j = m := by omega
          have hxt : ¬ x ≤ t := by omega
          have HT9 : Hid (L.take j = L) := by rw [Hid, List.take_of_length_le (by rw [HLEN.out]; omega)]
          clear hx
          go_wp2_with fail
          go_ret
          have h9 := HO.out
          rw [HT9.out] at h9
          exact ⟨_, rfl, h9, HB.out⟩
  · have hs : 1 ≤ p ∧ p ≤ 1048576 ∧ p ≤ s ∧ s ≤ 1048576 ∧ 0 ≤ o ∧ o < p := by unfold Wfn.right at h; simp only at h; omega
    obtain ⟨hs1, hs2, hs3, hs4, hs5, hs6⟩ := hs
    obtain ⟨m, T, hasg, hm1, hT1, hT2, hlast, hall, hdv⟩ := gen_asg 2 s p o t p h (by omega)
    have hmm := hall (m - 1) (by omega)
    obtain ⟨m1, hm⟩ : ∃ m1, m = m1 + 1 := ⟨m - 1, by omega⟩
    have hF0 := Int.emod_nonneg (o - (t - s + 1)) (show p ≠ 0 by omega)
    have hF1 := Int.emod_lt_of_pos (o - (t - s + 1)) (show 0 < p by omega)
    have hFm : (t - s + 1 + (o - (t - s + 1)) % p - o) % p = 0 := by
      have h9 := sub_mod_zero (o - (t - s + 1)) p
      rw [show t - s + 1 + (o - (t - s + 1)) % p - o = -((o - (t - s + 1)) - (o - (t - s + 1)) % p) by omega]
      exact Int.emod_eq_zero_of_dvd (Int.dvd_neg.mpr (Int.dvd_of_emod_eq_zero h9))
    have hmul0 : (m : Int) * p = (m1 : Int) * p + p := by rw [hm, show ((m1 + 1 : Nat) : Int) = (m1 : Int) + 1 by omega, Int.add_mul, Int.one_mul]
    have hmul1 : ((m - 1 : Nat) : Int) = (m1 : Int) := by omega
    rw [hmul1] at hmm
    have hTm : (T - (m1 : Int) * p - o) % p = 0 := by
      rw [show T - (m1 : Int) * p - o = (T - o) - (m1 : Int) * p by omega, Int.sub_mul_emod_self_right]
      exact hdv
    have hFirst : t - s + 1 + (o - (t - s + 1)) % p = T - (m1 : Int) * p := uniq_mod _ _ o p hs1 hFm hTm (by omega) (by omega)
    have HFirst := hide hFirst
    have hmb : (m1 : Int) ≤ 1048576 := by
      have h10 := Int.mul_le_mul_of_nonneg_left (show (1 : Int) ≤ p by omega) (show (0 : Int) ≤ (m1 : Int) by omega)
      omega
    have HASG : Hid (L = (downW T p s m).reverse) := by rw [Hid, HL.out, hasg]
    have HLEN : Hid (L.length = m) := by rw [Hid, HASG.out, List.length_reverse, downW_len]
    have hqc := tmod_cases (o - (t - s + 1)) p hs1
    have HM := hide hm
    have hmI : (m : Int) = (m1 : Int) + 1 := by omega
    have hmul9 : 0 ≤ (m1 : Int) * p := Int.mul_nonneg (by omega) (by omega)
    clear hasg hall hdv hFm hTm hm h hmul1
    rw [HLEN.out]
    obtain ⟨q, hq⟩ : ∃ q, q = (o - (t - s + 1)).tmod p := ⟨_, rfl⟩
    rw [← hq] at hqc
    have hp0 : ¬ p = 0 := by omega
    have e1 : IntKind.i64.wrap (t - s) = t - s := IntWalk.i64_in _ (by omega)
    go_enter Tryd.func30, Tryd.ntmps30
    have hcase : (q < 0 ∧ q + p = (o - (t - s + 1)) % p) ∨ (¬ q < 0 ∧ q = (o - (t - s + 1)) % p) := by omega
    have HQ := hide hq
    clear hq hqc
    rcases hcase with ⟨hq1, hq2⟩ | ⟨hq1, hq2⟩
    all_goals
      have hqt : (o - (t - s + 1)).tmod p = q := HQ.out.symm
      go_wp2_with fail
      clear hqt e1
      have HBk : Hid (Blk (w.alloc (.cells #[.int .i64 2, .int .i64 s, .int .i64 p, .int .i64 o] 48)) w.heap.size 48 #[.int .i64 2, .int .i64 s, .int .i64 p, .int .i64 o]) := Blk.new w _ _
      have HB0 := hide ((Below.refl w.heap.size w).alloc (Nat.le_refl _) (.cells #[.int .i64 2, .int .i64 s, .int .i64 p, .int .i64 o] 48))
      generalize w.alloc (.cells #[.int .i64 2, .int .i64 s, .int .i64 p, .int .i64 o] 48) = w1 at *
      go_loopw [6, 8] (fun a oo wr => ∃ (j : Nat) (x : Int), j ≤ m ∧ a = .int .i64 x ∧ Hid (x = T - (m1 : Int) * p + (j : Int) * p) ∧ Hid (Own wr w.heap.size rT 2 oo j (wins (L.take j))) ∧ Hid (Blk wr w.heap.size 48 #[.int .i64 2, .int .i64 s, .int .i64 p, .int .i64 o]) ∧ Hid (Below w.heap.size w wr)) (fun a _ _ => (t + 1 - intOf a + 4194304).toNat)
      case atStart => exact ⟨0, _, Nat.zero_le _, rfl, by (have h9 := HFirst.out; rw [Hid, show ((0 : Nat) : Int) * p = 0 by simp]; omega), Own.nil _ _ _ _, HBk.out, HB0.out⟩
      case round =>
        obtain ⟨j, x, hj, rfl, HX, HO, HK, HB⟩ := hrel
        obtain ⟨oA, oc, rfl, hoc⟩ := HO.out.sl.form
        have hzr := HB.out.size
        have c1 : wr.cell? ⟨w.heap.size, 1, none⟩ = some (.int .i64 s) := HK.out.cell 1
        have hklt := HK.out.lt
        have hjm : (j : Int) * p ≤ (m : Int) * p := Int.mul_le_mul_of_nonneg_right (by omega) (by omega)
        have hj0 : 0 ≤ (j : Int) * p := Int.mul_nonneg (by omega) (by omega)
        have hx := HX.out
        have hxb : -4194304 ≤ x ∧ x ≤ 4194304 := by omega
        obtain ⟨hxb1, hxb2⟩ := hxb
        by_cases hlt : j < m
        · have hjm1 : (j : Int) * p ≤ (m1 : Int) * p := Int.mul_le_mul_of_nonneg_right (by have := HM.out; omega) (by omega)
          have hxt : x ≤ t := by omega
          have hTK : L.take (j + 1) = L.take j ++ [⟨x, x + s⟩] := by
            rw [List.take_succ_eq_append_getElem (by rw [HLEN.out]; exact hlt)]
            congr 2
            have h9 : ∀ (M : List Win) (hM : M = (downW T p s m).reverse) (hj9 : j < M.length), M[j] = ⟨x, x + s⟩ := by
              rintro M rfl hj9
              rw [slide_get]
              have e9 : ((m : Int) - 1 - (j : Int)) * p = (m1 : Int) * p - (j : Int) * p := by rw [hmI, show (m1 : Int) + 1 - 1 - (j : Int) = (m1 : Int) - j by omega, Int.sub_mul]
              rw [e9, show T - ((m1 : Int) * p - (j : Int) * p) = x by omega]
            exact h9 L HASG.out _
          have HTK := hide hTK
          clear hTK hx
          have HN : Hid (Sl (wr.alloc (.cells #[.int .i64 x, .int .i64 (x + s)] rT)) (wr.heap.size + 1) (.slice (some ⟨wr.heap.size, 0, none⟩) 1 1) 2 1 (wins [⟨x, x + s⟩])) :=
            Sl.of_own (Own.new (n := 1) (sz := 2) (e := rT) (base := 0) wr #[.int .i64 x, .int .i64 (x + s)] (by omega) (by omega) rfl) |>.mono (by simp)
          go_wp2_with (at_builtin; refine wpList_app rfl tyR (.tmp 56) (.tmp 63) rfl w.heap.size (n := j) (m := 1) (B := wr.heap.size + 1) (xs := wins (L.take j)) (news := wins [⟨x, x + s⟩]) rfl rfl (HO.out.alloc _) HN.out (wins_ok _) (by omega) (by omega) (by simp <;> omega) ?_)
          intro v1 w5 ha
          have HO1 : Hid (Own w5 w.heap.size rT 2 v1 (j + 1) (wins (L.take (j + 1)))) := by
            rw [HTK.out, wins_app]; exact ha.own
          have HB1 := hide ((HB.out.alloc (o := .cells #[.int .i64 x, .int .i64 (x + s)] rT) HB.out.size).trans (ha.fr.below (B := w.heap.size) (by simp <;> omega) (fun k hk h => by have := ((HO.out.lt k h).1); omega)))
          have HK1 := hide (ha.fr.blk (HK.out.alloc (.cells #[.int .i64 x, .int .i64 (x + s)] rT)) (HO.out.ne HK.out (by decide)))
          clear ha
          go_wp2_with fail
          go_roundw
          case rel => exact ⟨j + 1, x + p, by omega, rfl, by (have h9 := HX.out; rw [Hid, show ((j + 1 : Nat) : Int) = (j : Int) + 1 by omega, Int.add_mul, Int.one_mul]; omega), HO1, HK1, HB1⟩
          case measure => simp [intOf]; omega
        · obtain rfl : j = m := by omega
          have hxt : ¬ x ≤ t := by omega
          have HT9 : Hid (L.take j = L) := by rw [Hid, List.take_of_length_le (by rw [HLEN.out]; omega)]
          clear hx
          go_wp2_with fail
          go_ret
          have h9 := HO.out
          rw [HT9.out] at h9
          exact ⟨_, rfl, h9, HB.out⟩

end Go.Proofs.YtbnppocaeflghaaDoor
