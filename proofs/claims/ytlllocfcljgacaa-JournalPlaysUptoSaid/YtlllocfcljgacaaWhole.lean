/- journal.whole: the walk. Printed by genwhole.py. -/
import Derived.Test.YtlllocfcljgacaaWholeP
import Derived.Deep.QuietTactic
import Derived.BigQuiet
namespace Go.Proofs.Ytlllocfcljgacaa
open Go.RowKit
set_option linter.unusedVariables false
set_option linter.unusedSimpArgs false

set_option maxRecDepth 100000 in
set_option maxHeartbeats 8000000 in
theorem whole_any (v : Value) (X : List Int) (n B p : Nat) (w : World) (hs : Sl w B v 1 n (bys X)) (hX : X.length = n) (h8 : Bytes8 X) (hn : n ≤ 1073741824) (hp : p ≤ n) :
    Calls Try.prog 29 #[v, .int .i64 p] w fun e w' => (∃ j, w' = w.drewN j) ∧ WholePost w B p (wholeB (X.drop p)) e := by
  obtain ⟨A, c, rfl, hnc⟩ := hs.form
  have HS := hide hs
  have HX := hide hX
  have H8 := hide h8
  clear hs hX h8
  go_enter Try.func29, Try.ntmps29
  go_wp2_with fail
  refine wp_scope_top 0 (fun a' w' => ∃ (k acc : Nat) (u9 u10 u11 u12 u13 u14 u15 u16 u17 u18 u19 u20 u21 u22 u23 u24 u25 u26 u27 u28 u29 u30 u31 u32 u33 u34 u35 : Value), a' = { tmps := #[.slice A n c, .int .i64 (p + k : Nat), undef, undef, .int .i64 0, .slice none 0 0, .bool false, .int .i64 acc, .int .i64 (7 * k : Nat), u9, u10, u11, u12, u13, u14, u15, u16, u17, u18, u19, u20, u21, u22, u23, u24, u25, u26, u27, u28, u29, u30, u31, u32, u33, u34, u35, undef, undef, undef, undef, undef, undef, undef, undef, undef, undef, undef, undef, undef, undef, undef, undef, undef, undef, undef, undef, undef, undef, undef, undef, undef, undef, undef, undef, undef, undef, undef, undef, undef, undef, undef, undef, undef, undef, undef, undef, undef, undef, undef, undef, undef, undef, undef, undef, undef, undef, undef, undef, undef, undef, undef, undef, undef, undef, undef, undef, undef, undef, undef, undef], defers := [] } ∧ w' = w ∧ k ≤ 3 ∧ p + k ≤ n ∧ acc < 128 ^ k ∧ Hid (grp 0 0 (X.drop p) = grp k acc (X.drop (p + k))))
    (fun a' _ => 1000 - (intOf (a'.tmps.getD 8 undef)).toNat) rfl ?_ ?_
  · go_wp2_with fail
    exact ⟨0, 0, ⟨by simp, by simp, by simp⟩, by omega, by omega, by simp, rfl⟩
  · rintro a' w' ⟨k, acc, u9, u10, u11, u12, u13, u14, u15, u16, u17, u18, u19, u20, u21, u22, u23, u24, u25, u26, u27, u28, u29, u30, u31, u32, u33, u34, u35, rfl, rfl, hk, hpk, hacc, HG⟩
    rcases (by omega : k = 0 ∨ k = 1 ∨ k = 2 ∨ k = 3) with rfl | rfl | rfl | rfl
    · simp only [show (128 : Nat) ^ 0 = 1 from rfl, Nat.add_zero] at hacc HG hpk
      by_cases hlt : p < n
      · obtain ⟨ad, rfl, hab, h0⟩ := by_at HS.out hlt HX.out
        have hD : X.drop p = X[p]'(by rw [HX.out]; exact hlt) :: X.drop (p + 1) := List.drop_eq_getElem_cons (by rw [HX.out]; exact hlt)
        have hc8 := H8.out (X[p]'(by rw [HX.out]; exact hlt)) (List.getElem_mem _)
        generalize X[p]'(by rw [HX.out]; exact hlt) = x at h0 hD hc8
        obtain ⟨hx0, hx1⟩ := hc8
        have HD := hide hD
        clear hD
        by_cases h128 : 128 ≤ x
        · have hand : bits .and .i64 x 127 = x - 128 := by rw [i64_and127]; omega
          obtain ⟨acc', hacc'⟩ : ∃ q : Nat, q = acc + (x.toNat - 128) * 1 := ⟨_, rfl⟩
          have hor : bits .or .i64 acc ((x - 128)) = (acc' : Int) := by
            rw [hacc', show (x - 128) = (((x.toNat - 128) * 1 : Nat) : Int) by omega]
            exact or_up acc (x.toNat - 128) 0 (by omega) (by omega)
          have HA := hide hacc'
          clear hacc'
          go_wp2_with fail
          go_step3
          refine ⟨rfl, ⟨1, acc', _, _, _, _, _, _, _, _, _, _, _, _, _, _, _, _, _, _, _, _, _, _, _, _, _, _, _, rfl, rfl, by omega, by omega, by have := HA.out; omega, ?_⟩, by simp [intOf]⟩
          have ha0 : acc = 0 := by omega
          rw [Hid, HD.out, grp, if_neg (by omega), if_neg (by omega), HA.out, ha0]
        · have hand : bits .and .i64 x 127 = x := by rw [i64_and127]; omega
          have HZ : Hid (¬ (x = 0 ∧ 0 < 0)) := by rw [Hid]; omega
          obtain ⟨m, hm⟩ : ∃ q : Nat, q = acc + x.toNat * 1 := ⟨_, rfl⟩
          have hor : bits .or .i64 acc (x) = (m : Int) := by
            have h9 := or_up acc x.toNat 0 (by omega) (by omega)
            rw [show ((x.toNat * 2 ^ 0 : Nat) : Int) = x by omega] at h9
            rw [hm]
            exact h9
          have HM := hide hm
          clear hm
          have HG2 : Hid (grp 0 0 (X.drop p) = some (m, 1)) := by
            have ha0 : acc = 0 := by omega
            rw [Hid, HD.out, grp, if_neg (by omega), if_pos (by omega), if_neg HZ.out, HM.out, ha0]
          by_cases hbig : 1048576 < m
          · have HN : Hid (wholeB (X.drop p) = none) := whole_off HG2.out (.inl hbig)
            go_wp2_with fail
            all_goals
              simp only [Exit.jump]
              go_ret3
              rw [HN.out]
              exact none_post _ _ _ _ _ 0
          · by_cases hshort : n < p + 1 + 4 + m
            · have HN : Hid (wholeB (X.drop p) = none) := whole_off HG2.out (.inr (by rw [List.length_drop, HX.out]; omega))
              go_wp2_with fail
              all_goals
                simp only [Exit.jump]
                go_ret3
                rw [HN.out]
                exact none_post _ _ _ _ _ 0
            · go_wp2_with fail
              all_goals
                obtain ⟨q, hq⟩ : ∃ q : Nat, q = p + 1 := ⟨_, rfl⟩
                have hqc : (p : Int) + 1 = (q : Int) := by omega
                simp only [hqc]
                have HQ := hide hq
                have hqm : q + 4 + m ≤ n := by omega
                clear hq hqc hor hand h0
                obtain ⟨ad0, had0, _, g0⟩ := by_at HS.out (show q < n by omega) HX.out
                obtain ⟨ad1, had1, _, g1⟩ := by_at HS.out (show q + 1 < n by omega) HX.out
                obtain ⟨ad2, had2, _, g2⟩ := by_at HS.out (show q + 2 < n by omega) HX.out
                obtain ⟨ad3, had3, _, g3⟩ := by_at HS.out (show q + 3 < n by omega) HX.out
                obtain rfl : ad = ad0 := by injection had0
                obtain rfl : ad = ad1 := by injection had1
                obtain rfl : ad = ad2 := by injection had2
                obtain rfl : ad = ad3 := by injection had3
                clear had0 had1 had2 had3
                rw [add_succ] at g1 g2 g3
                have e0 := H8.out (X[q]'(by rw [HX.out]; omega)) (List.getElem_mem _)
                have e1 := H8.out (X[q + 1]'(by rw [HX.out]; omega)) (List.getElem_mem _)
                have e2 := H8.out (X[q + 2]'(by rw [HX.out]; omega)) (List.getElem_mem _)
                have e3 := H8.out (X[q + 3]'(by rw [HX.out]; omega)) (List.getElem_mem _)
                have HT : Hid ((X.drop q).take 4 = [X[q]'(by rw [HX.out]; omega), X[q + 1]'(by rw [HX.out]; omega), X[q + 2]'(by rw [HX.out]; omega), X[q + 3]'(by rw [HX.out]; omega)]) := take4 X q (by rw [HX.out]; omega)
                generalize X[q]'(by rw [HX.out]; omega) = y0 at g0 e0 HT
                generalize X[q + 1]'(by rw [HX.out]; omega) = y1 at g1 e1 HT
                generalize X[q + 2]'(by rw [HX.out]; omega) = y2 at g2 e2 HT
                generalize X[q + 3]'(by rw [HX.out]; omega) = y3 at g3 e3 HT
                have i1 : IntKind.i64.wrap ((q : Int) + 1) = (q : Int) + 1 := IntWalk.i64_in _ (by omega)
                have i2 : IntKind.i64.wrap ((q : Int) + 2) = (q : Int) + 2 := IntWalk.i64_in _ (by omega)
                have i3 : IntKind.i64.wrap ((q : Int) + 3) = (q : Int) + 3 := IntWalk.i64_in _ (by omega)
                have j1 : (0 : Int) ≤ (q : Int) + 1 := by omega
                have j2 : (0 : Int) ≤ (q : Int) + 2 := by omega
                have j3 : (0 : Int) ≤ (q : Int) + 3 := by omega
                have l1 : ((q : Int) + 1).toNat = q + 1 := by omega
                have l2 : ((q : Int) + 2).toNat = q + 2 := by omega
                have l3 : ((q : Int) + 3).toNat = q + 3 := by omega
                go_quiet (fail)
                have h4 := or4 y0 y1 y2 y3 e0 e1 e2 e3
                obtain ⟨S, hS⟩ : ∃ S : Int, S = y0 * 16777216 + y1 * 65536 + y2 * 256 + y3 := ⟨_, rfl⟩
                rw [← hS] at h4
                rw [h4]
                have HSS := hide hS
                have HY := hide (And.intro e0 (And.intro e1 (And.intro e2 e3)))
                clear h4 hS g0 g1 g2 g3 i1 i2 i3 j1 j2 j3 l1 l2 l3 e0 e1 e2 e3
                have hRl : ((X.drop (q + 4)).take m).length = m := by rw [List.length_take, List.length_drop, HX.out]; omega
                have HR8 : Hid (Bytes8 ((X.drop (q + 4)).take m)) := fun c hc => H8.out c (List.mem_of_mem_drop (List.mem_of_mem_take hc))
                have HR1 : Hid (Sl w' B (.slice (some ⟨ad.block, ad.off + (q + 3 + 1), none⟩) m (c - (q + 4))) 1 m (bys ((X.drop (q + 4)).take m))) := by
                  have h9 := (HS.out.drop (k := q + 4) (by omega)).take (k := m) (by omega)
                  rw [← bys_cut] at h9
                  simp only [Option.map, Nat.mul_one] at h9
                  rw [add_succ] at h9
                  exact h9
                have HR2 : Hid (c - (q + 4) = 0 → Sl w' B (.slice (some ad) m 0) 1 m (bys ((X.drop (q + 4)).take m))) := by
                  intro h9
                  have hm0 : m = 0 := by omega
                  subst hm0
                  exact ⟨by simp [bys], some ad, 0, rfl, by omega, by omega, by omega⟩
                have HW := hide (whole_on HG2.out (by rw [List.length_drop, HX.out]; omega))
                rw [List.drop_drop, List.drop_drop, show p + (1 + 4) = q + 4 by have := HQ.out; omega, ← HQ.out, HT.out] at HW
                simp only [tail_iff _ _ _ _ HY.out.1 HY.out.2.1 HY.out.2.2.1 HY.out.2.2.2] at HW
                rw [← HSS.out] at HW
                have hpq : p + (1 + 4 + m) = q + 4 + m := by have := HQ.out; omega
                have HPQ := hide hpq
                clear hpq
                generalize (X.drop (q + 4)).take m = R at hRl HR8 HR1 HR2 HW
                have HRL := hide hRl
                clear hRl
                go_wp2_with fail
                all_goals
                  refine (jsum_any _ R m B _ (by first | exact HR1.out.drewN _ | exact (HR2.out (by omega)).drewN _) HRL.out HR8.out).mono ?_
                  rintro e w2 ⟨rfl, rfl⟩
                  go_wp2_with fail
                  simp only [Exit.jump]
                  go_ret3
                  rw [HW.out]
                  exact whole_post _ (by rw [HPQ.out]; omega) (by rw [HRL.out]; first | exact HR1.out | exact HR2.out (by omega))
      · have HN : Hid (wholeB (X.drop p) = none) := whole_none (by rw [HG.out, List.drop_eq_nil_of_le (by rw [HX.out]; omega)]; rfl)
        go_wp2_with fail
        all_goals
          simp only [Exit.jump]
          go_ret3
          rw [HN.out]
          exact none_post _ _ _ _ _ 0

    · simp only [show (128 : Nat) ^ 1 = 128 from rfl, Nat.add_zero] at hacc HG hpk
      by_cases hlt : (p + 1) < n
      · obtain ⟨ad, rfl, hab, h0⟩ := by_at HS.out hlt HX.out
        rw [add_succ ad (p + 0)] at h0
        have hD : X.drop (p + 1) = X[(p + 1)]'(by rw [HX.out]; exact hlt) :: X.drop (p + 2) := List.drop_eq_getElem_cons (by rw [HX.out]; exact hlt)
        have hc8 := H8.out (X[(p + 1)]'(by rw [HX.out]; exact hlt)) (List.getElem_mem _)
        generalize X[(p + 1)]'(by rw [HX.out]; exact hlt) = x at h0 hD hc8
        obtain ⟨hx0, hx1⟩ := hc8
        have HD := hide hD
        clear hD
        by_cases h128 : 128 ≤ x
        · have hand : bits .and .i64 x 127 = x - 128 := by rw [i64_and127]; omega
          obtain ⟨acc', hacc'⟩ : ∃ q : Nat, q = acc + (x.toNat - 128) * 128 := ⟨_, rfl⟩
          have hor : bits .or .i64 acc ((x - 128) * 128) = (acc' : Int) := by
            rw [hacc', show (x - 128) * 128 = (((x.toNat - 128) * 128 : Nat) : Int) by omega]
            exact or_up acc (x.toNat - 128) 7 (by omega) (by omega)
          have HA := hide hacc'
          clear hacc'
          go_wp2_with fail
          go_step3
          refine ⟨rfl, ⟨2, acc', _, _, _, _, _, _, _, _, _, _, _, _, _, _, _, _, _, _, _, _, _, _, _, _, _, _, _, rfl, rfl, by omega, by omega, by have := HA.out; omega, ?_⟩, by simp [intOf]⟩
          have h9 := HG.out
          rw [HD.out, grp, if_neg (by omega), if_neg (by omega), ← HA.out] at h9
          exact h9
        · have hand : bits .and .i64 x 127 = x := by rw [i64_and127]; omega
          by_cases hz : x = 0
          · have HN : Hid (wholeB (X.drop p) = none) := whole_none (by
              rw [HG.out, HD.out, grp, if_neg (by omega), if_pos (by omega), if_pos ⟨hz, by omega⟩])
            obtain ⟨acc', hacc'⟩ : ∃ q : Int, q = bits .or .i64 acc 0 := ⟨_, rfl⟩
            subst hz
            go_wp2_with fail
            all_goals
              simp only [Exit.jump]
              go_ret3
              rw [HN.out]
              exact none_post _ _ _ _ _ 0
          have HZ : Hid (¬ (x = 0 ∧ 0 < 1)) := by rw [Hid]; omega
          obtain ⟨m, hm⟩ : ∃ q : Nat, q = acc + x.toNat * 128 := ⟨_, rfl⟩
          have hor : bits .or .i64 acc (x * 128) = (m : Int) := by
            have h9 := or_up acc x.toNat 7 (by omega) (by omega)
            rw [show ((x.toNat * 2 ^ 7 : Nat) : Int) = x * 128 by omega] at h9
            rw [hm]
            exact h9
          have HM := hide hm
          clear hm
          have HG2 : Hid (grp 0 0 (X.drop p) = some (m, 2)) := by
            rw [Hid, HG.out, HD.out, grp, if_neg (by omega), if_pos (by omega), if_neg HZ.out, ← HM.out]
          by_cases hbig : 1048576 < m
          · have HN : Hid (wholeB (X.drop p) = none) := whole_off HG2.out (.inl hbig)
            go_wp2_with fail
            all_goals
              simp only [Exit.jump]
              go_ret3
              rw [HN.out]
              exact none_post _ _ _ _ _ 0
          · by_cases hshort : n < p + 2 + 4 + m
            · have HN : Hid (wholeB (X.drop p) = none) := whole_off HG2.out (.inr (by rw [List.length_drop, HX.out]; omega))
              go_wp2_with fail
              all_goals
                simp only [Exit.jump]
                go_ret3
                rw [HN.out]
                exact none_post _ _ _ _ _ 0
            · go_wp2_with fail
              all_goals
                obtain ⟨q, hq⟩ : ∃ q : Nat, q = p + 2 := ⟨_, rfl⟩
                have hqc : (p : Int) + 1 + 1 = (q : Int) := by omega
                simp only [hqc]
                have HQ := hide hq
                have hqm : q + 4 + m ≤ n := by omega
                clear hq hqc hor hand h0
                obtain ⟨ad0, had0, _, g0⟩ := by_at HS.out (show q < n by omega) HX.out
                obtain ⟨ad1, had1, _, g1⟩ := by_at HS.out (show q + 1 < n by omega) HX.out
                obtain ⟨ad2, had2, _, g2⟩ := by_at HS.out (show q + 2 < n by omega) HX.out
                obtain ⟨ad3, had3, _, g3⟩ := by_at HS.out (show q + 3 < n by omega) HX.out
                obtain rfl : ad = ad0 := by injection had0
                obtain rfl : ad = ad1 := by injection had1
                obtain rfl : ad = ad2 := by injection had2
                obtain rfl : ad = ad3 := by injection had3
                clear had0 had1 had2 had3
                rw [add_succ] at g1 g2 g3
                have e0 := H8.out (X[q]'(by rw [HX.out]; omega)) (List.getElem_mem _)
                have e1 := H8.out (X[q + 1]'(by rw [HX.out]; omega)) (List.getElem_mem _)
                have e2 := H8.out (X[q + 2]'(by rw [HX.out]; omega)) (List.getElem_mem _)
                have e3 := H8.out (X[q + 3]'(by rw [HX.out]; omega)) (List.getElem_mem _)
                have HT : Hid ((X.drop q).take 4 = [X[q]'(by rw [HX.out]; omega), X[q + 1]'(by rw [HX.out]; omega), X[q + 2]'(by rw [HX.out]; omega), X[q + 3]'(by rw [HX.out]; omega)]) := take4 X q (by rw [HX.out]; omega)
                generalize X[q]'(by rw [HX.out]; omega) = y0 at g0 e0 HT
                generalize X[q + 1]'(by rw [HX.out]; omega) = y1 at g1 e1 HT
                generalize X[q + 2]'(by rw [HX.out]; omega) = y2 at g2 e2 HT
                generalize X[q + 3]'(by rw [HX.out]; omega) = y3 at g3 e3 HT
                have i1 : IntKind.i64.wrap ((q : Int) + 1) = (q : Int) + 1 := IntWalk.i64_in _ (by omega)
                have i2 : IntKind.i64.wrap ((q : Int) + 2) = (q : Int) + 2 := IntWalk.i64_in _ (by omega)
                have i3 : IntKind.i64.wrap ((q : Int) + 3) = (q : Int) + 3 := IntWalk.i64_in _ (by omega)
                have j1 : (0 : Int) ≤ (q : Int) + 1 := by omega
                have j2 : (0 : Int) ≤ (q : Int) + 2 := by omega
                have j3 : (0 : Int) ≤ (q : Int) + 3 := by omega
                have l1 : ((q : Int) + 1).toNat = q + 1 := by omega
                have l2 : ((q : Int) + 2).toNat = q + 2 := by omega
                have l3 : ((q : Int) + 3).toNat = q + 3 := by omega
                go_quiet (fail)
                have h4 := or4 y0 y1 y2 y3 e0 e1 e2 e3
                obtain ⟨S, hS⟩ : ∃ S : Int, S = y0 * 16777216 + y1 * 65536 + y2 * 256 + y3 := ⟨_, rfl⟩
                rw [← hS] at h4
                rw [h4]
                have HSS := hide hS
                have HY := hide (And.intro e0 (And.intro e1 (And.intro e2 e3)))
                clear h4 hS g0 g1 g2 g3 i1 i2 i3 j1 j2 j3 l1 l2 l3 e0 e1 e2 e3
                have hRl : ((X.drop (q + 4)).take m).length = m := by rw [List.length_take, List.length_drop, HX.out]; omega
                have HR8 : Hid (Bytes8 ((X.drop (q + 4)).take m)) := fun c hc => H8.out c (List.mem_of_mem_drop (List.mem_of_mem_take hc))
                have HR1 : Hid (Sl w' B (.slice (some ⟨ad.block, ad.off + (q + 3 + 1), none⟩) m (c - (q + 4))) 1 m (bys ((X.drop (q + 4)).take m))) := by
                  have h9 := (HS.out.drop (k := q + 4) (by omega)).take (k := m) (by omega)
                  rw [← bys_cut] at h9
                  simp only [Option.map, Nat.mul_one] at h9
                  rw [add_succ] at h9
                  exact h9
                have HR2 : Hid (c - (q + 4) = 0 → Sl w' B (.slice (some ad) m 0) 1 m (bys ((X.drop (q + 4)).take m))) := by
                  intro h9
                  have hm0 : m = 0 := by omega
                  subst hm0
                  exact ⟨by simp [bys], some ad, 0, rfl, by omega, by omega, by omega⟩
                have HW := hide (whole_on HG2.out (by rw [List.length_drop, HX.out]; omega))
                rw [List.drop_drop, List.drop_drop, show p + (2 + 4) = q + 4 by have := HQ.out; omega, ← HQ.out, HT.out] at HW
                simp only [tail_iff _ _ _ _ HY.out.1 HY.out.2.1 HY.out.2.2.1 HY.out.2.2.2] at HW
                rw [← HSS.out] at HW
                have hpq : p + (2 + 4 + m) = q + 4 + m := by have := HQ.out; omega
                have HPQ := hide hpq
                clear hpq
                generalize (X.drop (q + 4)).take m = R at hRl HR8 HR1 HR2 HW
                have HRL := hide hRl
                clear hRl
                go_wp2_with fail
                all_goals
                  refine (jsum_any _ R m B _ (by first | exact HR1.out.drewN _ | exact (HR2.out (by omega)).drewN _) HRL.out HR8.out).mono ?_
                  rintro e w2 ⟨rfl, rfl⟩
                  go_wp2_with fail
                  simp only [Exit.jump]
                  go_ret3
                  rw [HW.out]
                  exact whole_post _ (by rw [HPQ.out]; omega) (by rw [HRL.out]; first | exact HR1.out | exact HR2.out (by omega))
      · have HN : Hid (wholeB (X.drop p) = none) := whole_none (by rw [HG.out, List.drop_eq_nil_of_le (by rw [HX.out]; omega)]; rfl)
        go_wp2_with fail
        all_goals
          simp only [Exit.jump]
          go_ret3
          rw [HN.out]
          exact none_post _ _ _ _ _ 0

    · simp only [show (128 : Nat) ^ 2 = 16384 from rfl, Nat.add_zero] at hacc HG hpk
      by_cases hlt : (p + 2) < n
      · obtain ⟨ad, rfl, hab, h0⟩ := by_at HS.out hlt HX.out
        rw [add_succ ad (p + 1)] at h0
        have hD : X.drop (p + 2) = X[(p + 2)]'(by rw [HX.out]; exact hlt) :: X.drop (p + 3) := List.drop_eq_getElem_cons (by rw [HX.out]; exact hlt)
        have hc8 := H8.out (X[(p + 2)]'(by rw [HX.out]; exact hlt)) (List.getElem_mem _)
        generalize X[(p + 2)]'(by rw [HX.out]; exact hlt) = x at h0 hD hc8
        obtain ⟨hx0, hx1⟩ := hc8
        have HD := hide hD
        clear hD
        by_cases h128 : 128 ≤ x
        · have hand : bits .and .i64 x 127 = x - 128 := by rw [i64_and127]; omega
          obtain ⟨acc', hacc'⟩ : ∃ q : Nat, q = acc + (x.toNat - 128) * 16384 := ⟨_, rfl⟩
          have hor : bits .or .i64 acc ((x - 128) * 16384) = (acc' : Int) := by
            rw [hacc', show (x - 128) * 16384 = (((x.toNat - 128) * 16384 : Nat) : Int) by omega]
            exact or_up acc (x.toNat - 128) 14 (by omega) (by omega)
          have HA := hide hacc'
          clear hacc'
          go_wp2_with fail
          go_step3
          refine ⟨rfl, ⟨3, acc', _, _, _, _, _, _, _, _, _, _, _, _, _, _, _, _, _, _, _, _, _, _, _, _, _, _, _, rfl, rfl, by omega, by omega, by have := HA.out; omega, ?_⟩, by simp [intOf]⟩
          have h9 := HG.out
          rw [HD.out, grp, if_neg (by omega), if_neg (by omega), ← HA.out] at h9
          exact h9
        · have hand : bits .and .i64 x 127 = x := by rw [i64_and127]; omega
          by_cases hz : x = 0
          · have HN : Hid (wholeB (X.drop p) = none) := whole_none (by
              rw [HG.out, HD.out, grp, if_neg (by omega), if_pos (by omega), if_pos ⟨hz, by omega⟩])
            obtain ⟨acc', hacc'⟩ : ∃ q : Int, q = bits .or .i64 acc 0 := ⟨_, rfl⟩
            subst hz
            go_wp2_with fail
            all_goals
              simp only [Exit.jump]
              go_ret3
              rw [HN.out]
              exact none_post _ _ _ _ _ 0
          have HZ : Hid (¬ (x = 0 ∧ 0 < 2)) := by rw [Hid]; omega
          obtain ⟨m, hm⟩ : ∃ q : Nat, q = acc + x.toNat * 16384 := ⟨_, rfl⟩
          have hor : bits .or .i64 acc (x * 16384) = (m : Int) := by
            have h9 := or_up acc x.toNat 14 (by omega) (by omega)
            rw [show ((x.toNat * 2 ^ 14 : Nat) : Int) = x * 16384 by omega] at h9
            rw [hm]
            exact h9
          have HM := hide hm
          clear hm
          have HG2 : Hid (grp 0 0 (X.drop p) = some (m, 3)) := by
            rw [Hid, HG.out, HD.out, grp, if_neg (by omega), if_pos (by omega), if_neg HZ.out, ← HM.out]
          by_cases hbig : 1048576 < m
          · have HN : Hid (wholeB (X.drop p) = none) := whole_off HG2.out (.inl hbig)
            go_wp2_with fail
            all_goals
              simp only [Exit.jump]
              go_ret3
              rw [HN.out]
              exact none_post _ _ _ _ _ 0
          · by_cases hshort : n < p + 3 + 4 + m
            · have HN : Hid (wholeB (X.drop p) = none) := whole_off HG2.out (.inr (by rw [List.length_drop, HX.out]; omega))
              go_wp2_with fail
              all_goals
                simp only [Exit.jump]
                go_ret3
                rw [HN.out]
                exact none_post _ _ _ _ _ 0
            · go_wp2_with fail
              all_goals
                obtain ⟨q, hq⟩ : ∃ q : Nat, q = p + 3 := ⟨_, rfl⟩
                have hqc : (p : Int) + 2 + 1 = (q : Int) := by omega
                simp only [hqc]
                have HQ := hide hq
                have hqm : q + 4 + m ≤ n := by omega
                clear hq hqc hor hand h0
                obtain ⟨ad0, had0, _, g0⟩ := by_at HS.out (show q < n by omega) HX.out
                obtain ⟨ad1, had1, _, g1⟩ := by_at HS.out (show q + 1 < n by omega) HX.out
                obtain ⟨ad2, had2, _, g2⟩ := by_at HS.out (show q + 2 < n by omega) HX.out
                obtain ⟨ad3, had3, _, g3⟩ := by_at HS.out (show q + 3 < n by omega) HX.out
                obtain rfl : ad = ad0 := by injection had0
                obtain rfl : ad = ad1 := by injection had1
                obtain rfl : ad = ad2 := by injection had2
                obtain rfl : ad = ad3 := by injection had3
                clear had0 had1 had2 had3
                rw [add_succ] at g1 g2 g3
                have e0 := H8.out (X[q]'(by rw [HX.out]; omega)) (List.getElem_mem _)
                have e1 := H8.out (X[q + 1]'(by rw [HX.out]; omega)) (List.getElem_mem _)
                have e2 := H8.out (X[q + 2]'(by rw [HX.out]; omega)) (List.getElem_mem _)
                have e3 := H8.out (X[q + 3]'(by rw [HX.out]; omega)) (List.getElem_mem _)
                have HT : Hid ((X.drop q).take 4 = [X[q]'(by rw [HX.out]; omega), X[q + 1]'(by rw [HX.out]; omega), X[q + 2]'(by rw [HX.out]; omega), X[q + 3]'(by rw [HX.out]; omega)]) := take4 X q (by rw [HX.out]; omega)
                generalize X[q]'(by rw [HX.out]; omega) = y0 at g0 e0 HT
                generalize X[q + 1]'(by rw [HX.out]; omega) = y1 at g1 e1 HT
                generalize X[q + 2]'(by rw [HX.out]; omega) = y2 at g2 e2 HT
                generalize X[q + 3]'(by rw [HX.out]; omega) = y3 at g3 e3 HT
                have i1 : IntKind.i64.wrap ((q : Int) + 1) = (q : Int) + 1 := IntWalk.i64_in _ (by omega)
                have i2 : IntKind.i64.wrap ((q : Int) + 2) = (q : Int) + 2 := IntWalk.i64_in _ (by omega)
                have i3 : IntKind.i64.wrap ((q : Int) + 3) = (q : Int) + 3 := IntWalk.i64_in _ (by omega)
                have j1 : (0 : Int) ≤ (q : Int) + 1 := by omega
                have j2 : (0 : Int) ≤ (q : Int) + 2 := by omega
                have j3 : (0 : Int) ≤ (q : Int) + 3 := by omega
                have l1 : ((q : Int) + 1).toNat = q + 1 := by omega
                have l2 : ((q : Int) + 2).toNat = q + 2 := by omega
                have l3 : ((q : Int) + 3).toNat = q + 3 := by omega
                go_quiet (fail)
                have h4 := or4 y0 y1 y2 y3 e0 e1 e2 e3
                obtain ⟨S, hS⟩ : ∃ S : Int, S = y0 * 16777216 + y1 * 65536 + y2 * 256 + y3 := ⟨_, rfl⟩
                rw [← hS] at h4
                rw [h4]
                have HSS := hide hS
                have HY := hide (And.intro e0 (And.intro e1 (And.intro e2 e3)))
                clear h4 hS g0 g1 g2 g3 i1 i2 i3 j1 j2 j3 l1 l2 l3 e0 e1 e2 e3
                have hRl : ((X.drop (q + 4)).take m).length = m := by rw [List.length_take, List.length_drop, HX.out]; omega
                have HR8 : Hid (Bytes8 ((X.drop (q + 4)).take m)) := fun c hc => H8.out c (List.mem_of_mem_drop (List.mem_of_mem_take hc))
                have HR1 : Hid (Sl w' B (.slice (some ⟨ad.block, ad.off + (q + 3 + 1), none⟩) m (c - (q + 4))) 1 m (bys ((X.drop (q + 4)).take m))) := by
                  have h9 := (HS.out.drop (k := q + 4) (by omega)).take (k := m) (by omega)
                  rw [← bys_cut] at h9
                  simp only [Option.map, Nat.mul_one] at h9
                  rw [add_succ] at h9
                  exact h9
                have HR2 : Hid (c - (q + 4) = 0 → Sl w' B (.slice (some ad) m 0) 1 m (bys ((X.drop (q + 4)).take m))) := by
                  intro h9
                  have hm0 : m = 0 := by omega
                  subst hm0
                  exact ⟨by simp [bys], some ad, 0, rfl, by omega, by omega, by omega⟩
                have HW := hide (whole_on HG2.out (by rw [List.length_drop, HX.out]; omega))
                rw [List.drop_drop, List.drop_drop, show p + (3 + 4) = q + 4 by have := HQ.out; omega, ← HQ.out, HT.out] at HW
                simp only [tail_iff _ _ _ _ HY.out.1 HY.out.2.1 HY.out.2.2.1 HY.out.2.2.2] at HW
                rw [← HSS.out] at HW
                have hpq : p + (3 + 4 + m) = q + 4 + m := by have := HQ.out; omega
                have HPQ := hide hpq
                clear hpq
                generalize (X.drop (q + 4)).take m = R at hRl HR8 HR1 HR2 HW
                have HRL := hide hRl
                clear hRl
                go_wp2_with fail
                all_goals
                  refine (jsum_any _ R m B _ (by first | exact HR1.out.drewN _ | exact (HR2.out (by omega)).drewN _) HRL.out HR8.out).mono ?_
                  rintro e w2 ⟨rfl, rfl⟩
                  go_wp2_with fail
                  simp only [Exit.jump]
                  go_ret3
                  rw [HW.out]
                  exact whole_post _ (by rw [HPQ.out]; omega) (by rw [HRL.out]; first | exact HR1.out | exact HR2.out (by omega))
      · have HN : Hid (wholeB (X.drop p) = none) := whole_none (by rw [HG.out, List.drop_eq_nil_of_le (by rw [HX.out]; omega)]; rfl)
        go_wp2_with fail
        all_goals
          simp only [Exit.jump]
          go_ret3
          rw [HN.out]
          exact none_post _ _ _ _ _ 0

    · have HN : Hid (wholeB (X.drop p) = none) := whole_none (by
        rw [HG.out]
        generalize X.drop (p + 3) = D
        cases D <;> simp [grp])
      go_wp2_with fail
      all_goals
        simp only [Exit.jump]
        go_ret3
        rw [HN.out]
        exact none_post _ _ _ _ _ 0

end Go.Proofs.Ytlllocfcljgacaa
