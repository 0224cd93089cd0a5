/- WindowSlides: the walk. -/
import Derived.Test.YtbnppocaeflghaaDoorAwk07
import Derived.Test.YtbnppocaeflghaaDoorAny07
import Derived.Deep.RegionHeld3
import Derived.BigQuiet
namespace Go.Proofs.YtbnppocaeflghaaDoor
open Go.RowKit
set_option linter.unusedVariables false
set_option linter.unusedSimpArgs false

set_option maxRecDepth 100000 in
set_option maxHeartbeats 8000000 in
theorem slides_any (k0 s p o t : Int) (w : World) : Calls Tryd.prog 8 #[.agg #[.int .i64 k0, .int .i64 s, .int .i64 p, .int .i64 o], .int .i64 t] w fun e w' => e = .returned (.bool true) ∧ Below w.heap.size w w' := by
  go_enter Tryd.func8, Tryd.ntmps8
  go_wp2_with fail
  have HB1 := hide ((Below.refl w.heap.size w).alloc (Nat.le_refl _) (.cells #[.int .i64 2, .int .i64 s, .int .i64 p, .int .i64 o] 24))
  have HF1 : Hid (Blk (w.alloc (.cells #[.int .i64 2, .int .i64 s, .int .i64 p, .int .i64 o] 24)) w.heap.size 24 #[.int .i64 2, .int .i64 s, .int .i64 p, .int .i64 o]) := Blk.new w _ _
  generalize w.alloc (.cells #[.int .i64 2, .int .i64 s, .int .i64 p, .int .i64 o] 24) = w1 at *
  refine (assign_any ⟨2, s, p, o⟩ t w1).mono ?_
  rintro e w2 ⟨v2, n2, rfl, hb2, hc2⟩
  have HF2 := hide (HF1.out.below hb2 HF1.out.lt)
  have HB2 := hide (HB1.out.trans (hb2.mono HB1.out.size))
  clear hb2
  rcases hc2 with ⟨hr, ht1, ht2, rfl, ho2⟩ | ⟨_, rfl, rfl⟩ | ⟨_, _, rfl, rfl⟩
  · have hs : 1 ≤ p ∧ p ≤ 1048576 ∧ p ≤ s ∧ s ≤ 1048576 ∧ 0 ≤ o ∧ o < p := by unfold Wfn.right at hr; simp only at hr; omega
    obtain ⟨m, T, hasg, hm1, hT1, hT2, hlast, hall, hdv⟩ := slide_asg s p o t hr
    rw [hasg, List.length_reverse, downW_len] at ho2
    have HO2 := hide ho2
    obtain ⟨A, c, rfl, hc⟩ := ho2.sl.form
    obtain ⟨mm, hmm⟩ : ∃ mm, m = mm + 1 := ⟨m - 1, by omega⟩
    have hmmb : (mm : Int) ≤ 1048576 := by
      have h9 := hall mm (by omega)
      have h10 := Int.mul_le_mul_of_nonneg_left (show (1 : Int) ≤ p by omega) (show (0 : Int) ≤ (mm : Int) by omega)
      omega
    obtain ⟨hs1, hs2, hs3, hs4, hs5, hs6⟩ := hs
    have HALL := hide hall
    have HDV := hide hdv
    have HMM := hide hmm
    have hmb : (m : Int) ≤ 1048577 := by omega
    clear hasg hr ho2 hall hdv hmm
    have c1 : w2.cell? ⟨w.heap.size, 1, none⟩ = some (.int .i64 s) := HF2.out.cell 1
    have c2 : w2.cell? ⟨w.heap.size, 2, none⟩ = some (.int .i64 p) := HF2.out.cell 2
    have hlt := HF2.out.lt
    have hm0 : ¬ m = 0 := by omega
    have hmb0 : ((m : Int) == 0) = false := by simp; omega
    have hz2 := HB2.out.size
    have hp0 : ¬ p = 0 := by omega
    go_wp2_with fail
    go_loopw [37] (fun i wz => ∃ (k : Nat), k ≤ m ∧ i = .int .i64 k ∧ Hid (Below w2.heap.size w2 wz)) (fun i _ => m - (intOf i).toNat)
    case atStart => exact ⟨0, Nat.zero_le _, rfl, Below.refl _ _⟩
    case round =>
      obtain ⟨k, hk, rfl, HB⟩ := hrel
      have hzr := HB.out.size
      by_cases hlk : k < m
      · obtain ⟨ad, rfl, hab, g0, g1⟩ := win_at (HO2.out.below HB.out).sl hlk (by rw [List.length_reverse, downW_len])
        rw [slide_get] at g0 g1
        obtain ⟨r, hr⟩ : ∃ r, r + 1 + k = m := ⟨m - 1 - k, by omega⟩
        have HRR := hide hr
        have hx9 := HALL.out r (by omega)
        have hdv := HDV.out r
        have hcast : ((m : Int) - 1 - (k : Int)) = (r : Int) := by omega
        rw [hcast] at g0 g1
        have hmul : 0 ≤ (r : Int) * p := Int.mul_nonneg (by omega) (by omega)
        obtain ⟨x, hx⟩ : ∃ x, x = T - (r : Int) * p := ⟨_, rfl⟩
        rw [← hx] at g0 g1 hx9 hdv
        have HX := hide hx
        have hxb1 : -1048576 ≤ x := by omega
        have hxb2 : x ≤ 1048576 := by omega
        clear hx hcast hmul hr
        have hab2 : (ad.add (k * 2)).block < wr.heap.size := hab
        go_wp2_with fail
        have HF5 := hide ((HF2.out.below HB.out HF2.out.lt).alloc (.cells #[.int .i64 x, .int .i64 (x + s)] wT))
        have HL5 : Hid (Blk (wr.alloc (.cells #[.int .i64 x, .int .i64 (x + s)] wT)) wr.heap.size wT #[.int .i64 x, .int .i64 (x + s)]) := Blk.new wr _ _
        have HB5 := hide (HB.out.alloc hzr (.cells #[.int .i64 x, .int .i64 (x + s)] wT))
        generalize wr.alloc (.cells #[.int .i64 x, .int .i64 (x + s)] wT) = w5 at *
        generalize wr.heap.size = lb at *
        clear g0 g1 c1 c2
        have f1 : w5.cell? ⟨w.heap.size, 1, none⟩ = some (.int .i64 s) := HF5.out.cell 1
        have f2 : w5.cell? ⟨w.heap.size, 2, none⟩ = some (.int .i64 p) := HF5.out.cell 2
        have f3 : w5.cell? ⟨w.heap.size, 3, none⟩ = some (.int .i64 o) := HF5.out.cell 3
        have l0 : w5.cell? ⟨lb, 0, none⟩ = some (.int .i64 x) := HL5.out.cell 0
        have l1 : w5.cell? ⟨lb, 1, none⟩ = some (.int .i64 (x + s)) := HL5.out.cell 1
        have hflt := HF5.out.lt
        have hllt := HL5.out.lt
        have e1 : IntKind.i64.wrap (x + s - x) = s := by rw [IntWalk.i64_in _ (by omega)]; omega
        have e2 : (s != s) = false := by simp
        have e3 : IntKind.i64.wrap (x - o) = x - o := IntWalk.i64_in _ (by omega)
        have e4 : (x - o).tmod p = 0 := hdv
        have e5 : ((0 : Int) != 0) = false := rfl
        have e9 : (p != p) = false := by simp
        by_cases hk0 : k = 0
        · have e6n : ¬ 0 < k := by omega
          have e6 : decide ((0 : Int) < (k : Int)) = false := decide_eq_false (by omega)
          have e6' : ¬ (0 : Int) < (k : Int) := by omega
          clear hk0
          go_quiet (fail)
          go_wp2_with fail
          go_roundw
          case rel => exact ⟨k + 1, by omega, by simp, HB5.out.drewN _⟩
          case measure => simp [intOf]; omega
        · obtain ⟨j, hj⟩ : ∃ j, k = j + 1 := ⟨k - 1, by omega⟩
          obtain ⟨ad', had', hab', q0, q1⟩ := win_at (HO2.out.below HB5.out).sl (show j < m by omega) (by rw [List.length_reverse, downW_len])
          injection had' with had'
          subst had'
          rw [slide_get] at q0
          have hcast : ((m : Int) - 1 - (j : Int)) = (r : Int) + 1 := by have := HRR.out; omega
          rw [hcast, Int.add_mul, Int.one_mul, show T - ((r : Int) * p + p) = x - p by have := HX.out; omega] at q0
          have q2 : w5.cell? (ad.add (j * 2)) = some (.int .i64 (x - p)) := q0
          have e6 : decide ((0 : Int) < (k : Int)) = true := decide_eq_true (by omega)
          have e7 : IntKind.i64.wrap ((k : Int) - 1) = (j : Int) := by rw [IntWalk.i64_in _ (by omega)]; omega
          have e8 : IntKind.i64.wrap (x - (x - p)) = p := by rw [IntWalk.i64_in _ (by omega)]; omega
          have i1 : (0 : Int) ≤ (j : Int) := by omega
          have i2 : (j : Int) < (m : Int) := by omega
          have hjlt : j < m := by omega
          clear q0 q1 hcast hj
          have e6n : 0 < k := by omega
          have e6' : (0 : Int) < (k : Int) := by omega
          clear hk0
          go_quiet (fail)
          go_wp2_with fail
          go_roundw
          case rel => exact ⟨k + 1, by omega, by simp, HB5.out.drewN _⟩
          case measure => simp [intOf]; omega
      · obtain rfl : k = m := by omega
        obtain ⟨ad, rfl, hab, g0, g1⟩ := win_at (HO2.out.below HB.out).sl (show 0 < k by omega) (by rw [List.length_reverse, downW_len])
        obtain ⟨ad', had', hab', q0, q1⟩ := win_at (HO2.out.below HB.out).sl (show mm < k by have := HMM.out; omega) (by rw [List.length_reverse, downW_len])
        injection had' with had'
        subst had'
        rw [slide_get] at g1 q0
        have hmk := HMM.out
        have hcast : ((k : Int) - 1 - ((0 : Nat) : Int)) = (mm : Int) := by omega
        have hcast2 : ((k : Int) - 1 - (mm : Int)) * p = 0 := by
          rw [show ((k : Int) - 1 - (mm : Int)) = 0 by omega, Int.zero_mul]
        rw [hcast] at g1
        rw [hcast2, Int.sub_zero] at q0
        simp only [Nat.zero_mul, add_zero'] at hab g1
        have hl1 := hlast
        rw [show (k : Int) = (mm : Int) + 1 by omega, Int.add_mul, Int.one_mul] at hl1
        have hx9 := HALL.out mm (by omega)
        have hmul : 0 ≤ (mm : Int) * p := Int.mul_nonneg (by omega) (by omega)
        obtain ⟨x, hx⟩ : ∃ x, x = T - (mm : Int) * p := ⟨_, rfl⟩
        rw [← hx] at g1 hx9
        have hl2 : x + s - p ≤ t := by omega
        have hxb1 : -1048576 ≤ x := by omega
        have hxb2 : x ≤ 1048576 := by omega
        have e3 : IntKind.i64.wrap ((k : Int) - 1) = (mm : Int) := by rw [IntWalk.i64_in _ (by omega)]; omega
        have i0 : (0 : Int) < (k : Int) := by omega
        have i0n : 0 < k := by omega
        have i2 : (mm : Int) < (k : Int) := by omega
        have i1 : (0 : Int) ≤ (mm : Int) := by omega
        clear hx g0 q1 hl1 hcast hcast2 hmul hmk
        have f2 : wr.cell? ⟨w.heap.size, 2, none⟩ = some (.int .i64 p) := (HF2.out.below HB.out HF2.out.lt).cell 2
        have hflt : w.heap.size < wr.heap.size := by omega
        have HPQ : Hid (∀ w', Below wr.heap.size wr w' → w'.cell? ⟨ad.block, ad.off + 1, none⟩ = some (.int .i64 (x + s)) ∧ w'.cell? (ad.add (mm * 2)) = some (.int .i64 T) ∧ w'.cell? ⟨w.heap.size, 2, none⟩ = some (.int .i64 p)) := fun w' hb =>
          ⟨below_cell hb hab g1, below_cell hb hab' q0, below_cell hb hflt f2⟩
        go_wp2_with fail
        have e1 : IntKind.i64.wrap (x + s - p) = x + s - p := IntWalk.i64_in _ (by omega)
        have e2 : decide (x + s - p ≤ t) = true := decide_eq_true hl2
        have e4 : IntKind.i64.wrap (T + p) = T + p := IntWalk.i64_in _ (by omega)
        have e5 : decide (t < T + p) = true := decide_eq_true (by omega)
        go_region_held3 (fun w' : World => w'.cell? ⟨ad.block, ad.off + 1, none⟩ = some (.int .i64 (x + s)) ∧ w'.cell? (ad.add (mm * 2)) = some (.int .i64 T) ∧ w'.cell? ⟨w.heap.size, 2, none⟩ = some (.int .i64 p)) (first | exact ⟨g1, q0, f2⟩ | exact HPQ.out _ (((Below.refl wr.heap.size wr).drewN 1).trans hb11)) ((go_at_call 13; refine (awake07 _).mono ?_; rintro e w11 ⟨rfl, hb11⟩))
        go_wp2_with fail
        go_ret
        exact ⟨rfl, HB2.out.trans ((HB.out.trans ((((Below.refl wr.heap.size wr).drewN 1).trans hb11).mono hzr)).mono hz2)⟩
  all_goals
    go_wp2_with fail
    refine (awake07 _).mono ?_
    rintro e w4 ⟨rfl, hb⟩
    go_wp2_with fail
    go_ret
    exact ⟨rfl, HB2.out.trans (hb.mono HB2.out.size)⟩

end Go.Proofs.YtbnppocaeflghaaDoor
