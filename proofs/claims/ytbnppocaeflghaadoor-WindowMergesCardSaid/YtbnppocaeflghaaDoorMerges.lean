/- WindowMerges: the walk. -/
import Derived.Test.YtbnppocaeflghaaDoorMrg2
import Derived.Test.YtbnppocaeflghaaDoorAwk07
import Derived.Test.YtbnppocaeflghaaDoorAft
namespace Go.Proofs.YtbnppocaeflghaaDoor
open Go.RowKit Go.Sort
set_option linter.unusedVariables false
set_option linter.unusedSimpArgs false

/-- what Check says -/
def ckD (D : List Win) : Int := if AllGood D then 0 else 70
theorem wmerge_all (v : Value) (D : List Win) (n B : Nat) (w : World) (hs : Sl w B v 2 n (wins D)) (hD : D.length = n) (hB : B ≤ w.heap.size) (hn : n ≤ 8796093022207) :
    Calls Tryd.prog 15 #[v] w fun e w' => ∃ vm M m, e = .returned (.tuple #[vm, .int .i64 (ckD D)]) ∧ M.length = m ∧ Own w' w.heap.size wT 2 vm m (wins M) ∧ (AllGood D → Merged D M) ∧ (¬ AllGood D → m = 0) ∧ Below w.heap.size w w' := by
  unfold ckD
  by_cases hg : AllGood D
  · rw [if_pos hg]
    refine (wmerge_good v D n B w hs hD hB hn hg).mono ?_
    rintro e w2 ⟨v2, rfl, E, hp, hsrt, ho, hb⟩
    exact ⟨v2, sweep E, _, rfl, rfl, ho, fun _ => merged_of hg hp hsrt, fun h => absurd hg h, hb⟩
  · rw [if_neg hg]
    refine (wmerge_bad v D n B w hs hD hB hn hg).mono ?_
    rintro e w2 ⟨rfl, hb⟩
    exact ⟨_, [], 0, rfl, rfl, Own.nil _ _ _ _, fun h => absurd h hg, fun _ => rfl, hb⟩
theorem wsort_all (v : Value) (D : List Win) (n B : Nat) (w : World) (hs : Sl w B v 2 n (wins D)) (hD : D.length = n) (hB : B ≤ w.heap.size) (hn : n ≤ 8796093022207) :
    Calls Tryd.prog 16 #[v] w fun e w' => ∃ vm M m, e = .returned (.tuple #[vm, .int .i64 (ckD D)]) ∧ M.length = m ∧ Own w' w.heap.size wT 2 vm m (wins M) ∧ (AllGood D → M = sortW D) ∧ (¬ AllGood D → m = 0) ∧ Below w.heap.size w w' := by
  unfold ckD
  by_cases hg : AllGood D
  · rw [if_pos hg]
    refine (wsort_good v D n B w hs hD hB hn hg).mono ?_
    rintro e w2 ⟨v2, E, rfl, hp, hsrt, ho, hb⟩
    have hE : E = sortW D := sort_uniq hp hsrt
    exact ⟨v2, E, n, rfl, by rw [hp.length_eq, hD], ho, fun _ => hE, fun h => absurd hg h, hb⟩
  · rw [if_neg hg]
    refine (wsort_bad v D n B w hs hD hB hn hg).mono ?_
    rintro e w2 ⟨rfl, hb⟩
    exact ⟨_, [], 0, rfl, rfl, Own.nil _ _ _ _, fun h => absurd h hg, fun _ => rfl, hb⟩

theorem allGood_snoc (D : List Win) (k : Nat) (hk : k < D.length) : decide (AllGood (D.take (k + 1))) = (decide (AllGood (D.take k)) && decide D[k].good) := by
  rw [List.take_succ_eq_append_getElem hk, Bool.eq_iff_iff]
  simp only [decide_eq_true_iff, Bool.and_eq_true]
  unfold AllGood
  constructor
  · intro h
    exact ⟨fun x hx => h x (List.mem_append_left _ hx), h _ (List.mem_append_right _ (List.mem_singleton.2 rfl))⟩
  · rintro ⟨h1, h2⟩ x hx
    rcases List.mem_append.1 hx with h9 | h9
    · exact h1 x h9
    · rw [List.mem_singleton.1 h9]; exact h2

theorem awk7m (w0 w : World) (h : Below w0.heap.size w0 w) : Calls Tryd.prog 13 #[] w fun e w' => e = .returned (.bool true) ∧ Below w0.heap.size w0 w' :=
  (awake07 w).mono (fun e w' ⟨he, hb⟩ => ⟨he, h.trans (hb.mono h.size)⟩)

set_option maxRecDepth 100000 in
set_option maxHeartbeats 16000000 in
theorem merges_any (v : Value) (D : List Win) (n B : Nat) (w : World) (hs : Sl w B v 2 n (wins D)) (hD : D.length = n) (hB : B ≤ w.heap.size) :
    Calls Tryd.prog 4 #[v] w fun e w' => e = .returned (.bool true) ∧ Below w.heap.size w w' := by
  obtain ⟨A, c, rfl, hc⟩ := hs.form
  have HS := hide hs
  have HD := hide hD
  clear hs hD
  by_cases hbig : 60 < n
  · go_enter Tryd.func4, Tryd.ntmps4
    go_wp2_with fail
    refine (awk7m w _ (Below.refl _ _)).mono ?_
    rintro e w2 ⟨rfl, hb⟩
    have HB := hide hb
    clear hb
    go_wp2_with fail
    go_ret
    exact ⟨rfl, HB.out⟩
  · go_enter Tryd.func4, Tryd.ntmps4
    go_wp2_with (at_builtin; refine wpList_app rfl tyW (.tmp 18) (.tmp 19) rfl w.heap.size (n := 0) (m := n) (B := B) (xs := []) (news := wins D) rfl rfl ?c1 ?c2 (wins_ok D) (by omega) (by omega) (by simp) ?_)
    case c1 => exact Own.new w w.heap.size #[] (Nat.le_refl _) (by omega) rfl
    case c2 => exact HS.out.alloc hB _
    intro v1 w1 ha
    have HIN : Hid (Own w1 w.heap.size wT 2 v1 n (wins D)) := by simpa [Hid] using ha.own
    have HB1 := hide (((Below.refl w.heap.size w).alloc (Nat.le_refl _) _).trans (ha.fr.below (by simp) (fun k hk h => by have := own_eq h; omega)))
    have hz1 := HB1.out.size
    clear ha
    obtain ⟨iA, ic, rfl, hic⟩ := HIN.out.sl.form
    go_wp2_with fail
    refine (wmerge_all _ D n w1.heap.size w1 HIN.out.sl HD.out (Nat.le_refl _) (by omega)).mono ?_
    rintro e w2 ⟨vm, M, m, rfl, hM, ho, hg, hb0, hb⟩
    have HM := hide hM
    have HMO := hide ho
    have HMG := hide hg
    have HMB := hide hb0
    have HB2 := hide (HB1.out.trans (hb.mono hz1))
    have HB12 := hide hb
    have hz12 := hb.size
    clear hM ho hg hb0 hb
    obtain ⟨mA, mc, rfl, hmc⟩ := HMO.out.sl.form
    go_wp2_with fail
    refine (wsort_all _ D n w1.heap.size w2 (HIN.out.sl.below HB12.out) HD.out hz12 (by omega)).mono ?_
    rintro e w3 ⟨vs, Z, z, rfl, hM, ho, hg, hb0, hb⟩
    have HZ := hide hM
    have HZO := hide ho
    have HZG := hide hg
    have HZB := hide hb0
    have HB3 := hide (HB2.out.trans (hb.mono (by omega)))
    have HB13 := hide (HB12.out.trans (hb.mono hz12))
    have HMS3 := hide (HMO.out.sl.below hb)
    have hz23 := hb.size
    clear hM ho hg hb0 hb
    obtain ⟨zA, zc, rfl, hzc⟩ := HZO.out.sl.form
    generalize hck : ckD D = ck at *
    have HCK := hide hck
    clear hck
    go_wp2_with fail
    have HIN3 := hide (HIN.out.sl.below HB13.out)
    have hz13 := HB13.out.size
    have hz3 := HB3.out.size
    go_loopw [8, 33] (fun o i wr => ∃ (k : Nat), k ≤ n ∧ i = .int .i64 k ∧ o = .bool (decide (AllGood (D.take k))) ∧ Hid (Below w3.heap.size w3 wr)) (fun _ i _ => n - (intOf i).toNat)
    case atStart => exact ⟨0, Nat.zero_le _, rfl, by rw [decide_eq_true (show AllGood (D.take 0) from fun x hx => by simp at hx)], Below.refl _ _⟩
    case round =>
      obtain ⟨k, hk, rfl, rfl, HB⟩ := hrel
      have hzr := HB.out.size
      by_cases hlt : k < n
      · have hkD : k < D.length := by rw [HD.out]; exact hlt
        have HSr := hide (HS.out.below ((HB3.out.mono hB).trans (HB.out.mono (by omega))))
        obtain ⟨ad, hA, hab, g0, g1⟩ := win_at HSr.out hlt HD.out
        obtain ⟨ai, hiA, hib, q0, q1⟩ := win_at (HIN3.out.below (HB.out.mono hz13)) hlt HD.out
        have HSN := hide (allGood_snoc D k hkD)
        have HGK : Hid (∀ p, k = p + 1 → ∃ (hp : p < D.length), True) := fun p hp => ⟨by omega, trivial⟩
        subst hA
        subst hiA
        obtain ⟨x, hx⟩ : ∃ x, x = D[k] := ⟨_, rfl⟩
        rw [← hx] at g0 g1 q0 q1 HSN
        clear hx
        obtain ⟨xf, xt⟩ := x
        simp only at g0 g1 q0 q1
        have hab2 : (ad.add (k * 2)).block < wr.heap.size := by omega
        have hib2 : (ai.add (k * 2)).block < wr.heap.size := by omega
        have HAD0 : Hid (∀ X : World, Below (wr.alloc (.cells #[.int .i64 xf, .int .i64 xt] wT)).heap.size (wr.alloc (.cells #[.int .i64 xf, .int .i64 xt] wT)) X → X.cell? (ai.add (k * 2)) = some (.int .i64 xf) ∧ X.cell? ⟨(ai.add (k * 2)).block, (ai.add (k * 2)).off + 1, none⟩ = some (.int .i64 xt) ∧ X.cell? ⟨wr.heap.size, 0, none⟩ = some (.int .i64 xf) ∧ X.cell? ⟨wr.heap.size, 1, none⟩ = some (.int .i64 xt)) := by
          intro X h
          have hX := (Blk.new wr wT #[.int .i64 xf, .int .i64 xt]).below h (by simp)
          have h0 := ((Below.refl wr.heap.size wr).alloc (Nat.le_refl _) (.cells #[.int .i64 xf, .int .i64 xt] wT)).trans (h.mono (by simp))
          exact ⟨(h0.cell (p := ai.add (k * 2)) hib2).trans q0, (h0.cell (p := ⟨(ai.add (k * 2)).block, (ai.add (k * 2)).off + 1, none⟩) hib2).trans q1, hX.cell 0, hX.cell 1⟩
        have HBA : Hid (Below w3.heap.size w3 (wr.alloc (.cells #[.int .i64 xf, .int .i64 xt] wT))) := HB.out.alloc hzr _
        have HBW : Hid (Below wr.heap.size wr (wr.alloc (.cells #[.int .i64 xf, .int .i64 xt] wT))) := (Below.refl wr.heap.size wr).alloc (Nat.le_refl _) _
        have hwr0 : w3.heap.size ≤ wr.heap.size := hzr
        have hza : (wr.alloc (.cells #[.int .i64 xf, .int .i64 xt] wT)).heap.size = wr.heap.size + 1 := by simp
        by_cases hgood : (Win.mk xf xt).good
        · have HG1 := hide (rgood_any xf xt)
          have HG2 := hide (fun W => wstamp_good xf xt W hgood)
          have HG3 := hide (wcheck_any xf xt)
          have HG4 := hide (fun W => rstamp_any xf xt W hgood)
          rw [decide_eq_true hgood] at HG1 HSN
          rw [if_pos hgood] at HG3
          generalize (Win.mk xf xt).stamp = st at *
          generalize decide (AllGood (D.take k)) = o at *
          clear hgood q0 q1
          go_wp2_with fail
          refine (HG1.out _).mono ?_
          generalize wr.alloc (.cells #[.int .i64 xf, .int .i64 xt] wT) = wa at *
          generalize wr.heap.size = xb at *
          rintro e w4 ⟨rfl, hb⟩
          have HB4 := hide hb
          have hz4 := hb.size
          clear hb
          obtain ⟨q0, q1, x0, x1⟩ := HAD0.out _ HB4.out
          have hib4 : (ai.add (k * 2)).block < w4.heap.size := by omega
          have hxb4 : xb < w4.heap.size := by omega
          cases o
          all_goals
            go_wp2_with fail
            refine (HG2.out _).mono ?_
            rintro e w5 ⟨rfl, hb⟩
            have HB5 := hide (HB4.out.trans (hb.mono hz4))
            have hz5 := HB5.out.size
            clear hb q0 q1 x0 x1 hib4 hxb4 HB4
            obtain ⟨q0, q1, x0, x1⟩ := HAD0.out _ HB5.out
            have hib5 : (ai.add (k * 2)).block < w5.heap.size := by omega
            have hxb5 : xb < w5.heap.size := by omega
            have e1 : (xf != xf) = false := by simp
            have e2 : (xt != xt) = false := by simp
            have e3 : (xf == xf) = true := by simp
            have e4 : (xt == xt) = true := by simp
            have e5 : (st != st) = false := by simp
            go_wp2_with fail
            have y0 := Aft.cell q0 hib5
            have y1 := Aft.cell q1 hib5
            have y2 := Aft.cell x0 hxb5
            have y3 := Aft.cell x1 hxb5
            have i1k : (0 : Int) ≤ (k : Int) := by omega
            have i2k : (k : Int) < (n : Int) := by omega
            refine wp_region_aft (by kernel_rfl) (by kernel_rfl) ?_
            repeat (go_big_quiet_step (first
              | (go_at_call 19; exact calls_aft (HG3.out _))
              | (go_at_call 20; exact calls_aft (HG4.out _))))
            refine wpQuiet_nil ?_
            intro w9 hb9
            have HB9 := hide (HB5.out.trans (hb9.mono hz5))
            have hz9 := HB9.out.size
            clear hb9 y0 y1 y2 y3 q0 q1 x0 x1 hib5 hxb5 HB5
            have hcase : k = 0 ∨ ∃ p, p + 1 = k := by
              cases k with
              | zero => exact .inl rfl
              | succ p => exact .inr ⟨p, rfl⟩
            rcases hcase with rfl | ⟨p, hp⟩
            · go_wp2_with fail
              refine wp_region_aft (by kernel_rfl) (by kernel_rfl) ?_
              repeat (go_big_quiet_step (fail))
              refine wpQuiet_nil ?_
              intro w10 hb10
              have HB10 := hide (HBA.out.trans ((HB9.out.trans (hb10.mono hz9)).mono HBA.out.size))
              clear hb10
              go_wp2_with fail
              go_roundw
              case rel => exact ⟨1, by omega, by simp, by rw [HSN.out]; rfl, HB10.out⟩
              case measure => simp [intOf]; omega
            · have hpn : p < n := by omega
              obtain ⟨ad2, hA2, hab3, l0, l1⟩ := win_at HSr.out hpn HD.out
              injection hA2 with hA2
              subst hA2
              generalize D[p]'(by rw [HD.out]; omega) = y at l0 l1
              obtain ⟨yf, yt⟩ := y
              simp only at l0 l1
              obtain ⟨_, _, x0, x1⟩ := HAD0.out _ HB9.out
              have HBr9 := hide (HBW.out.trans (HB9.out.mono (by omega)))
              have hbx : (ad.add (p * 2)).block < xb := by omega
              have m0 : w9.cell? (ad.add (p * 2)) = some (.int .i64 yf) := (HBr9.out.cell (p := ad.add (p * 2)) hbx).trans l0
              have m1 : w9.cell? ⟨(ad.add (p * 2)).block, (ad.add (p * 2)).off + 1, none⟩ = some (.int .i64 yt) := (HBr9.out.cell (p := ⟨(ad.add (p * 2)).block, (ad.add (p * 2)).off + 1, none⟩) hbx).trans l1
              have hab9 : (ad.add (p * 2)).block < w9.heap.size := by omega
              have hxb9 : xb < w9.heap.size := by omega
              have y0 := Aft.cell m0 hab9
              have y1 := Aft.cell m1 hab9
              have y2 := Aft.cell x0 hxb9
              have y3 := Aft.cell x1 hxb9
              obtain ⟨r, hr⟩ : ∃ r : Bool, r = decide (wlt ⟨xf, xt⟩ ⟨yf, yt⟩) := ⟨_, rfl⟩
              have HL1 := hide (less_any7 xf xt yf yt)
              have HL2 := hide (rless_any xf xt yf yt)
              rw [← hr] at HL1 HL2
              clear hr l0 l1 m0 m1 x0 x1
              have er : (r != r) = false := by simp
              have hw : IntKind.i64.wrap ((k : Int) - 1) = (p : Int) := by rw [IntWalk.i64_in _ (by omega)]; omega
              have ik : (0 : Int) < (k : Int) := by omega
              have ikd : decide ((0 : Int) < (k : Int)) = true := decide_eq_true ik
              have ikn : 0 < k := by omega
              have i1 : (0 : Int) ≤ (p : Int) := by omega
              have i2 : (p : Int) < (n : Int) := by omega
              go_wp2_with fail
              refine wp_region_aft (by kernel_rfl) (by kernel_rfl) ?_
              repeat (go_big_quiet_step (first
                | (go_at_call 21; exact calls_aft (HL1.out _))
                | (go_at_call 22; exact calls_aft (HL2.out _))))
              refine wpQuiet_nil ?_
              intro w10 hb10
              have HB10 := hide (HBA.out.trans ((HB9.out.trans (hb10.mono hz9)).mono HBA.out.size))
              clear hb10
              go_wp2_with fail
              go_roundw
              case rel => exact ⟨k + 1, by omega, by simp, by rw [HSN.out]; rfl, HB10.out⟩
              case measure => simp [intOf]; omega
        · have HG1 := hide (rgood_any xf xt)
          have HG2 := hide (fun W => wstamp_bad xf xt W hgood)
          have HG3 := hide (wcheck_any xf xt)
          rw [decide_eq_false hgood] at HG1 HSN
          rw [if_neg hgood] at HG3
          generalize decide (AllGood (D.take k)) = o at *
          clear hgood q0 q1
          go_wp2_with fail
          refine (HG1.out _).mono ?_
          generalize wr.alloc (.cells #[.int .i64 xf, .int .i64 xt] wT) = wa at *
          generalize wr.heap.size = xb at *
          rintro e w4 ⟨rfl, hb⟩
          have HB4 := hide hb
          have hz4 := hb.size
          clear hb
          obtain ⟨q0, q1, x0, x1⟩ := HAD0.out _ HB4.out
          have hib4 : (ai.add (k * 2)).block < w4.heap.size := by omega
          have hxb4 : xb < w4.heap.size := by omega
          cases o
          all_goals
            go_wp2_with fail
            refine (HG2.out _).mono ?_
            rintro e w5 ⟨rfl, hb⟩
            have HB5 := hide (HB4.out.trans (hb.mono hz4))
            have hz5 := HB5.out.size
            clear hb q0 q1 x0 x1 hib4 hxb4 HB4
            obtain ⟨q0, q1, x0, x1⟩ := HAD0.out _ HB5.out
            have hib5 : (ai.add (k * 2)).block < w5.heap.size := by omega
            have hxb5 : xb < w5.heap.size := by omega
            have e1 : (xf != xf) = false := by simp
            have e2 : (xt != xt) = false := by simp
            have e3 : (xf == xf) = true := by simp
            have e4 : (xt == xt) = true := by simp
            go_wp2_with fail
            have y0 := Aft.cell q0 hib5
            have y1 := Aft.cell q1 hib5
            have y2 := Aft.cell x0 hxb5
            have y3 := Aft.cell x1 hxb5
            have i1k : (0 : Int) ≤ (k : Int) := by omega
            have i2k : (k : Int) < (n : Int) := by omega
            refine wp_region_aft (by kernel_rfl) (by kernel_rfl) ?_
            repeat (go_big_quiet_step (first
              | (go_at_call 19; exact calls_aft (HG3.out _))))
            refine wpQuiet_nil ?_
            intro w9 hb9
            have HB9 := hide (HB5.out.trans (hb9.mono hz5))
            have hz9 := HB9.out.size
            clear hb9 y0 y1 y2 y3 q0 q1 x0 x1 hib5 hxb5 HB5
            have hcase : k = 0 ∨ ∃ p, p + 1 = k := by
              cases k with
              | zero => exact .inl rfl
              | succ p => exact .inr ⟨p, rfl⟩
            rcases hcase with rfl | ⟨p, hp⟩
            · go_wp2_with fail
              refine wp_region_aft (by kernel_rfl) (by kernel_rfl) ?_
              repeat (go_big_quiet_step (fail))
              refine wpQuiet_nil ?_
              intro w10 hb10
              have HB10 := hide (HBA.out.trans ((HB9.out.trans (hb10.mono hz9)).mono HBA.out.size))
              clear hb10
              go_wp2_with fail
              go_roundw
              case rel => exact ⟨1, by omega, by simp, by rw [HSN.out]; rfl, HB10.out⟩
              case measure => simp [intOf]; omega
            · have hpn : p < n := by omega
              obtain ⟨ad2, hA2, hab3, l0, l1⟩ := win_at HSr.out hpn HD.out
              injection hA2 with hA2
              subst hA2
              generalize D[p]'(by rw [HD.out]; omega) = y at l0 l1
              obtain ⟨yf, yt⟩ := y
              simp only at l0 l1
              obtain ⟨_, _, x0, x1⟩ := HAD0.out _ HB9.out
              have HBr9 := hide (HBW.out.trans (HB9.out.mono (by omega)))
              have hbx : (ad.add (p * 2)).block < xb := by omega
              have m0 : w9.cell? (ad.add (p * 2)) = some (.int .i64 yf) := (HBr9.out.cell (p := ad.add (p * 2)) hbx).trans l0
              have m1 : w9.cell? ⟨(ad.add (p * 2)).block, (ad.add (p * 2)).off + 1, none⟩ = some (.int .i64 yt) := (HBr9.out.cell (p := ⟨(ad.add (p * 2)).block, (ad.add (p * 2)).off + 1, none⟩) hbx).trans l1
              have hab9 : (ad.add (p * 2)).block < w9.heap.size := by omega
              have hxb9 : xb < w9.heap.size := by omega
              have y0 := Aft.cell m0 hab9
              have y1 := Aft.cell m1 hab9
              have y2 := Aft.cell x0 hxb9
              have y3 := Aft.cell x1 hxb9
              obtain ⟨r, hr⟩ : ∃ r : Bool, r = decide (wlt ⟨xf, xt⟩ ⟨yf, yt⟩) := ⟨_, rfl⟩
              have HL1 := hide (less_any7 xf xt yf yt)
              have HL2 := hide (rless_any xf xt yf yt)
              rw [← hr] at HL1 HL2
              clear hr l0 l1 m0 m1 x0 x1
              have er : (r != r) = false := by simp
              have hw : IntKind.i64.wrap ((k : Int) - 1) = (p : Int) := by rw [IntWalk.i64_in _ (by omega)]; omega
              have ik : (0 : Int) < (k : Int) := by omega
              have ikd : decide ((0 : Int) < (k : Int)) = true := decide_eq_true ik
              have ikn : 0 < k := by omega
              have i1 : (0 : Int) ≤ (p : Int) := by omega
              have i2 : (p : Int) < (n : Int) := by omega
              go_wp2_with fail
              refine wp_region_aft (by kernel_rfl) (by kernel_rfl) ?_
              repeat (go_big_quiet_step (first
                | (go_at_call 21; exact calls_aft (HL1.out _))
                | (go_at_call 22; exact calls_aft (HL2.out _))))
              refine wpQuiet_nil ?_
              intro w10 hb10
              have HB10 := hide (HBA.out.trans ((HB9.out.trans (hb10.mono hz9)).mono HBA.out.size))
              clear hb10
              go_wp2_with fail
              go_roundw
              case rel => exact ⟨k + 1, by omega, by simp, by rw [HSN.out]; rfl, HB10.out⟩
              case measure => simp [intOf]; omega
      · obtain rfl : k = n := by omega
        have HT : Hid (D.take k = D) := by rw [Hid, List.take_of_length_le (by rw [HD.out]; omega)]
        have HBF := hide (HB3.out.trans (HB.out.mono hz3))
        have hzF := HBF.out.size
        rw [HT.out]
        by_cases hg : AllGood D
        · have HG := hide hg
          have HMM := hide (HMG.out hg)
          have HZZ := hide (HZG.out hg)
          have hmk : m ≤ k := by have h9 := HMM.out.len; rw [HM.out, HD.out] at h9; exact h9
          have hzk : z ≤ k := by have h9 := HZ.out; rw [HZZ.out, sortW_len, HD.out] at h9; omega
          have hck : ck = 0 := by have h9 := HCK.out; unfold ckD at h9; rw [if_pos hg] at h9; exact h9.symm
          subst hck
          rw [decide_eq_true hg]
          have HMr := hide (HMS3.out.below (HB.out.mono (by omega)))
          have HZr := hide (HZO.out.sl.below HB.out)
          have HSr := hide (HS.out.below (HBF.out.mono hB))
          clear hg HMG HZG HMB HZB HCK HIN HIN3 HMO HZO HMS3 HB1 HB2 HB12 HB13 HS
          go_wp2_with fail
          refine (of_any _ M m w2.heap.size wr HMr.out HM.out (by omega) (by omega)).mono ?_
          rintro e w6 ⟨u6, rfl, ho, hb⟩
          have HO6 := hide ho
          have HB6 := hide hb
          have hz6 := hb.size
          clear ho hb
          obtain ⟨a6, c6, rfl, hc6⟩ := HO6.out.sl.form
          go_wp2_with fail
          refine (of_any _ D k B w6 (HSr.out.below (HB6.out.mono (by omega))) HD.out (by omega) (by omega)).mono ?_
          rintro e w7 ⟨u7, rfl, ho, hb⟩
          have HO7 := hide ho
          have HB7 := hide (HB6.out.trans (hb.mono hz6))
          have HO6b := hide (HO6.out.below hb)
          have hz67 := hb.size
          have hz7 := HB7.out.size
          clear ho hb
          obtain ⟨a7, c7, rfl, hc7⟩ := HO7.out.sl.form
          go_wp2_with fail
          refine (rmerge_any k _ D w7.heap.size w7 (by omega) HO7.out.sl HD.out (Nat.le_refl _) (fun x hx => by have h9 := HG.out x hx; unfold Win.good at h9; omega)).mono ?_
          rintro e w8 ⟨u8, M2, m2, rfl, hm2, hle, hsep, hcov, ho, hb⟩
          have hMM : M2 = M := cov_uniq _ _ hsep HMM.out.sep (fun y => (hcov y).trans (HMM.out.cov y).symm)
          rw [hMM] at hm2 ho
          have hmm : m2 = m := hm2.symm.trans HM.out
          subst hmm
          have HO8 := hide ho
          have HB8 := hide (HB7.out.trans (hb.mono hz7))
          have HO6c := hide (HO6b.out.below hb)
          have hz78 := hb.size
          have hz8 := HB8.out.size
          clear ho hb hm2 hle hsep hcov hMM HO6 HO6b HO7 HB6 HB7
          obtain ⟨a8, c8, rfl, hc8⟩ := HO8.out.sl.form
          go_wp2_with fail
          refine (rsame_eq _ _ M m2 w8.heap.size w8 HO6c.out.sl HO8.out.sl HM.out (Nat.le_refl _)).mono ?_
          rintro e w9 ⟨rfl, j9, rfl⟩
          have HB9 := hide (HB8.out.drewN j9)
          have hz9 : wr.heap.size ≤ (w8.drewN j9).heap.size := hz8
          generalize w8.drewN j9 = w9 at *
          clear HO6c HO8 HB8
          have HZ9 := hide (HZr.out.below (HB9.out.mono (by have := HB.out.size; omega)))
          go_wp2_with fail
          refine (of_any _ Z z w3.heap.size w9 HZ9.out HZ.out (by omega) (by have := HB.out.size; omega)).mono ?_
          rintro e w6 ⟨u6, rfl, ho, hb⟩
          have HO6 := hide ho
          have HB6 := hide (HB9.out.trans (hb.mono hz9))
          have hz6 := HB6.out.size
          clear ho hb
          obtain ⟨a6, c6, rfl, hc6⟩ := HO6.out.sl.form
          go_wp2_with fail
          refine (of_any _ D k B w6 (HSr.out.below (HB6.out.mono (by omega))) HD.out (by omega) (by omega)).mono ?_
          rintro e w7 ⟨u7, rfl, ho, hb⟩
          have HO7 := hide ho
          have HB7 := hide (HB6.out.trans (hb.mono hz6))
          have HO6b := hide (HO6.out.below hb)
          have hz7 := HB7.out.size
          clear ho hb
          obtain ⟨a7, c7, rfl, hc7⟩ := HO7.out.sl.form
          go_wp2_with fail
          refine (rsort_any _ D k w7.heap.size w7 HO7.out.sl HD.out (by omega) (Nat.le_refl _)).mono ?_
          rintro e w8 ⟨u8, rfl, ho, hb⟩
          have HZK : Hid (z = k) := by have h9 := HZ.out; rw [HZZ.out, sortW_len, HD.out] at h9; exact h9.symm
          have HO8 := hide ho
          rw [← HZZ.out] at HO8
          have HB8 := hide (HB7.out.trans (hb.mono hz7))
          have HO6c := hide (HO6b.out.below hb)
          have hz8 := HB8.out.size
          clear ho hb HO6 HO6b HO7 HB6 HB7
          have hzk2 := HZK.out
          subst hzk2
          obtain ⟨a8, c8, rfl, hc8⟩ := HO8.out.sl.form
          go_wp2_with fail
          refine (rsame_eq _ _ Z z w8.heap.size w8 HO6c.out.sl HO8.out.sl HZ.out (Nat.le_refl _)).mono ?_
          rintro e w10 ⟨rfl, j9, rfl⟩
          have HB10 := hide (HBF.out.trans ((HB8.out.drewN j9).mono hzF))
          generalize w8.drewN j9 = w10 at *
          clear HO6c HO8 HB8
          go_wp2_with fail
          refine (awk7m w _ HB10.out).mono ?_
          rintro e w22 ⟨rfl, hb⟩
          have HB22 := hide hb
          clear hb
          go_wp2_with fail
          go_ret
          exact ⟨rfl, HB22.out⟩
        · have hm0 : m = 0 := HMB.out hg
          have hz0 : z = 0 := HZB.out hg
          have hck : ck = 70 := by have h9 := HCK.out; unfold ckD at h9; rw [if_neg hg] at h9; exact h9.symm
          subst hck hm0 hz0
          rw [decide_eq_false hg]
          clear hg HMG HZG HMB HZB HCK
          go_wp2_with fail
          refine (awk7m w _ HBF.out).mono ?_
          rintro e w22 ⟨rfl, hb⟩
          have HB22 := hide hb
          clear hb
          go_wp2_with fail
          go_ret
          exact ⟨rfl, HB22.out⟩

end Go.Proofs.YtbnppocaeflghaaDoor
