/- WindowOne. -/
import Derived.Test.YtbnppocaeflghaaDoorMergeP
import Derived.Test.YtbnppocaeflghaaDoorRef07
import Derived.Test.YtbnppocaeflghaaDoorAwk07
namespace Go.Proofs.YtbnppocaeflghaaDoor
open Go.RowKit
set_option linter.unusedVariables false
set_option linter.unusedSimpArgs false

def hasB (D : List Win) (t : Int) : Bool := D.any fun x => decide (x.f ≤ t) && decide (t < x.t)
theorem hasB_cov (D : List Win) (t : Int) : hasB D t = true ↔ Cov D (2 * t + 1) := by
  unfold hasB Cov
  rw [List.any_eq_true]
  constructor
  · rintro ⟨x, hx, h⟩
    simp only [Bool.and_eq_true, decide_eq_true_eq] at h
    exact ⟨x, hx, by omega, by omega⟩
  · rintro ⟨x, hx, h⟩
    refine ⟨x, hx, ?_⟩
    simp only [Bool.and_eq_true, decide_eq_true_eq]
    omega
theorem hasB_eq {D M : List Win} (h : ∀ y, Cov M y ↔ Cov D y) (t : Int) : hasB M t = hasB D t := by
  rw [Bool.eq_iff_iff, hasB_cov, hasB_cov]
  exact h _

theorem has_any7 (v : Value) (D : List Win) (n B : Nat) (t : Int) (w : World) (hs : Sl w B v 2 n (wins D)) (hD : D.length = n) (hB : B ≤ w.heap.size) (hn : n ≤ 8796093022207) :
    Calls Tryd.prog 35 #[v, .int .i64 t] w fun e w' => e = .returned (.bool (hasB D t)) ∧ Below w.heap.size w w' := by
  obtain ⟨A, c, rfl, hc⟩ := hs.form
  have HS := hide hs
  have HD := hide hD
  clear hs hD
  obtain ⟨b, hb⟩ : ∃ b, b = hasB D t := ⟨_, rfl⟩
  have HBB := hide hb
  rw [← hb]
  clear hb
  go_enter Tryd.func35, Tryd.ntmps35
  go_wp2_with fail
  go_loopw [9] (fun i wr => ∃ k : Nat, k ≤ n ∧ i = .int .i64 k ∧ Hid (∀ x ∈ D.take k, ¬ (x.f ≤ t ∧ t < x.t)) ∧ Hid (Below w.heap.size w wr)) (fun i _ => n - (intOf i).toNat)
  case atStart => exact ⟨0, Nat.zero_le _, rfl, (fun x hx => by simp at hx), Below.refl _ _⟩
  case round =>
    obtain ⟨k, hk, rfl, HG, HB⟩ := hrel
    by_cases hlt : k < n
    · have hkD : k < D.length := by rw [HD.out]; exact hlt
      obtain ⟨ad, rfl, hab, g0, g1⟩ := win_at (HS.out.below (HB.out.mono hB)) hlt HD.out
      have hzr := HB.out.size
      have hab2 : (ad.add (k * 2)).block < wr.heap.size := by omega
      have HX : Hid (∀ x ∈ D.take (k + 1), x ∈ D.take k ∨ x = D[k]) := by
        intro x hx
        rw [List.take_succ_eq_append_getElem hkD] at hx
        rcases List.mem_append.1 hx with h9 | h9
        · exact .inl h9
        · exact .inr (List.mem_singleton.1 h9)
      have HM := hide (List.getElem_mem hkD)
      generalize D[k] = x at g0 g1 HX HM
      obtain ⟨xf, xt⟩ := x
      simp only at g0 g1
      have HB2 := hide (HB.out.alloc (o := .cells #[.int .i64 xf, .int .i64 xt] wT) HB.out.size)
      by_cases h1 : xf ≤ t
      · by_cases h2 : t < xt
        · have HT : Hid (b = true) := by
            show _ = _
            rw [HBB.out, hasB, List.any_eq_true]
            exact ⟨_, HM.out, by simp [h1, h2]⟩
          go_wp2_with fail
          go_ret
          rw [HT.out]
          exact ⟨rfl, HB2.out⟩
        · have HG2 : Hid (∀ x ∈ D.take (k + 1), ¬ (x.f ≤ t ∧ t < x.t)) := by
            intro y hy
            rcases HX.out y hy with h9 | rfl
            · exact HG.out y h9
            · exact fun h => h2 h.2
          go_wp2_with fail
          go_roundw
          case rel => exact ⟨k + 1, by omega, by simp, HG2, HB2.out⟩
          case measure => simp [intOf]; omega
      · have HG2 : Hid (∀ x ∈ D.take (k + 1), ¬ (x.f ≤ t ∧ t < x.t)) := by
          intro y hy
          rcases HX.out y hy with h9 | rfl
          · exact HG.out y h9
          · exact fun h => h1 h.1
        go_wp2_with fail
        go_roundw
        case rel => exact ⟨k + 1, by omega, by simp, HG2, HB2.out⟩
        case measure => simp [intOf]; omega
    · have HT : Hid (b = false) := by
        have h9 := HG.out
        rw [List.take_of_length_le (by rw [HD.out]; omega)] at h9
        show _ = _
        rw [HBB.out, hasB, List.any_eq_false]
        intro x hx
        have := h9 x hx
        simp only [Bool.and_eq_true, decide_eq_true_eq]
        exact this
      go_wp2_with fail
      go_ret
      rw [HT.out]
      exact ⟨rfl, HB.out⟩

theorem rev_take (D : List Win) (n k : Nat) (hD : D.length = n) (hk : k < n) : D.reverse.take (k + 1) = D.reverse.take k ++ [D[n - 1 - k]'(by omega)] := by
  have h : k < D.reverse.length := by rw [List.length_reverse]; omega
  rw [List.take_succ_eq_append_getElem h, List.getElem_reverse]
  simp only [hD]

def anyF (D : List Win) (f : Int) : Bool := D.any fun x => decide (x.f = f)
theorem anyF_snoc (D : List Win) (k : Nat) (hk : k < D.length) (f : Int) : anyF (D.take (k + 1)) f = (anyF (D.take k) f || decide (D[k].f = f)) := by
  unfold anyF
  rw [List.take_succ_eq_append_getElem hk, List.any_append]
  simp
theorem awk7 (w0 w : World) (h : Below w0.heap.size w0 w) : Calls Tryd.prog 13 #[] w fun e w' => e = .returned (.bool true) ∧ Below w0.heap.size w0 w' :=
  (awake07 w).mono (fun e w' ⟨he, hb⟩ => ⟨he, h.trans (hb.mono h.size)⟩)

set_option maxRecDepth 100000 in
set_option maxHeartbeats 16000000 in
theorem one_any (v : Value) (D : List Win) (n B : Nat) (t : Int) (w : World) (hs : Sl w B v 2 n (wins D)) (hD : D.length = n) (hB : B ≤ w.heap.size) :
    Calls Tryd.prog 11 #[v, .int .i64 t] w fun e w' => e = .returned (.bool true) ∧ Below w.heap.size w w' := by
  obtain ⟨A, c, rfl, hc⟩ := hs.form
  have HS := hide hs
  have HD := hide hD
  by_cases hbig : 60 < n
  · clear hs hD
    go_enter Tryd.func11, Tryd.ntmps11
    go_wp2_with fail
    refine (awk7 w _ (Below.refl _ _)).mono ?_
    rintro e w2 ⟨rfl, hb⟩
    have HB := hide hb
    clear hb
    go_wp2_with fail
    go_ret
    exact ⟨rfl, HB.out⟩
  · by_cases hg : AllGood D
    · have HG := hide hg
      have HC := hide (wmerge_good _ D n B w hs hD hB (by omega) hg)
      clear hs hD hg
      go_enter Tryd.func11, Tryd.ntmps11
      go_wp2_with fail
      refine HC.out.mono ?_
      rintro e w2 ⟨v2, rfl, E, hp, hsrt, ho, hb⟩
      have HMG := hide (merged_of HG.out hp hsrt)
      have hlen := HMG.out.len
      rw [HD.out] at hlen
      obtain ⟨m, hm⟩ : ∃ m, m = (sweep E).length := ⟨_, rfl⟩
      rw [← hm] at hlen ho
      have HM := hide hm
      have HO2 := hide ho
      have HB2 := hide hb
      clear hp hsrt ho hb HC hm
      generalize sweep E = M at *
      obtain ⟨mA, mc, rfl, hmc⟩ := HO2.out.sl.form
      go_wp2_with fail
      go_loopw [7, 32] (fun o i wr => ∃ (k : Nat), k ≤ n ∧ i = .int .i64 k ∧ Hid (Own wr w2.heap.size wT 2 o k (wins (D.reverse.take k))) ∧ Hid (Below w2.heap.size w2 wr)) (fun _ i _ => n - (intOf i).toNat)
      case atStart => exact ⟨0, Nat.zero_le _, rfl, Own.nil _ _ _ _, Below.refl _ _⟩
      case round =>
        obtain ⟨k, hk, rfl, HO, HBr⟩ := hrel
        obtain ⟨oA, oc, rfl, hoc⟩ := HO.out.sl.form
        have hz2 := HB2.out.size
        have hzr := HBr.out.size
        by_cases hlt : k < n
        · obtain ⟨j, hj⟩ : ∃ j, j = n - 1 - k := ⟨_, rfl⟩
          have hjn : j < n := by omega
          have hjD : j < D.length := by rw [HD.out]; exact hjn
          have HTK : Hid (D.reverse.take (k + 1) = D.reverse.take k ++ [D[j]]) := by
            show _ = _
            rw [rev_take D n k HD.out hlt]
            simp only [hj]
          obtain ⟨ad, rfl, hab, g0, g1⟩ := win_at (HS.out.below ((HB2.out.mono hB).trans (HBr.out.mono (by omega)))) hjn HD.out
          generalize D[j] = x at g0 g1 HTK
          obtain ⟨xf, xt⟩ := x
          simp only at g0 g1
          have hab2 : (ad.add (j * 2)).block < wr.heap.size := by omega
          have w1 : IntKind.i64.wrap ((n : Int) - 1) = (n : Int) - 1 := IntWalk.i64_in _ (by omega)
          have w2' : IntKind.i64.wrap ((n : Int) - 1 - k) = (j : Int) := by rw [IntWalk.i64_in _ (by omega)]; omega
          have i1 : (0 : Int) ≤ (j : Int) := by omega
          have i2 : (j : Int) < (n : Int) := by omega
          have HN : Hid (Sl (wr.alloc (.cells #[.int .i64 xf, .int .i64 xt] wT)) (wr.heap.size + 1) (.slice (some ⟨wr.heap.size, 0, none⟩) 1 1) 2 1 (wins [⟨xf, xt⟩])) := by
            have h9 := Sl.of_own (Own.new (n := 1) (sz := 2) (e := wT) (base := 0) wr #[.int .i64 xf, .int .i64 xt] (by omega) (by omega) rfl)
            simp at h9
            exact h9.mono (by omega)
          clear hj
          go_wp2_with (at_builtin; refine wpList_app rfl tyW (.tmp 35) (.tmp 44) rfl w2.heap.size (n := k) (m := 1) (B := wr.heap.size + 1) (xs := wins (D.reverse.take k)) (news := wins [⟨xf, xt⟩]) rfl rfl (HO.out.alloc _) (by first | exact HN.out | (simpa using HN.out)) (wins_ok _) (by omega) (by omega) (by simp <;> omega) ?_)
          intro v1 w1' ha
          have HO1 : Hid (Own w1' w2.heap.size wT 2 v1 (k + 1) (wins (D.reverse.take (k + 1)))) := by
            rw [HTK.out, wins_app]; exact ha.own
          have HB1 := hide ((HBr.out.alloc (o := .cells #[.int .i64 xf, .int .i64 xt] wT) HBr.out.size).trans (ha.fr.below (B := w2.heap.size) (by simp <;> omega) (fun k hk h => by have := ((HO.out.lt k h).1); omega)))
          clear ha
          go_wp2_with fail
          go_roundw
          case rel => exact ⟨k + 1, by omega, by simp, HO1, HB1⟩
          case measure => simp [intOf]; omega
        · obtain rfl : k = n := by omega
          have HRV : Hid (Own wr w2.heap.size wT 2 (.slice oA k oc) k (wins D.reverse)) := by
            have h9 := HO.out
            rw [List.take_of_length_le (by rw [List.length_reverse, HD.out]; omega)] at h9
            exact h9
          have HRG : Hid (AllGood D.reverse) := fun x hx => HG.out x (List.mem_reverse.1 hx)
          clear HO
          go_wp2_with fail
          refine (wmerge_good _ D.reverse k wr.heap.size wr HRV.out.sl (by rw [List.length_reverse, HD.out]) (Nat.le_refl _) (by omega) HRG.out).mono ?_
          rintro e w4 ⟨v4, rfl, E4, hp, hsrt, ho, hb⟩
          have h4 := merged_of HRG.out hp hsrt
          have hM4 : M = sweep E4 := HMG.out.uniq h4 (fun y => cov_perm (List.reverse_perm D).symm y)
          rw [← hM4, ← HM.out] at ho
          have HO4 := hide ho
          have HB4 := hide hb
          have hz4 := hb.size
          clear hp hsrt ho hb h4 hM4
          have HM4 := hide (HO2.out.below (HBr.out.trans (HB4.out.mono hzr)))
          obtain ⟨nA, nc, rfl, hnc⟩ := HO4.out.sl.form
          go_wp2_with fail
          refine (wmerge_good _ M m w4.heap.size w4 HM4.out.sl HM.out.symm (Nat.le_refl _) (by omega) (HMG.out.good HG.out)).mono ?_
          rintro e w5 ⟨v5, rfl, E5, hp, hsrt, ho, hb⟩
          have h5 := merged_of (HMG.out.good HG.out) hp hsrt
          have hM5 : sweep E5 = M := cov_uniq _ _ h5.sep HMG.out.sep h5.cov
          rw [hM5, ← HM.out] at ho
          have HO5 := hide ho
          have HB5 := hide hb
          have hz5 := hb.size
          clear hp hsrt ho hb h5 hM5
          have HM5 := hide (HM4.out.below HB5.out)
          have HN5 := hide (HO4.out.below HB5.out)
          obtain ⟨kA, kc, rfl, hkc⟩ := HO5.out.sl.form
          have HBA : Hid (Below w.heap.size w w5) := ((HB2.out.trans (HBr.out.mono hz2)).trans (HB4.out.mono (by omega))).trans (HB5.out.mono (by omega))
          have HS5 : Hid (Sl w5 B (.slice A k c) 2 k (wins D)) := HS.out.below (HBA.out.mono hB)
          have hzA := HBA.out.size
          clear HB2 HBr HB4 HB5 HO2 HO4 HRV HM4
          go_wp2_with fail
          refine (of_any _ M m w5.heap.size w5 HM5.out.sl HM.out.symm (by omega) (Nat.le_refl _)).mono ?_
          rintro e w6 ⟨u6, rfl, ho, hb⟩
          have HO6 := hide ho
          have HB6 := hide hb
          have hz6 := hb.size
          clear ho hb
          have HN6 := hide (HN5.out.below HB6.out)
          obtain ⟨a6, c6, rfl, hc6⟩ := HO6.out.sl.form
          go_wp2_with fail
          refine (of_any _ M m w6.heap.size w6 HN6.out.sl HM.out.symm (by omega) (Nat.le_refl _)).mono ?_
          rintro e w7 ⟨u7, rfl, ho, hb⟩
          have HO7 := hide ho
          have HB7 := hide hb
          have hz7 := hb.size
          clear ho hb
          have HP7 := hide (HO6.out.below HB7.out)
          obtain ⟨a7, c7, rfl, hc7⟩ := HO7.out.sl.form
          go_wp2_with fail
          refine (rsame_eq _ _ M m w7.heap.size w7 HP7.out.sl HO7.out.sl HM.out.symm (Nat.le_refl _)).mono ?_
          rintro e w8 ⟨rfl, j8, rfl⟩
          have HB8 : Hid (Below w5.heap.size w5 (w7.drewN j8)) := (HB6.out.trans (HB7.out.mono hz6)).drewN j8
          have hz8 : w5.heap.size ≤ (w7.drewN j8).heap.size := by show _ ≤ w7.heap.size; omega
          generalize w7.drewN j8 = w8 at *
          have HM8 := hide (HM5.out.below HB8.out)
          have HK8 := hide (HO5.out.below HB8.out)
          have HS8 := hide (HS5.out.below (HB8.out.mono (by omega)))
          have HBB := hide (HBA.out.trans (HB8.out.mono hzA))
          clear HM5 HN5 HO5 HO6 HB6 HO7 HB7 HN6 HP7 HB8 HS5 HBA
          go_wp2_with fail
          refine (of_any _ M m w8.heap.size w8 HM8.out.sl HM.out.symm (by omega) (Nat.le_refl _)).mono ?_
          rintro e w9 ⟨u6, rfl, ho, hb⟩
          have HO6 := hide ho
          have HB6 := hide hb
          have hz9 := hb.size
          clear ho hb
          have HN6 := hide (HK8.out.below HB6.out)
          obtain ⟨a9, c9, rfl, hc9⟩ := HO6.out.sl.form
          go_wp2_with fail
          refine (of_any _ M m w9.heap.size w9 HN6.out.sl HM.out.symm (by omega) (Nat.le_refl _)).mono ?_
          rintro e w10 ⟨u7, rfl, ho, hb⟩
          have HO7 := hide ho
          have HB7 := hide hb
          have hz10 := hb.size
          clear ho hb
          have HP7 := hide (HO6.out.below HB7.out)
          obtain ⟨a10, c10, rfl, hc10⟩ := HO7.out.sl.form
          go_wp2_with fail
          refine (rsame_eq _ _ M m w10.heap.size w10 HP7.out.sl HO7.out.sl HM.out.symm (Nat.le_refl _)).mono ?_
          rintro e w11 ⟨rfl, j11, rfl⟩
          have HB8 : Hid (Below w8.heap.size w8 (w10.drewN j11)) := (HB6.out.trans (HB7.out.mono hz9)).drewN j11
          generalize w10.drewN j11 = w11 at *
          have hzB := HBB.out.size
          have HM11 := hide (HM8.out.below HB8.out)
          have HS11 := hide (HS8.out.below (HB8.out.mono (by omega)))
          have HB11 := hide (HBB.out.trans (HB8.out.mono hzB))
          have hz11 := HB11.out.size
          clear HM8 HK8 HS8 HBB HO6 HB6 HO7 HB7 HN6 HP7 HB8
          go_wp2_with fail
          go_loopw [81] (fun i wr => ∃ q : Nat, q ≤ m ∧ i = .int .i64 q ∧ Hid (Below w11.heap.size w11 wr)) (fun i _ => m - (intOf i).toNat)
          case atStart => exact ⟨0, Nat.zero_le _, rfl, Below.refl _ _⟩
          case round =>
            obtain ⟨q, hq, rfl, HBq⟩ := hrel
            have hzq := HBq.out.size
            by_cases hlt2 : q < m
            · have hqM : q < M.length := by rw [← HM.out]; exact hlt2
              obtain ⟨am, hA, hab, g0, g1⟩ := win_at (HM11.out.sl.below HBq.out) hlt2 HM.out.symm
              have HWH : Hid (anyF D M[q].f = true) := by
                obtain ⟨p, h1, h2⟩ := HMG.out.hf M[q] (List.getElem_mem hqM)
                show _ = _
                rw [anyF, List.any_eq_true]
                exact ⟨p, h1, by simp [h2]⟩
              have hcase : q = 0 ∨ ∃ p, p + 1 = q := by
                cases q with
                | zero => exact .inl rfl
                | succ p => exact .inr ⟨p, rfl⟩
              rcases hcase with rfl | ⟨p, hpq⟩
              · subst hA
                generalize M[0] = x at g0 g1 HWH
                obtain ⟨xf, xt⟩ := x
                simp only at g0 g1 HWH
                simp only [Nat.zero_mul, add_zero'] at g0 g1 hab
                have hab2 : am.block < wr.heap.size := by omega
                go_wp2_with fail
                go_quiet (fail)
                go_wp2_with fail
                have HX12 : Hid (Blk ((wr.alloc (.cells #[.int .i64 xf, .int .i64 xt] wT)).drewN nq) wr.heap.size wT #[.int .i64 xf, .int .i64 xt]) := Blk.new wr _ _
                have HB12 : Hid (Below w11.heap.size w11 ((wr.alloc (.cells #[.int .i64 xf, .int .i64 xt] wT)).drewN nq)) := (HBq.out.alloc (o := .cells #[.int .i64 xf, .int .i64 xt] wT) HBq.out.size).drewN nq
                have hz12 : wr.heap.size < ((wr.alloc (.cells #[.int .i64 xf, .int .i64 xt] wT)).drewN nq).heap.size := by show _ < (wr.alloc _).heap.size; simp
                generalize ((wr.alloc (.cells #[.int .i64 xf, .int .i64 xt] wT)).drewN nq) = w12 at *
                generalize wr.heap.size = xb at *
                clear g0 g1
                go_loopw [15, 101] (fun b i wz => ∃ j : Nat, j ≤ k ∧ i = .int .i64 j ∧ b = .bool (anyF (D.take j) xf) ∧ Hid (Below w12.heap.size w12 wz)) (fun _ i _ => k - (intOf i).toNat)
                case atStart => exact ⟨0, Nat.zero_le _, rfl, rfl, Below.refl _ _⟩
                case round =>
                  obtain ⟨j, hj, rfl, rfl, HBj⟩ := hrel
                  have hzj := HBj.out.size
                  have x0 : wr.cell? ⟨xb, 0, none⟩ = some (.int .i64 xf) := (HX12.out.below HBj.out hz12).cell 0
                  have hxb : xb < wr.heap.size := by omega
                  by_cases hltj : j < k
                  · have hjD : j < D.length := by rw [HD.out]; exact hltj
                    obtain ⟨al, rfl, hal, p0, p1⟩ := win_at (HS11.out.below ((HB12.out.mono (by omega)).trans (HBj.out.mono (by have := HB12.out.size; omega)))) hltj HD.out
                    have HAN := hide (anyF_snoc D j hjD xf)
                    generalize D[j] = y at p0 p1 HAN
                    obtain ⟨yf, yt⟩ := y
                    simp only at p0 p1 HAN
                    have hal2 : (al.add (j * 2)).block < wr.heap.size := by have := HB12.out.size; omega
                    have HB13 := hide (HBj.out.alloc (o := .cells #[.int .i64 yf, .int .i64 yt] wT) HBj.out.size)
                    generalize anyF (D.take j) xf = b at *
                    cases b
                    · have hx1 : (wr.alloc (.cells #[.int .i64 yf, .int .i64 yt] wT)).cell? ⟨xb, 0, none⟩ = some (.int .i64 xf) := ((Below.refl wr.heap.size wr).alloc (Nat.le_refl _) _).cell (p := ⟨xb, 0, none⟩) hxb |>.trans x0
                      by_cases hyx : yf = xf
                      · have HA2 : Hid (anyF (D.take (j + 1)) xf = true) := by show _ = _; rw [HAN.out, decide_eq_true hyx]; rfl
                        subst hyx
                        go_wp2_with fail
                        go_roundw
                        case rel => exact ⟨j + 1, by omega, by simp, by rw [HA2.out], HB13.out⟩
                        case measure => simp [intOf]; omega
                      · have HA2 : Hid (anyF (D.take (j + 1)) xf = false) := by show _ = _; rw [HAN.out, decide_eq_false hyx]; rfl
                        have hyb : (yf == xf) = false := by simp [hyx]
                        go_wp2_with fail
                        go_roundw
                        case rel => exact ⟨j + 1, by omega, by simp, by rw [HA2.out], HB13.out⟩
                        case measure => simp [intOf]; omega
                    · have HA2 : Hid (anyF (D.take (j + 1)) xf = true) := by show _ = _; rw [HAN.out, Bool.true_or]
                      go_wp2_with fail
                      go_roundw
                      case rel => exact ⟨j + 1, by omega, by simp, by rw [HA2.out], HB13.out⟩
                      case measure => simp [intOf]; omega
                  · obtain rfl : j = k := by omega
                    have HT : Hid (anyF (D.take j) xf = true) := by
                      show _ = _
                      rw [List.take_of_length_le (by rw [HD.out]; omega)]
                      exact HWH.out
                    rw [HT.out]
                    go_wp2_with fail
                    go_roundw
                    case rel => exact ⟨1, by omega, by simp, HB12.out.trans (HBj.out.mono HB12.out.size)⟩
                    case measure => simp [intOf]; omega
              · have hpM : p < M.length := by omega
                obtain ⟨am2, hA2, hab3, q0, q1⟩ := win_at (HM11.out.sl.below HBq.out) (show p < m by omega) HM.out.symm
                have hle : M[p].t ≤ M[q].f := List.pairwise_iff_getElem.1 HMG.out.sep.1 p q hpM hqM (by omega)
                have hA3 : am2 = am := by rw [hA] at hA2; injection hA2 with h9; exact h9.symm
                subst hA3
                subst hA
                generalize M[p] = l at q0 q1 hle
                generalize M[q] = x at g0 g1 HWH hle
                obtain ⟨xf, xt⟩ := x
                obtain ⟨lf, lt⟩ := l
                simp only at g0 g1 q0 q1 HWH hle
                have hab2 : (am2.add (q * 2)).block < wr.heap.size := by omega
                have hab5 : (am2.add (p * 2)).block < wr.heap.size := by omega
                have hab4 : (am2.add (p * 2)).block < (wr.alloc (.cells #[.int .i64 xf, .int .i64 xt] wT)).heap.size := by simp; omega
                have hw : IntKind.i64.wrap ((q : Int) - 1) = (p : Int) := by rw [IntWalk.i64_in _ (by omega)]; omega
                have i0 : (0 : Int) < (q : Int) := by omega
                have i0b : decide ((0 : Int) < (q : Int)) = true := decide_eq_true i0
                have i0n : 0 < q := by omega
                have i0p : p < m := by omega
                have i1 : (0 : Int) ≤ (p : Int) := by omega
                have i2 : (p : Int) < (m : Int) := by omega
                have hlt9 : decide (xf < lt) = false := decide_eq_false (by omega)
                have hnl : ¬ xf < lt := by omega
                go_wp2_with fail
                go_quiet (fail)
                go_wp2_with fail
                have HX12 : Hid (Blk ((wr.alloc (.cells #[.int .i64 xf, .int .i64 xt] wT)).drewN nq) wr.heap.size wT #[.int .i64 xf, .int .i64 xt]) := Blk.new wr _ _
                have HB12 : Hid (Below w11.heap.size w11 ((wr.alloc (.cells #[.int .i64 xf, .int .i64 xt] wT)).drewN nq)) := (HBq.out.alloc (o := .cells #[.int .i64 xf, .int .i64 xt] wT) HBq.out.size).drewN nq
                have hz12 : wr.heap.size < ((wr.alloc (.cells #[.int .i64 xf, .int .i64 xt] wT)).drewN nq).heap.size := by show _ < (wr.alloc _).heap.size; simp
                generalize ((wr.alloc (.cells #[.int .i64 xf, .int .i64 xt] wT)).drewN nq) = w12 at *
                generalize wr.heap.size = xb at *
                clear g0 g1
                go_loopw [15, 101] (fun b i wz => ∃ j : Nat, j ≤ k ∧ i = .int .i64 j ∧ b = .bool (anyF (D.take j) xf) ∧ Hid (Below w12.heap.size w12 wz)) (fun _ i _ => k - (intOf i).toNat)
                case atStart => exact ⟨0, Nat.zero_le _, rfl, rfl, Below.refl _ _⟩
                case round =>
                  obtain ⟨j, hj, rfl, rfl, HBj⟩ := hrel
                  have hzj := HBj.out.size
                  have x0 : wr.cell? ⟨xb, 0, none⟩ = some (.int .i64 xf) := (HX12.out.below HBj.out hz12).cell 0
                  have hxb : xb < wr.heap.size := by omega
                  by_cases hltj : j < k
                  · have hjD : j < D.length := by rw [HD.out]; exact hltj
                    obtain ⟨al, rfl, hal, p0, p1⟩ := win_at (HS11.out.below ((HB12.out.mono (by omega)).trans (HBj.out.mono (by have := HB12.out.size; omega)))) hltj HD.out
                    have HAN := hide (anyF_snoc D j hjD xf)
                    generalize D[j] = y at p0 p1 HAN
                    obtain ⟨yf, yt⟩ := y
                    simp only at p0 p1 HAN
                    have hal2 : (al.add (j * 2)).block < wr.heap.size := by have := HB12.out.size; omega
                    have HB13 := hide (HBj.out.alloc (o := .cells #[.int .i64 yf, .int .i64 yt] wT) HBj.out.size)
                    generalize anyF (D.take j) xf = b at *
                    cases b
                    · have hx1 : (wr.alloc (.cells #[.int .i64 yf, .int .i64 yt] wT)).cell? ⟨xb, 0, none⟩ = some (.int .i64 xf) := ((Below.refl wr.heap.size wr).alloc (Nat.le_refl _) _).cell (p := ⟨xb, 0, none⟩) hxb |>.trans x0
                      by_cases hyx : yf = xf
                      · have HA2 : Hid (anyF (D.take (j + 1)) xf = true) := by show _ = _; rw [HAN.out, decide_eq_true hyx]; rfl
                        subst hyx
                        go_wp2_with fail
                        go_roundw
                        case rel => exact ⟨j + 1, by omega, by simp, by rw [HA2.out], HB13.out⟩
                        case measure => simp [intOf]; omega
                      · have HA2 : Hid (anyF (D.take (j + 1)) xf = false) := by show _ = _; rw [HAN.out, decide_eq_false hyx]; rfl
                        have hyb : (yf == xf) = false := by simp [hyx]
                        go_wp2_with fail
                        go_roundw
                        case rel => exact ⟨j + 1, by omega, by simp, by rw [HA2.out], HB13.out⟩
                        case measure => simp [intOf]; omega
                    · have HA2 : Hid (anyF (D.take (j + 1)) xf = true) := by show _ = _; rw [HAN.out, Bool.true_or]
                      go_wp2_with fail
                      go_roundw
                      case rel => exact ⟨j + 1, by omega, by simp, by rw [HA2.out], HB13.out⟩
                      case measure => simp [intOf]; omega
                  · obtain rfl : j = k := by omega
                    have HT : Hid (anyF (D.take j) xf = true) := by
                      show _ = _
                      rw [List.take_of_length_le (by rw [HD.out]; omega)]
                      exact HWH.out
                    rw [HT.out]
                    go_wp2_with fail
                    go_roundw
                    case rel => exact ⟨q + 1, by omega, by simp, HB12.out.trans (HBj.out.mono HB12.out.size)⟩
                    case measure => simp [intOf]; omega
            · have HSA := hide (HS11.out.below (HBq.out.mono (by omega)))
              have HMA := hide (HM11.out.sl.below HBq.out)
              have HBA := hide (HB11.out.trans (HBq.out.mono hz11))
              have hzA := HBA.out.size
              go_wp2_with fail
              refine (has_any7 _ D k B t wr HSA.out HD.out (by omega) (by omega)).mono ?_
              rintro e w20 ⟨rfl, hb⟩
              have HB20 := hide (HBA.out.trans (hb.mono hzA))
              have HMB := hide (HMA.out.below (hb.mono (by omega)))
              have hz20 := hb.size
              clear hb
              go_wp2_with fail
              refine (has_any7 _ M m w11.heap.size t w20 HMB.out HM.out.symm (by have := HB20.out.size; omega) (by omega)).mono ?_
              rintro e w21 ⟨rfl, hb⟩
              rw [hasB_eq HMG.out.cov t]
              have HB21 := hide (HB20.out.trans (hb.mono HB20.out.size))
              clear hb
              have hbb : (hasB D t == hasB D t) = true := by simp
              go_wp2_with fail
              refine (awk7 w _ HB21.out).mono ?_
              rintro e w22 ⟨rfl, hb⟩
              have HB22 := hide hb
              clear hb
              go_wp2_with fail
              go_ret
              exact ⟨rfl, HB22.out⟩
    · have HC := hide (wmerge_bad _ D n B w hs hD hB (by omega) hg)
      clear hs hD hg
      go_enter Tryd.func11, Tryd.ntmps11
      go_wp2_with fail
      refine HC.out.mono ?_
      rintro e w2 ⟨rfl, hb⟩
      have HB := hide hb
      clear hb
      go_wp2_with fail
      refine (awk7 w _ HB.out).mono ?_
      rintro e w3 ⟨rfl, hb⟩
      have HB3 := hide hb
      clear hb
      go_wp2_with fail
      go_ret
      exact ⟨rfl, HB3.out⟩

end Go.Proofs.YtbnppocaeflghaaDoor
