/- WindowAssigns: the walk. -/
import Derived.Test.YtbnppocaeflghaaDoorRasg
import Derived.Test.YtbnppocaeflghaaDoorAwk07
import Derived.Deep.RegionHeld3
namespace Go.Proofs.YtbnppocaeflghaaDoor
open Go.RowKit
set_option linter.unusedVariables false
set_option linter.unusedSimpArgs false

abbrev fnT : Nat := 24
theorem Blk.four {w : World} {g t : Nat} {a b c d : Value} (h : Blk w g t #[a, b, c, d]) : w.cell? ⟨g, 0, none⟩ = some a ∧ w.cell? ⟨g, 1, none⟩ = some b ∧ w.cell? ⟨g, 2, none⟩ = some c ∧ w.cell? ⟨g, 3, none⟩ = some d := ⟨h.cell 0, h.cell 1, h.cell 2, h.cell 3⟩

theorem asg_len (f : Wfn) (t : Int) (hr : f.right) (ht : 0 ≤ t) : (f.asg t).length ≤ 1048577 := by
  obtain ⟨k, s, p, o⟩ := f
  have hc : k = 0 ∨ k = 3 ∨ ((k = 1 ∧ s = s) ∨ (k = 2 ∧ p = p)) := by unfold Wfn.right at hr; simp only at hr; omega
  rcases hc with rfl | rfl | h
  · simp [Wfn.asg]
  · simp [Wfn.asg]
  · have key : ∀ st, ((k = 1 ∧ st = s) ∨ (k = 2 ∧ st = p)) → (Wfn.asg ⟨k, s, p, o⟩ t).length ≤ 1048577 := by
      intro st hst
      obtain ⟨m, T, hasg, hm1, hT1, hT2, hlast, hall, hdv⟩ := gen_asg k s p o t st hr hst
      have hs : 1 ≤ st ∧ s ≤ 1048576 := by unfold Wfn.right at hr; simp only at hr; omega
      rw [hasg, List.length_reverse, downW_len]
      have h9 := hall (m - 1) (by omega)
      have h10 := Int.mul_le_mul_of_nonneg_left (show (1 : Int) ≤ st by omega) (show (0 : Int) ≤ ((m - 1 : Nat) : Int) by omega)
      omega
    rcases h with ⟨h, _⟩ | ⟨h, _⟩
    · exact key s (.inl ⟨h, rfl⟩)
    · exact key p (.inr ⟨h, rfl⟩)

set_option maxRecDepth 100000 in
set_option maxHeartbeats 8000000 in
theorem assigns_any (f : Wfn) (t : Int) (w : World) : Calls Tryd.prog 5 #[f.v, .int .i64 t] w fun e w' => e = .returned (.bool true) ∧ Below w.heap.size w w' := by
  obtain ⟨k, s, p, o⟩ := f
  unfold Wfn.v
  have HA := hide (assign_any ⟨k, s, p, o⟩ t)
  have HCK := hide (check_any ⟨k, s, p, o⟩)
  have HRT := hide (right_any ⟨k, s, p, o⟩)
  have HTM := hide (time_any t)
  go_enter Tryd.func5, Tryd.ntmps5
  go_wp2_with fail
  have HB1 := hide ((Below.refl w.heap.size w).alloc (Nat.le_refl _) (.cells #[.int .i64 k, .int .i64 s, .int .i64 p, .int .i64 o] fnT))
  have HF1 : Hid (Blk (w.alloc (.cells #[.int .i64 k, .int .i64 s, .int .i64 p, .int .i64 o] fnT)) w.heap.size fnT #[.int .i64 k, .int .i64 s, .int .i64 p, .int .i64 o]) := Blk.new w _ _
  generalize w.alloc (.cells #[.int .i64 k, .int .i64 s, .int .i64 p, .int .i64 o] fnT) = w1 at *
  refine (HA.out w1).mono ?_
  rintro e w2 ⟨v2, n2, rfl, hb2, hc2⟩
  have HF2 := hide (HF1.out.below hb2 HF1.out.lt)
  have HB2 := hide (HB1.out.trans (hb2.mono HB1.out.size))
  have HC2 := hide hc2
  clear hb2 hc2
  obtain ⟨c0, c1, c2, c3⟩ := HF2.out.four
  have hlt := HF2.out.lt
  rcases HC2.out with ⟨hr, ht1, ht2, rfl, ho2⟩ | ⟨hr, rfl, rfl⟩ | ⟨hr, ht, rfl, rfl⟩
  · have HO2 := hide ho2
    obtain ⟨A2, d2, rfl, hd2⟩ := ho2.sl.form
    obtain ⟨n, hn⟩ : ∃ n, n = (Wfn.asg ⟨k, s, p, o⟩ t).length := ⟨_, rfl⟩
    have HN := hide hn
    rw [← hn] at hd2 HO2 ⊢
    have HNM : Hid (n ≤ 1048577) := by rw [Hid, hn]; exact asg_len ⟨k, s, p, o⟩ t hr ht1
    clear ho2 hn
    go_wp2_with fail
    refine (fn_any k s p o _).mono ?_
    rintro e w3 ⟨rfl, hb⟩
    have hz2 := HB2.out.size
    have HF3 := hide (HF2.out.below hb HF2.out.lt)
    have HB3 := hide (HB2.out.trans (hb.mono hz2))
    have hz3 := HB3.out.size
    have hz23 := hb.size
    have HB23 := hide hb
    clear hb c0 c1 c2 c3 hlt
    go_wp2_with fail
    refine (HRT.out _).mono ?_
    rw [decide_eq_true hr]
    rintro e w4 ⟨rfl, hb⟩
    have HF4 := hide (HF3.out.below hb HF3.out.lt)
    have HB4 := hide (HB3.out.trans (hb.mono hz3))
    have HB24 := hide (HB23.out.trans (hb.mono hz23))
    have hz4 := HB4.out.size
    clear hb
    obtain ⟨c0, c1, c2, c3⟩ := HF4.out.four
    have hlt := HF4.out.lt
    go_wp2_with fail
    refine (HTM.out _).mono ?_
    rw [decide_eq_true ht1, decide_eq_true ht2]
    rintro e w5 ⟨rfl, rfl⟩
    go_wp2_with fail
    go_region_held3 (fun w' : World => w'.cell? ⟨w.heap.size, 0, none⟩ = some (.int .i64 k) ∧ w'.cell? ⟨w.heap.size, 1, none⟩ = some (.int .i64 s) ∧ w'.cell? ⟨w.heap.size, 2, none⟩ = some (.int .i64 p) ∧ w'.cell? ⟨w.heap.size, 3, none⟩ = some (.int .i64 o)) (first
        | exact HF4.out.four
        | exact hk7.four
        | exact hk8.four
        | exact hk9.four) (first
      | (go_at_call 12; refine (HCK.out _).mono ?_; rw [if_pos hr]; rintro e w7 ⟨rfl, hb7⟩; have hk7 := (HF4.out.drewN 1).below hb7 (HF4.out.drewN 1).lt)
      | (go_at_call 28; refine (fn_any k s p o _).mono ?_; rintro e w8 ⟨rfl, hb8⟩; have hk8 := hk7.below hb8 hk7.lt)
      | (go_at_call 27; refine (HRT.out _).mono ?_; rw [decide_eq_true hr]; rintro e w9 ⟨rfl, hb9⟩; have hk9 := hk8.below hb9 hk8.lt))
    have HF9 := hide hk9
    have h79 := ((((Below.refl w5.heap.size w5).drewN 1).trans hb7).trans (hb8.mono hb7.size)).trans (hb9.mono (Nat.le_trans hb7.size hb8.size))
    have HB49 : Hid (Below w5.heap.size w5 w9) := h79
    have HB9 := hide (HB4.out.trans (h79.mono hz4))
    have hz9 := HB9.out.size
    clear hb7 hb8 hb9 hk7 hk8 hk9 h79
    go_wp2_with fail
    have HO9 := hide ((HO2.out.below HB24.out).below HB49.out)
    have HS9 := hide HO9.out.sl
    clear c0 c1 c2 c3
    obtain ⟨c0, c1, c2, c3⟩ := HF9.out.four
    have hlt9 := HF9.out.lt
    go_region_held3 (fun w' : World => w'.cell? ⟨w.heap.size, 0, none⟩ = some (.int .i64 k) ∧ w'.cell? ⟨w.heap.size, 1, none⟩ = some (.int .i64 s) ∧ w'.cell? ⟨w.heap.size, 2, none⟩ = some (.int .i64 p) ∧ w'.cell? ⟨w.heap.size, 3, none⟩ = some (.int .i64 o)) (first
        | exact HF9.out.four
        | exact hk7.four
        | exact hk8.four
        | exact hk10.four
        | exact hk11.four
        | exact hk12.four) (first
      | (go_at_call 24; refine (of_any _ (Wfn.asg ⟨k, s, p, o⟩ t) n _ _ (HS9.out.drewN 1) HN.out.symm HNM.out (Nat.le_refl _)).mono ?_; rintro e w7 ⟨u7, rfl, ho7, hb7⟩; obtain ⟨uA, uc, rfl, huc⟩ := ho7.sl.form; have hk7 := (HF9.out.drewN 1).below hb7 (HF9.out.drewN 1).lt)
      | (go_at_call 28; refine (fn_any k s p o _).mono ?_; rintro e w8 ⟨rfl, hb8⟩; have hk8 := hk7.below hb8 hk7.lt)
      | (go_at_call 30; refine (rassign_any ⟨k, s, p, o⟩ t _ hr ht1 ht2).mono ?_; rintro e w10 ⟨u10, rfl, ho10, hb10⟩; rw [← HN.out] at ho10; obtain ⟨xA, xc, rfl, hxc⟩ := ho10.sl.form; have hk10 := hk8.below hb10 hk8.lt)
      | (go_at_call 23; refine (rsame_eq _ _ (Wfn.asg ⟨k, s, p, o⟩ t) n w10.heap.size _ ((ho7.below hb8).below hb10).sl ho10.sl HN.out.symm (Nat.le_refl _)).mono ?_; rintro e w11 ⟨rfl, j11, rfl⟩; have hk11 := hk10.drewN j11)
      | (go_at_call 13; refine (awake07 _).mono ?_; rintro e w12 ⟨rfl, hb12⟩; have hk12 := hk11.below hb12 hk11.lt))
    go_wp2_with fail
    go_ret
    have h7 : Below w9.heap.size w9 w7 := ((Below.refl w9.heap.size w9).drewN 1).trans hb7
    have h8 := h7.trans (hb8.mono h7.size)
    have h10 := h8.trans (hb10.mono h8.size)
    have h12 := (h10.drewN j11).trans (hb12.mono h10.size)
    exact ⟨rfl, HB9.out.trans (h12.mono hz9)⟩
  · go_wp2_with fail
    refine (fn_any k s p o _).mono ?_
    rintro e w3 ⟨rfl, hb⟩
    have hz2 := HB2.out.size
    have HF3 := hide (HF2.out.below hb HF2.out.lt)
    have HB3 := hide (HB2.out.trans (hb.mono hz2))
    have hz3 := HB3.out.size
    have hz23 := hb.size
    have HB23 := hide hb
    clear hb c0 c1 c2 c3 hlt
    go_wp2_with fail
    refine (HRT.out _).mono ?_
    rw [decide_eq_false hr]
    rintro e w4 ⟨rfl, hb⟩
    have HF4 := hide (HF3.out.below hb HF3.out.lt)
    have HB4 := hide (HB3.out.trans (hb.mono hz3))
    have HB24 := hide (HB23.out.trans (hb.mono hz23))
    have hz4 := HB4.out.size
    clear hb
    obtain ⟨c0, c1, c2, c3⟩ := HF4.out.four
    have hlt := HF4.out.lt
    go_wp2_with fail
    go_region_held3 (fun w' : World => w'.cell? ⟨w.heap.size, 0, none⟩ = some (.int .i64 k) ∧ w'.cell? ⟨w.heap.size, 1, none⟩ = some (.int .i64 s) ∧ w'.cell? ⟨w.heap.size, 2, none⟩ = some (.int .i64 p) ∧ w'.cell? ⟨w.heap.size, 3, none⟩ = some (.int .i64 o)) (first
        | exact HF4.out.four
        | exact hk7.four
        | exact hk8.four
        | exact hk9.four) (first
      | (go_at_call 12; refine (HCK.out _).mono ?_; rw [if_neg hr]; rintro e w7 ⟨rfl, hb7⟩; have hk7 := (HF4.out.drewN 1).below hb7 (HF4.out.drewN 1).lt)
      | (go_at_call 28; refine (fn_any k s p o _).mono ?_; rintro e w8 ⟨rfl, hb8⟩; have hk8 := hk7.below hb8 hk7.lt)
      | (go_at_call 27; refine (HRT.out _).mono ?_; rw [decide_eq_false hr]; rintro e w9 ⟨rfl, hb9⟩; have hk9 := hk8.below hb9 hk8.lt))
    have HF9 := hide hk9
    have h79 := ((((Below.refl w4.heap.size w4).drewN 1).trans hb7).trans (hb8.mono hb7.size)).trans (hb9.mono (Nat.le_trans hb7.size hb8.size))
    have HB49 : Hid (Below w4.heap.size w4 w9) := h79
    have HB9 := hide (HB4.out.trans (h79.mono hz4))
    have hz9 := HB9.out.size
    clear hb7 hb8 hb9 hk7 hk8 hk9 h79
    go_wp2_with fail
    refine (awake07 _).mono ?_
    rintro e w11 ⟨rfl, hb⟩
    go_wp2_with fail
    go_ret
    exact ⟨rfl, HB9.out.trans (hb.mono hz9)⟩
  · have htf : (decide (0 ≤ t) && decide (t ≤ 1048576)) = false := by
      by_cases h9 : 0 ≤ t
      · rw [decide_eq_false (by omega : ¬ t ≤ 1048576), Bool.and_false]
      · rw [decide_eq_false h9, Bool.false_and]
    go_wp2_with fail
    refine (fn_any k s p o _).mono ?_
    rintro e w3 ⟨rfl, hb⟩
    have hz2 := HB2.out.size
    have HF3 := hide (HF2.out.below hb HF2.out.lt)
    have HB3 := hide (HB2.out.trans (hb.mono hz2))
    have hz3 := HB3.out.size
    have hz23 := hb.size
    have HB23 := hide hb
    clear hb c0 c1 c2 c3 hlt
    go_wp2_with fail
    refine (HRT.out _).mono ?_
    rw [decide_eq_true hr]
    rintro e w4 ⟨rfl, hb⟩
    have HF4 := hide (HF3.out.below hb HF3.out.lt)
    have HB4 := hide (HB3.out.trans (hb.mono hz3))
    have HB24 := hide (HB23.out.trans (hb.mono hz23))
    have hz4 := HB4.out.size
    clear hb
    obtain ⟨c0, c1, c2, c3⟩ := HF4.out.four
    have hlt := HF4.out.lt
    go_wp2_with fail
    refine (HTM.out _).mono ?_
    rw [htf]
    rintro e w5 ⟨rfl, rfl⟩
    go_wp2_with fail
    go_region_held3 (fun w' : World => w'.cell? ⟨w.heap.size, 0, none⟩ = some (.int .i64 k) ∧ w'.cell? ⟨w.heap.size, 1, none⟩ = some (.int .i64 s) ∧ w'.cell? ⟨w.heap.size, 2, none⟩ = some (.int .i64 p) ∧ w'.cell? ⟨w.heap.size, 3, none⟩ = some (.int .i64 o)) (first
        | exact HF4.out.four
        | exact hk7.four
        | exact hk8.four
        | exact hk9.four) (first
      | (go_at_call 12; refine (HCK.out _).mono ?_; rw [if_pos hr]; rintro e w7 ⟨rfl, hb7⟩; have hk7 := (HF4.out.drewN 1).below hb7 (HF4.out.drewN 1).lt)
      | (go_at_call 28; refine (fn_any k s p o _).mono ?_; rintro e w8 ⟨rfl, hb8⟩; have hk8 := hk7.below hb8 hk7.lt)
      | (go_at_call 27; refine (HRT.out _).mono ?_; rw [decide_eq_true hr]; rintro e w9 ⟨rfl, hb9⟩; have hk9 := hk8.below hb9 hk8.lt))
    have HF9 := hide hk9
    have h79 := ((((Below.refl w5.heap.size w5).drewN 1).trans hb7).trans (hb8.mono hb7.size)).trans (hb9.mono (Nat.le_trans hb7.size hb8.size))
    have HB49 : Hid (Below w5.heap.size w5 w9) := h79
    have HB9 := hide (HB4.out.trans (h79.mono hz4))
    have hz9 := HB9.out.size
    clear hb7 hb8 hb9 hk7 hk8 hk9 h79
    go_wp2_with fail
    refine (awake07 _).mono ?_
    rintro e w11 ⟨rfl, hb⟩
    go_wp2_with fail
    go_ret
    exact ⟨rfl, HB9.out.trans (hb.mono hz9)⟩

end Go.Proofs.YtbnppocaeflghaaDoor
