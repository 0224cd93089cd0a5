/- WindowTexts: the walk. -/
import Derived.Test.YtbnppocaeflghaaDoorText
import Derived.Test.YtbnppocaeflghaaDoorAwk07
namespace Go.Proofs.YtbnppocaeflghaaDoor
open Go.RowKit Go.Sort
set_option linter.unusedVariables false
set_option linter.unusedSimpArgs false

theorem digits_any (n : Int) (s : ByteArray) (hs : s.data.toList = Lib.itoa n) (h0 : -9223372036854775808 ≤ n) (h1 : n ≤ 9223372036854775807) (w : World) :
    Calls Tryd.prog 32 #[.string s, .int .i64 n] w fun e w' => e = .returned (.bool true) ∧ w' = w := by
  by_cases hn : n < 0
  · exact digits_neg n s hs h0 h1 hn w
  · exact digits_nn n s hs h0 h1 hn w
theorem strW_list (f t : Int) : (strW f t).data.toList = textW f t := rfl
theorem strW_size (f t : Int) : (strW f t).size = (Lib.itoa f).length + 2 + (Lib.itoa t).length := by
  rw [size_list, strW_list]
  exact (textW_at f t).2.2.2

set_option maxRecDepth 100000 in
set_option maxHeartbeats 8000000 in
theorem texts_any (f t c d : Int) (hf0 : -9223372036854775808 ≤ f) (hf1 : f ≤ 9223372036854775807) (ht0 : -9223372036854775808 ≤ t) (ht1 : t ≤ 9223372036854775807)
    (hc0 : -9223372036854775808 ≤ c) (hc1 : c ≤ 9223372036854775807) (hd0 : -9223372036854775808 ≤ d) (hd1 : d ≤ 9223372036854775807) (w : World) (ht : Tab10 w) :
    Calls Tryd.prog 6 #[.agg #[.int .i64 f, .int .i64 t], .agg #[.int .i64 c, .int .i64 d]] w fun e w' => e = .returned (.bool true) ∧ Below w.heap.size w w' := by
  have HT := hide ht
  obtain ⟨s, hs⟩ : ∃ s, s = strW f t := ⟨_, rfl⟩
  obtain ⟨L, hL⟩ : ∃ L, L = (Lib.itoa f).length := ⟨_, rfl⟩
  obtain ⟨M, hM⟩ : ∃ M, M = (Lib.itoa t).length := ⟨_, rfl⟩
  have hL20 : L ≤ 21 := by rw [hL]; exact itoa_len f hf0 hf1
  have hM20 : M ≤ 21 := by rw [hM]; exact itoa_len t ht0 ht1
  have hMp : 0 < M := by rw [hM]; exact itoa_pos t
  have hsz : s.size = L + 2 + M := by rw [hs, strW_size, hL, hM]
  have zs : (s.size : Int) = (L : Int) + 2 + (M : Int) := by omega
  have HG : Hid (∀ p, p < s.size → ∃ q : p < s.size, ∃ b, (textW f t)[p]? = some b ∧ s[p]'q = b) := by
    intro p hp
    refine ⟨hp, _, ?_, rfl⟩
    rw [← strW_list, ← hs]
    rw [List.getElem?_eq_getElem (by rw [← size_list]; exact hp)]
    rfl
  have HX1 : Hid (∀ W : World, Tab10 W → Calls Tryd.prog 31 #[.agg #[.int .i64 f, .int .i64 t]] W fun e w' => e = .returned (.string s) ∧ Below W.heap.size W w') := fun W hW => by rw [hs]; exact text_any f t hf0 hf1 ht0 ht1 W hW
  obtain ⟨s2, hs2⟩ : ∃ s2, s2 = strW c d := ⟨_, rfl⟩
  have HX2 : Hid (∀ W : World, Tab10 W → Calls Tryd.prog 31 #[.agg #[.int .i64 c, .int .i64 d]] W fun e w' => e = .returned (.string s2) ∧ Below W.heap.size W w') := fun W hW => by rw [hs2]; exact text_any c d hc0 hc1 hd0 hd1 W hW
  have HD1 : Hid (∀ W : World, Calls Tryd.prog 32 #[.string (s.extract 0 L), .int .i64 f] W fun e w' => e = .returned (.bool true) ∧ w' = W) := fun W =>
    digits_any f _ (by rw [Lib.extract_data, hs, strW_list, List.drop_zero, Nat.sub_zero, hL, textW_take]) hf0 hf1 W
  have HD2 : Hid (∀ W : World, Calls Tryd.prog 32 #[.string (s.extract (L + 2) s.size), .int .i64 t] W fun e w' => e = .returned (.bool true) ∧ w' = W) := fun W =>
    digits_any t _ (by rw [Lib.extract_to_end, hs, strW_list, hL, textW_drop]) ht0 ht1 W
  have HE : Hid ((s2.toList == s.toList) = decide (c = f ∧ d = t)) := by
    show _ = _
    rw [Bool.eq_iff_iff, beq_iff_eq, decide_eq_true_iff, Lib.toList_data, Lib.toList_data, hs, hs2, strW_list, strW_list]
    constructor
    · exact textW_inj
    · rintro ⟨rfl, rfl⟩; rfl
  have HA := hide (textW_at f t)
  rw [← hL] at HA
  clear ht hs hs2 hL hM hsz hf0 hf1 ht0 ht1 hc0 hc1 hd0 hd1
  go_enter Tryd.func6, Tryd.ntmps6
  go_wp2_with fail
  have HP : Hid (Blk ((w.alloc (.cells #[.int .i64 f, .int .i64 t] wT)).alloc (.cells #[.int .i64 c, .int .i64 d] wT)) w.heap.size wT #[.int .i64 f, .int .i64 t]) := (Blk.new w _ _).alloc _
  have HQ : Hid (Blk ((w.alloc (.cells #[.int .i64 f, .int .i64 t] wT)).alloc (.cells #[.int .i64 c, .int .i64 d] wT)) (w.heap.size + 1) wT #[.int .i64 c, .int .i64 d]) := by
    have h9 := Blk.new (w.alloc (.cells #[.int .i64 f, .int .i64 t] wT)) wT #[.int .i64 c, .int .i64 d]
    simpa [Hid] using h9
  have HB1 : Hid (Below w.heap.size w ((w.alloc (.cells #[.int .i64 f, .int .i64 t] wT)).alloc (.cells #[.int .i64 c, .int .i64 d] wT))) := ((Below.refl w.heap.size w).alloc (Nat.le_refl _) _).alloc (by simp) _
  refine (HX1.out _ (HT.out.below HB1.out)).mono ?_
  generalize (w.alloc (.cells #[.int .i64 f, .int .i64 t] wT)).alloc (.cells #[.int .i64 c, .int .i64 d] wT) = w1 at *
  rintro e w2 ⟨rfl, hb⟩
  have HB2 := hide (HB1.out.trans (hb.mono HB1.out.size))
  have HP2 := hide (HP.out.below hb HP.out.lt)
  have HQ2 := hide (HQ.out.below hb HQ.out.lt)
  clear hb HP HQ HB1
  go_wp2_with fail
  go_loopw [6, 7] (fun o i wr => ∃ (k : Nat) (dd : Int), k < s.size ∧ i = .int .i64 k ∧ o = .int .i64 dd ∧ Hid (dd = if k ≤ L then -1 else (L : Int)) ∧ wr = w2) (fun _ i _ => s.size - (intOf i).toNat)
  case atStart => exact ⟨0, -1, by omega, rfl, rfl, by show _ = _; rw [if_pos (Nat.zero_le _)], rfl⟩
  case round =>
    obtain ⟨k, dd, hk, rfl, rfl, HDD, rfl⟩ := hrel
    by_cases hlt : k + 1 < s.size
    · obtain ⟨q1, b1, g1, e1⟩ := HG.out k hk
      obtain ⟨q2, b2, g2, e2⟩ := HG.out (k + 1) hlt
      by_cases hkL : k ≤ L
      · have hdd : dd = -1 := by have h9 := HDD.out; rw [if_pos hkL] at h9; exact h9
        subst hdd
        by_cases hkL2 : k < L
        · have f1 : (((s[k]'q1).toNat : Int) == 46) = false := by
            obtain ⟨b, h8, h9⟩ := HA.out.1 k hkL2
            rw [g1] at h8
            cases h8
            rw [e1]; simp; omega
          clear g1 e1 g2 e2
          go_wp2_with fail
          go_roundw
          case rel => exact ⟨k + 1, -1, by omega, by simp, rfl, by show _ = _; rw [if_pos (by omega)], trivial⟩
          case measure => simp [intOf]; omega
        · obtain rfl : k = L := by omega
          have f1 : ((s[k]'q1).toNat : Int) = 46 := by
            have h8 := HA.out.2.1
            rw [g1] at h8
            cases h8
            rw [e1]; rfl
          have f2 : ((s[k + 1]'q2).toNat : Int) = 46 := by
            have h8 := HA.out.2.2.1
            rw [g2] at h8
            cases h8
            rw [e2]; rfl
          clear g1 e1 g2 e2
          go_wp2_with fail
          go_roundw
          case rel => exact ⟨k + 1, k, by omega, by simp, rfl, by show _ = _; rw [if_neg (by omega)], trivial⟩
          case measure => simp [intOf]; omega
      · have hdd : dd = (L : Int) := by have h9 := HDD.out; rw [if_neg hkL] at h9; exact h9
        subst hdd
        clear g1 e1 g2 e2
        have hc1 : (((s[k]'q1).toNat : Int) == 46) = true ∨ (((s[k]'q1).toNat : Int) == 46) = false := by cases (((s[k]'q1).toNat : Int) == 46) <;> simp
        have hc2 : (((s[k + 1]'q2).toNat : Int) == 46) = true ∨ (((s[k + 1]'q2).toNat : Int) == 46) = false := by cases (((s[k + 1]'q2).toNat : Int) == 46) <;> simp
        rcases hc1 with f1 | f1
        · have f1' : ((s[k]'q1).toNat : Int) = 46 := by simpa using f1
          rcases hc2 with f2 | f2
          · have f2' : ((s[k + 1]'q2).toNat : Int) = 46 := by simpa using f2
            clear f1 f2
            go_wp2_with fail
            go_roundw
            case rel => exact ⟨k + 1, L, by omega, by simp, rfl, by show _ = _; rw [if_neg (by omega)], trivial⟩
            case measure => simp [intOf]; omega
          · clear f1
            go_wp2_with fail
            go_roundw
            case rel => exact ⟨k + 1, L, by omega, by simp, rfl, by show _ = _; rw [if_neg (by omega)], trivial⟩
            case measure => simp [intOf]; omega
        · go_wp2_with fail
          go_roundw
          case rel => exact ⟨k + 1, L, by omega, by simp, rfl, by show _ = _; rw [if_neg (by omega)], trivial⟩
          case measure => simp [intOf]; omega
    · have hdd : dd = (L : Int) := by have h9 := HDD.out; rw [if_neg (by omega)] at h9; exact h9
      subst hdd
      clear HDD HG HA
      have hx : ¬ ((k : Int) + 1 < (L : Int) + 2 + (M : Int)) := by omega
      have hk2 : (k : Int) < 100 := by omega
      have y0 := Aft.cell (x := ⟨w.heap.size, 0, none⟩) (v := .int .i64 f) (HP2.out.cell 0) HP2.out.lt
      have y1 := Aft.cell (x := ⟨w.heap.size, 1, none⟩) (v := .int .i64 t) (HP2.out.cell 1) HP2.out.lt
      have n0 : decide ((L : Int) < 0) = false := decide_eq_false (by omega)
      have n1 : (0 : Int) ≤ (L : Int) := by omega
      have n2 : (L : Int) ≤ (s.size : Int) := by omega
      have n3 : (0 : Int) ≤ (L : Int) + 2 := by omega
      have n4 : (L : Int) + 2 ≤ (s.size : Int) := by omega
      have n5 : ((L : Int) + 2).toNat = L + 2 := by omega
      go_wp2_with fail
      refine wp_region_aft (by kernel_rfl) (by kernel_rfl) ?_
      repeat (go_big_quiet_step (first
        | (go_at_call 32; with_reducible exact calls_aft_same (HD1.out _))
        | (go_at_call 32; with_reducible exact calls_aft_same (HD2.out _))))
      refine wpQuiet_nil ?_
      intro w9 hb9
      have HP9 := hide (HP2.out.below hb9 HP2.out.lt)
      have HQ9 := hide (HQ2.out.below hb9 HQ2.out.lt)
      have HB9 := hide (HB2.out.trans (hb9.mono HB2.out.size))
      clear hb9 y0 y1 n0 n1 n2 n3 n4 n5 HD1 HD2 HP2 HQ2 HB2
      have y0 := Aft.cell (x := ⟨w.heap.size, 0, none⟩) (v := .int .i64 f) (HP9.out.cell 0) HP9.out.lt
      have y1 := Aft.cell (x := ⟨w.heap.size, 1, none⟩) (v := .int .i64 t) (HP9.out.cell 1) HP9.out.lt
      have y2 := Aft.cell (x := ⟨w.heap.size + 1, 0, none⟩) (v := .int .i64 c) (HQ9.out.cell 0) HQ9.out.lt
      have y3 := Aft.cell (x := ⟨w.heap.size + 1, 1, none⟩) (v := .int .i64 d) (HQ9.out.cell 1) HQ9.out.lt
      have hcase : (c = f ∧ d = t) ∨ (c = f ∧ d ≠ t) ∨ c ≠ f := by omega
      rcases hcase with ⟨rfl, rfl⟩ | ⟨rfl, h2⟩ | h2
      · have he : (s2.toList == s.toList) = true := by rw [HE.out]; exact decide_eq_true ⟨rfl, rfl⟩
        have e3 : (c == c) = true := by simp
        have e4 : (d == d) = true := by simp
        go_wp2_with fail
        refine wp_region_aft (by kernel_rfl) (by kernel_rfl) ?_
        repeat (go_big_quiet_step (first
          | (go_at_call 31; with_reducible exact calls_aft (HX2.out _ (HT.out.below (HB9.out.trans ((Aft.h _).mono HB9.out.size)))))
          | (go_at_call 13; with_reducible exact calls_aft (awake07 _))))
        refine wpQuiet_nil ?_
        intro w10 hb10
        have HB10 := hide (HB9.out.trans (hb10.mono HB9.out.size))
        clear hb10
        go_wp2_with fail
        go_ret
        exact ⟨rfl, HB10.out⟩
      · have he : (s2.toList == s.toList) = false := by rw [HE.out]; exact decide_eq_false (fun h => h2 h.2)
        have e3 : (c == c) = true := by simp
        have e4 : (d == t) = false := by simp [h2]
        clear h2
        go_wp2_with fail
        refine wp_region_aft (by kernel_rfl) (by kernel_rfl) ?_
        repeat (go_big_quiet_step (first
          | (go_at_call 31; with_reducible exact calls_aft (HX2.out _ (HT.out.below (HB9.out.trans ((Aft.h _).mono HB9.out.size)))))
          | (go_at_call 13; with_reducible exact calls_aft (awake07 _))))
        refine wpQuiet_nil ?_
        intro w10 hb10
        have HB10 := hide (HB9.out.trans (hb10.mono HB9.out.size))
        clear hb10
        go_wp2_with fail
        go_ret
        exact ⟨rfl, HB10.out⟩
      · have he : (s2.toList == s.toList) = false := by rw [HE.out]; exact decide_eq_false (fun h => h2 h.1)
        have e3 : (c == f) = false := by simp [h2]
        clear h2
        go_wp2_with fail
        refine wp_region_aft (by kernel_rfl) (by kernel_rfl) ?_
        repeat (go_big_quiet_step (first
          | (go_at_call 31; with_reducible exact calls_aft (HX2.out _ (HT.out.below (HB9.out.trans ((Aft.h _).mono HB9.out.size)))))
          | (go_at_call 13; with_reducible exact calls_aft (awake07 _))))
        refine wpQuiet_nil ?_
        intro w10 hb10
        have HB10 := hide (HB9.out.trans (hb10.mono HB9.out.size))
        clear hb10
        go_wp2_with fail
        go_ret
        exact ⟨rfl, HB10.out⟩

end Go.Proofs.YtbnppocaeflghaaDoor
