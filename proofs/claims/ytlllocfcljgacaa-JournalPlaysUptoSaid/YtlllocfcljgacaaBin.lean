/- slices.BinarySearch of ints; Safe; Crash. -/
import Derived.Test.YtlllocfcljgacaaLaw18c
namespace Go.Proofs.Ytlllocfcljgacaa
open Go.RowKit
set_option linter.unusedVariables false
set_option linter.unusedSimpArgs false

theorem nan_a (w : World) (x : Int) : Calls Try.prog 39 #[.int .i64 x] w fun e w' => e = .returned (.bool false) ∧ w = w' := by
  go_enter Try.func39, Try.ntmps39
  go_wp2_with fail
  go_ret
  exact ⟨rfl, rfl⟩
theorem nan_b (w : World) (x : Int) : Calls Try.prog 40 #[.int .i64 x] w fun e w' => e = .returned (.bool false) ∧ w = w' := by
  go_enter Try.func40, Try.ntmps40
  go_wp2_with fail
  go_ret
  exact ⟨rfl, rfl⟩
theorem less_any (w : World) (x y : Int) : Calls Try.prog 38 #[.int .i64 x, .int .i64 y] w fun e w' => e = .returned (.bool (decide (x < y))) ∧ w = w' := by
  go_enter Try.func38, Try.ntmps38
  go_wp2_with fail
  refine (nan_b _ x).mono ?_
  rintro e w1 ⟨rfl, rfl⟩
  go_wp2_with fail
  go_ret
  exact ⟨rfl, rfl⟩

set_option maxHeartbeats 4000000 in
theorem bins_any (v : Value) (E : List Int) (n B s : Nat) (x : Int) (w : World) (hs : Sl w B v 1 n (nums E)) (hE : E.length = n) (hsn : s ≤ n) (hn : n ≤ 1073741824)
    (hlo : ∀ i (hi : i < E.length), i < s → E[i] < x) (hhi : ∀ i (hi : i < E.length), s ≤ i → x ≤ E[i]) :
    Calls Try.prog 33 #[v, .int .i64 x] w fun e w' => e = .returned (.tuple #[.int .i64 s, .bool (decide (E[s]? = some x))]) ∧ w' = w := by
  obtain ⟨A, c, rfl, hc⟩ := hs.form
  obtain ⟨bb, hbb⟩ : ∃ bb, bb = decide (E[s]? = some x) := ⟨_, rfl⟩
  rw [← hbb]
  have HBB := hide hbb
  clear hbb
  have HS := hide hs
  have HE := hide hE
  have HLO := hide hlo
  have HHI := hide hhi
  clear hs hE hlo hhi
  go_enter Try.func33, Try.ntmps33
  go_wp2_with fail
  go_loopw [7, 8] (fun i j wr => ∃ a b : Nat, i = .int .i64 a ∧ j = .int .i64 b ∧ a ≤ s ∧ s ≤ b ∧ b ≤ n ∧ wr = w) (fun i j _ => (intOf j).toNat - (intOf i).toNat)
  case atStart => exact ⟨0, n, rfl, rfl, Nat.zero_le _, hsn, Nat.le_refl _, rfl⟩
  case round =>
    obtain ⟨a, b, rfl, rfl, ha, hb, hbn, rfl⟩ := hrel
    by_cases hab : a < b
    · obtain ⟨m, hm⟩ : ∃ m, m = (a + b) / 2 := ⟨_, rfl⟩
      have hmid : ((a : Int) + b) / 2 = (m : Int) := by omega
      have hmb : a ≤ m ∧ m < b := by omega
      obtain ⟨ad, rfl, hbl, h0⟩ := num_at HS.out (show m < n by omega) HE.out
      have h1 := HLO.out m (by rw [HE.out]; omega)
      have h2 := HHI.out m (by rw [HE.out]; omega)
      generalize E[m]'(by rw [HE.out]; omega) = y at h0 h1 h2
      have HM := hide hm
      clear hm
      go_wp2_with fail
      refine (less_any _ y x).mono ?_
      rintro e w1 ⟨rfl, rfl⟩
      by_cases hyx : y < x
      · have hms : m < s := by
          by_cases h9 : m < s
          · exact h9
          · have := h2 (by omega)
            omega
        rw [decide_eq_true hyx]
        go_wp2_with fail
        go_roundw
        case rel => exact ⟨m + 1, b, by simp, rfl, by omega, hb, hbn, trivial⟩
        case measure => simp [intOf]; omega
      · have hms : s ≤ m := by
          by_cases h9 : m < s
          · have := h1 h9
            omega
          · omega
        rw [decide_eq_false hyx]
        go_wp2_with fail
        go_roundw
        case rel => exact ⟨a, m, rfl, rfl, ha, hms, by omega, trivial⟩
        case measure => simp [intOf]; omega
    · obtain rfl : a = s := by omega
      by_cases han : a < n
      · obtain ⟨ad, rfl, hbl, h0⟩ := num_at HS.out han HE.out
        have hget : E[a]? = some (E[a]'(by rw [HE.out]; omega)) := List.getElem?_eq_getElem _
        generalize E[a]'(by rw [HE.out]; omega) = y at h0 hget
        have HBC : Hid (bb = decide (y = x)) := by rw [Hid, HBB.out, hget]; simp
        clear hget
        by_cases hyx : y = x
        · have hb2 : bb = true := by rw [HBC.out]; exact decide_eq_true hyx
          subst hyx hb2
          go_wp2_with fail
          go_ret2
          exact ⟨rfl, rfl⟩
        · have h3 : (y == x) = false := by simpa using hyx
          have hb2 : bb = false := by rw [HBC.out]; exact decide_eq_false hyx
          subst hb2
          go_wp2_with fail
          refine (nan_a _ y).mono ?_
          rintro e w1 ⟨rfl, rfl⟩
          go_wp2_with fail
          go_ret2
          exact ⟨rfl, rfl⟩
      · have hb2 : bb = false := by rw [HBB.out, List.getElem?_eq_none (by rw [HE.out]; omega)]; rfl
        subst hb2
        go_wp2_with fail
        go_ret2
        exact ⟨rfl, rfl⟩

theorem framesL_lt (L : List (List Int)) (i j : Nat) (h : i < j) (hj : j ≤ L.length) : (framesL (L.take i)).length + 5 ≤ (framesL (L.take j)).length := by
  have h1 : L.take (i + 1) = L.take i ++ [L[i]] := List.take_succ_eq_append_getElem (by omega)
  have h2 : (framesL (L.take (i + 1))).length ≤ (framesL (L.take j)).length := by
    have h9 := framesL_take (L.take j) (i + 1)
    rwa [List.take_take, Nat.min_eq_left (by omega)] at h9
  rw [h1, framesL_app, framesL_one, List.length_append] at h2
  have := frame_pos L[i]
  omega
theorem framesL_mono (L : List (List Int)) (i j : Nat) (h : i ≤ j) : (framesL (L.take i)).length ≤ (framesL (L.take j)).length := by
  have h9 := framesL_take (L.take j) i
  rwa [List.take_take, Nat.min_eq_left (by omega)] at h9

set_option maxHeartbeats 4000000 in
theorem tp_safe (w : World) (base b s : Nat) (c : Int) (L : List (List Int)) (h : TP w base b c L (framesL (L.take s)).length) (hs : s ≤ L.length) (hX : (framesL L).length ≤ 1073741824) :
    Calls Try.prog 19 #[.pointer (some ⟨b, 0, none⟩)] w fun e w' => e = .returned (.int .i64 s) ∧ ∃ j, w' = w.drewN j := by
  obtain ⟨bv, ev, h, hbb⟩ := h
  obtain ⟨E, ec, rfl, hec⟩ := h.2.2.sl.form
  obtain ⟨c0, c1, c2, c3, f1, f2, f3, hlt⟩ := h.open
  have hge := framesL_ge L
  have hle := framesL_take L s
  have hsl := h.2.2.sl
  rw [endsL_len] at hsl c2 hec
  have HSL := hide hsl
  clear h hsl
  have HLO : Hid (∀ i (hi : i < (endsL 0 L).length), i < s → (endsL 0 L)[i] < ((framesL (L.take s)).length : Int) + 1) := by
    intro i hi his
    rw [endsL_len] at hi
    rw [endsL_get L 0 i hi]
    have := framesL_mono L (i + 1) s (by omega)
    omega
  have HHI : Hid (∀ i (hi : i < (endsL 0 L).length), s ≤ i → ((framesL (L.take s)).length : Int) + 1 ≤ (endsL 0 L)[i]) := by
    intro i hi his
    rw [endsL_len] at hi
    rw [endsL_get L 0 i hi]
    have := framesL_lt L s (i + 1) (by omega) (by omega)
    omega
  obtain ⟨f, hf⟩ : ∃ f, f = (framesL (L.take s)).length := ⟨_, rfl⟩
  rw [← hf] at c3 hle HLO HHI
  have i1 : IntKind.i64.wrap ((f : Int) + 1) = (f : Int) + 1 := IntWalk.i64_in _ (by omega)
  clear hf
  go_enter Try.func19, Try.ntmps19
  go_wp2_with fail
  go_quiet ((go_at_call 33; refine Calls.quiet_of_same (bins_any _ (endsL 0 L) L.length _ s _ _ (HSL.out.drewN _) (endsL_len _ _) hs (by omega) HLO.out HHI.out)))
  go_wp2_with fail
  go_ret
  exact ⟨rfl, _, rfl⟩

set_option maxHeartbeats 4000000 in
theorem crash_any (w : World) (base b n : Nat) (bv ev : Value) (c sf keep : Int) (L : List (List Int)) (h : JR w base b bv ev c (framesL L) (endsL 0 L) sf) (h8 : ∀ r ∈ L, Bytes8 r) (hX : (framesL L).length ≤ 1073741824) (hsf : 0 ≤ sf ∧ sf ≤ (framesL L).length)
    (hn : (n : Int) = sf + min (max keep 0) ((framesL L).length - sf)) (hbase : base ≤ w.heap.size) :
    Calls Try.prog 22 #[.pointer (some ⟨b, 0, none⟩), .int .i64 keep] w fun e w' => e = .returned (.int .i64 ((n : Int) - (framesL (scanB ((framesL L).take n))).length)) ∧
      ∃ bv' ev', JR w' base b bv' ev' c (framesL (scanB ((framesL L).take n))) (endsL 0 (scanB ((framesL L).take n))) (framesL (scanB ((framesL L).take n))).length ∧ Fr (fun k => k = b) w w' ∧ bv'.ownBlock = bv.ownBlock := by
  obtain ⟨A, bc, rfl, hbc⟩ := h.2.1.sl.form
  obtain ⟨c0, c1, c2, c3, f1, f2, f3, hlt⟩ := h.open
  have H := hide h
  have H8 := hide (framesL_bytes8 h8)
  obtain ⟨m, hm⟩ : ∃ m, m = (framesL L).length := ⟨_, rfl⟩
  rw [← hm] at c1 hbc hX hsf hn
  have HM := hide hm
  clear h h8 hm
  obtain ⟨k0, hk0⟩ : ∃ k0 : Int, max keep 0 = k0 := ⟨_, rfl⟩
  obtain ⟨k1, hk1⟩ : ∃ k1 : Int, min k0 ((m : Int) - sf) = k1 := ⟨_, rfl⟩
  have hnm : n ≤ m ∧ (n : Int) = sf + k1 := by
    rw [hk0, hk1] at hn
    omega
  have i1 : IntKind.i64.wrap ((m : Int) - sf) = (m : Int) - sf := IntWalk.i64_in _ (by omega)
  have i2 : IntKind.i64.wrap (sf + k1) = (n : Int) := by rw [← hnm.2]; exact IntWalk.i64_in _ (by omega)
  clear hn
  go_enter Try.func22, Try.ntmps22
  go_wp2_with fail
  go_quiet (fail)
  have hv : (sf + if (m : Int) - sf < if keep < 0 then 0 else keep then (m : Int) - sf else if keep < 0 then 0 else keep) = (n : Int) := by
    rw [hnm.2, ← hk1, ← hk0]
    split <;> split <;> omega
  rw [hv]
  clear hv
  have hnm1 := hnm.1
  generalize (if (m : Int) - sf < if keep < 0 then 0 else keep then (m : Int) - sf else if keep < 0 then 0 else keep) = z2
  generalize (if keep < 0 then 0 else keep) = z1
  clear i1 i2 hnm hk0 hk1 c0 c3
  go_wp2_with fail
  have hB1 : Blk ((w.drewN nq).setCell ⟨b, 1, none⟩ (.slice A n n)) b jT #[.int .i64 c, .slice A n n, ev, .int .i64 sf] := (H.out.1.drewN nq).put 1 (.slice A n n)
  have hO0 : Own (w.drewN nq) base bT 1 (.slice A n n) n (bys ((framesL L).take n)) := by
    have h9 := H.out.2.1
    rw [← HM.out] at h9
    have h10 := (h9.drewN nq).cut (k := n) (d := n) hnm1 (Nat.le_refl _) (by omega)
    rw [Nat.mul_one, bys_map, ← List.map_take, ← bys_map] at h10
    exact h10
  have hXl : ((framesL L).take n).length = n := by rw [List.length_take, ← HM.out]; omega
  have HJ1 : Hid (JR ((w.drewN nq).setCell ⟨b, 1, none⟩ (.slice A n n)) base b (.slice A n n) ev c ((framesL L).take n) (endsL 0 L) sf) := by
    refine ⟨hB1, ?_, (H.out.2.2.drewN nq).put (H.out.2.2.ne H.out.1 (by decide)) _⟩
    rw [hXl]
    exact hO0.put (hO0.ne (H.out.1.drewN nq) (by decide)) _
  have HB1 : Hid (Fr (fun k => k = b) w ((w.drewN nq).setCell ⟨b, 1, none⟩ (.slice A n n))) := ((Fr.refl _ w).drewN nq).put1 1 _
  clear hB1 hO0 c1 c2 f1 f2 f3
  refine (scan_any _ base b _ _ _ _ _ _ HJ1.out (fun x hx => H8.out x (List.mem_of_mem_take hx)) (by rw [hXl]; omega) (by simp; omega)).mono ?_
  rintro e w4 ⟨bv4, ev4, rfl, hj, hf, hob⟩
  have HOB : Hid (bv4.ownBlock = (Value.slice A m bc).ownBlock) := hide (hob.trans (by cases A <;> rfl))
  clear hob
  have HJ4 := hide hj
  have HB4 := hide (HB1.out.trans hf (fun _ _ h => h))
  clear hj hf
  obtain ⟨d0, d1, d2, d3, g1, g2, g3, hlt4⟩ := HJ4.out.open
  obtain ⟨bA, bc4, rfl, hbc4⟩ := HJ4.out.2.1.sl.form
  have hfn : (framesL (scanB ((framesL L).take n))).length ≤ n := by
    have h9 := congrArg List.length (scan_spec _ (fun x hx => H8.out x (List.mem_of_mem_take hx) : Bytes8 ((framesL L).take n))).2.1
    rw [List.length_append, hXl] at h9
    omega
  obtain ⟨f, hf⟩ : ∃ f, f = (framesL (scanB ((framesL L).take n))).length := ⟨_, rfl⟩
  have HNX := hide hf
  rw [← hf] at d1 hbc4 hfn
  clear hf
  have HT5 : Hid (JR (w4.setCell ⟨b, 3, none⟩ (.int .i64 f)) base b _ _ c (framesL (scanB ((framesL L).take n))) (endsL 0 (scanB ((framesL L).take n))) f) :=
    ⟨HJ4.out.1.put 3 (.int .i64 f), HJ4.out.2.1.put (HJ4.out.2.1.ne HJ4.out.1 (by decide)) _, HJ4.out.2.2.put (HJ4.out.2.2.ne HJ4.out.1 (by decide)) _⟩
  have HB5 : Hid (Fr (fun k => k = b) w (w4.setCell ⟨b, 3, none⟩ (.int .i64 f))) := HB4.out.put1 3 _
  have d1' : (w4.setCell ⟨b, 3, none⟩ (.int .i64 f)).cell? ⟨b, 1, none⟩ = some (.slice bA f bc4) := (HJ4.out.1.put 3 (.int .i64 f)).cell 1 |>.trans (by rw [HNX.out]; rfl)
  go_wp2_with fail
  go_ret
  rw [← HNX.out]
  exact ⟨rfl, _, _, HT5.out, HB5.out, HOB.out.trans (by cases A <;> rfl)⟩

theorem tp_crash (w : World) (base b n : Nat) (c sf keep : Int) (L : List (List Int)) (h : TP w base b c L sf) (h8 : ∀ r ∈ L, Bytes8 r) (hX : (framesL L).length ≤ 1073741824) (hsf : 0 ≤ sf ∧ sf ≤ (framesL L).length)
    (hn : (n : Int) = sf + min (max keep 0) ((framesL L).length - sf)) (hbase : base ≤ w.heap.size) :
    Calls Try.prog 22 #[.pointer (some ⟨b, 0, none⟩), .int .i64 keep] w fun e w' => e = .returned (.int .i64 ((n : Int) - (framesL (scanB ((framesL L).take n))).length)) ∧
      TP w' base b c (scanB ((framesL L).take n)) (framesL (scanB ((framesL L).take n))).length ∧ Fr (fun k => k = b) w w' := by
  obtain ⟨bv, ev, h, hbb⟩ := h
  refine (crash_any w base b n bv ev c sf keep L h h8 hX hsf hn hbase).mono ?_
  rintro e w' ⟨rfl, bv', ev', hj, hf, _⟩
  exact ⟨rfl, ⟨bv', ev', hj, hbb⟩, hf⟩

end Go.Proofs.Ytlllocfcljgacaa
