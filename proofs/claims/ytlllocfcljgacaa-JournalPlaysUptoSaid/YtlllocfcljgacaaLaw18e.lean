/- JournalLoads: the walk. -/
import Derived.Test.YtlllocfcljgacaaRef18c
import Derived.Deep.RegionHeld3
namespace Go.Proofs.Ytlllocfcljgacaa
open Go.RowKit
set_option linter.unusedVariables false
set_option linter.unusedSimpArgs false

theorem TP.drewN {w : World} {base b : Nat} {c sf : Int} {L : List (List Int)} (h : TP w base b c L sf) (k : Nat) : TP (w.drewN k) base b c L sf := h
theorem Recs.drewN {w : World} {B : Nat} {v : Value} {R : List Rec} (h : Recs w B v R) (k : Nat) : Recs (w.drewN k) B v R := h
theorem TP.drew {w : World} {base b : Nat} {c sf : Int} {L : List (List Int)} (h : TP w base b c L sf) : TP w.drew base b c L sf := h

set_option maxRecDepth 100000 in
set_option maxHeartbeats 8000000 in
theorem loads_big (v : Value) (D : List Int) (cap : Int) (B : Nat) (w : World) (hs : Sl w B v 1 D.length (bys D)) (h : 262144 < D.length) :
    Calls Try.prog 5 #[.int .i64 cap, v] w fun e w' => e = .returned (.bool true) ∧ Below w.heap.size w w' := by
  obtain ⟨A, c, rfl, hc⟩ := hs.form
  clear hs
  go_enter Try.func5, Try.ntmps5
  go_wp2_with fail
  refine (awake18 _).mono ?_
  rintro e w2 ⟨rfl, hb⟩
  go_wp2_with fail
  go_ret
  exact ⟨rfl, hb⟩

set_option maxRecDepth 100000 in
set_option maxHeartbeats 8000000 in
theorem loads_bad (v : Value) (D : List Int) (cap : Int) (B : Nat) (w : World) (hs : Sl w B v 1 D.length (bys D)) (h : D.length ≤ 262144) (hbad : cap < 0 ∨ 1073741824 < cap ∨ cap < D.length) :
    Calls Try.prog 5 #[.int .i64 cap, v] w fun e w' => e = .returned (.bool true) ∧ Below w.heap.size w w' := by
  obtain ⟨A, c, rfl, hc⟩ := hs.form
  have HS := hide hs
  clear hs
  have hcases : cap < 0 ∨ (¬ cap < 0 ∧ 1073741824 < cap) ∨ (¬ cap < 0 ∧ ¬ 1073741824 < cap ∧ cap < D.length) := by omega
  have HBad := hide hbad
  clear hbad
  go_enter Try.func5, Try.ntmps5
  go_wp2_with fail
  refine (copy8_any _ D D.length B w HS.out rfl (by omega)).mono ?_
  rintro e w2 ⟨u, rfl, ho, hb⟩
  obtain ⟨uA, uc, rfl, huc⟩ := ho.sl.form
  have HO := hide ho
  have HB2 := hide hb
  clear ho hb
  go_wp2_with fail
  refine (load_bad w2 cap _ D _ HO.out.sl HBad.out).mono ?_
  rintro e w3 ⟨rfl, hb⟩
  have HB3 := hide (HB2.out.trans (hb.mono HB2.out.size))
  clear hb
  rcases hcases with h1 | ⟨h1, h2⟩ | ⟨h1, h2, h3⟩
  all_goals
    go_wp2_with fail
    refine (awake18 _).mono ?_
    rintro e w4 ⟨rfl, hb⟩
    go_wp2_with fail
    go_ret
    exact ⟨rfl, HB3.out.trans (hb.mono HB3.out.size)⟩

set_option maxRecDepth 100000 in
set_option maxHeartbeats 16000000 in
theorem loads_ok (v : Value) (D : List Int) (cap : Int) (B : Nat) (w : World) (hs : Sl w B v 1 D.length (bys D)) (h8 : Bytes8 D) (hB : B ≤ w.heap.size) (h : D.length ≤ 262144) (h1 : 0 ≤ cap) (h2 : cap ≤ 1073741824) (h3 : D.length ≤ cap) :
    Calls Try.prog 5 #[.int .i64 cap, v] w fun e w' => e = .returned (.bool true) ∧ Below w.heap.size w w' := by
  obtain ⟨A, c, rfl, hc⟩ := hs.form
  obtain ⟨n, hn⟩ : ∃ n, n = D.length := ⟨_, rfl⟩
  have HN := hide hn
  rw [← hn] at hc hs h h3
  rw [← hn]
  clear hn
  have HS := hide hs
  have H8 := hide h8
  clear hs h8
  have hsp := scan_spec D H8.out
  have hfl : (framesL (scanB D)).length ≤ n := by
    have h9 := congrArg List.length hsp.2.1
    rw [List.length_append, ← HN.out] at h9
    omega
  obtain ⟨L, hL⟩ : ∃ L, L = scanB D := ⟨_, rfl⟩
  rw [← hL] at hsp hfl
  have HFit := hide hsp.1
  have HX : Hid (D.take (framesL L).length = framesL L) := by
    have h9 := congrArg (List.take (framesL L).length) hsp.2.1
    rw [List.take_left] at h9
    exact h9.symm
  have H8L : Hid (∀ r ∈ L, Bytes8 r) := by
    intro r hr x hx
    have h9 : x ∈ framesL L := List.mem_flatMap.2 ⟨r, hr, by rw [frameB]; exact List.mem_append_right _ hx⟩
    rw [← HX.out] at h9
    exact H8.out x (List.mem_of_mem_take h9)
  have HLL := hide hL
  obtain ⟨f, hf⟩ : ∃ f, f = (framesL L).length := ⟨_, rfl⟩
  rw [← hf] at hfl HX
  have HFF := hide hf
  clear hsp hL hf
  go_enter Try.func5, Try.ntmps5
  go_wp2_with fail
  refine (copy8_any _ D n B w HS.out HN.out.symm (by omega)).mono ?_
  rintro e w2 ⟨u, rfl, ho, hb⟩
  obtain ⟨uA, uc, rfl, huc⟩ := ho.sl.form
  have HO := hide ho.sl
  rw [HN.out] at HO
  have HB2 := hide hb
  have hz2 := hb.size
  clear ho hb
  go_wp2_with fail
  rw [HN.out]
  refine (load_ok w2 cap _ D _ HO.out H8.out h1 h2 (by rw [← HN.out]; exact h3) (Nat.le_refl _)).mono ?_
  rw [← HN.out, ← HLL.out, ← HFF.out]
  rintro e w3 ⟨g, rfl, hk, hb⟩
  have HK3 := hide hk
  have HB3 := hide (HB2.out.trans (hb.mono hz2))
  have hz3 := hb.size
  have HS3 := hide (HS.out.below (HB3.out.mono hB))
  clear hk hb
  go_wp2_with fail
  refine (rscan_any _ D n B w3 HS3.out HN.out.symm H8.out (by omega) (by omega)).mono ?_
  rw [← HLL.out, ← HFF.out]
  rintro e w4 ⟨u4, Q4, rfl, ho, he, hb⟩
  have HO4 := hide ho.read
  have HE4 := hide he
  have hq4 : Q4.length = L.length := by
    have h9 := congrArg List.length he
    rw [List.length_map] at h9
    exact h9
  obtain ⟨xA, xc, rfl, hxc⟩ := ho.1.sl.form
  obtain ⟨ln, hln⟩ : ∃ ln, ln = L.length := ⟨_, rfl⟩
  rw [← hln] at hq4
  rw [hq4] at hxc ⊢
  rw [hq4] at HO4
  have HK4 := hide (HK3.out.below hb)
  have HB4 := hide (HB3.out.trans (hb.mono (by omega)))
  have hz4 := hb.size
  have HS4 := hide (HS3.out.below (hb.mono (by omega)))
  have HSE : Hid (Sl w4 B (.slice A f c) 1 f (bys (framesL L))) := by
    have h9 := HS4.out.take (k := f) hfl
    rw [Nat.mul_one, bys_map, ← List.map_take, HX.out, ← bys_map] at h9
    exact h9
  have HLN := hide hln
  have HQ4 := hide hq4
  clear ho he hb hln hq4
  go_wp2_with fail
  have HKS : Hid (TP w4 w2.heap.size g cap L (framesL (L.take ln)).length) := by
    rw [Hid, HLN.out, List.take_length, ← HFF.out]
    exact HK4.out
  have hd : IntKind.i64.wrap ((n : Int) - f) = (n : Int) - f := IntWalk.i64_in _ (by omega)
  have hd2 : (((n : Int) - f) == ((n : Int) - f)) = true := by simp
  have hd3 : ((ln : Int) == (ln : Int)) = true := by simp
  have hd4 : (0 : Int) ≤ (f : Int) := by omega
  have hd5 : (f : Int) ≤ n := by omega
  have hd6 : (f : Int) ≤ c := by omega
  have hd7 : f ≤ c := by omega
  have hBw4 : B ≤ w4.heap.size := by omega
  have HX8 := hide (framesL_bytes8 H8L.out)
  go_region_held3 (fun w' : World => True) (trivial) (first
    | (go_at_call 17; refine (tp_records _ _ g _ _ L (by first | exact HK4.out.drew | exact HK4.out.drewN _ | exact HK4.out) HFit.out H8L.out (by rw [← HFF.out]; omega)).mono ?_; rintro e w6 ⟨u6, Q6, rfl, ho6, he6, hb6⟩; obtain ⟨yA, yc, rfl, hyc⟩ := ho6.1.sl.form)
    | (go_at_call 16; refine (same18 _ _ Q6 Q4 w6.heap.size _ (by first | exact ho6.read | exact ho6.read) (((HO4.out.drewN 1).below hb6).mono hb6.size) (fun r hr => H8L.out _ (by rw [← he6]; exact List.mem_map_of_mem hr)) (fun r hr => H8L.out _ (by rw [← HE4.out]; exact List.mem_map_of_mem hr))).mono ?_; rintro e w7 ⟨rfl, j7, rfl⟩; rw [decide_eq_true (show Q6.map (·.2) = Q4.map (·.2) by rw [he6, HE4.out])])
    | (go_at_call 19; refine (tp_safe _ w2.heap.size g ln cap L ((HKS.out.drewN 1 |>.below hb6).drewN j7) (by rw [HLN.out]; exact Nat.le_refl _) (by rw [← HFF.out]; omega)).mono ?_; rintro e w8 ⟨rfl, j8, rfl⟩)
    | (go_at_call 12; refine (tp_bytes ((HK4.out.drewN 1 |>.below hb6).drewN _) (by rw [← HFF.out]; omega)).mono ?_; rintro e w9 ⟨u9, rfl, ho9, hb9⟩; rw [← HFF.out] at ho9; obtain ⟨zA, zc, rfl, hzc⟩ := ho9.sl.form)
    | (go_at_call 20; refine (bsame_any _ _ (framesL L) (framesL L) f f w9.heap.size w9 ho9.sl (((((HSE.out.drewN 1).below (hb6.mono hBw4)).drewN (j7 + j8)).below (hb9.mono (Nat.le_trans hBw4 hb6.size))).mono (Nat.le_trans (Nat.le_trans hBw4 hb6.size) hb9.size)) HFF.out.symm HFF.out.symm HX8.out HX8.out).mono ?_; rintro e w10 ⟨rfl, rfl⟩; rw [decide_eq_true (rfl : framesL L = framesL L)])
    | (go_at_call 8; refine (awake18 _).mono ?_; rintro e w11 ⟨rfl, hb11⟩))
  go_wp2_with fail
  go_ret
  have hs6 := hb6.size
  have hs9 := hb9.size
  have hx6 : Below w4.heap.size w4 w6 := ((Below.refl w4.heap.size w4).drewN 1).trans hb6
  have hx9 : Below w4.heap.size w4 _ := (hx6.drewN (j7 + j8)).trans (hb9.mono hx6.size)
  exact ⟨rfl, HB4.out.trans ((hx9.trans (hb11.mono hx9.size)).mono HB4.out.size)⟩

theorem loads_any (cap : Int) (v : Value) (D : List Int) (B : Nat) (w : World) (hs : Sl w B v 1 D.length (bys D)) (h8 : Bytes8 D) (hB : B ≤ w.heap.size) :
    Calls Try.prog 5 #[.int .i64 cap, v] w fun e w' => e = .returned (.bool true) ∧ Below w.heap.size w w' := by
  by_cases h1 : 262144 < D.length
  · exact loads_big v D cap B w hs h1
  · by_cases h2 : cap < 0 ∨ 1073741824 < cap ∨ cap < D.length
    · exact loads_bad v D cap B w hs (by omega) h2
    · exact loads_ok v D cap B w hs h8 hB (by omega) (by omega) (by omega) (by omega)

end Go.Proofs.Ytlllocfcljgacaa
