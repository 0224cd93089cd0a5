/- WindowSides: the walk. -/
import Derived.Test.YtbnppocaeflghaaDoorSide
import Derived.Deep.RegionHeld3
namespace Go.Proofs.YtbnppocaeflghaaDoor
open Go.RowKit
set_option linter.unusedVariables false
set_option linter.unusedSimpArgs false

set_option maxRecDepth 100000 in
set_option maxHeartbeats 8000000 in
theorem sides_any (fn : Wfn) (f t : Int) (w : World) : Calls Tryd.prog 9 #[fn.v, .agg #[.int .i64 f, .int .i64 t]] w fun e w' => e = .returned (.bool true) ∧ Below w.heap.size w w' := by
  obtain ⟨k, s, p, o⟩ := fn
  unfold Wfn.v
  have hcase : ((Win.mk f t).good ∧ Wfn.right ⟨k, s, p, o⟩ ∧ ¬ k = 3) ∨ ¬ Wfn.right ⟨k, s, p, o⟩ ∨ (Wfn.right ⟨k, s, p, o⟩ ∧ ¬ (Win.mk f t).good) ∨ (Wfn.right ⟨k, s, p, o⟩ ∧ (Win.mk f t).good ∧ k = 3) := by
    by_cases hr : Wfn.right ⟨k, s, p, o⟩
    · by_cases hg : (Win.mk f t).good
      · by_cases hk : k = 3
        · exact .inr (.inr (.inr ⟨hr, hg, hk⟩))
        · exact .inl ⟨hg, hr, hk⟩
      · exact .inr (.inr (.inl ⟨hr, hg⟩))
    · exact .inr (.inl hr)
  have HRT := hide (right_any ⟨k, s, p, o⟩)
  have HCASE := hide hcase
  clear hcase
  go_enter Tryd.func9, Tryd.ntmps9
  go_wp2_with fail
  have HF1 : Hid (Blk ((w.alloc (.cells #[.int .i64 k, .int .i64 s, .int .i64 p, .int .i64 o] fnT)).alloc (.cells #[.int .i64 f, .int .i64 t] wT)) w.heap.size fnT #[.int .i64 k, .int .i64 s, .int .i64 p, .int .i64 o]) := (Blk.new w _ _).alloc _
  have HP1 : Hid (Blk ((w.alloc (.cells #[.int .i64 k, .int .i64 s, .int .i64 p, .int .i64 o] fnT)).alloc (.cells #[.int .i64 f, .int .i64 t] wT)) (w.heap.size + 1) wT #[.int .i64 f, .int .i64 t]) := by
    have h9 := Blk.new (w.alloc (.cells #[.int .i64 k, .int .i64 s, .int .i64 p, .int .i64 o] fnT)) wT #[.int .i64 f, .int .i64 t]
    simpa [Hid] using h9
  have HB1 : Hid (Below w.heap.size w ((w.alloc (.cells #[.int .i64 k, .int .i64 s, .int .i64 p, .int .i64 o] fnT)).alloc (.cells #[.int .i64 f, .int .i64 t] wT))) := ((Below.refl w.heap.size w).alloc (Nat.le_refl _) _).alloc (by simp) _
  generalize (w.alloc (.cells #[.int .i64 k, .int .i64 s, .int .i64 p, .int .i64 o] fnT)).alloc (.cells #[.int .i64 f, .int .i64 t] wT) = w1 at *
  generalize hpb : w.heap.size + 1 = pb at *
  clear hpb
  rcases HCASE.out with ⟨hg, hr, hk3⟩ | hbad
  · refine (side_ok ⟨k, s, p, o⟩ f t w1 hg hr hk3).mono ?_
    rintro e w2 ⟨x, hx, rfl, hb⟩
    have HF2 := hide (HF1.out.below hb HF1.out.lt)
    have HP2 := hide (HP1.out.below hb HP1.out.lt)
    have HB2 := hide (HB1.out.trans (hb.mono HB1.out.size))
    have HX := hide hx
    obtain ⟨xf, xt⟩ := x
    clear hb hx
    obtain ⟨c0, c1, c2, c3⟩ := HF2.out.four
    obtain ⟨p0, p1⟩ := HP2.out.two'
    have hflt := HF2.out.lt
    have hplt := HP2.out.lt
    have hk3b : (k == 3) = false := by simp [hk3]
    go_wp2_with fail
    have HF3 := hide (HF2.out.alloc (.cells #[.int .i64 xf, .int .i64 xt] wT))
    have HP3 := hide (HP2.out.alloc (.cells #[.int .i64 xf, .int .i64 xt] wT))
    have HV3 : Hid (Blk (w2.alloc (.cells #[.int .i64 xf, .int .i64 xt] wT)) w2.heap.size wT #[.int .i64 xf, .int .i64 xt]) := Blk.new w2 _ _
    have HB3 := hide (HB2.out.alloc HB2.out.size (.cells #[.int .i64 xf, .int .i64 xt] wT))
    generalize w2.alloc (.cells #[.int .i64 xf, .int .i64 xt] wT) = w3 at *
    generalize w2.heap.size = vb at *
    clear c0 c1 c2 c3 p0 p1 hflt hplt
    refine (fn_any k s p o _).mono ?_
    rintro e w4 ⟨rfl, hb⟩
    have HF4 := hide (HF3.out.below hb HF3.out.lt)
    have HP4 := hide (HP3.out.below hb HP3.out.lt)
    have HV4 := hide (HV3.out.below hb HV3.out.lt)
    have HB4 := hide (HB3.out.trans (hb.mono HB3.out.size))
    clear hb
    go_wp2_with fail
    refine (HRT.out _).mono ?_
    rw [decide_eq_true hr]
    rintro e w5 ⟨rfl, hb⟩
    have HF5 := hide (HF4.out.below hb HF4.out.lt)
    have HP5 := hide (HP4.out.below hb HP4.out.lt)
    have HV5 := hide (HV4.out.below hb HV4.out.lt)
    have HB5 := hide (HB4.out.trans (hb.mono HB4.out.size))
    clear hb
    obtain ⟨p0, p1⟩ := HP5.out.two'
    have hplt := HP5.out.lt
    go_wp2_with fail
    refine (rgood_any f t _).mono ?_
    rw [decide_eq_true hg]
    rintro e w6 ⟨rfl, hb⟩
    have HF6 := hide (HF5.out.below hb HF5.out.lt)
    have HP6 := hide (HP5.out.below hb HP5.out.lt)
    have HV6 := hide (HV5.out.below hb HV5.out.lt)
    have HB6 := hide (HB5.out.trans (hb.mono HB5.out.size))
    clear hb p0 p1 hplt
    have c0 : w6.cell? ⟨w.heap.size, 0, none⟩ = some (.int .i64 k) := HF6.out.cell 0
    have hflt := HF6.out.lt
    have e1 : (xf == xf) = true := by simp
    have e2 : (xt == xt) = true := by simp
    go_wp2_with fail
    clear c0 hflt
    go_region_held3 (fun w' : World => (w'.cell? ⟨w.heap.size, 0, none⟩ = some (.int .i64 k) ∧ w'.cell? ⟨w.heap.size, 1, none⟩ = some (.int .i64 s) ∧ w'.cell? ⟨w.heap.size, 2, none⟩ = some (.int .i64 p) ∧ w'.cell? ⟨w.heap.size, 3, none⟩ = some (.int .i64 o)) ∧ (w'.cell? ⟨pb, 0, none⟩ = some (.int .i64 f) ∧ w'.cell? ⟨pb, 1, none⟩ = some (.int .i64 t)) ∧ (w'.cell? ⟨vb, 0, none⟩ = some (.int .i64 xf) ∧ w'.cell? ⟨vb, 1, none⟩ = some (.int .i64 xt))) (first
        | exact ⟨HF6.out.four, HP6.out.two', HV6.out.two'⟩
        | exact ⟨hf7.four, hp7.two', hv7.two'⟩
        | exact ⟨hf8.four, hp8.two', hv8.two'⟩
        | exact ⟨hf9.four, hp9.two', hv9.two'⟩) (first
      | (go_at_call 28; refine (fn_any k s p o _).mono ?_; rintro e w7 ⟨rfl, hb7⟩; have hf7 := (HF6.out.drewN 1).below hb7 (HF6.out.drewN 1).lt; have hp7 := (HP6.out.drewN 1).below hb7 (HP6.out.drewN 1).lt; have hv7 := (HV6.out.drewN 1).below hb7 (HV6.out.drewN 1).lt)
      | (go_at_call 34; refine (rside_any ⟨k, s, p, o⟩ f t _ hg hr).mono ?_; rintro e w8 ⟨y, hy, rfl, hb8⟩; obtain rfl := sideW_eq HX.out hy; have hf8 := hf7.below hb8 hf7.lt; have hp8 := hp7.below hb8 hp7.lt; have hv8 := hv7.below hb8 hv7.lt)
      | (go_at_call 13; refine (awake07 _).mono ?_; rintro e w9 ⟨rfl, hb9⟩; have hf9 := hf8.below hb9 hf8.lt; have hp9 := hp8.below hb9 hp8.lt; have hv9 := hv8.below hb9 hv8.lt))
    go_wp2_with fail
    go_ret
    have h7 : Below w6.heap.size w6 w7 := ((Below.refl w6.heap.size w6).drewN 1).trans hb7
    have h8 := h7.trans (hb8.mono h7.size)
    have h9 := h8.trans (hb9.mono h8.size)
    exact ⟨rfl, HB6.out.trans (h9.mono HB6.out.size)⟩
  · have hsb : ¬ (Win.mk f t).good ∨ ¬ Wfn.right ⟨k, s, p, o⟩ ∨ k = 3 := by
      rcases hbad with h | ⟨_, h⟩ | ⟨_, _, h⟩
      · exact .inr (.inl h)
      · exact .inl h
      · exact .inr (.inr h)
    refine (side_bad ⟨k, s, p, o⟩ f t w1 hsb).mono ?_
    rintro e w2 ⟨rfl, hb⟩
    have HF2 := hide (HF1.out.below hb HF1.out.lt)
    have HP2 := hide (HP1.out.below hb HP1.out.lt)
    have HB2 := hide (HB1.out.trans (hb.mono HB1.out.size))
    clear hb
    obtain ⟨c0, c1, c2, c3⟩ := HF2.out.four
    obtain ⟨p0, p1⟩ := HP2.out.two'
    have hflt := HF2.out.lt
    have hplt := HP2.out.lt
    go_wp2_with fail
    have HF3 := hide (HF2.out.alloc (.cells #[.int .i64 0, .int .i64 0] wT))
    have HP3 := hide (HP2.out.alloc (.cells #[.int .i64 0, .int .i64 0] wT))
    have HV3 : Hid (Blk (w2.alloc (.cells #[.int .i64 0, .int .i64 0] wT)) w2.heap.size wT #[.int .i64 0, .int .i64 0]) := Blk.new w2 _ _
    have HB3 := hide (HB2.out.alloc HB2.out.size (.cells #[.int .i64 0, .int .i64 0] wT))
    generalize w2.alloc (.cells #[.int .i64 0, .int .i64 0] wT) = w3 at *
    generalize w2.heap.size = vb at *
    clear c0 c1 c2 c3 p0 p1 hflt hplt
    refine (fn_any k s p o _).mono ?_
    rintro e w4 ⟨rfl, hb⟩
    have HF4 := hide (HF3.out.below hb HF3.out.lt)
    have HP4 := hide (HP3.out.below hb HP3.out.lt)
    have HV4 := hide (HV3.out.below hb HV3.out.lt)
    have HB4 := hide (HB3.out.trans (hb.mono HB3.out.size))
    clear hb
    go_wp2_with fail
    refine (HRT.out _).mono ?_
    rcases hbad with hr | ⟨hr, hg⟩ | ⟨hr, hg, rfl⟩
    · rw [decide_eq_false hr]
      rintro e w5 ⟨rfl, hb⟩
      have HF5 := hide (HF4.out.below hb HF4.out.lt)
      have HP5 := hide (HP4.out.below hb HP4.out.lt)
      have HV5 := hide (HV4.out.below hb HV4.out.lt)
      have HB5 := hide (HB4.out.trans (hb.mono HB4.out.size))
      clear hb
      obtain ⟨v0, v1⟩ := HV5.out.two'
      have hvlt := HV5.out.lt
      go_wp2_with fail
      refine (awake07 _).mono ?_
      rintro e w9 ⟨rfl, hb⟩
      go_wp2_with fail
      go_ret
      exact ⟨rfl, HB5.out.trans (hb.mono HB5.out.size)⟩
    · rw [decide_eq_true hr]
      rintro e w5 ⟨rfl, hb⟩
      have HF5 := hide (HF4.out.below hb HF4.out.lt)
      have HP5 := hide (HP4.out.below hb HP4.out.lt)
      have HV5 := hide (HV4.out.below hb HV4.out.lt)
      have HB5 := hide (HB4.out.trans (hb.mono HB4.out.size))
      clear hb
      obtain ⟨p0, p1⟩ := HP5.out.two'
      have hplt := HP5.out.lt
      go_wp2_with fail
      refine (rgood_any f t _).mono ?_
      rw [decide_eq_false hg]
      rintro e w6 ⟨rfl, hb⟩
      have HF6 := hide (HF5.out.below hb HF5.out.lt)
      have HP6 := hide (HP5.out.below hb HP5.out.lt)
      have HV6 := hide (HV5.out.below hb HV5.out.lt)
      have HB6 := hide (HB5.out.trans (hb.mono HB5.out.size))
      clear hb p0 p1 hplt
      obtain ⟨v0, v1⟩ := HV6.out.two'
      have hvlt := HV6.out.lt
      go_wp2_with fail
      refine (awake07 _).mono ?_
      rintro e w9 ⟨rfl, hb⟩
      go_wp2_with fail
      go_ret
      exact ⟨rfl, HB6.out.trans (hb.mono HB6.out.size)⟩
    · rw [decide_eq_true hr]
      rintro e w5 ⟨rfl, hb⟩
      have HF5 := hide (HF4.out.below hb HF4.out.lt)
      have HP5 := hide (HP4.out.below hb HP4.out.lt)
      have HV5 := hide (HV4.out.below hb HV4.out.lt)
      have HB5 := hide (HB4.out.trans (hb.mono HB4.out.size))
      clear hb
      obtain ⟨p0, p1⟩ := HP5.out.two'
      have hplt := HP5.out.lt
      go_wp2_with fail
      refine (rgood_any f t _).mono ?_
      rw [decide_eq_true hg]
      rintro e w6 ⟨rfl, hb⟩
      have HF6 := hide (HF5.out.below hb HF5.out.lt)
      have HP6 := hide (HP5.out.below hb HP5.out.lt)
      have HV6 := hide (HV5.out.below hb HV5.out.lt)
      have HB6 := hide (HB5.out.trans (hb.mono HB5.out.size))
      clear hb p0 p1 hplt
      have c0 : w6.cell? ⟨w.heap.size, 0, none⟩ = some (.int .i64 3) := HF6.out.cell 0
      have hflt := HF6.out.lt
      obtain ⟨v0, v1⟩ := HV6.out.two'
      have hvlt := HV6.out.lt
      go_wp2_with fail
      refine (awake07 _).mono ?_
      rintro e w9 ⟨rfl, hb⟩
      go_wp2_with fail
      go_ret
      exact ⟨rfl, HB6.out.trans (hb.mono HB6.out.size)⟩

end Go.Proofs.YtbnppocaeflghaaDoor
