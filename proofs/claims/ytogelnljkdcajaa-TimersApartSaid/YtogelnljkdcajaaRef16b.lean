/- The reference of layer 16: Less, Right. -/
import Derived.Test.YtogelnljkdcajaaRef16
namespace Go.Proofs.Ytogelnljkdcajaa
open Go.RowKit Go.Sort
set_option linter.unusedVariables false
set_option linter.unusedSimpArgs false

set_option maxHeartbeats 4000000 in
theorem rlessT_any (x y : TV) (B : Nat) (w : World) (hx : KeyIn w B x) (hy : KeyIn w B y) (hB : B ≤ w.heap.size) :
    Calls Try.prog 37 #[.agg x.cells.toArray, .agg y.cells.toArray] w fun e w' => e = .returned (.bool (ltT x y)) ∧ Below w.heap.size w w' := by
  obtain ⟨A, c, hkx, hc⟩ := hx.sl.form
  obtain ⟨A', c', hky, hc'⟩ := hy.sl.form
  have HX := hide hx
  have HY := hide hy
  obtain ⟨r, hr⟩ : ∃ r, r = ltT x y := ⟨_, rfl⟩
  have HR : Hid (r = if x.a = y.a then (if ordC x.win y.win x.kb y.kb = 0 then decide (x.w < y.w) else decide (ordC x.win y.win x.kb y.kb < 0)) else decide (x.a < y.a)) := by
    show _ = _
    rw [hr, ltT_ref]
  rw [← hr]
  clear hr hx hy
  obtain ⟨xa, xk, xb, xf, xt, xw⟩ := x
  obtain ⟨ya, yk, yb, yf, yt, yw⟩ := y
  simp only at hkx hky hc hc' HR
  subst hkx hky
  unfold TV.cells
  simp only
  obtain ⟨o, ho⟩ : ∃ o, o = ordC ⟨xf, xt⟩ ⟨yf, yt⟩ xb yb := ⟨_, rfl⟩
  have HOD : Hid (∀ X : World, Below w.heap.size w X → Calls Try.prog 38 #[rcV (.slice A xb.length c) xf xt (.slice none 0 0) 0 0 0 0 false false, rcV (.slice A' yb.length c') yf yt (.slice none 0 0) 0 0 0 0 false false] X fun e w' => e = .returned (.int .i64 o) ∧ Below X.heap.size X w') := by
    intro X hX
    rw [ho]
    exact rorder_any A A' none none c c' 0 0 0 0 xb yb xf xt yf yt 0 0 0 0 0 0 0 0 false false false false B B X ((HX.out.sl).below (hX.mono hB)) ((HY.out.sl).below (hX.mono hB)) HX.out.b8 HY.out.b8 (Nat.le_trans hB hX.size) (Nat.le_trans hB hX.size)
  have HR2 : Hid (r = if xa = ya then (if o = 0 then decide (xw < yw) else decide (o < 0)) else decide (xa < ya)) := by
    show _ = _
    rw [HR.out, ho]
    rfl
  obtain ⟨HP0, HQ0, HB0⟩ := two_boxes w rtT #[.int .i64 xa, .slice A xb.length c, .int .i64 xf, .int .i64 xt, .int .i64 xw] #[.int .i64 ya, .slice A' yb.length c', .int .i64 yf, .int .i64 yt, .int .i64 yw]
  have HP := hide HP0
  have HQ := hide HQ0
  have HB1 := hide HB0
  clear HP0 HQ0 HB0 HX HY ho HR
  generalize hxl : xb.length = n at *
  generalize hyl : yb.length = m at *
  clear hxl hyl
  go_enter Try.func37, Try.ntmps37
  go_upto_region 1 with fail
  change Code.wp _ _ _ _ ((w.alloc (.cells #[.int .i64 xa, .slice A n c, .int .i64 xf, .int .i64 xt, .int .i64 xw] rtT)).alloc (.cells #[.int .i64 ya, .slice A' m c', .int .i64 yf, .int .i64 yt, .int .i64 yw] rtT))
  generalize ((w.alloc (.cells #[.int .i64 xa, .slice A n c, .int .i64 xf, .int .i64 xt, .int .i64 xw] rtT)).alloc (.cells #[.int .i64 ya, .slice A' m c', .int .i64 yf, .int .i64 yt, .int .i64 yw] rtT)) = w1 at *
  obtain ⟨pb, hpb⟩ : ∃ pb, pb = w.heap.size := ⟨_, rfl⟩
  obtain ⟨qb, hqb⟩ : ∃ qb, qb = w.heap.size + 1 := ⟨_, rfl⟩
  rw [← hqb] at HQ ⊢
  rw [← hpb] at HP ⊢
  clear hpb hqb
  have hp := HP.out.lt
  have hq := HQ.out.lt
  have z0 : w1.cell? ⟨pb, 0, none⟩ = some (.int .i64 xa) := HP.out.cell 0
  have z1 : w1.cell? ⟨qb, 0, none⟩ = some (.int .i64 ya) := HQ.out.cell 0
  by_cases ha : xa = ya
  · subst ha
    have e1 : (xa != xa) = false := by simp
    go_wp2_with fail
    have p0 := Aft.cell (HP.out.cell 0) HP.out.lt
    have p1 := Aft.cell (HP.out.cell 1) HP.out.lt
    have p2 := Aft.cell (HP.out.cell 2) HP.out.lt
    have p3 := Aft.cell (HP.out.cell 3) HP.out.lt
    have p4 := Aft.cell (HP.out.cell 4) HP.out.lt
    have q0 := Aft.cell (HQ.out.cell 0) HQ.out.lt
    have q1 := Aft.cell (HQ.out.cell 1) HQ.out.lt
    have q2 := Aft.cell (HQ.out.cell 2) HQ.out.lt
    have q3 := Aft.cell (HQ.out.cell 3) HQ.out.lt
    have q4 := Aft.cell (HQ.out.cell 4) HQ.out.lt
    simp at p0 p1 p2 p3 p4 q0 q1 q2 q3 q4
    have HOD1 : Hid (∀ p : Aft w1, Below w.heap.size w p.w') := fun p => HB1.out.trans (p.h.mono HB1.out.size)
    refine wp_region_aft (by kernel_rfl) (by kernel_rfl) ?_
    repeat (go_big_quiet_step (first
      | (go_at_call 31; with_reducible exact calls_aft (rcell_any _ _ _ _ _ _ _ _))
      | (go_at_call 38; with_reducible exact calls_aft (HOD.out _ (HOD1.out _)))))
    refine wpQuiet_nil ?_
    intro w9 hb9
    have HB9 := hide (HB1.out.trans (hb9.mono HB1.out.size))
    have HP9 := hide (HP.out.below hb9 hp)
    have HQ9 := hide (HQ.out.below hb9 hq)
    clear hb9 p0 p1 p2 p3 p4 q0 q1 q2 q3 q4 z0 z1 hp hq
    have hp := HP9.out.lt
    have hq := HQ9.out.lt
    have z0 : w9.cell? ⟨pb, 4, none⟩ = some (.int .i64 xw) := HP9.out.cell 4
    have z1 : w9.cell? ⟨qb, 4, none⟩ = some (.int .i64 yw) := HQ9.out.cell 4
    by_cases h0 : o = 0
    · have HG : Hid (r = decide (xw < yw)) := by show _ = _; rw [HR2.out, if_pos trivial, if_pos h0]
      have e2 : (o != 0) = false := by simp [h0]
      clear h0
      go_wp2_with fail
      go_ret
      rw [HG.out]
      exact ⟨rfl, HB9.out⟩
    · have HG : Hid (r = decide (o < 0)) := by show _ = _; rw [HR2.out, if_pos trivial, if_neg h0]
      have e2 : (o != 0) = true := by simp [h0]
      clear h0
      go_wp2_with fail
      go_ret
      rw [HG.out]
      exact ⟨rfl, HB9.out⟩
  · have e1 : (xa != ya) = true := by simp [ha]
    have HG : Hid (r = decide (xa < ya)) := by show _ = _; rw [HR2.out, if_neg ha]
    go_wp2_with fail
    go_ret
    rw [HG.out]
    exact ⟨rfl, HB1.out⟩

set_option maxHeartbeats 4000000 in
theorem rright_any (x : TV) (B : Nat) (w : World) (hx : KeyIn w B x) :
    Calls Try.prog 11 #[.agg x.cells.toArray] w fun e w' => e = .returned (.bool (decide x.right)) ∧ Below w.heap.size w w' := by
  obtain ⟨A, c, hkx, hc⟩ := hx.sl.form
  have hmx := hx.sl.max
  obtain ⟨xa, xk, xb, xf, xt, xw⟩ := x
  simp only at hkx hc hmx
  subst hkx
  clear hx
  obtain ⟨n, hn⟩ : ∃ n, n = xb.length := ⟨_, rfl⟩
  obtain ⟨r, hr⟩ : ∃ r, r = decide (TV.right ⟨xa, .slice A xb.length c, xb, xf, xt, xw⟩) := ⟨_, rfl⟩
  rw [← hr]
  have HR : Hid (r = decide (((0 ≤ xa ∧ xa ≤ 4194304) ∧ (0 ≤ xw ∧ xw ≤ 9) ∧ (Win.mk xf xt).good ∧ n ≤ 1048576))) := by show _ = _; rw [hr, hn]; rfl
  unfold TV.cells
  simp only
  rw [← hn] at hc hmx ⊢
  clear hr hn
  have HB : Hid (Below w.heap.size w (w.alloc (.cells #[.int .i64 xa, .slice A n c, .int .i64 xf, .int .i64 xt, .int .i64 xw] rtT))) := (Below.refl _ _).alloc (Nat.le_refl _) _
  by_cases h1 : 0 ≤ xa
  · by_cases h2 : xa ≤ 4194304
    · by_cases h3 : 0 ≤ xw
      · by_cases h4 : xw ≤ 9
        · have HG : Hid (r = decide (n ≤ 1048576 ∧ (Win.mk xf xt).good)) := by
            show _ = _
            rw [HR.out]
            refine decide_eq_decide.2 ⟨fun h => ⟨h.2.2.2, h.2.2.1⟩, fun h => ⟨⟨h1, h2⟩, ⟨h3, h4⟩, h.2, h.1⟩⟩
          go_enter Try.func11, Try.ntmps11
          go_wp2_with fail
          refine (rcell_any _ _ _ _ _ _ _ _).mono ?_
          rintro e w2 ⟨rfl, hb2⟩
          have HB2 := hide (HB.out.trans (hb2.mono HB.out.size))
          clear hb2
          go_wp2_with fail
          refine (rkey_any _ _ _ _ _ _ _ _ _ _ _ _ _ _ _ hmx).mono ?_
          rw [← HG.out]
          rintro e w3 ⟨rfl, hb3⟩
          have HB3 := hide (HB2.out.trans (hb3.mono HB2.out.size))
          clear hb3
          go_wp2_with fail
          go_ret
          exact ⟨rfl, HB3.out⟩
        · have HF : Hid (r = false) := by show _ = _; rw [HR.out]; simp [h4]
          go_enter Try.func11, Try.ntmps11
          go_wp2_with fail
          go_ret
          rw [HF.out]
          exact ⟨rfl, HB.out⟩
      · have HF : Hid (r = false) := by show _ = _; rw [HR.out]; simp [h3]
        go_enter Try.func11, Try.ntmps11
        go_wp2_with fail
        go_ret
        rw [HF.out]
        exact ⟨rfl, HB.out⟩
    · have HF : Hid (r = false) := by show _ = _; rw [HR.out]; simp [h2]
      go_enter Try.func11, Try.ntmps11
      go_wp2_with fail
      go_ret
      rw [HF.out]
      exact ⟨rfl, HB.out⟩
  · have HF : Hid (r = false) := by show _ = _; rw [HR.out]; simp [h1]
    go_enter Try.func11, Try.ntmps11
    go_wp2_with fail
    go_ret
    rw [HF.out]
    exact ⟨rfl, HB.out⟩

end Go.Proofs.Ytogelnljkdcajaa
