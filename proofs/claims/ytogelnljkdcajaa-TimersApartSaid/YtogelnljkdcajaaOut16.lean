/- The laws of layer 16: out, same. -/
import Derived.Test.YtogelnljkdcajaaRef16b
import Derived.Deep.RegionHeld3
namespace Go.Proofs.Ytogelnljkdcajaa
open Go.RowKit Go.Sort
set_option linter.unusedVariables false
set_option linter.unusedSimpArgs false

set_option maxHeartbeats 4000000 in
theorem out_any (a f t x : Int) (v : Value) (D : List Int) (n B : Nat) (w : World) (hs : Sl w B v 1 n (bys D)) (hD : D.length = n) (hn : n ≤ 140737488355328) (hB : B ≤ w.heap.size) :
    Calls Try.prog 10 #[.agg #[.int .i64 a, v, .int .i64 f, .int .i64 t, .int .i64 x]] w fun e w' => ∃ u, e = .returned (.agg #[.int .i64 a, u, .int .i64 f, .int .i64 t, .int .i64 x]) ∧ Own w' w.heap.size bT 1 u n (bys D) ∧ Below w.heap.size w w' := by
  obtain ⟨A, c, rfl, hc⟩ := hs.form
  have HS := hide hs
  have HD := hide hD
  clear hs hD
  go_enter Try.func10, Try.ntmps10
  go_upto_region 1 with fail
  obtain ⟨HP0, HQ0⟩ : Blk ((w.alloc (.cells #[.int .i64 a, .slice A n c, .int .i64 f, .int .i64 t, .int .i64 x] rtT)).alloc (.cells #[.int .i64 0, .slice none 0 0, .int .i64 0, .int .i64 0, .int .i64 0] tmT)) w.heap.size rtT #[.int .i64 a, .slice A n c, .int .i64 f, .int .i64 t, .int .i64 x] ∧ Blk ((w.alloc (.cells #[.int .i64 a, .slice A n c, .int .i64 f, .int .i64 t, .int .i64 x] rtT)).alloc (.cells #[.int .i64 0, .slice none 0 0, .int .i64 0, .int .i64 0, .int .i64 0] tmT)) (w.heap.size + 1) tmT #[.int .i64 0, .slice none 0 0, .int .i64 0, .int .i64 0, .int .i64 0] := by
    refine ⟨(Blk.new w _ _).alloc _, ?_⟩
    have h9 := Blk.new (w.alloc (.cells #[.int .i64 a, .slice A n c, .int .i64 f, .int .i64 t, .int .i64 x] rtT)) tmT #[.int .i64 0, .slice none 0 0, .int .i64 0, .int .i64 0, .int .i64 0]
    simpa using h9
  have HP := hide HP0
  have HQ := hide HQ0
  have HBW : Hid (Below w.heap.size w ((w.alloc (.cells #[.int .i64 a, .slice A n c, .int .i64 f, .int .i64 t, .int .i64 x] rtT)).alloc (.cells #[.int .i64 0, .slice none 0 0, .int .i64 0, .int .i64 0, .int .i64 0] tmT))) := ((Below.refl w.heap.size w).alloc (Nat.le_refl _) _).alloc (by simp) _
  clear HP0 HQ0
  change Code.wp _ _ _ _ ((w.alloc (.cells #[.int .i64 a, .slice A n c, .int .i64 f, .int .i64 t, .int .i64 x] rtT)).alloc (.cells #[.int .i64 0, .slice none 0 0, .int .i64 0, .int .i64 0, .int .i64 0] tmT))
  generalize ((w.alloc (.cells #[.int .i64 a, .slice A n c, .int .i64 f, .int .i64 t, .int .i64 x] rtT)).alloc (.cells #[.int .i64 0, .slice none 0 0, .int .i64 0, .int .i64 0, .int .i64 0] tmT)) = w1 at *
  obtain ⟨pb, hpb⟩ : ∃ pb, pb = w.heap.size := ⟨_, rfl⟩
  obtain ⟨qb, hqb⟩ : ∃ qb, qb = w.heap.size + 1 := ⟨_, rfl⟩
  have HW : Hid (w.heap.size ≤ pb ∧ w.heap.size ≤ qb) := by rw [hpb, hqb]; exact ⟨Nat.le_refl _, Nat.le_succ _⟩
  rw [← hqb] at HQ ⊢
  rw [← hpb] at HP ⊢
  have HS1 := hide (HS.out.below (HBW.out.mono hB))
  have hB1 : B ≤ w1.heap.size := Nat.le_trans hB HBW.out.size
  clear hpb hqb HS
  have hp := HP.out.lt
  have hq := HQ.out.lt
  have p0 : w1.cell? ⟨pb, 0, none⟩ = some (.int .i64 a) := HP.out.cell 0
  have p1 : w1.cell? ⟨pb, 1, none⟩ = some (.slice A n c) := HP.out.cell 1
  have p2 : w1.cell? ⟨pb, 2, none⟩ = some (.int .i64 f) := HP.out.cell 2
  have p3 : w1.cell? ⟨pb, 3, none⟩ = some (.int .i64 t) := HP.out.cell 3
  have p4 : w1.cell? ⟨pb, 4, none⟩ = some (.int .i64 x) := HP.out.cell 4
  have HE : Hid (∀ X : World, Own (X.alloc (.cells #[] bT)) X.heap.size bT 1 (.slice (some ⟨X.heap.size, 0, none⟩) 0 0) 0 (bys [])) := fun X => Own.new X X.heap.size #[] (Nat.le_refl _) (by omega) rfl
  have HFA : Hid (∀ (v5 : Value) (X w5 : World) (m : Nat) (xs : List Value), Below w1.heap.size w1 X → App X w1.heap.size bT 1 (.slice (some ⟨w1.heap.size, 0, none⟩) 0 0) m xs v5 w5 → Below w1.heap.size w1 w5) := fun v5 X w5 m xs hX ha =>
    hX.trans (ha.fr.below hX.size (fun k hk h => by have := own_eq h; omega))
  have HCS : Hid (∀ X : World, Below w1.heap.size w1 X → X.cell? ⟨pb, 0, none⟩ = some (.int .i64 a) ∧ X.cell? ⟨pb, 1, none⟩ = some (.slice A n c) ∧ X.cell? ⟨pb, 2, none⟩ = some (.int .i64 f) ∧ X.cell? ⟨pb, 3, none⟩ = some (.int .i64 t) ∧ X.cell? ⟨pb, 4, none⟩ = some (.int .i64 x) ∧ (X.frozen? ⟨qb, 0, none⟩ = false ∧ X.frozen? ⟨qb, 1, none⟩ = false ∧ X.frozen? ⟨qb, 2, none⟩ = false ∧ X.frozen? ⟨qb, 3, none⟩ = false ∧ X.frozen? ⟨qb, 4, none⟩ = false) ∧ (X.cell? ⟨qb, 0, none⟩ = some (.int .i64 0) ∧ X.cell? ⟨qb, 1, none⟩ = some (.slice none 0 0) ∧ X.cell? ⟨qb, 2, none⟩ = some (.int .i64 0) ∧ X.cell? ⟨qb, 3, none⟩ = some (.int .i64 0) ∧ X.cell? ⟨qb, 4, none⟩ = some (.int .i64 0)) ∧ qb < X.heap.size ∧ pb < X.heap.size) := by
    intro X hX
    have k1 := HP.out.below hX hp
    have k2 := HQ.out.below hX hq
    exact ⟨k1.cell 0, k1.cell 1, k1.cell 2, k1.cell 3, k1.cell 4, ⟨k2.frozen 0, k2.frozen 1, k2.frozen 2, k2.frozen 3, k2.frozen 4⟩, ⟨k2.cell 0, k2.cell 1, k2.cell 2, k2.cell 3, k2.cell 4⟩, k2.lt, k1.lt⟩
  have HPQ : Hid (pb ≠ qb) := HP.out.apart HQ.out (by decide)
  have HC5 : Hid (∀ X : World, Fr (fun k => k = qb) w1 X → X.cell? ⟨pb, 0, none⟩ = some (.int .i64 a) ∧ X.cell? ⟨pb, 1, none⟩ = some (.slice A n c) ∧ X.cell? ⟨pb, 2, none⟩ = some (.int .i64 f) ∧ X.cell? ⟨pb, 3, none⟩ = some (.int .i64 t) ∧ X.cell? ⟨pb, 4, none⟩ = some (.int .i64 x)) := fun X hX => by
    have k1 := hX.blk HP.out HPQ.out
    exact ⟨k1.cell 0, k1.cell 1, k1.cell 2, k1.cell 3, k1.cell 4⟩
  go_region_held3 (fun X : World => X.cell? ⟨pb, 0, none⟩ = some (.int .i64 a) ∧ X.cell? ⟨pb, 1, none⟩ = some (.slice A n c) ∧ X.cell? ⟨pb, 2, none⟩ = some (.int .i64 f) ∧ X.cell? ⟨pb, 3, none⟩ = some (.int .i64 t) ∧ X.cell? ⟨pb, 4, none⟩ = some (.int .i64 x)) (first
      | with_reducible exact HC5.out _ (((((hf5.put (p := ⟨qb, 0, none⟩) (.inl rfl) _).put (p := ⟨qb, 1, none⟩) (.inl rfl) _).put (p := ⟨qb, 2, none⟩) (.inl rfl) _).put (p := ⟨qb, 3, none⟩) (.inl rfl) _).put (p := ⟨qb, 4, none⟩) (.inl rfl) _)
      | with_reducible exact HC5.out _ hf5
      | exact ⟨p0, p1, p2, p3, p4⟩
      | exact ⟨(HP.out.alloc _).cell 0, (HP.out.alloc _).cell 1, (HP.out.alloc _).cell 2, (HP.out.alloc _).cell 3, (HP.out.alloc _).cell 4⟩) (first
    | (refine step_app rfl tyB (.tmp 5) (.tmp 7) rfl w1.heap.size (n := 0) (m := n) (B := B) (xs := bys []) (news := bys D) rfl rfl (by first | exact (HE.out _).drew | exact HE.out _) (by exact HS1.out.below ((((Below.refl w1.heap.size w1).drewN 1).alloc (Nat.le_refl _) _).mono hB1)) (bys_ok D) (by omega) (by omega) (by simp) ?_; intro v5 w5 ha5
       have ho5 : Own w5 w1.heap.size bT 1 v5 n (bys D) := by simpa [bys] using ha5.own
       have hb5 : Below w1.heap.size w1 w5 := HFA.out v5 _ w5 _ _ (by first | exact ((Below.refl w1.heap.size w1).alloc (Nat.le_refl _) _).drewN 1 | exact ((Below.refl w1.heap.size w1).drewN 1).alloc (Nat.le_refl _) _) ha5
       obtain ⟨uA, uc, rfl, huc⟩ := ho5.sl.form
       obtain ⟨_, _, _, _, _, ⟨y0, y1, y2, y3, y4⟩, ⟨q0, q1, q2, q3, q4⟩, hq5, hp5⟩ := HCS.out w5 hb5
       have hf5 : Fr (fun k => k = qb) w1 w5 := Fr.of_below hb5))
  all_goals
    have HO5 := hide (ho5.lower HBW.out.size)
    have HB5 := hide (HBW.out.trans (hb5.mono HBW.out.size))
    have HQ5 := hide (HQ.out.below hb5 hq)
    have HNE : Hid ((Value.slice uA n uc).ownBlock ≠ some qb) := ho5.ne HQ5.out (by decide)
    clear ho5 hb5 ha5
    have HR9 : Hid (Own (put5 w5 ⟨qb, 0, none⟩ ⟨a, .slice uA n uc, D, f, t, x⟩) w.heap.size bT 1 (.slice uA n uc) n (bys D) ∧
        Blk (put5 w5 ⟨qb, 0, none⟩ ⟨a, .slice uA n uc, D, f, t, x⟩) qb tmT #[.int .i64 a, .slice uA n uc, .int .i64 f, .int .i64 t, .int .i64 x] ∧
        Below w.heap.size w (put5 w5 ⟨qb, 0, none⟩ ⟨a, .slice uA n uc, D, f, t, x⟩)) := by
      unfold put5
      simp only [Nat.zero_add]
      refine ⟨?_, ?_, ?_⟩
      · exact ((((HO5.out.put (p := ⟨qb, 0, none⟩) HNE.out _).put (p := ⟨qb, 1, none⟩) HNE.out _).put (p := ⟨qb, 2, none⟩) HNE.out _).put (p := ⟨qb, 3, none⟩) HNE.out _).put (p := ⟨qb, 4, none⟩) HNE.out _
      · exact ((((HQ5.out.put 0 _).put 1 _).put 2 _).put 3 _).put 4 _
      · exact ((((((Fr.of_below HB5.out : Fr nob w w5).put (p := ⟨qb, 0, none⟩) (.inr HW.out.2) _).put (p := ⟨qb, 1, none⟩) (.inr HW.out.2) _).put (p := ⟨qb, 2, none⟩) (.inr HW.out.2) _).put (p := ⟨qb, 3, none⟩) (.inr HW.out.2) _).put (p := ⟨qb, 4, none⟩) (.inr HW.out.2) _).below (Nat.le_refl _) (fun k _ h => h)
    clear y0 y1 y2 y3 y4 q0 q1 q2 q3 q4 hq5 hp5 hf5 p0 p1 p2 p3 p4 HFA HCS HC5 HE
    go_wp2_with fail
    change bodyPost _ _ _ _ _ (put5 w5 ⟨qb, 0, none⟩ ⟨a, .slice uA n uc, D, f, t, x⟩)
    generalize put5 w5 ⟨qb, 0, none⟩ ⟨a, .slice uA n uc, D, f, t, x⟩ = w9 at *
    have c0 : w9.cell? ⟨qb, 0, none⟩ = some (.int .i64 a) := HR9.out.2.1.cell 0
    have c1 : w9.cell? ⟨qb, 1, none⟩ = some (.slice uA n uc) := HR9.out.2.1.cell 1
    have c2 : w9.cell? ⟨qb, 2, none⟩ = some (.int .i64 f) := HR9.out.2.1.cell 2
    have c3 : w9.cell? ⟨qb, 3, none⟩ = some (.int .i64 t) := HR9.out.2.1.cell 3
    have c4 : w9.cell? ⟨qb, 4, none⟩ = some (.int .i64 x) := HR9.out.2.1.cell 4
    have hres : Try.f10.results = #[.cell 2 tmT] := by kernel_rfl
    refine bodyPost_ret (v := .agg #[.int .i64 a, .slice uA n uc, .int .i64 f, .int .i64 t, .int .i64 x]) ?_ rfl ⟨_, rfl, HR9.out.1, HR9.out.2.2⟩
    simp [results, hres, go_sem, c0, c1, c2, c3, c4]

/-- are they the same timer? -/
def TV.same (x y : TV) : Bool := decide (x.d = y.d)
set_option maxHeartbeats 8000000 in
theorem same_any16 (x y : TV) (B : Nat) (w : World) (hx : KeyIn w B x) (hy : KeyIn w B y) (hB : B ≤ w.heap.size) :
    Calls Try.prog 14 #[.agg x.cells.toArray, .agg y.cells.toArray] w fun e w' => e = .returned (.bool (TV.same x y)) ∧ Below w.heap.size w w' := by
  obtain ⟨A, c, hkx, hc⟩ := hx.sl.form
  obtain ⟨A', c', hky, hc'⟩ := hy.sl.form
  obtain ⟨r, hr⟩ : ∃ r, r = TV.same x y := ⟨_, rfl⟩
  rw [← hr]
  have HX := hide hx
  have HY := hide hy
  have HR : Hid (r = decide (x.a = y.a ∧ x.w = y.w ∧ (x.f = y.f ∧ x.t = y.t) ∧ bytesR x.kb y.kb = 0)) := by
    show _ = _
    rw [hr]
    unfold TV.same
    refine decide_eq_decide.2 ?_
    rw [bytesR_zero]
    obtain ⟨xa, xk, xb, xf, xt, xw⟩ := x
    obtain ⟨ya, yk, yb, yf, yt, yw⟩ := y
    simp only [TV.d, TD.mk.injEq]
    constructor
    · rintro ⟨rfl, rfl, rfl, rfl, rfl⟩; simp
    · rintro ⟨rfl, rfl, ⟨rfl, rfl⟩, rfl⟩; simp
  clear hr hx hy
  obtain ⟨xa, xk, xb, xf, xt, xw⟩ := x
  obtain ⟨ya, yk, yb, yf, yt, yw⟩ := y
  simp only at hkx hky hc hc' HR
  subst hkx hky
  unfold TV.cells
  simp only
  have HP : Hid (Blk ((w.alloc (.cells #[.int .i64 xa, .slice A xb.length c, .int .i64 xf, .int .i64 xt, .int .i64 xw] tmT)).alloc (.cells #[.int .i64 ya, .slice A' yb.length c', .int .i64 yf, .int .i64 yt, .int .i64 yw] rtT)) w.heap.size tmT #[.int .i64 xa, .slice A xb.length c, .int .i64 xf, .int .i64 xt, .int .i64 xw]) := (Blk.new w _ _).alloc _
  have HQ : Hid (Blk ((w.alloc (.cells #[.int .i64 xa, .slice A xb.length c, .int .i64 xf, .int .i64 xt, .int .i64 xw] tmT)).alloc (.cells #[.int .i64 ya, .slice A' yb.length c', .int .i64 yf, .int .i64 yt, .int .i64 yw] rtT)) (w.heap.size + 1) rtT #[.int .i64 ya, .slice A' yb.length c', .int .i64 yf, .int .i64 yt, .int .i64 yw]) := by
    have h9 := Blk.new (w.alloc (.cells #[.int .i64 xa, .slice A xb.length c, .int .i64 xf, .int .i64 xt, .int .i64 xw] tmT)) rtT #[.int .i64 ya, .slice A' yb.length c', .int .i64 yf, .int .i64 yt, .int .i64 yw]
    simpa [Hid] using h9
  have HB1 : Hid (Below w.heap.size w ((w.alloc (.cells #[.int .i64 xa, .slice A xb.length c, .int .i64 xf, .int .i64 xt, .int .i64 xw] tmT)).alloc (.cells #[.int .i64 ya, .slice A' yb.length c', .int .i64 yf, .int .i64 yt, .int .i64 yw] rtT))) := ((Below.refl w.heap.size w).alloc (Nat.le_refl _) _).alloc (by simp) _
  have HXS := hide HX.out.sl
  have HYS := hide HY.out.sl
  have HX8 := hide HX.out.b8
  have HY8 := hide HY.out.b8
  simp only at HXS HYS HX8 HY8
  clear HX HY
  generalize hxl : xb.length = n at *
  generalize hyl : yb.length = m at *
  have HXL := hide hxl
  have HYL := hide hyl
  clear hxl hyl
  go_enter Try.func14, Try.ntmps14
  go_upto_region 1 with fail
  change Code.wp _ _ _ _ ((w.alloc (.cells #[.int .i64 xa, .slice A n c, .int .i64 xf, .int .i64 xt, .int .i64 xw] tmT)).alloc (.cells #[.int .i64 ya, .slice A' m c', .int .i64 yf, .int .i64 yt, .int .i64 yw] rtT))
  generalize ((w.alloc (.cells #[.int .i64 xa, .slice A n c, .int .i64 xf, .int .i64 xt, .int .i64 xw] tmT)).alloc (.cells #[.int .i64 ya, .slice A' m c', .int .i64 yf, .int .i64 yt, .int .i64 yw] rtT)) = w1 at *
  obtain ⟨pb, hpb⟩ : ∃ pb, pb = w.heap.size := ⟨_, rfl⟩
  obtain ⟨qb, hqb⟩ : ∃ qb, qb = w.heap.size + 1 := ⟨_, rfl⟩
  rw [← hqb] at HQ ⊢
  rw [← hpb] at HP ⊢
  clear hpb hqb
  have HXS1 := hide (HXS.out.below (HB1.out.mono hB))
  have HYS1 := hide (HYS.out.below (HB1.out.mono hB))
  have hp := HP.out.lt
  have hq := HQ.out.lt
  have p0 : w1.cell? ⟨pb, 0, none⟩ = some (.int .i64 xa) := HP.out.cell 0
  have p1 : w1.cell? ⟨pb, 1, none⟩ = some (.slice A n c) := HP.out.cell 1
  have p2 : w1.cell? ⟨pb, 2, none⟩ = some (.int .i64 xf) := HP.out.cell 2
  have p3 : w1.cell? ⟨pb, 3, none⟩ = some (.int .i64 xt) := HP.out.cell 3
  have p4 : w1.cell? ⟨pb, 4, none⟩ = some (.int .i64 xw) := HP.out.cell 4
  have q0 : w1.cell? ⟨qb, 0, none⟩ = some (.int .i64 ya) := HQ.out.cell 0
  have q1 : w1.cell? ⟨qb, 1, none⟩ = some (.slice A' m c') := HQ.out.cell 1
  have q2 : w1.cell? ⟨qb, 2, none⟩ = some (.int .i64 yf) := HQ.out.cell 2
  have q3 : w1.cell? ⟨qb, 3, none⟩ = some (.int .i64 yt) := HQ.out.cell 3
  have q4 : w1.cell? ⟨qb, 4, none⟩ = some (.int .i64 yw) := HQ.out.cell 4
  by_cases h1 : xa = ya
  · by_cases h2 : xw = yw
    · by_cases h3 : xf = yf ∧ xt = yt
      · have HG : Hid (r = decide (bytesR xb yb = 0)) := by show _ = _; rw [HR.out]; simp [h1, h2, h3]
        obtain ⟨h4, h5⟩ := h3
        subst h1 h2 h4 h5
        go_wp2_with fail
        refine (rbytes_any _ _ xb yb n m B B _ HXS1.out HYS1.out HXL.out HYL.out HX8.out HY8.out).mono ?_
        rintro e w2 ⟨rfl, j, rfl⟩
        obtain ⟨o, ho⟩ : ∃ o, o = bytesR xb yb := ⟨_, rfl⟩
        rw [← ho]
        rw [← ho] at HG
        clear ho
        go_wp2_with fail
        go_ret
        rw [HG.out]
        exact ⟨by first | rfl | simp, HB1.out.drewN j⟩
      · have HG : Hid (r = false) := by show _ = _; rw [HR.out]; simp only [h3]; simp
        have hne := win_ne xf xt yf yt h3
        have hne2 : ∀ W : World, (binOp .eql rT7 (.agg #[.int .i64 xf, .int .i64 xt]) (.agg #[.int .i64 yf, .int .i64 yt])).run Try.prog W = .ok (.bool false) W := fun W => win_nq xf xt yf yt h3 W
        clear h3
        subst h1 h2
        go_wp2_with fail
        go_ret
        rw [HG.out]
        exact ⟨rfl, HB1.out⟩
    · have HG : Hid (r = false) := by show _ = _; rw [HR.out]; simp only [h2]; simp
      subst h1
      go_wp2_with fail
      go_ret
      rw [HG.out]
      exact ⟨by first | rfl | simp [h2], HB1.out⟩
  · have HG : Hid (r = false) := by show _ = _; rw [HR.out]; simp only [h1]; simp
    go_wp2_with fail
    go_ret
    rw [HG.out]
    exact ⟨by first | rfl | simp [h1], HB1.out⟩

end Go.Proofs.Ytogelnljkdcajaa
