/- The laws of layer 16: out, same. / The laws of layer 16: the heap of a law; Set, Cancel as a law calls them. / The laws of layer 16: what stands behind a call; a timer that a law takes out, in a variable. -/
import Derived.Test.YtogelnljkdcajaaQTimersPlays07
import Derived.Deep.RegionHeld3

namespace Go.Proofs.Ytogelnljkdcajaa
open Go.RowKit Go.Sort
set_option linter.unusedVariables false
set_option linter.unusedSimpArgs false

set_option maxHeartbeats 4000000 in
theorem out_any (a f t x : Int) (v : Value) (D : List Int) (n B : Nat) (w : World) (hs : Sl w B v 1 n (bys D)) (hD : D.length = n) (hn : n ≤ 140737488355328) (hB : B ≤ w.heap.size) :
    Calls Try.prog 10 #[.agg #[.int .i64 a, v, .int .i64 f, .int .i64 t, .int .i64 x]] w fun e w' => ∃ u, e = .returned (.agg #[.int .i64 a, u, .int .i64 f, .int .i64 t, .int .i64 x]) ∧ Own w' w.heap.size bT 1 u n (bys D) ∧ Below w.heap.size w w' := by
  obtain ⟨A, c, rfl, hc⟩ := hs.form
  have HS := hide hs
  have HD := hide hD
  clear hs hD
  go_enter Try.func10, Try.ntmps10
  go_upto_region 1 with fail
  obtain ⟨HP0, HQ0⟩ : Blk ((w.alloc (.cells #[.int .i64 a, .slice A n c, .int .i64 f, .int .i64 t, .int .i64 x] rtT)).alloc (.cells #[.int .i64 0, .slice none 0 0, .int .i64 0, .int .i64 0, .int .i64 0] tmT)) w.heap.size rtT #[.int .i64 a, .slice A n c, .int .i64 f, .int .i64 t, .int .i64 x] ∧ Blk ((w.alloc (.cells #[.int .i64 a, .slice A n c, .int .i64 f, .int .i64 t, .int .i64 x] rtT)).alloc (.cells #[.int .i64 0, .slice none 0 0, .int .i64 0, .int .i64 0, .int .i64 0] tmT)) (w.heap.size + 1) tmT #[.int .i64 0, .slice none 0 0, .int .i64 0, .int .i64 0, .int .i64 0] := by
    refine ⟨(Blk.new w _ _).alloc _, ?_⟩
    have h9 := Blk.new (w.alloc (.cells #[.int .i64 a, .slice A n c, .int .i64 f, .int .i64 t, .int .i64 x] rtT)) tmT #[.int .i64 0, .slice none 0 0, .int .i64 0, .int .i64 0, .int .i64 0]
    simpa using h9
  have HP := hide HP0
  have HQ := hide HQ0
  have HBW : Hid (Below w.heap.size w ((w.alloc (.cells #[.int .i64 a, .slice A n c, .int .i64 f, .int .i64 t, .int .i64 x] rtT)).alloc (.cells #[.int .i64 0, .slice none 0 0, .int .i64 0, .int .i64 0, .int .i64 0] tmT))) := ((Below.refl w.heap.size w).alloc (Nat.le_refl _) _).alloc (by simp) _
  clear HP0 HQ0
  change Code.wp _ _ _ _ ((w.alloc (.cells #[.int .i64 a, .slice A n c, .int .i64 f, .int .i64 t, .int .i64 x] rtT)).alloc (.cells #[.int .i64 0, .slice none 0 0, .int .i64 0, .int .i64 0, .int .i64 0] tmT))
  generalize ((w.alloc (.cells #[.int .i64 a, .slice A n c, .int .i64 f, .int .i64 t, .int .i64 x] rtT)).alloc (.cells #[.int .i64 0, .slice none 0 0, .int .i64 0, .int .i64 0, .int .i64 0] tmT)) = w1 at *
  obtain ⟨pb, hpb⟩ : ∃ pb, pb = w.heap.size := ⟨_, rfl⟩
  obtain ⟨qb, hqb⟩ : ∃ qb, qb = w.heap.size + 1 := ⟨_, rfl⟩
  have HW : Hid (w.heap.size ≤ pb ∧ w.heap.size ≤ qb) := by rw [hpb, hqb]; exact ⟨Nat.le_refl _, Nat.le_succ _⟩
  rw [← hqb] at HQ ⊢
  rw [← hpb] at HP ⊢
  have HS1 := hide (HS.out.below (HBW.out.mono hB))
  have hB1 : B ≤ w1.heap.size := Nat.le_trans hB HBW.out.size
  clear hpb hqb HS
  have hp := HP.out.lt
  have hq := HQ.out.lt
  have p0 : w1.cell? ⟨pb, 0, none⟩ = some (.int .i64 a) := HP.out.cell 0
  have p1 : w1.cell? ⟨pb, 1, none⟩ = some (.slice A n c) := HP.out.cell 1
  have p2 : w1.cell? ⟨pb, 2, none⟩ = some (.int .i64 f) := HP.out.cell 2
  have p3 : w1.cell? ⟨pb, 3, none⟩ = some (.int .i64 t) := HP.out.cell 3
  have p4 : w1.cell? ⟨pb, 4, none⟩ = some (.int .i64 x) := HP.out.cell 4
  have HE : Hid (∀ X : World, Own (X.alloc (.cells #[] bT)) X.heap.size bT 1 (.slice (some ⟨X.heap.size, 0, none⟩) 0 0) 0 (bys [])) := fun X => Own.new X X.heap.size #[] (Nat.le_refl _) (by omega) rfl
  have HFA : Hid (∀ (v5 : Value) (X w5 : World) (m : Nat) (xs : List Value), Below w1.heap.size w1 X → App X w1.heap.size bT 1 (.slice (some ⟨w1.heap.size, 0, none⟩) 0 0) m xs v5 w5 → Below w1.heap.size w1 w5) := fun v5 X w5 m xs hX ha =>
    hX.trans (ha.fr.below hX.size (fun k hk h => by have := own_eq h; omega))
  have HCS : Hid (∀ X : World, Below w1.heap.size w1 X → X.cell? ⟨pb, 0, none⟩ = some (.int .i64 a) ∧ X.cell? ⟨pb, 1, none⟩ = some (.slice A n c) ∧ X.cell? ⟨pb, 2, none⟩ = some (.int .i64 f) ∧ X.cell? ⟨pb, 3, none⟩ = some (.int .i64 t) ∧ X.cell? ⟨pb, 4, none⟩ = some (.int .i64 x) ∧ (X.frozen? ⟨qb, 0, none⟩ = false ∧ X.frozen? ⟨qb, 1, none⟩ = false ∧ X.frozen? ⟨qb, 2, none⟩ = false ∧ X.frozen? ⟨qb, 3, none⟩ = false ∧ X.frozen? ⟨qb, 4, none⟩ = false) ∧ (X.cell? ⟨qb, 0, none⟩ = some (.int .i64 0) ∧ X.cell? ⟨qb, 1, none⟩ = some (.slice none 0 0) ∧ X.cell? ⟨qb, 2, none⟩ = some (.int .i64 0) ∧ X.cell? ⟨qb, 3, none⟩ = some (.int .i64 0) ∧ X.cell? ⟨qb, 4, none⟩ = some (.int .i64 0)) ∧ qb < X.heap.size ∧ pb < X.heap.size) := by
    intro X hX
    have k1 := HP.out.below hX hp
    have k2 := HQ.out.below hX hq
    exact ⟨k1.cell 0, k1.cell 1, k1.cell 2, k1.cell 3, k1.cell 4, ⟨k2.frozen 0, k2.frozen 1, k2.frozen 2, k2.frozen 3, k2.frozen 4⟩, ⟨k2.cell 0, k2.cell 1, k2.cell 2, k2.cell 3, k2.cell 4⟩, k2.lt, k1.lt⟩
  have HPQ : Hid (pb ≠ qb) := HP.out.apart HQ.out (by decide)
  have HC5 : Hid (∀ X : World, Fr (fun k => k = qb) w1 X → X.cell? ⟨pb, 0, none⟩ = some (.int .i64 a) ∧ X.cell? ⟨pb, 1, none⟩ = some (.slice A n c) ∧ X.cell? ⟨pb, 2, none⟩ = some (.int .i64 f) ∧ X.cell? ⟨pb, 3, none⟩ = some (.int .i64 t) ∧ X.cell? ⟨pb, 4, none⟩ = some (.int .i64 x)) := fun X hX => by
    have k1 := hX.blk HP.out HPQ.out
    exact ⟨k1.cell 0, k1.cell 1, k1.cell 2, k1.cell 3, k1.cell 4⟩
  go_region_held3 (fun X : World => X.cell? ⟨pb, 0, none⟩ = some (.int .i64 a) ∧ X.cell? ⟨pb, 1, none⟩ = some (.slice A n c) ∧ X.cell? ⟨pb, 2, none⟩ = some (.int .i64 f) ∧ X.cell? ⟨pb, 3, none⟩ = some (.int .i64 t) ∧ X.cell? ⟨pb, 4, none⟩ = some (.int .i64 x)) (first
      | with_reducible exact HC5.out _ (((((hf5.put (p := ⟨qb, 0, none⟩) (.inl rfl) _).put (p := ⟨qb, 1, none⟩) (.inl rfl) _).put (p := ⟨qb, 2, none⟩) (.inl rfl) _).put (p := ⟨qb, 3, none⟩) (.inl rfl) _).put (p := ⟨qb, 4, none⟩) (.inl rfl) _)
      | with_reducible exact HC5.out _ hf5
      | exact ⟨p0, p1, p2, p3, p4⟩
      | exact ⟨(HP.out.alloc _).cell 0, (HP.out.alloc _).cell 1, (HP.out.alloc _).cell 2, (HP.out.alloc _).cell 3, (HP.out.alloc _).cell 4⟩) (first
    | (refine step_app rfl tyB (.tmp 5) (.tmp 7) rfl w1.heap.size (n := 0) (m := n) (B := B) (xs := bys []) (news := bys D) rfl rfl (by first | exact (HE.out _).drew | exact HE.out _) (by exact HS1.out.below ((((Below.refl w1.heap.size w1).drewN 1).alloc (Nat.le_refl _) _).mono hB1)) (bys_ok D) (by omega) (by omega) (by simp) ?_; intro v5 w5 ha5
       have ho5 : Own w5 w1.heap.size bT 1 v5 n (bys D) := by simpa [bys] using ha5.own
       have hb5 : Below w1.heap.size w1 w5 := HFA.out v5 _ w5 _ _ (by first | exact ((Below.refl w1.heap.size w1).alloc (Nat.le_refl _) _).drewN 1 | exact ((Below.refl w1.heap.size w1).drewN 1).alloc (Nat.le_refl _) _) ha5
       obtain ⟨uA, uc, rfl, huc⟩ := ho5.sl.form
       obtain ⟨_, _, _, _, _, ⟨y0, y1, y2, y3, y4⟩, ⟨q0, q1, q2, q3, q4⟩, hq5, hp5⟩ := HCS.out w5 hb5
       have hf5 : Fr (fun k => k = qb) w1 w5 := Fr.of_below hb5))
  all_goals
    have HO5 := hide (ho5.lower HBW.out.size)
    have HB5 := hide (HBW.out.trans (hb5.mono HBW.out.size))
    have HQ5 := hide (HQ.out.below hb5 hq)
    have HNE : Hid ((Value.slice uA n uc).ownBlock ≠ some qb) := ho5.ne HQ5.out (by decide)
    clear ho5 hb5 ha5
    have HR9 : Hid (Own (put5 w5 ⟨qb, 0, none⟩ ⟨a, .slice uA n uc, D, f, t, x⟩) w.heap.size bT 1 (.slice uA n uc) n (bys D) ∧
        Blk (put5 w5 ⟨qb, 0, none⟩ ⟨a, .slice uA n uc, D, f, t, x⟩) qb tmT #[.int .i64 a, .slice uA n uc, .int .i64 f, .int .i64 t, .int .i64 x] ∧
        Below w.heap.size w (put5 w5 ⟨qb, 0, none⟩ ⟨a, .slice uA n uc, D, f, t, x⟩)) := by
      unfold put5
      simp only [Nat.zero_add]
      refine ⟨?_, ?_, ?_⟩
      · exact ((((HO5.out.put (p := ⟨qb, 0, none⟩) HNE.out _).put (p := ⟨qb, 1, none⟩) HNE.out _).put (p := ⟨qb, 2, none⟩) HNE.out _).put (p := ⟨qb, 3, none⟩) HNE.out _).put (p := ⟨qb, 4, none⟩) HNE.out _
      · exact ((((HQ5.out.put 0 _).put 1 _).put 2 _).put 3 _).put 4 _
      · exact ((((((Fr.of_below HB5.out : Fr nob w w5).put (p := ⟨qb, 0, none⟩) (.inr HW.out.2) _).put (p := ⟨qb, 1, none⟩) (.inr HW.out.2) _).put (p := ⟨qb, 2, none⟩) (.inr HW.out.2) _).put (p := ⟨qb, 3, none⟩) (.inr HW.out.2) _).put (p := ⟨qb, 4, none⟩) (.inr HW.out.2) _).below (Nat.le_refl _) (fun k _ h => h)
    clear y0 y1 y2 y3 y4 q0 q1 q2 q3 q4 hq5 hp5 hf5 p0 p1 p2 p3 p4 HFA HCS HC5 HE
    go_wp2_with fail
    change bodyPost _ _ _ _ _ (put5 w5 ⟨qb, 0, none⟩ ⟨a, .slice uA n uc, D, f, t, x⟩)
    generalize put5 w5 ⟨qb, 0, none⟩ ⟨a, .slice uA n uc, D, f, t, x⟩ = w9 at *
    have c0 : w9.cell? ⟨qb, 0, none⟩ = some (.int .i64 a) := HR9.out.2.1.cell 0
    have c1 : w9.cell? ⟨qb, 1, none⟩ = some (.slice uA n uc) := HR9.out.2.1.cell 1
    have c2 : w9.cell? ⟨qb, 2, none⟩ = some (.int .i64 f) := HR9.out.2.1.cell 2
    have c3 : w9.cell? ⟨qb, 3, none⟩ = some (.int .i64 t) := HR9.out.2.1.cell 3
    have c4 : w9.cell? ⟨qb, 4, none⟩ = some (.int .i64 x) := HR9.out.2.1.cell 4
    have hres : Try.f10.results = #[.cell 2 tmT] := by kernel_rfl
    refine bodyPost_ret (v := .agg #[.int .i64 a, .slice uA n uc, .int .i64 f, .int .i64 t, .int .i64 x]) ?_ rfl ⟨_, rfl, HR9.out.1, HR9.out.2.2⟩
    simp [results, hres, go_sem, c0, c1, c2, c3, c4]

/-- are they the same timer? -/
def TV.same (x y : TV) : Bool := decide (x.d = y.d)
set_option maxHeartbeats 8000000 in
theorem same_any16 (x y : TV) (B : Nat) (w : World) (hx : KeyIn w B x) (hy : KeyIn w B y) (hB : B ≤ w.heap.size) :
    Calls Try.prog 14 #[.agg x.cells.toArray, .agg y.cells.toArray] w fun e w' => e = .returned (.bool (TV.same x y)) ∧ Below w.heap.size w w' := by
  obtain ⟨A, c, hkx, hc⟩ := hx.sl.form
  obtain ⟨A', c', hky, hc'⟩ := hy.sl.form
  obtain ⟨r, hr⟩ : ∃ r, r = TV.same x y := ⟨_, rfl⟩
  rw [← hr]
  have HX := hide hx
  have HY := hide hy
  have HR : Hid (r = decide (x.a = y.a ∧ x.w = y.w ∧ (x.f = y.f ∧ x.t = y.t) ∧ bytesR x.kb y.kb = 0)) := by
    show _ = _
    rw [hr]
    unfold TV.same
    refine decide_eq_decide.2 ?_
    rw [bytesR_zero]
    obtain ⟨xa, xk, xb, xf, xt, xw⟩ := x
    obtain ⟨ya, yk, yb, yf, yt, yw⟩ := y
    simp only [TV.d, TD.mk.injEq]
    constructor
    · rintro ⟨rfl, rfl, rfl, rfl, rfl⟩; simp
    · rintro ⟨rfl, rfl, ⟨rfl, rfl⟩, rfl⟩; simp
  clear hr hx hy
  obtain ⟨xa, xk, xb, xf, xt, xw⟩ := x
  obtain ⟨ya, yk, yb, yf, yt, yw⟩ := y
  simp only at hkx hky hc hc' HR
  subst hkx hky
  unfold TV.cells
  simp only
  have HP : Hid (Blk ((w.alloc (.cells #[.int .i64 xa, .slice A xb.length c, .int .i64 xf, .int .i64 xt, .int .i64 xw] tmT)).alloc (.cells #[.int .i64 ya, .slice A' yb.length c', .int .i64 yf, .int .i64 yt, .int .i64 yw] rtT)) w.heap.size tmT #[.int .i64 xa, .slice A xb.length c, .int .i64 xf, .int .i64 xt, .int .i64 xw]) := (Blk.new w _ _).alloc _
  have HQ : Hid (Blk ((w.alloc (.cells #[.int .i64 xa, .slice A xb.length c, .int .i64 xf, .int .i64 xt, .int .i64 xw] tmT)).alloc (.cells #[.int .i64 ya, .slice A' yb.length c', .int .i64 yf, .int .i64 yt, .int .i64 yw] rtT)) (w.heap.size + 1) rtT #[.int .i64 ya, .slice A' yb.length c', .int .i64 yf, .int .i64 yt, .int .i64 yw]) := by
    have h9 := Blk.new (w.alloc (.cells #[.int .i64 xa, .slice A xb.length c, .int .i64 xf, .int .i64 xt, .int .i64 xw] tmT)) rtT #[.int .i64 ya, .slice A' yb.length c', .int .i64 yf, .int .i64 yt, .int .i64 yw]
    simpa [Hid] using h9
  have HB1 : Hid (Below w.heap.size w ((w.alloc (.cells #[.int .i64 xa, .slice A xb.length c, .int .i64 xf, .int .i64 xt, .int .i64 xw] tmT)).alloc (.cells #[.int .i64 ya, .slice A' yb.length c', .int .i64 yf, .int .i64 yt, .int .i64 yw] rtT))) := ((Below.refl w.heap.size w).alloc (Nat.le_refl _) _).alloc (by simp) _
  have HXS := hide HX.out.sl
  have HYS := hide HY.out.sl
  have HX8 := hide HX.out.b8
  have HY8 := hide HY.out.b8
  simp only at HXS HYS HX8 HY8
  clear HX HY
  generalize hxl : xb.length = n at *
  generalize hyl : yb.length = m at *
  have HXL := hide hxl
  have HYL := hide hyl
  clear hxl hyl
  go_enter Try.func14, Try.ntmps14
  go_upto_region 1 with fail
  change Code.wp _ _ _ _ ((w.alloc (.cells #[.int .i64 xa, .slice A n c, .int .i64 xf, .int .i64 xt, .int .i64 xw] tmT)).alloc (.cells #[.int .i64 ya, .slice A' m c', .int .i64 yf, .int .i64 yt, .int .i64 yw] rtT))
  generalize ((w.alloc (.cells #[.int .i64 xa, .slice A n c, .int .i64 xf, .int .i64 xt, .int .i64 xw] tmT)).alloc (.cells #[.int .i64 ya, .slice A' m c', .int .i64 yf, .int .i64 yt, .int .i64 yw] rtT)) = w1 at *
  obtain ⟨pb, hpb⟩ : ∃ pb, pb = w.heap.size := ⟨_, rfl⟩
  obtain ⟨qb, hqb⟩ : ∃ qb, qb = w.heap.size + 1 := ⟨_, rfl⟩
  rw [← hqb] at HQ ⊢
  rw [← hpb] at HP ⊢
  clear hpb hqb
  have HXS1 := hide (HXS.out.below (HB1.out.mono hB))
  have HYS1 := hide (HYS.out.below (HB1.out.mono hB))
  have hp := HP.out.lt
  have hq := HQ.out.lt
  have p0 : w1.cell? ⟨pb, 0, none⟩ = some (.int .i64 xa) := HP.out.cell 0
  have p1 : w1.cell? ⟨pb, 1, none⟩ = some (.slice A n c) := HP.out.cell 1
  have p2 : w1.cell? ⟨pb, 2, none⟩ = some (.int .i64 xf) := HP.out.cell 2
  have p3 : w1.cell? ⟨pb, 3, none⟩ = some (.int .i64 xt) := HP.out.cell 3
  have p4 : w1.cell? ⟨pb, 4, none⟩ = some (.int .i64 xw) := HP.out.cell 4
  have q0 : w1.cell? ⟨qb, 0, none⟩ = some (.int .i64 ya) := HQ.out.cell 0
  have q1 : w1.cell? ⟨qb, 1, none⟩ = some (.slice A' m c') := HQ.out.cell 1
  have q2 : w1.cell? ⟨qb, 2, none⟩ = some (.int .i64 yf) := HQ.out.cell 2
  have q3 : w1.cell? ⟨qb, 3, none⟩ = some (.int .i64 yt) := HQ.out.cell 3
  have q4 : w1.cell? ⟨qb, 4, none⟩ = some (.int .i64 yw) := HQ.out.cell 4
  by_cases h1 : xa = ya
  · by_cases h2 : xw = yw
    · by_cases h3 : xf = yf ∧ xt = yt
      · have HG : Hid (r = decide (bytesR xb yb = 0)) := by show _ = _; rw [HR.out]; simp [h1, h2, h3]
        obtain ⟨h4, h5⟩ := h3
        subst h1 h2 h4 h5
        go_wp2_with fail
        refine (rbytes_any _ _ xb yb n m B B _ HXS1.out HYS1.out HXL.out HYL.out HX8.out HY8.out).mono ?_
        rintro e w2 ⟨rfl, j, rfl⟩
        obtain ⟨o, ho⟩ : ∃ o, o = bytesR xb yb := ⟨_, rfl⟩
        rw [← ho]
        rw [← ho] at HG
        clear ho
        go_wp2_with fail
        go_ret
        rw [HG.out]
        exact ⟨by first | rfl | simp, HB1.out.drewN j⟩
      · have HG : Hid (r = false) := by show _ = _; rw [HR.out]; simp only [h3]; simp
        have hne := win_ne xf xt yf yt h3
        have hne2 : ∀ W : World, (binOp .eql rT7 (.agg #[.int .i64 xf, .int .i64 xt]) (.agg #[.int .i64 yf, .int .i64 yt])).run Try.prog W = .ok (.bool false) W := fun W => win_nq xf xt yf yt h3 W
        clear h3
        subst h1 h2
        go_wp2_with fail
        go_ret
        rw [HG.out]
        exact ⟨rfl, HB1.out⟩
    · have HG : Hid (r = false) := by show _ = _; rw [HR.out]; simp only [h2]; simp
      subst h1
      go_wp2_with fail
      go_ret
      rw [HG.out]
      exact ⟨by first | rfl | simp [h2], HB1.out⟩
  · have HG : Hid (r = false) := by show _ = _; rw [HR.out]; simp only [h1]; simp
    go_wp2_with fail
    go_ret
    rw [HG.out]
    exact ⟨by first | rfl | simp [h1], HB1.out⟩

end Go.Proofs.Ytogelnljkdcajaa

namespace Go.Proofs.Ytogelnljkdcajaa
open Go.RowKit Go.Sort
set_option linter.unusedVariables false
set_option linter.unusedSimpArgs false

theorem Own.slB {w : World} {base e sz n B : Nat} {v : Value} {xs : List Value} (h : Own w base e sz v n xs) (hB : ∀ g, v.ownBlock = some g → g < B) : Sl w B v sz n xs := by
  refine ⟨h.1, ?_⟩
  rcases h.2 with ⟨rfl, rfl⟩ | ⟨g, cap, cur, rfl, hb, hg, hc, hm, _⟩
  · exact ⟨none, 0, rfl, by omega, by omega, by omega⟩
  · exact ⟨_, cap, rfl, hc, by unfold maxLen at hm; omega, fun _ => ⟨_, rfl, hB g rfl, fun j u hu => h.cells (g := g) rfl j u hu⟩⟩
theorem Blk.sl1 {w : World} {ab : Nat} {cs : Array Value} (h : Blk w ab tmT cs) (n : Nat) (hn : n ≤ 4611686018427387904) (hs : cs.size = n * 5) : Sl w (ab + 1) (.slice (some ⟨ab, 0, none⟩) n n) 5 n cs.toList := by
  refine ⟨by simpa using hs, _, n, rfl, Nat.le_refl _, by omega, fun _ => ⟨_, rfl, by simp, fun j u hu => ?_⟩⟩
  have h9 := h.cell j
  have e9 : (⟨ab, 0, none⟩ : Addr).add j = ⟨ab, j, none⟩ := by unfold Addr.add; split <;> simp_all
  rw [e9, h9]
  simpa using hu

/-- a heap that a law has made -/
structure HR (w0 w : World) (hb tb mb : Nat) (lv : Value) (L : List TV) : Prop where
  hp : HpS w w0.heap.size hb tb mb lv L
  bl : Below w0.heap.size w0 w
theorem HpS.lows {w : World} {base hb tb mb : Nat} {lv : Value} {L : List TV} (h : HpS w base hb tb mb lv L) : ∀ j, HBk tb mb lv j → base ≤ j := by
  obtain ⟨M, ht, hg⟩ := h.hp.st
  intro j hj
  rcases hj with h9 | h9 | h9
  · rw [h9]; exact ht.bt
  · rw [h9]; exact ht.bm
  · exact (ht.own.lt j h9).1
theorem HR.below {w0 w w' : World} {hb tb mb : Nat} {lv : Value} {L : List TV} (h : HR w0 w hb tb mb lv L) (k : Below w.heap.size w w') : HR w0 w' hb tb mb lv L := ⟨h.hp.below k, h.bl.trans (k.mono h.bl.size)⟩
theorem HR.step {w0 w w' : World} {hb tb mb : Nat} {lv lv' : Value} {L L' : List TV} (h : HR w0 w hb tb mb lv L) (k : HpS w' w0.heap.size hb tb mb lv' L') (hf : Fr (HBk tb mb lv) w w') : HR w0 w' hb tb mb lv' L' :=
  ⟨k, h.bl.trans (hf.below h.bl.size (fun j hj hS => by have := h.hp.lows j hS; omega))⟩
def TD.win (x : TD) : Win := ⟨x.f, x.t⟩
def TD.right (x : TD) : Prop := (0 ≤ x.a ∧ x.a ≤ 4194304) ∧ (0 ≤ x.w ∧ x.w ≤ 9) ∧ x.win.good ∧ x.b.length ≤ 1048576
instance (x : TD) : Decidable x.right := by unfold TD.right; exact inferInstance
theorem TV.right_d (x : TV) : x.d.right ↔ x.right := Iff.rfl

/-- what Set of timers leaves -/
def SetR (w0 w : World) (hb tb mb : Nat) (lv : Value) (L : List TV) (D : List TD) (e : Ending) (w' : World) : Prop :=
  ∃ lv', Fr (HBk tb mb lv) w w' ∧ NewB w lv lv' ∧ (((¬ ∀ x ∈ D, x.right) ∧ e = .returned (.int .i64 160) ∧ HR w0 w' hb tb mb lv' L) ∨
  ((∀ x ∈ D, x.right) ∧ e = .returned (.int .i64 0) ∧ ∃ L', HR w0 w' hb tb mb lv' L' ∧ (L'.map TV.d).Perm (D.foldl setD (L.map TV.d))))
theorem SetPost.r {w0 w w' : World} {hb tb mb : Nat} {lv : Value} {L D : List TV} {e : Ending} (h : SetPost w w0.heap.size hb tb mb lv L D e w') (hh : HR w0 w hb tb mb lv L) : SetR w0 w hb tb mb lv L (D.map TV.d) e w' := by
  rcases h with ⟨hn, he, hb⟩ | ⟨hr, he, lv', L', hp, hpm, hf, hnb, _⟩
  · refine ⟨lv, Fr.of_below hb, fun g hg => .inl hg, .inl ⟨fun h9 => hn (fun x hx => h9 x.d (List.mem_map_of_mem hx)), he, hh.below hb⟩⟩
  · refine ⟨lv', hf, hnb, .inr ⟨fun x hx => ?_, he, L', hh.step hp hf, hpm⟩⟩
    obtain ⟨y, hy, rfl⟩ := List.mem_map.1 hx
    exact hr y hy
/-- a block of another type than the heap's stands -/
theorem HR.keep {w0 w w' : World} {hb tb mb g t : Nat} {lv : Value} {L : List TV} {cs : Array Value} (h : HR w0 w hb tb mb lv L) (hf : Fr (HBk tb mb lv) w w') (hc : Blk w g t cs) (h1 : t ≠ treeT) (h2 : t ≠ tmT) : Blk w' g t cs :=
  hf.blk hc (h.hp.nwr hc h1 (fun e => by obtain ⟨c2, k⟩ := h.hp.typed.2.2.1 g e; exact hc.apart k h2 rfl))
/-- a block of the law's own is written -/
theorem HR.wr {w0 w w' : World} {hb tb mb qb t : Nat} {lv : Value} {L : List TV} {cs : Array Value} (h : HR w0 w hb tb mb lv L) (hq : Blk w qb t cs) (hf : Fr (fun k => k = qb) w w') (h0 : w0.heap.size ≤ qb) (h1 : t ≠ treeT) (h2 : t ≠ bT) (h3 : t ≠ hpT) (h4 : lv.ownBlock ≠ some qb) : HR w0 w' hb tb mb lv L := by
  obtain ⟨⟨c1, k1⟩, k2, k3, k4⟩ := h.hp.typed
  refine ⟨h.hp.fr hf (k4.apart hq (fun e => h3 e.symm)) (k1.apart hq (fun e => h1 e.symm)) (fun e => k2 _ _ _ hq e.symm) (fun g hg e => h4 (by rw [hg, e])) (fun g cs hc e => hc.apart hq (fun e9 => h2 e9.symm) e), h.bl.trans (hf.below h.bl.size (fun k hk e => by omega))⟩
theorem HR.own_ne {w0 w : World} {hb tb mb qb t : Nat} {lv : Value} {L : List TV} {cs : Array Value} (h : HR w0 w hb tb mb lv L) (hq : Blk w qb t cs) (h2 : t ≠ tmT) : lv.ownBlock ≠ some qb := fun e => by
  obtain ⟨c2, k⟩ := h.hp.typed.2.2.1 _ e
  exact hq.apart k h2 rfl
theorem setD_len (l : List TD) (x : TD) : (setD l x).length ≤ l.length + 1 := by
  unfold setD
  rw [List.length_append]
  have := List.length_filter_le (fun y => decide (y.nm ≠ x.nm)) l
  simp only [List.length_cons, List.length_nil]
  omega
theorem sets_len (D l : List TD) : (D.foldl setD l).length ≤ l.length + D.length := by
  induction D generalizing l with
  | nil => simp
  | cons x D ih =>
    have h1 := ih (setD l x)
    have h2 := setD_len l x
    rw [List.foldl_cons, List.length_cons]
    omega
/-- whether they were right or not -/
theorem SetR.both {w0 w w' : World} {hb tb mb : Nat} {lv : Value} {L : List TV} {D : List TD} {e : Ending} (h : SetR w0 w hb tb mb lv L D e w') : ∃ (z : Int) (lv' : Value) (L' : List TV), e = .returned (.int .i64 z) ∧ HR w0 w' hb tb mb lv' L' ∧ L'.length ≤ L.length + D.length ∧ Fr (HBk tb mb lv) w w' ∧ NewB w lv lv' := by
  obtain ⟨lv', hf, hn, ⟨_, he, hh⟩ | ⟨_, he, L', hh, hp⟩⟩ := h
  · exact ⟨_, lv', L, he, hh, by omega, hf, hn⟩
  · refine ⟨_, lv', L', he, hh, ?_, hf, hn⟩
    have h1 := hp.length_eq
    have h2 := sets_len D (L.map TV.d)
    simp only [List.length_map] at h1 h2
    omega
/-- Set of timers that lie in an array of the law's own -/
theorem hset_arr (w0 w : World) (hb tb mb ab n c : Nat) (lv : Value) (L D : List TV) (h : HR w0 w hb tb mb lv L) (hs : ∀ X, Fr (HBk tb mb lv) w X → Sl X w.heap.size (.slice (some ⟨ab, 0, none⟩) n c) 5 n (tms D)) (hD : D.length = n)
    (hk : ∀ x ∈ D, ∃ b, Own w b bT 1 x.kv x.kb.length (bys x.kb) ∧ Bytes8 x.kb) (hL : L.length + n < 100000) :
    Calls Try.prog 9 #[.pointer (some ⟨hb, 0, none⟩), .slice (some ⟨ab, 0, none⟩) n c] w (SetR w0 w hb tb mb lv L (D.map TV.d)) := by
  refine (hset_any w w0.heap.size hb tb mb lv L (some ⟨ab, 0, none⟩) c n w.heap.size D h.hp hD (Nat.le_refl _) (fun X hX => ⟨hs X hX, fun x hx => ?_⟩) h.bl.size hL).mono (fun e w' hp => hp.r h)
  obtain ⟨b, ho, h8⟩ := hk x hx
  exact ⟨(ho.fr hX (fun g hg => by obtain ⟨cs, hc⟩ := ho.typed g hg; exact h.hp.bnw g cs hc)).slB (fun g hg => (ho.lt g hg).2), h8⟩
/-- Set of one timer, made by out -/
theorem hset_out (w0 w w1 : World) (hb tb mb n : Nat) (lv u : Value) (L : List TV) (D : List Int) (a f t x : Int) (h : HR w0 w hb tb mb lv L) (ho : Own w1 w.heap.size bT 1 u n (bys D)) (hb1 : Below w.heap.size w w1) (hD : D.length = n) (h8 : Bytes8 D) (hL : L.length + 1 < 100000) :
    Calls Try.prog 9 #[.pointer (some ⟨hb, 0, none⟩), .slice (some ⟨w1.heap.size, 0, none⟩) 1 1] (w1.alloc (.cells #[.int .i64 a, u, .int .i64 f, .int .i64 t, .int .i64 x] tmT)) (SetR w0 (w1.alloc (.cells #[.int .i64 a, u, .int .i64 f, .int .i64 t, .int .i64 x] tmT)) hb tb mb lv L [⟨a, D, f, t, x⟩]) := by
  have h1 := (h.below hb1).below ((Below.refl w1.heap.size w1).alloc (Nat.le_refl _) (.cells #[.int .i64 a, u, .int .i64 f, .int .i64 t, .int .i64 x] tmT))
  have hk := Blk.new w1 tmT #[.int .i64 a, u, .int .i64 f, .int .i64 t, .int .i64 x]
  have hne : lv.ownBlock ≠ some w1.heap.size := fun e => by
    have := (h.below hb1).hp.lts _ (.inr (.inr e))
    omega
  refine hset_arr w0 _ hb tb mb w1.heap.size 1 1 lv L [⟨a, u, D, f, t, x⟩] h1 (fun X hX => ?_) rfl (fun y hy => ?_) hL
  · have h9 := hX.blk hk (h1.hp.nwr hk (by decide) hne)
    have h8 := h9.sl1 1 (by omega) rfl
    rw [World.size_alloc]
    exact h8
  · simp only [List.mem_singleton] at hy
    subst hy
    subst hD
    exact ⟨_, ho.alloc _, h8⟩

/-- what Cancel leaves -/
def CanR (w0 w : World) (hb tb mb : Nat) (lv : Value) (L : List TV) (a : Nm) (e : Ending) (w' : World) : Prop :=
  ∃ lv', Fr (HBk tb mb lv) w w' ∧ NewB w lv lv' ∧ ((a ∉ L.map TV.nm ∧ e = .returned (.tuple #[.agg #[.int .i64 0, .slice none 0 0, .int .i64 0, .int .i64 0, .int .i64 0], .bool false]) ∧ HR w0 w' hb tb mb lv' L) ∨
  (∃ x L', x ∈ L ∧ x.nm = a ∧ e = .returned (.tuple #[.agg x.cells.toArray, .bool true]) ∧ HR w0 w' hb tb mb lv' L' ∧ KeyO w' w0.heap.size x ∧ L.Perm (L' ++ [x])))
theorem hcan_out (w0 w w1 : World) (hb tb mb n : Nat) (lv : Value) (uA : Option Addr) (uc : Nat) (L : List TV) (D : List Int) (f t x : Int) (h : HR w0 w hb tb mb lv L) (ho : Sl w1 w1.heap.size (.slice uA n uc) 1 n (bys D)) (hb1 : Below w.heap.size w w1) (hD : D.length = n) :
    Calls Try.prog 13 #[.pointer (some ⟨hb, 0, none⟩), .agg #[.slice uA n uc, .int .i64 f, .int .i64 t], .int .i64 x] w1 (CanR w0 w1 hb tb mb lv L ⟨strOfNums D, f, t, x⟩) := by
  subst hD
  have h1 := h.below hb1
  refine (cancel_any w1 w0.heap.size hb tb mb lv L uA uc w1.heap.size D f t x h1.hp ho (Nat.le_refl _)).mono ?_
  rintro e w' (⟨hn, he, hb2⟩ | ⟨y, lv', L', hy, hnm, he, hp, hk, hpm, hf, hnb⟩)
  · exact ⟨lv, Fr.of_below hb2, fun g hg => .inl hg, .inl ⟨hn, he, h1.below hb2⟩⟩
  · exact ⟨lv', hf, hnb, .inr ⟨y, L', hy, hnm, he, h1.step hp hf, hk, hpm⟩⟩

/-- the names of a heap's timers are distinct -/
theorem HR.nd {w0 w : World} {hb tb mb : Nat} {lv : Value} {L : List TV} (h : HR w0 w hb tb mb lv L) : (L.map TV.nm).Nodup := by
  obtain ⟨M, _, hg⟩ := h.hp.hp.st
  exact hg.nd

set_option maxRecDepth 100000 in
set_option maxHeartbeats 4000000 in
theorem awake16 (w : World) : Calls Try.prog 8 #[] w fun e w' => e = .returned (.bool true) ∧ Below w.heap.size w w' := by
  go_enter Try.func8, Try.ntmps8
  go_wp2_with fail
  refine (new_any w w.heap.size (Nat.le_refl _)).mono ?_
  rintro e w1 ⟨hb, tb, mb, lv, rfl, hp, hbl⟩
  have H1 : Hid (HR w w1 hb tb mb lv []) := ⟨hp, hbl⟩
  clear hp hbl
  go_wp2_with fail
  have HS : Hid (Calls Try.prog 9 #[.pointer (some ⟨hb, 0, none⟩), .slice (some ⟨w1.heap.size + 1, 0, none⟩) 2 2] ((w1.alloc (.cells #[.slice none 0 0, .int .i64 0, .int .i64 5] keyT)).alloc (.cells #[.int .i64 5, .slice none 0 0, .int .i64 0, .int .i64 5, .int .i64 0, .int .i64 3, .slice none 0 0, .int .i64 0, .int .i64 5, .int .i64 1] tmT))
      (SetR w ((w1.alloc (.cells #[.slice none 0 0, .int .i64 0, .int .i64 5] keyT)).alloc (.cells #[.int .i64 5, .slice none 0 0, .int .i64 0, .int .i64 5, .int .i64 0, .int .i64 3, .slice none 0 0, .int .i64 0, .int .i64 5, .int .i64 1] tmT)) hb tb mb lv [] [⟨5, [], 0, 5, 0⟩, ⟨3, [], 0, 5, 1⟩])) := by
    have hB : Below w1.heap.size w1 ((w1.alloc (.cells #[.slice none 0 0, .int .i64 0, .int .i64 5] keyT)).alloc (.cells #[.int .i64 5, .slice none 0 0, .int .i64 0, .int .i64 5, .int .i64 0, .int .i64 3, .slice none 0 0, .int .i64 0, .int .i64 5, .int .i64 1] tmT)) := ((Below.refl w1.heap.size w1).alloc (Nat.le_refl _) _).alloc (by simp) _
    have hk : Blk ((w1.alloc (.cells #[.slice none 0 0, .int .i64 0, .int .i64 5] keyT)).alloc (.cells #[.int .i64 5, .slice none 0 0, .int .i64 0, .int .i64 5, .int .i64 0, .int .i64 3, .slice none 0 0, .int .i64 0, .int .i64 5, .int .i64 1] tmT)) (w1.heap.size + 1) tmT #[.int .i64 5, .slice none 0 0, .int .i64 0, .int .i64 5, .int .i64 0, .int .i64 3, .slice none 0 0, .int .i64 0, .int .i64 5, .int .i64 1] := by
      have h9 := Blk.new (w1.alloc (.cells #[.slice none 0 0, .int .i64 0, .int .i64 5] keyT)) tmT #[.int .i64 5, .slice none 0 0, .int .i64 0, .int .i64 5, .int .i64 0, .int .i64 3, .slice none 0 0, .int .i64 0, .int .i64 5, .int .i64 1]
      simpa using h9
    have h1 := H1.out.below hB
    have hne : lv.ownBlock ≠ some (w1.heap.size + 1) := fun e => by
      have := H1.out.hp.lts _ (.inr (.inr e))
      omega
    refine hset_arr w _ hb tb mb (w1.heap.size + 1) 2 2 lv [] [⟨5, .slice none 0 0, [], 0, 5, 0⟩, ⟨3, .slice none 0 0, [], 0, 5, 1⟩] h1 (fun X hX => ?_) rfl (fun y hy => ?_) (by simp)
    · have h9 := hX.blk hk (h1.hp.nwr hk (by decide) hne)
      have h8 := h9.sl1 2 (by omega) rfl
      simp only [World.size_alloc]
      exact h8
    · simp only [List.mem_cons, List.not_mem_nil, or_false] at hy
      rcases hy with rfl | rfl
      · exact ⟨0, Own.nil _ _ _ _, fun c hc => by cases hc⟩
      · exact ⟨0, Own.nil _ _ _ _, fun c hc => by cases hc⟩
  refine HS.out.mono ?_
  clear HS
  rintro e w2 ⟨lv2, _, _, ⟨hn, _, _⟩ | ⟨_, rfl, L2, h2, hpm⟩⟩
  · exfalso
    refine hn (fun x hx => ?_)
    simp only [List.mem_cons, List.not_mem_nil, or_false] at hx
    rcases hx with rfl | rfl
    · exact ⟨by decide, by decide, by decide, by decide⟩
    · exact ⟨by decide, by decide, by decide, by decide⟩
  have HPM : Hid ((L2.map TV.d).Perm [⟨5, [], 0, 5, 0⟩, ⟨3, [], 0, 5, 1⟩]) := by
    have e9 : ([⟨5, [], 0, 5, 0⟩, ⟨3, [], 0, 5, 1⟩] : List TD).foldl setD ([].map TV.d) = [⟨5, [], 0, 5, 0⟩, ⟨3, [], 0, 5, 1⟩] := by
      simp [setD, TD.nm]
    rw [e9] at hpm
    exact hpm
  have HL2 : Hid (L2.length = 2) := by
    have h9 := HPM.out.length_eq
    show L2.length = 2
    simpa using h9
  have HN : Hid (L2 ≠ [] ∧ (gt L2 0).a = 3) := by
    have h0 : 0 < L2.length := by rw [HL2.out]; omega
    refine ⟨fun e => by rw [e] at h0; simp at h0, ?_⟩
    have hm : (gt L2 0).d ∈ L2.map TV.d := List.mem_map_of_mem (by rw [gt_of h0]; exact List.getElem_mem h0)
    have h3 : (⟨3, [], 0, 5, 1⟩ : TD) ∈ L2.map TV.d := HPM.out.mem_iff.2 (by simp)
    obtain ⟨y, hy, hyd⟩ := List.mem_map.1 h3
    obtain ⟨i, hi, rfl⟩ := List.getElem_of_mem hy
    have hle := leT_a (h2.hp.hp.hp.min i hi)
    have hya : L2[i].a = 3 := congrArg TD.a hyd
    rw [gt_of hi, hya] at hle
    have hc := HPM.out.mem_iff.1 hm
    simp only [List.mem_cons, List.not_mem_nil, or_false] at hc
    have ha : (gt L2 0).d.a = (gt L2 0).a := rfl
    rcases hc with h9 | h9
    · rw [h9] at ha; simp at ha; omega
    · rw [h9] at ha; simp at ha; omega
  have H2 := hide h2
  clear h2 hpm
  go_wp2_with fail
  refine (hnext_any w2 _ hb tb mb lv2 L2 H2.out.hp).mono ?_
  rintro e w3 ⟨hb3, ⟨h9, _⟩ | ⟨_, u, rfl, ho3⟩⟩
  · exact absurd h9 HN.out.1
  obtain ⟨uA, uc, rfl, huc⟩ := ho3.sl.form
  rw [HN.out.2]
  have H3 := hide (H2.out.below hb3)
  clear hb3 ho3
  generalize gt L2 0 = y at *
  generalize y.kb.length = yn at *
  have HA : Hid (∀ cs, HR w (w3.alloc (.cells cs tmT)) hb tb mb lv2 L2) := fun cs => H3.out.below ((Below.refl _ _).alloc (Nat.le_refl _) _)
  go_wp2_with fail
  refine (hlen_any _ _ hb tb mb lv2 L2 (HA.out _).hp).mono ?_
  rintro e w4 ⟨rfl, rfl⟩
  rw [HL2.out]
  go_wp2_with fail
  go_ret
  exact ⟨rfl, (HA.out _).bl⟩

end Go.Proofs.Ytogelnljkdcajaa

namespace Go.Proofs.Ytogelnljkdcajaa
open Go.RowKit Go.Sort
set_option linter.unusedVariables false
set_option linter.unusedSimpArgs false

/-- a timer as an argument -/
def TmQ (w : World) (x : TV) : Prop := KeyIn w w.heap.size x ∧ x.kb.length ≤ 140737488355328
/-- blocks of other types than the heap's stand -/
def Kp (w w' : World) : Prop := ∀ g t cs, t ≠ treeT → t ≠ tmT → Blk w g t cs → Blk w' g t cs
theorem Kp.refl (w : World) : Kp w w := fun _ _ _ _ _ h => h
theorem Kp.trans {w w1 w2 : World} (h : Kp w w1) (k : Kp w1 w2) : Kp w w2 := fun g t cs h1 h2 hb => k g t cs h1 h2 (h g t cs h1 h2 hb)
theorem Kp.below {w w' : World} (h : Below w.heap.size w w') : Kp w w' := fun g t cs _ _ hb => hb.below h hb.lt
theorem HR.kp {w0 w w' : World} {hb tb mb : Nat} {lv : Value} {L : List TV} (h : HR w0 w hb tb mb lv L) (hf : Fr (HBk tb mb lv) w w') : Kp w w' := fun g t cs h1 h2 hb => h.keep hf hb h1 h2
theorem Kp.put {w : World} {nb : Nat} {cs : Array Value} (h : Blk w nb tmT cs) (z : TV) : Kp w (put5 w ⟨nb, 0, none⟩ z) := fun g t ds h1 h2 hb =>
  (put5_fr (S := fun j => j = nb) (p := ⟨nb, 0, none⟩) (Fr.refl _ w) rfl z).blk hb (hb.apart h h2)

/-- a heap, and a timer that it had -/
structure Aim (w0 wx : World) (hb tb mb : Nat) (lv : Value) (L : List TV) (z : TV) : Prop where
  hr : HR w0 wx hb tb mb lv L
  key : KeyO wx w0.heap.size z
theorem Aim.below {w0 wx wy : World} {hb tb mb : Nat} {lv : Value} {L : List TV} {z : TV} (h : Aim w0 wx hb tb mb lv L z) (k : Below wx.heap.size wx wy) : Aim w0 wy hb tb mb lv L z := ⟨h.hr.below k, h.key.1.below k, h.key.2⟩
theorem Aim.alloc {w0 wx : World} {hb tb mb : Nat} {lv : Value} {L : List TV} {z : TV} (h : Aim w0 wx hb tb mb lv L z) :
    Aim w0 (wx.alloc (.cells z.cells.toArray tmT)) hb tb mb lv L z ∧ Blk (wx.alloc (.cells z.cells.toArray tmT)) wx.heap.size tmT z.cells.toArray ∧ Kp wx (wx.alloc (.cells z.cells.toArray tmT)) :=
  ⟨h.below ((Below.refl _ _).alloc (Nat.le_refl _) _), Blk.new wx _ _, Kp.below ((Below.refl _ _).alloc (Nat.le_refl _) _)⟩
def zero5 : Array Value := #[.int .i64 0, .slice none 0 0, .int .i64 0, .int .i64 0, .int .i64 0]
theorem Aim.put {w0 wx : World} {hb tb mb nb : Nat} {lv : Value} {L : List TV} {z : TV} (h : Aim w0 wx hb tb mb lv L z) (hn : Blk wx nb tmT zero5) (h0 : w0.heap.size ≤ nb) (hl : lv.ownBlock ≠ some nb) :
    Aim w0 (put5 wx ⟨nb, 0, none⟩ z) hb tb mb lv L z ∧ Blk (put5 wx ⟨nb, 0, none⟩ z) nb tmT z.cells.toArray ∧ Kp wx (put5 wx ⟨nb, 0, none⟩ z) := by
  have hf : Fr (fun j => j = nb) wx (put5 wx ⟨nb, 0, none⟩ z) := put5_fr (S := fun j => j = nb) (p := ⟨nb, 0, none⟩) (Fr.refl _ wx) rfl z
  refine ⟨⟨h.hr.wr hn hf h0 (by decide) (by decide) (by decide) hl, h.key.fr hf (fun g cs hc => hc.apart hn (by decide))⟩, ?_, Kp.put hn z⟩
  unfold put5
  simp only [Nat.zero_add]
  exact ((((hn.put 0 _).put 1 _).put 2 _).put 3 _).put 4 _

/-- behind Cancel, as a law calls it -/
structure CanQ (w0 W X w' : World) (hb tb mb : Nat) (lv lv' : Value) (L L' : List TV) (z : TV) (ok : Bool) (a : Nm) : Prop where
  aim : Aim w0 w' hb tb mb lv' L' z
  kp : Kp W w'
  old : ∀ nb cs, Blk X nb tmT cs → lv.ownBlock ≠ some nb → Blk w' nb tmT cs ∧ lv'.ownBlock ≠ some nb
  sz : W.heap.size ≤ X.heap.size ∧ X.heap.size ≤ w'.heap.size
  lo : w0.heap.size ≤ W.heap.size ∧ ∀ nb, W.heap.size ≤ nb → lv.ownBlock ≠ some nb
  res : (ok = true ∧ z ∈ L ∧ z.nm = a ∧ L.Perm (L' ++ [z])) ∨ (ok = false ∧ z = tz ∧ a ∉ L.map TV.nm ∧ L' = L)
/-- the timer lies in a variable -/
structure CanF (w0 W w' : World) (hb tb mb nb : Nat) (lv' : Value) (L L' : List TV) (z : TV) (ok : Bool) (a : Nm) : Prop where
  aim : Aim w0 w' hb tb mb lv' L' z
  blk : Blk w' nb tmT z.cells.toArray
  kp : Kp W w'
  res : (ok = true ∧ z ∈ L ∧ z.nm = a ∧ L.Perm (L' ++ [z])) ∨ (ok = false ∧ z = tz ∧ a ∉ L.map TV.nm ∧ L' = L)
theorem CanQ.fin_alloc {w0 W X w' : World} {hb tb mb : Nat} {lv lv' : Value} {L L' : List TV} {z : TV} {ok : Bool} {a : Nm} (h : CanQ w0 W X w' hb tb mb lv lv' L L' z ok a) : CanF w0 W (w'.alloc (.cells z.cells.toArray tmT)) hb tb mb w'.heap.size lv' L L' z ok a :=
  ⟨h.aim.alloc.1, h.aim.alloc.2.1, h.kp.trans h.aim.alloc.2.2, h.res⟩
theorem CanQ.fin_put {w0 W X w' : World} {hb tb mb nb : Nat} {lv lv' : Value} {L L' : List TV} {z : TV} {ok : Bool} {a : Nm} (h : CanQ w0 W X w' hb tb mb lv lv' L L' z ok a) (hn : Blk X nb tmT zero5) (h1 : W.heap.size ≤ nb) : CanF w0 W (put5 w' ⟨nb, 0, none⟩ z) hb tb mb nb lv' L L' z ok a := by
  obtain ⟨k1, k2⟩ := h.old nb _ hn (h.lo.2 nb h1)
  obtain ⟨a1, a2, a3⟩ := h.aim.put k1 (Nat.le_trans h.lo.1 h1) k2
  exact ⟨a1, a2, h.kp.trans a3, h.res⟩
theorem can_of {L L' : List TV} {l : List TD} {z : TV} {y : TD} {ok : Bool} (h : (L.map TV.d).Perm (setD l y)) (hnd : (L.map TV.nm).Nodup) (res : (ok = true ∧ z ∈ L ∧ z.nm = y.nm ∧ L.Perm (L' ++ [z])) ∨ (ok = false ∧ z = tz ∧ y.nm ∉ L.map TV.nm ∧ L' = L)) :
    ok = true ∧ z.d = y ∧ L.length = L'.length + 1 ∧ y.nm ∉ L'.map TV.nm := by
  rcases res with ⟨h1, h2, h3, h4⟩ | ⟨h1, h2, h3, h4⟩
  · refine ⟨h1, ?_, ?_, ?_⟩
    · have hm := h.mem_iff.1 (List.mem_map_of_mem (f := TV.d) h2)
      unfold setD at hm
      rcases List.mem_append.1 hm with h9 | h9
      · have h8 := of_decide_eq_true (List.mem_filter.1 h9).2
        exact absurd h3 h8
      · exact List.mem_singleton.1 h9
    · have := h4.length_eq
      simpa using this
    · have hn2 : ((L' ++ [z]).map TV.nm).Nodup := (h4.map TV.nm).nodup_iff.1 hnd
      rw [List.map_append, List.nodup_append] at hn2
      intro hm
      rw [← h3] at hm
      exact hn2.2.2 _ hm z.nm (by simp) rfl
  · exfalso
    refine h3 ?_
    have hm : y ∈ L.map TV.d := h.mem_iff.2 (by unfold setD; simp)
    obtain ⟨v, hv, hd⟩ := List.mem_map.1 hm
    rw [← hd, TV.d_nm]
    exact List.mem_map_of_mem hv
theorem hout_q (a f t x : Int) (A : Option Addr) (c : Nat) (D : List Int) (n B : Nat) (W X : World) (hs : Sl W B (.slice A n c) 1 n (bys D)) (hD : D.length = n) (hn : n ≤ 140737488355328) (hB : B ≤ W.heap.size) (hX : Below W.heap.size W X) :
    Calls Try.prog 10 #[.agg #[.int .i64 a, .slice A n c, .int .i64 f, .int .i64 t, .int .i64 x]] X fun e w' => ∃ uA uc, e = .returned (.agg #[.int .i64 a, .slice uA n uc, .int .i64 f, .int .i64 t, .int .i64 x]) ∧ Below W.heap.size W w' ∧ Sl w' w'.heap.size (.slice uA n uc) 1 n (bys D) ∧ (∀ nb t cs, Blk X nb t cs → Blk w' nb t cs) := by
  refine (out_any a f t x (.slice A n c) D n B X (hs.below (hX.mono hB)) hD hn (Nat.le_trans hB hX.size)).mono ?_
  rintro e w' ⟨u, rfl, ho, hb⟩
  obtain ⟨uA, uc, rfl, _⟩ := ho.sl.form
  exact ⟨uA, uc, rfl, hX.trans (hb.mono hX.size), ho.sl, fun nb t cs hc => hc.below hb hc.lt⟩
theorem hcan_q (w0 W X : World) (hb tb mb n : Nat) (lv : Value) (uA : Option Addr) (uc : Nat) (L : List TV) (D : List Int) (f t x : Int) (h : HR w0 W hb tb mb lv L) (hX : Below W.heap.size W X) (hs : Sl X X.heap.size (.slice uA n uc) 1 n (bys D)) (hD : D.length = n) :
    Calls Try.prog 13 #[.pointer (some ⟨hb, 0, none⟩), .agg #[.slice uA n uc, .int .i64 f, .int .i64 t], .int .i64 x] X fun e w' =>
      ∃ za zA zn zc zb zf zt zw ok lv' L', e = .returned (.tuple #[.agg #[.int .i64 za, .slice zA zn zc, .int .i64 zf, .int .i64 zt, .int .i64 zw], .bool ok]) ∧ CanQ w0 W X w' hb tb mb lv lv' L L' ⟨za, .slice zA zn zc, zb, zf, zt, zw⟩ ok ⟨strOfNums D, f, t, x⟩ := by
  have hlo : w0.heap.size ≤ W.heap.size ∧ ∀ nb, W.heap.size ≤ nb → lv.ownBlock ≠ some nb := ⟨h.bl.size, fun nb h9 e => by have := h.hp.lts nb (.inr (.inr e)); omega⟩
  have hx := h.below hX
  refine (hcan_out w0 W X hb tb mb n lv uA uc L D f t x h hs hX hD).mono ?_
  rintro e w' ⟨lv', hf, hn, hc⟩
  have hold : ∀ nb cs, Blk X nb tmT cs → lv.ownBlock ≠ some nb → Blk w' nb tmT cs ∧ lv'.ownBlock ≠ some nb := by
    intro nb cs hb9 h9
    refine ⟨hf.blk hb9 (hx.hp.nwr hb9 (by decide) h9), fun e9 => ?_⟩
    rcases hn nb e9 with h8 | h8
    · exact h9 h8
    · have := hb9.lt; omega
  have hkp : Kp W w' := (Kp.below hX).trans (hx.kp hf)
  rcases hc with ⟨h1, h2, h3⟩ | ⟨z, L', h1, h2, h3, h4, h5, h6⟩
  · exact ⟨0, none, 0, 0, [], 0, 0, 0, false, lv', L, h2, ⟨h3, Own.nil _ _ _ _, fun c hc => (by cases hc), by simp⟩, hkp, hold, ⟨hX.size, hf.size⟩, hlo, .inr ⟨rfl, rfl, h1, rfl⟩⟩
  · obtain ⟨zA, zc, hz, _⟩ := h5.1.sl.form
    obtain ⟨za, zk, zb, zf, zt, zw⟩ := z
    simp only at hz
    subst hz
    exact ⟨za, zA, zb.length, zc, zb, zf, zt, zw, true, lv', L', h3, ⟨h4, h5⟩, hkp, hold, ⟨hX.size, hf.size⟩, hlo, .inl ⟨rfl, h1, h2, h6⟩⟩

end Go.Proofs.Ytogelnljkdcajaa
