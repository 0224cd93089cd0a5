/- The reference of layer 16: cell, One, Less, Right. -/
import Derived.Test.YtogelnljkdcajaaRef15b
import Derived.Test.YtogelnljkdcajaaHp7
namespace Go.Proofs.Ytogelnljkdcajaa
open Go.RowKit Go.Sort
set_option linter.unusedVariables false
set_option linter.unusedSimpArgs false

abbrev rtT : Nat := 26
theorem tyRT : SlTy Try.prog 27 rtT 5 56 (.agg #[.int .i64 0, .slice none 0 0, .int .i64 0, .int .i64 0, .int .i64 0]) := ⟨Try.underlying27, info_parts (by kernel_rfl), rfl, by omega⟩

set_option maxHeartbeats 4000000 in
theorem rcell_any (a f t x : Int) (A : Option Addr) (n c : Nat) (w : World) :
    Calls Try.prog 31 #[.agg #[.int .i64 a, .slice A n c, .int .i64 f, .int .i64 t, .int .i64 x]] w fun e w' => e = .returned (rcV (.slice A n c) f t (.slice none 0 0) 0 0 0 0 false false) ∧ Below w.heap.size w w' := by
  go_enter Try.func31, Try.ntmps31
  go_wp2_with fail
  have hB1 : Below w.heap.size w ((w.alloc (.cells #[.int .i64 a, .slice A n c, .int .i64 f, .int .i64 t, .int .i64 x] rtT)).alloc (.cells #[.slice A n c, .int .i64 f, .int .i64 t, .slice none 0 0, .int .i64 0, .int .i64 0, .int .i64 0, .int .i64 0, .bool false, .bool false] rcT)) := ((Below.refl w.heap.size w).alloc (Nat.le_refl _) _).alloc (by simp) _
  have hK : Blk ((w.alloc (.cells #[.int .i64 a, .slice A n c, .int .i64 f, .int .i64 t, .int .i64 x] rtT)).alloc (.cells #[.slice A n c, .int .i64 f, .int .i64 t, .slice none 0 0, .int .i64 0, .int .i64 0, .int .i64 0, .int .i64 0, .bool false, .bool false] rcT)) (w.heap.size + 1) rcT #[.slice A n c, .int .i64 f, .int .i64 t, .slice none 0 0, .int .i64 0, .int .i64 0, .int .i64 0, .int .i64 0, .bool false, .bool false] := by
    have h9 := Blk.new (w.alloc (.cells #[.int .i64 a, .slice A n c, .int .i64 f, .int .i64 t, .int .i64 x] rtT)) rcT #[.slice A n c, .int .i64 f, .int .i64 t, .slice none 0 0, .int .i64 0, .int .i64 0, .int .i64 0, .int .i64 0, .bool false, .bool false]
    simpa using h9
  change bodyPost _ _ _ _ _ ((w.alloc (.cells #[.int .i64 a, .slice A n c, .int .i64 f, .int .i64 t, .int .i64 x] rtT)).alloc (.cells #[.slice A n c, .int .i64 f, .int .i64 t, .slice none 0 0, .int .i64 0, .int .i64 0, .int .i64 0, .int .i64 0, .bool false, .bool false] rcT))
  generalize ((w.alloc (.cells #[.int .i64 a, .slice A n c, .int .i64 f, .int .i64 t, .int .i64 x] rtT)).alloc (.cells #[.slice A n c, .int .i64 f, .int .i64 t, .slice none 0 0, .int .i64 0, .int .i64 0, .int .i64 0, .int .i64 0, .bool false, .bool false] rcT)) = w5 at *
  have c0 : w5.cell? ⟨w.heap.size + 1, 0, none⟩ = some (.slice A n c) := hK.cell 0
  have c1 : w5.cell? ⟨w.heap.size + 1, 1, none⟩ = some (.int .i64 f) := hK.cell 1
  have c2 : w5.cell? ⟨w.heap.size + 1, 2, none⟩ = some (.int .i64 t) := hK.cell 2
  have c3 : w5.cell? ⟨w.heap.size + 1, 3, none⟩ = some (.slice none 0 0) := hK.cell 3
  have c4 : w5.cell? ⟨w.heap.size + 1, 4, none⟩ = some (.int .i64 0) := hK.cell 4
  have c5 : w5.cell? ⟨w.heap.size + 1, 5, none⟩ = some (.int .i64 0) := hK.cell 5
  have c6 : w5.cell? ⟨w.heap.size + 1, 6, none⟩ = some (.int .i64 0) := hK.cell 6
  have c7 : w5.cell? ⟨w.heap.size + 1, 7, none⟩ = some (.int .i64 0) := hK.cell 7
  have c8 : w5.cell? ⟨w.heap.size + 1, 8, none⟩ = some (.bool false) := hK.cell 8
  have c9 : w5.cell? ⟨w.heap.size + 1, 9, none⟩ = some (.bool false) := hK.cell 9
  have hres : Try.f31.results = #[.cell 2 rcT] := by kernel_rfl
  refine bodyPost_ret (v := rcV (.slice A n c) f t (.slice none 0 0) 0 0 0 0 false false) ?_ rfl ⟨rfl, hB1⟩
  simp [results, hres, go_sem, c0, c1, c2, c3, c4, c5, c6, c7, c8, c9, rcV]

theorem ordC_zero (x y : Win) (D E : List Int) : ordC x y D E = 0 ↔ x = y ∧ D = E := by
  unfold ordC
  by_cases h : x = y
  · rw [if_pos h, bytesR_zero]; simp [h]
  · rw [if_neg h]
    constructor
    · intro h9; split at h9 <;> omega
    · rintro ⟨h9, _⟩; exact absurd h9 h
theorem ordI_zero (x y : Win) : ordI x y = 0 ↔ x = y := by
  obtain ⟨f, t⟩ := x
  obtain ⟨f', t'⟩ := y
  have h1 := cmpI_zero t t'
  have h2 := cmpI_zero f f'
  unfold ordI orI
  simp only [Win.mk.injEq]
  constructor
  · intro h; split at h
    · rename_i h9; exact ⟨h2.1 h, h1.1 h9⟩
    · rename_i h9; exact absurd h h9
  · rintro ⟨rfl, rfl⟩
    rw [if_pos (h1.2 rfl)]; exact h2.2 rfl
theorem ordC_neg (x y : Win) (D E : List Int) : ordC x y D E < 0 ↔ orI (ordI x y) (cmpB D E) < 0 := by
  unfold ordC
  by_cases h : x = y
  · rw [if_pos h, or_z ((ordI_zero x y).2 h)]
    exact (bytesR_sign D E).1
  · rw [if_neg h, or_n (fun h9 => h ((ordI_zero x y).1 h9)), ordI_neg]
    split
    · rename_i h9; simp [h9]
    · rename_i h9; simp [h9]
/-- has it the same key? -/
def oneK (x y : TV) : Bool := decide (x.win = y.win ∧ x.kb = y.kb)
theorem ltT_ref (x y : TV) : ltT x y = if x.a = y.a then (if ordC x.win y.win x.kb y.kb = 0 then decide (x.w < y.w) else decide (ordC x.win y.win x.kb y.kb < 0)) else decide (x.a < y.a) := by
  unfold ltT
  rw [ordT_eq]
  unfold ordL
  by_cases h1 : x.a = y.a
  · rw [if_pos h1, or_z ((cmpI_zero _ _).2 h1)]
    by_cases h2 : ordC x.win y.win x.kb y.kb = 0
    · rw [if_pos h2]
      obtain ⟨h3, h4⟩ := (ordC_zero _ _ _ _).1 h2
      rw [or_z ((ordI_zero _ _).2 h3), or_z ((cmpB_zero _ _).2 h4)]
      exact decide_eq_decide.2 (cmpI_neg _ _)
    · rw [if_neg h2]
      refine decide_eq_decide.2 ?_
      rw [ordC_neg]
      have h3 := ordC_zero x.win y.win x.kb y.kb
      by_cases h5 : ordI x.win y.win = 0
      · rw [or_z h5, or_z h5]
        have h6 : cmpB x.kb y.kb ≠ 0 := fun h9 => h2 (h3.2 ⟨(ordI_zero _ _).1 h5, (cmpB_zero _ _).1 h9⟩)
        rw [or_n h6]
      · rw [or_n h5, or_n h5]
  · rw [if_neg h1, or_n (fun h9 => h1 ((cmpI_zero _ _).1 h9))]
    exact decide_eq_decide.2 (cmpI_neg _ _)

/-- two timers boxed: what is read of them behind -/
theorem two_boxes (w : World) (T : Nat) (cs ds : Array Value) : Blk ((w.alloc (.cells cs T)).alloc (.cells ds T)) w.heap.size T cs ∧ Blk ((w.alloc (.cells cs T)).alloc (.cells ds T)) (w.heap.size + 1) T ds ∧ Below w.heap.size w ((w.alloc (.cells cs T)).alloc (.cells ds T)) := by
  refine ⟨(Blk.new w _ _).alloc _, ?_, ((Below.refl w.heap.size w).alloc (Nat.le_refl _) _).alloc (by simp) _⟩
  have h9 := Blk.new (w.alloc (.cells cs T)) T ds
  simpa using h9

set_option maxHeartbeats 4000000 in
theorem rone_any (x y : TV) (B : Nat) (w : World) (hx : KeyIn w B x) (hy : KeyIn w B y) (hB : B ≤ w.heap.size) :
    Calls Try.prog 23 #[.agg x.cells.toArray, .agg y.cells.toArray] w fun e w' => e = .returned (.bool (oneK x y)) ∧ Below w.heap.size w w' := by
  obtain ⟨A, c, hkx, hc⟩ := hx.sl.form
  obtain ⟨A', c', hky, hc'⟩ := hy.sl.form
  have HX := hide hx
  have HY := hide hy
  obtain ⟨r, hr⟩ : ∃ r, r = oneK x y := ⟨_, rfl⟩
  have HR : Hid (decide (ordC x.win y.win x.kb y.kb = 0) = r) := by
    show _ = _
    rw [hr]
    unfold oneK
    exact decide_eq_decide.2 (ordC_zero _ _ _ _)
  rw [← hr]
  clear hr hx hy
  obtain ⟨xa, xk, xb, xf, xt, xw⟩ := x
  obtain ⟨ya, yk, yb, yf, yt, yw⟩ := y
  simp only at hkx hky hc hc' HR
  subst hkx hky
  unfold TV.cells
  simp only
  have HOD : Hid (∀ X : World, Below w.heap.size w X → Calls Try.prog 38 #[rcV (.slice A xb.length c) xf xt (.slice none 0 0) 0 0 0 0 false false, rcV (.slice A' yb.length c') yf yt (.slice none 0 0) 0 0 0 0 false false] X fun e w' => e = .returned (.int .i64 (ordC ⟨xf, xt⟩ ⟨yf, yt⟩ xb yb)) ∧ Below X.heap.size X w') := fun X hX =>
    rorder_any A A' none none c c' 0 0 0 0 xb yb xf xt yf yt 0 0 0 0 0 0 0 0 false false false false B B X ((HX.out.sl).below (hX.mono hB)) ((HY.out.sl).below (hX.mono hB)) HX.out.b8 HY.out.b8 (Nat.le_trans hB hX.size) (Nat.le_trans hB hX.size)
  obtain ⟨HP0, HQ0, HB0⟩ := two_boxes w rtT #[.int .i64 xa, .slice A xb.length c, .int .i64 xf, .int .i64 xt, .int .i64 xw] #[.int .i64 ya, .slice A' yb.length c', .int .i64 yf, .int .i64 yt, .int .i64 yw]
  have HP := hide HP0
  have HQ := hide HQ0
  have HB1 := hide HB0
  clear HP0 HQ0 HB0 HX HY
  generalize hxl : xb.length = n at *
  generalize hyl : yb.length = m at *
  clear hxl hyl
  go_enter Try.func23, Try.ntmps23
  go_upto_region 1 with fail
  change Code.wp _ _ _ _ ((w.alloc (.cells #[.int .i64 xa, .slice A n c, .int .i64 xf, .int .i64 xt, .int .i64 xw] rtT)).alloc (.cells #[.int .i64 ya, .slice A' m c', .int .i64 yf, .int .i64 yt, .int .i64 yw] rtT))
  generalize ((w.alloc (.cells #[.int .i64 xa, .slice A n c, .int .i64 xf, .int .i64 xt, .int .i64 xw] rtT)).alloc (.cells #[.int .i64 ya, .slice A' m c', .int .i64 yf, .int .i64 yt, .int .i64 yw] rtT)) = w1 at *
  obtain ⟨pb, hpb⟩ : ∃ pb, pb = w.heap.size := ⟨_, rfl⟩
  obtain ⟨qb, hqb⟩ : ∃ qb, qb = w.heap.size + 1 := ⟨_, rfl⟩
  rw [← hqb] at HQ ⊢
  rw [← hpb] at HP ⊢
  clear hpb hqb
  have p0 := Aft.cell (HP.out.cell 0) HP.out.lt
  have p1 := Aft.cell (HP.out.cell 1) HP.out.lt
  have p2 := Aft.cell (HP.out.cell 2) HP.out.lt
  have p3 := Aft.cell (HP.out.cell 3) HP.out.lt
  have p4 := Aft.cell (HP.out.cell 4) HP.out.lt
  have q0 := Aft.cell (HQ.out.cell 0) HQ.out.lt
  have q1 := Aft.cell (HQ.out.cell 1) HQ.out.lt
  have q2 := Aft.cell (HQ.out.cell 2) HQ.out.lt
  have q3 := Aft.cell (HQ.out.cell 3) HQ.out.lt
  have q4 := Aft.cell (HQ.out.cell 4) HQ.out.lt
  simp at p0 p1 p2 p3 p4 q0 q1 q2 q3 q4
  have hp := HP.out.lt
  have hq := HQ.out.lt
  have HOD1 : Hid (∀ p : Aft w1, Below w.heap.size w p.w') := fun p => HB1.out.trans (p.h.mono HB1.out.size)
  refine wp_region_aft (by kernel_rfl) (by kernel_rfl) ?_
  repeat (go_big_quiet_step (first
    | (go_at_call 31; with_reducible exact calls_aft (rcell_any _ _ _ _ _ _ _ _))
    | (go_at_call 38; with_reducible exact calls_aft (HOD.out _ (HOD1.out _)))))
  refine wpQuiet_nil ?_
  intro w9 hb9
  have HB9 := hide (HB1.out.trans (hb9.mono HB1.out.size))
  clear hb9 p0 p1 p2 p3 p4 q0 q1 q2 q3 q4
  go_wp2_with fail
  go_ret
  rw [← HR.out]
  exact ⟨rfl, HB9.out⟩

end Go.Proofs.Ytogelnljkdcajaa
