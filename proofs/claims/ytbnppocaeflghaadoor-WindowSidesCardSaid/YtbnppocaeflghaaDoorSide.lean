/- Side, the reference's Side. -/
import Derived.Test.YtbnppocaeflghaaDoorWin2
import Derived.Test.YtbnppocaeflghaaDoorAssigns
namespace Go.Proofs.YtbnppocaeflghaaDoor
open Go.RowKit
set_option linter.unusedVariables false
set_option linter.unusedSimpArgs false

theorem Blk.two' {w : World} {g t : Nat} {a b : Value} (h : Blk w g t #[a, b]) : w.cell? ⟨g, 0, none⟩ = some a ∧ w.cell? ⟨g, 1, none⟩ = some b := ⟨h.cell 0, h.cell 1⟩
/-- where another window looks things up -/
def sideW (f : Wfn) (p : Win) (x : Win) : Prop := ∃ h, x = (f.asg (max p.stamp 0))[(f.asg (max p.stamp 0)).length - 1]'h
theorem stamp_in (p : Win) : max p.stamp 0 ≤ 1048576 ∧ 0 ≤ max p.stamp 0 := by
  unfold Win.stamp
  split <;> omega

set_option maxRecDepth 100000 in
set_option maxHeartbeats 8000000 in
theorem side_bad (fn : Wfn) (f t : Int) (w : World) (hbad : ¬ (Win.mk f t).good ∨ ¬ fn.right ∨ fn.k = 3) : Calls Tryd.prog 33 #[fn.v, .agg #[.int .i64 f, .int .i64 t]] w fun e w' => e = .returned (.tuple #[.agg #[.int .i64 0, .int .i64 0], .int .i64 70]) ∧ Below w.heap.size w w' := by
  obtain ⟨k, s, p, o⟩ := fn
  unfold Wfn.v
  have HCK := hide (check_any ⟨k, s, p, o⟩)
  have hres : Tryd.f33.results = #[.cell 4 wT, .tmp 5] := by kernel_rfl
  have HRES := hide hres
  clear hres
  have hcase : ¬ (Win.mk f t).good ∨ ((Win.mk f t).good ∧ ¬ Wfn.right ⟨k, s, p, o⟩) ∨ ((Win.mk f t).good ∧ Wfn.right ⟨k, s, p, o⟩ ∧ k = 3) := by
    by_cases hg : (Win.mk f t).good
    · by_cases hr : Wfn.right ⟨k, s, p, o⟩
      · rcases hbad with h | h | h
        · exact .inl h
        · exact absurd hr h
        · exact .inr (.inr ⟨hg, hr, h⟩)
      · exact .inr (.inl ⟨hg, hr⟩)
    · exact .inl hg
  clear hbad
  have HCASE := hide hcase
  clear hcase
  go_enter Tryd.func33, Tryd.ntmps33
  go_wp2_with fail
  have HF1 : Hid (Blk (((w.alloc (.cells #[.int .i64 k, .int .i64 s, .int .i64 p, .int .i64 o] fnT)).alloc (.cells #[.int .i64 f, .int .i64 t] wT)).alloc (.cells #[.int .i64 0, .int .i64 0] wT)) w.heap.size fnT #[.int .i64 k, .int .i64 s, .int .i64 p, .int .i64 o]) := ((Blk.new w _ _).alloc _).alloc _
  have HP1 : Hid (Blk (((w.alloc (.cells #[.int .i64 k, .int .i64 s, .int .i64 p, .int .i64 o] fnT)).alloc (.cells #[.int .i64 f, .int .i64 t] wT)).alloc (.cells #[.int .i64 0, .int .i64 0] wT)) (w.heap.size + 1) wT #[.int .i64 f, .int .i64 t]) := by
    have h9 := (Blk.new (w.alloc (.cells #[.int .i64 k, .int .i64 s, .int .i64 p, .int .i64 o] fnT)) wT #[.int .i64 f, .int .i64 t]).alloc (.cells #[.int .i64 0, .int .i64 0] wT)
    simpa [Hid] using h9
  have HZ1 : Hid (Blk (((w.alloc (.cells #[.int .i64 k, .int .i64 s, .int .i64 p, .int .i64 o] fnT)).alloc (.cells #[.int .i64 f, .int .i64 t] wT)).alloc (.cells #[.int .i64 0, .int .i64 0] wT)) (w.heap.size + 1 + 1) wT #[.int .i64 0, .int .i64 0]) := by
    have h9 := Blk.new ((w.alloc (.cells #[.int .i64 k, .int .i64 s, .int .i64 p, .int .i64 o] fnT)).alloc (.cells #[.int .i64 f, .int .i64 t] wT)) wT #[.int .i64 0, .int .i64 0]
    simpa [Hid] using h9
  have HB1 : Hid (Below w.heap.size w (((w.alloc (.cells #[.int .i64 k, .int .i64 s, .int .i64 p, .int .i64 o] fnT)).alloc (.cells #[.int .i64 f, .int .i64 t] wT)).alloc (.cells #[.int .i64 0, .int .i64 0] wT))) := (((Below.refl w.heap.size w).alloc (Nat.le_refl _) _).alloc (by simp) _).alloc (by simp <;> omega) _
  generalize (((w.alloc (.cells #[.int .i64 k, .int .i64 s, .int .i64 p, .int .i64 o] fnT)).alloc (.cells #[.int .i64 f, .int .i64 t] wT)).alloc (.cells #[.int .i64 0, .int .i64 0] wT)) = w1 at *
  generalize hzb : w.heap.size + 1 + 1 = zb at *
  have hzle : w.heap.size ≤ zb := by omega
  clear hzb
  rcases HCASE.out with hg | ⟨hg, hr⟩ | ⟨hg, hr, rfl⟩
  · refine (wstamp_bad f t w1 hg).mono ?_
    rintro e w2 ⟨rfl, hb⟩
    have HF2 := hide (HF1.out.below hb HF1.out.lt)
    have HZ2 := hide (HZ1.out.below hb HZ1.out.lt)
    have HB2 := hide (HB1.out.trans (hb.mono HB1.out.size))
    clear hb
    have z0 : w2.cell? ⟨zb, 0, none⟩ = some (.int .i64 0) := HZ2.out.cell 0
    have z1 : w2.cell? ⟨zb, 1, none⟩ = some (.int .i64 0) := HZ2.out.cell 1
    have q0 := HZ2.out.frozen 0
    have q1 := HZ2.out.frozen 1
    have hzlt := HZ2.out.lt
    go_wp2_with fail
    have HZ9 := hide ((HZ2.out.put 0 (.int .i64 0)).put 1 (.int .i64 0))
    have HB9 : Hid (Below w.heap.size w ((w2.setCell ⟨zb, 0, none⟩ (.int .i64 0)).setCell ⟨zb, 1, none⟩ (.int .i64 0))) := HB2.out.trans (Fr.below (S := fun k => k = zb) (((Fr.refl _ w2).put1 0 _).put1 1 _) HB2.out.size (by intro k hk h; omega))
    generalize (w2.setCell ⟨zb, 0, none⟩ (.int .i64 0)).setCell ⟨zb, 1, none⟩ (.int .i64 0) = w9 at *
    have d0 : w9.cell? ⟨zb, 0, none⟩ = some (.int .i64 0) := HZ9.out.cell 0
    have d1 : w9.cell? ⟨zb, 1, none⟩ = some (.int .i64 0) := HZ9.out.cell 1
    refine bodyPost_ret (v := .tuple #[.agg #[.int .i64 0, .int .i64 0], .int .i64 70]) ?_ rfl ⟨rfl, HB9.out⟩
    simp [results, HRES.out, go_sem, d0, d1]
  · refine (wstamp_good f t w1 hg).mono ?_
    rintro e w2 ⟨rfl, hb⟩
    have HF2 := hide (HF1.out.below hb HF1.out.lt)
    have HZ2 := hide (HZ1.out.below hb HZ1.out.lt)
    have HB2 := hide (HB1.out.trans (hb.mono HB1.out.size))
    clear hb
    obtain ⟨c0, c1, c2, c3⟩ := HF2.out.four
    have hflt := HF2.out.lt
    go_wp2_with fail
    refine (HCK.out _).mono ?_
    rw [if_neg hr]
    rintro e w3 ⟨rfl, hb⟩
    have HF3 := hide (HF2.out.below hb HF2.out.lt)
    have HZ3 := hide (HZ2.out.below hb HZ2.out.lt)
    have HB3 := hide (HB2.out.trans (hb.mono HB2.out.size))
    clear hb c0 c1 c2 c3 hflt
    have z0 : w3.cell? ⟨zb, 0, none⟩ = some (.int .i64 0) := HZ3.out.cell 0
    have z1 : w3.cell? ⟨zb, 1, none⟩ = some (.int .i64 0) := HZ3.out.cell 1
    have q0 := HZ3.out.frozen 0
    have q1 := HZ3.out.frozen 1
    have hzlt := HZ3.out.lt
    go_wp2_with fail
    have HZ9 := hide ((HZ3.out.put 0 (.int .i64 0)).put 1 (.int .i64 0))
    have HB9 : Hid (Below w.heap.size w ((w3.setCell ⟨zb, 0, none⟩ (.int .i64 0)).setCell ⟨zb, 1, none⟩ (.int .i64 0))) := HB3.out.trans (Fr.below (S := fun k => k = zb) (((Fr.refl _ w3).put1 0 _).put1 1 _) HB3.out.size (by intro k hk h; omega))
    generalize (w3.setCell ⟨zb, 0, none⟩ (.int .i64 0)).setCell ⟨zb, 1, none⟩ (.int .i64 0) = w9 at *
    have d0 : w9.cell? ⟨zb, 0, none⟩ = some (.int .i64 0) := HZ9.out.cell 0
    have d1 : w9.cell? ⟨zb, 1, none⟩ = some (.int .i64 0) := HZ9.out.cell 1
    refine bodyPost_ret (v := .tuple #[.agg #[.int .i64 0, .int .i64 0], .int .i64 70]) ?_ rfl ⟨rfl, HB9.out⟩
    simp [results, HRES.out, go_sem, d0, d1]
  · refine (wstamp_good f t w1 hg).mono ?_
    rintro e w2 ⟨rfl, hb⟩
    have HF2 := hide (HF1.out.below hb HF1.out.lt)
    have HZ2 := hide (HZ1.out.below hb HZ1.out.lt)
    have HB2 := hide (HB1.out.trans (hb.mono HB1.out.size))
    clear hb
    obtain ⟨c0, c1, c2, c3⟩ := HF2.out.four
    have hflt := HF2.out.lt
    go_wp2_with fail
    refine (HCK.out _).mono ?_
    rw [if_pos hr]
    rintro e w3 ⟨rfl, hb⟩
    have HF3 := hide (HF2.out.below hb HF2.out.lt)
    have HZ3 := hide (HZ2.out.below hb HZ2.out.lt)
    have HB3 := hide (HB2.out.trans (hb.mono HB2.out.size))
    clear hb c0 c1 c2 c3 hflt
    have z0 : w3.cell? ⟨zb, 0, none⟩ = some (.int .i64 0) := HZ3.out.cell 0
    have z1 : w3.cell? ⟨zb, 1, none⟩ = some (.int .i64 0) := HZ3.out.cell 1
    have q0 := HZ3.out.frozen 0
    have q1 := HZ3.out.frozen 1
    have hzlt := HZ3.out.lt
    have c0 : w3.cell? ⟨w.heap.size, 0, none⟩ = some (.int .i64 3) := HF3.out.cell 0
    have hflt := HF3.out.lt
    go_wp2_with fail
    have HZ9 := hide ((HZ3.out.put 0 (.int .i64 0)).put 1 (.int .i64 0))
    have HB9 : Hid (Below w.heap.size w ((w3.setCell ⟨zb, 0, none⟩ (.int .i64 0)).setCell ⟨zb, 1, none⟩ (.int .i64 0))) := HB3.out.trans (Fr.below (S := fun k => k = zb) (((Fr.refl _ w3).put1 0 _).put1 1 _) HB3.out.size (by intro k hk h; omega))
    generalize (w3.setCell ⟨zb, 0, none⟩ (.int .i64 0)).setCell ⟨zb, 1, none⟩ (.int .i64 0) = w9 at *
    have d0 : w9.cell? ⟨zb, 0, none⟩ = some (.int .i64 0) := HZ9.out.cell 0
    have d1 : w9.cell? ⟨zb, 1, none⟩ = some (.int .i64 0) := HZ9.out.cell 1
    refine bodyPost_ret (v := .tuple #[.agg #[.int .i64 0, .int .i64 0], .int .i64 70]) ?_ rfl ⟨rfl, HB9.out⟩
    simp [results, HRES.out, go_sem, d0, d1]

set_option maxRecDepth 100000 in
set_option maxHeartbeats 8000000 in
theorem side_ok (fn : Wfn) (f t : Int) (w : World) (hg : (Win.mk f t).good) (hr : fn.right) (hk3 : ¬ fn.k = 3) : Calls Tryd.prog 33 #[fn.v, .agg #[.int .i64 f, .int .i64 t]] w fun e w' => ∃ x : Win, sideW fn (Win.mk f t) x ∧ e = .returned (.tuple #[.agg #[.int .i64 x.f, .int .i64 x.t], .int .i64 0]) ∧ Below w.heap.size w w' := by
  have hst := stamp_in (Win.mk f t)
  have hpos := asg_pos fn (max (Win.mk f t).stamp 0) hr
  obtain ⟨k, s, p, o⟩ := fn
  simp only at hk3
  unfold Wfn.v
  have HCK := hide (check_any ⟨k, s, p, o⟩)
  have HAS := hide (fun w => assign_ok ⟨k, s, p, o⟩ (max (Win.mk f t).stamp 0) w hr hst.2 hst.1)
  have hlenb := asg_len ⟨k, s, p, o⟩ (max (Win.mk f t).stamp 0) hr hst.2
  have hres : Tryd.f33.results = #[.cell 4 wT, .tmp 5] := by kernel_rfl
  have HRES := hide hres
  have HG := hide hg
  have HRR := hide hr
  obtain ⟨st, hst9⟩ : ∃ st, st = (Win.mk f t).stamp := ⟨_, rfl⟩
  rw [← hst9] at hpos HAS hlenb hst
  have HST := hide hst9
  obtain ⟨L, hL⟩ : ∃ L, L = Wfn.asg ⟨k, s, p, o⟩ (max st 0) := ⟨_, rfl⟩
  rw [← hL] at hpos HAS hlenb
  have HL := hide hL
  obtain ⟨n, hn⟩ : ∃ n, n = L.length := ⟨_, rfl⟩
  rw [← hn] at hpos HAS hlenb
  have HN := hide hn
  clear hres hg hr hst9 hL hn
  obtain ⟨hst1, hst2⟩ := hst
  have hk3b : (k == 3) = false := by simp [hk3]
  go_enter Tryd.func33, Tryd.ntmps33
  go_wp2_with fail
  have HF1 : Hid (Blk (((w.alloc (.cells #[.int .i64 k, .int .i64 s, .int .i64 p, .int .i64 o] fnT)).alloc (.cells #[.int .i64 f, .int .i64 t] wT)).alloc (.cells #[.int .i64 0, .int .i64 0] wT)) w.heap.size fnT #[.int .i64 k, .int .i64 s, .int .i64 p, .int .i64 o]) := ((Blk.new w _ _).alloc _).alloc _
  have HP1 : Hid (Blk (((w.alloc (.cells #[.int .i64 k, .int .i64 s, .int .i64 p, .int .i64 o] fnT)).alloc (.cells #[.int .i64 f, .int .i64 t] wT)).alloc (.cells #[.int .i64 0, .int .i64 0] wT)) (w.heap.size + 1) wT #[.int .i64 f, .int .i64 t]) := by
    have h9 := (Blk.new (w.alloc (.cells #[.int .i64 k, .int .i64 s, .int .i64 p, .int .i64 o] fnT)) wT #[.int .i64 f, .int .i64 t]).alloc (.cells #[.int .i64 0, .int .i64 0] wT)
    simpa [Hid] using h9
  have HZ1 : Hid (Blk (((w.alloc (.cells #[.int .i64 k, .int .i64 s, .int .i64 p, .int .i64 o] fnT)).alloc (.cells #[.int .i64 f, .int .i64 t] wT)).alloc (.cells #[.int .i64 0, .int .i64 0] wT)) (w.heap.size + 1 + 1) wT #[.int .i64 0, .int .i64 0]) := by
    have h9 := Blk.new ((w.alloc (.cells #[.int .i64 k, .int .i64 s, .int .i64 p, .int .i64 o] fnT)).alloc (.cells #[.int .i64 f, .int .i64 t] wT)) wT #[.int .i64 0, .int .i64 0]
    simpa [Hid] using h9
  have HB1 : Hid (Below w.heap.size w (((w.alloc (.cells #[.int .i64 k, .int .i64 s, .int .i64 p, .int .i64 o] fnT)).alloc (.cells #[.int .i64 f, .int .i64 t] wT)).alloc (.cells #[.int .i64 0, .int .i64 0] wT))) := (((Below.refl w.heap.size w).alloc (Nat.le_refl _) _).alloc (by simp) _).alloc (by simp <;> omega) _
  generalize (((w.alloc (.cells #[.int .i64 k, .int .i64 s, .int .i64 p, .int .i64 o] fnT)).alloc (.cells #[.int .i64 f, .int .i64 t] wT)).alloc (.cells #[.int .i64 0, .int .i64 0] wT)) = w1 at *
  generalize hzb : w.heap.size + 1 + 1 = zb at *
  have hzle : w.heap.size ≤ zb := by omega
  clear hzb
  refine (wstamp_good f t w1 HG.out).mono ?_
  rw [← HST.out]
  rintro e w2 ⟨rfl, hb⟩
  have HF2 := hide (HF1.out.below hb HF1.out.lt)
  have HZ2 := hide (HZ1.out.below hb HZ1.out.lt)
  have HB2 := hide (HB1.out.trans (hb.mono HB1.out.size))
  clear hb
  obtain ⟨c0, c1, c2, c3⟩ := HF2.out.four
  have hflt := HF2.out.lt
  go_wp2_with fail
  refine (HCK.out _).mono ?_
  rw [if_pos HRR.out]
  rintro e w3 ⟨rfl, hb⟩
  have HF3 := hide (HF2.out.below hb HF2.out.lt)
  have HZ3 := hide (HZ2.out.below hb HZ2.out.lt)
  have HB3 := hide (HB2.out.trans (hb.mono HB2.out.size))
  clear hb c0 c1 c2 c3 hflt
  obtain ⟨c0, c1, c2, c3⟩ := HF3.out.four
  have hflt := HF3.out.lt
  go_wp2_with fail
  refine (HAS.out _).mono ?_
  rintro e w4 ⟨v4, rfl, ho, hb⟩
  obtain ⟨A4, d4, rfl, hd4⟩ := ho.sl.form
  have HO4 := hide ho
  have HZ4 := hide (HZ3.out.below hb HZ3.out.lt)
  have HB4 := hide (HB3.out.trans (hb.mono HB3.out.size))
  clear ho hb c0 c1 c2 c3 hflt
  have z0 : w4.cell? ⟨zb, 0, none⟩ = some (.int .i64 0) := HZ4.out.cell 0
  have z1 : w4.cell? ⟨zb, 1, none⟩ = some (.int .i64 0) := HZ4.out.cell 1
  have q0 := HZ4.out.frozen 0
  have q1 := HZ4.out.frozen 1
  have hzlt := HZ4.out.lt
  obtain ⟨n1, hn1⟩ : ∃ n1, n = n1 + 1 := ⟨n - 1, by omega⟩
  obtain ⟨ad, rfl, hab, g0, g1⟩ := win_at HO4.out.sl (show n1 < n by omega) HN.out.symm
  have e1 : IntKind.i64.wrap ((n : Int) - 1) = (n1 : Int) := by rw [IntWalk.i64_in _ (by omega)]; omega
  have e2 : (n : Int) - 1 = (n1 : Int) := by omega
  have i1 : (0 : Int) ≤ (n1 : Int) := by omega
  have i2 : (n1 : Int) < (n : Int) := by omega
  have HX : Hid (sideW ⟨k, s, p, o⟩ (Win.mk f t) (L[n1]'(by rw [← HN.out]; omega))) := by
    have key : ∀ (M : List Win) (hM : M = Wfn.asg ⟨k, s, p, o⟩ (max (Win.mk f t).stamp 0)) (h9 : n1 < M.length) (h10 : M.length = n), sideW ⟨k, s, p, o⟩ (Win.mk f t) M[n1] := by
      rintro M rfl h9 h10
      have h11 : n1 = (Wfn.asg ⟨k, s, p, o⟩ (max (Win.mk f t).stamp 0)).length - 1 := by omega
      exact ⟨by omega, by congr⟩
    exact key L (by rw [HL.out, HST.out]) _ HN.out.symm
  generalize L[n1]'(by rw [← HN.out]; omega) = x at g0 g1 HX
  obtain ⟨xf, xt⟩ := x
  simp only at g0 g1
  have HHN1 := hide hn1
  clear hn1
  go_wp2_with fail
  have HZ9 := hide ((HZ4.out.put 0 (.int .i64 xf)).put 1 (.int .i64 xt))
  have HB9 : Hid (Below w.heap.size w ((w4.setCell ⟨zb, 0, none⟩ (.int .i64 xf)).setCell ⟨zb, 1, none⟩ (.int .i64 xt))) := HB4.out.trans (Fr.below (S := fun k => k = zb) (((Fr.refl _ w4).put1 0 _).put1 1 _) HB4.out.size (by intro k hk h; omega))
  generalize (w4.setCell ⟨zb, 0, none⟩ (.int .i64 xf)).setCell ⟨zb, 1, none⟩ (.int .i64 xt) = w9 at *
  have d0 : w9.cell? ⟨zb, 0, none⟩ = some (.int .i64 xf) := HZ9.out.cell 0
  have d1 : w9.cell? ⟨zb, 1, none⟩ = some (.int .i64 xt) := HZ9.out.cell 1
  refine bodyPost_ret (v := .tuple #[.agg #[.int .i64 xf, .int .i64 xt], .int .i64 0]) ?_ rfl ⟨⟨xf, xt⟩, HX.out, rfl, HB9.out⟩
  simp [results, HRES.out, go_sem, d0, d1]
theorem sideW_eq {f : Wfn} {p x y : Win} (hx : sideW f p x) (hy : sideW f p y) : x = y := by
  obtain ⟨h1, rfl⟩ := hx
  obtain ⟨h2, rfl⟩ := hy
  rfl

set_option maxRecDepth 100000 in
set_option maxHeartbeats 8000000 in
theorem rside_any (fn : Wfn) (f t : Int) (w : World) (hg : (Win.mk f t).good) (hr : fn.right) : Calls Tryd.prog 34 #[fn.v, .agg #[.int .i64 f, .int .i64 t]] w fun e w' => ∃ x : Win, sideW fn (Win.mk f t) x ∧ e = .returned (.agg #[.int .i64 x.f, .int .i64 x.t]) ∧ Below w.heap.size w w' := by
  have hst := stamp_in (Win.mk f t)
  have hpos := asg_pos fn (max (Win.mk f t).stamp 0) hr
  obtain ⟨k, s, p, o⟩ := fn
  unfold Wfn.v
  have HAS := hide (fun w => rassign_any ⟨k, s, p, o⟩ (max (Win.mk f t).stamp 0) w hr hst.2 hst.1)
  have hlenb := asg_len ⟨k, s, p, o⟩ (max (Win.mk f t).stamp 0) hr hst.2
  have hres : Tryd.f34.results = #[.cell 4 rT] := by kernel_rfl
  have HRES := hide hres
  have HG := hide hg
  obtain ⟨st, hst9⟩ : ∃ st, st = (Win.mk f t).stamp := ⟨_, rfl⟩
  rw [← hst9] at hpos HAS hlenb hst
  have HST := hide hst9
  obtain ⟨L, hL⟩ : ∃ L, L = Wfn.asg ⟨k, s, p, o⟩ (max st 0) := ⟨_, rfl⟩
  rw [← hL] at hpos HAS hlenb
  have HL := hide hL
  obtain ⟨n, hn⟩ : ∃ n, n = L.length := ⟨_, rfl⟩
  rw [← hn] at hpos HAS hlenb
  have HN := hide hn
  have hcase : (st < 0 ∧ max st 0 = 0) ∨ (¬ st < 0 ∧ max st 0 = st) := by omega
  clear hres hg hr hst9 hL hn hst
  obtain ⟨n1, hn1⟩ : ∃ n1, n = n1 + 1 := ⟨n - 1, by omega⟩
  have e1 : IntKind.i64.wrap ((n : Int) - 1) = (n1 : Int) := by rw [IntWalk.i64_in _ (by omega)]; omega
  have e2 : (n : Int) - 1 = (n1 : Int) := by omega
  have i1 : (0 : Int) ≤ (n1 : Int) := by omega
  have i2 : (n1 : Int) < (n : Int) := by omega
  have hn1n : n1 < n := by omega
  have HHN1 := hide hn1
  have HX : Hid (sideW ⟨k, s, p, o⟩ (Win.mk f t) (L[n1]'(by rw [← HN.out]; omega))) := by
    have key : ∀ (M : List Win) (hM : M = Wfn.asg ⟨k, s, p, o⟩ (max (Win.mk f t).stamp 0)) (h9 : n1 < M.length) (h10 : M.length = n), sideW ⟨k, s, p, o⟩ (Win.mk f t) M[n1] := by
      rintro M rfl h9 h10
      have h11 : n1 = (Wfn.asg ⟨k, s, p, o⟩ (max (Win.mk f t).stamp 0)).length - 1 := by omega
      exact ⟨by omega, by congr⟩
    exact key L (by rw [HL.out, HST.out]) _ HN.out.symm
  clear hn1 e1 e2
  go_enter Tryd.func34, Tryd.ntmps34
  go_wp2_with fail
  have HF1 : Hid (Blk (((w.alloc (.cells #[.int .i64 k, .int .i64 s, .int .i64 p, .int .i64 o] 48)).alloc (.cells #[.int .i64 f, .int .i64 t] rT)).alloc (.cells #[.int .i64 0, .int .i64 0] rT)) w.heap.size 48 #[.int .i64 k, .int .i64 s, .int .i64 p, .int .i64 o]) := ((Blk.new w _ _).alloc _).alloc _
  have HZ1 : Hid (Blk (((w.alloc (.cells #[.int .i64 k, .int .i64 s, .int .i64 p, .int .i64 o] 48)).alloc (.cells #[.int .i64 f, .int .i64 t] rT)).alloc (.cells #[.int .i64 0, .int .i64 0] rT)) (w.heap.size + 1 + 1) rT #[.int .i64 0, .int .i64 0]) := by
    have h9 := Blk.new ((w.alloc (.cells #[.int .i64 k, .int .i64 s, .int .i64 p, .int .i64 o] 48)).alloc (.cells #[.int .i64 f, .int .i64 t] rT)) rT #[.int .i64 0, .int .i64 0]
    simpa [Hid] using h9
  have HB1 : Hid (Below w.heap.size w (((w.alloc (.cells #[.int .i64 k, .int .i64 s, .int .i64 p, .int .i64 o] 48)).alloc (.cells #[.int .i64 f, .int .i64 t] rT)).alloc (.cells #[.int .i64 0, .int .i64 0] rT))) := (((Below.refl w.heap.size w).alloc (Nat.le_refl _) _).alloc (by simp) _).alloc (by simp <;> omega) _
  generalize (((w.alloc (.cells #[.int .i64 k, .int .i64 s, .int .i64 p, .int .i64 o] 48)).alloc (.cells #[.int .i64 f, .int .i64 t] rT)).alloc (.cells #[.int .i64 0, .int .i64 0] rT)) = w1 at *
  generalize hzb : w.heap.size + 1 + 1 = zb at *
  have hzle : w.heap.size ≤ zb := by omega
  clear hzb
  refine (rstamp_any f t w1 HG.out).mono ?_
  rw [← HST.out]
  rintro e w2 ⟨rfl, hb⟩
  have HF2 := hide (HF1.out.below hb HF1.out.lt)
  have HZ2 := hide (HZ1.out.below hb HZ1.out.lt)
  have HB2 := hide (HB1.out.trans (hb.mono HB1.out.size))
  clear hb
  rcases hcase with ⟨hs1, hs2⟩ | ⟨hs1, hs2⟩
  all_goals
    obtain ⟨c0, c1, c2, c3⟩ := HF2.out.four
    have hflt := HF2.out.lt
    rw [hs2] at HAS
    clear hs2
    go_wp2_with fail
    refine (HAS.out _).mono ?_
    rintro e w4 ⟨v4, rfl, ho, hb⟩
    obtain ⟨A4, d4, rfl, hd4⟩ := ho.sl.form
    have HO4 := hide ho
    have HZ4 := hide (HZ2.out.below hb HZ2.out.lt)
    have HB4 := hide (HB2.out.trans (hb.mono HB2.out.size))
    clear ho hb c0 c1 c2 c3 hflt
    have z0 : w4.cell? ⟨zb, 0, none⟩ = some (.int .i64 0) := HZ4.out.cell 0
    have z1 : w4.cell? ⟨zb, 1, none⟩ = some (.int .i64 0) := HZ4.out.cell 1
    have q0 := HZ4.out.frozen 0
    have q1 := HZ4.out.frozen 1
    have hzlt := HZ4.out.lt
    obtain ⟨ad, rfl, hab, g0, g1⟩ := win_at HO4.out.sl hn1n HN.out.symm
    generalize L[n1]'(by rw [← HN.out]; omega) = x at g0 g1 HX
    obtain ⟨xf, xt⟩ := x
    simp only at g0 g1
    have e1 : IntKind.i64.wrap ((n : Int) - 1) = (n1 : Int) := by have := HHN1.out; rw [IntWalk.i64_in _ (by omega)]; omega
    have e2 : (n : Int) - 1 = (n1 : Int) := by have := HHN1.out; omega
    go_wp2_with fail
    have HZ9 := hide ((HZ4.out.put 0 (.int .i64 xf)).put 1 (.int .i64 xt))
    have HB9 : Hid (Below w.heap.size w ((w4.setCell ⟨zb, 0, none⟩ (.int .i64 xf)).setCell ⟨zb, 1, none⟩ (.int .i64 xt))) := HB4.out.trans (Fr.below (S := fun k => k = zb) (((Fr.refl _ w4).put1 0 _).put1 1 _) HB4.out.size (by intro k hk h; omega))
    generalize (w4.setCell ⟨zb, 0, none⟩ (.int .i64 xf)).setCell ⟨zb, 1, none⟩ (.int .i64 xt) = w9 at *
    have d0 : w9.cell? ⟨zb, 0, none⟩ = some (.int .i64 xf) := HZ9.out.cell 0
    have d1 : w9.cell? ⟨zb, 1, none⟩ = some (.int .i64 xt) := HZ9.out.cell 1
    refine bodyPost_ret (v := .agg #[.int .i64 xf, .int .i64 xt]) ?_ rfl ⟨⟨xf, xt⟩, HX.out, rfl, HB9.out⟩
    simp [results, HRES.out, go_sem, d0, d1]

end Go.Proofs.YtbnppocaeflghaaDoor
