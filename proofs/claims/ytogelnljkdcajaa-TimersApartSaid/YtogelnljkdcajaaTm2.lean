/- Timers: as cells, their order; nameOf; copied. -/
import Derived.Test.YtogelnljkdcajaaTm
import Derived.Test.YtogelnljkdcajaaOrd
import Derived.Deep.CutRange
namespace Go.Proofs.Ytogelnljkdcajaa
open Go.RowKit Go.Sort
set_option linter.unusedVariables false
set_option linter.unusedSimpArgs false

/-- a timer in memory: its key's slice, its key's bytes -/
structure TV where
  a : Int
  kv : Value
  kb : List Int
  f : Int
  t : Int
  w : Int
def TV.win (x : TV) : Win := ⟨x.f, x.t⟩
def TV.cells (x : TV) : List Value := [.int .i64 x.a, x.kv, .int .i64 x.f, .int .i64 x.t, .int .i64 x.w]
theorem TV.cells5 (x : TV) : x.cells.length = 5 := rfl
def tms (L : List TV) : List Value := L.flatMap TV.cells
theorem tms_len (L : List TV) : (tms L).length = L.length * 5 := flat_len _ 5 TV.cells5 L
theorem tms_app (C D : List TV) : tms (C ++ D) = tms C ++ tms D := List.flatMap_append ..
abbrev tmT : Nat := 37
theorem tyT : SlTy Try.prog 46 tmT 5 56 (.agg #[.int .i64 0, .slice none 0 0, .int .i64 0, .int .i64 0, .int .i64 0]) := ⟨Try.underlying46, info_parts (by kernel_rfl), rfl, by omega⟩
/-- its key is read -/
structure KeyIn (w : World) (B : Nat) (x : TV) : Prop where
  sl : Sl w B x.kv 1 x.kb.length (bys x.kb)
  b8 : Bytes8 x.kb
theorem KeyIn.below {w w' : World} {B : Nat} {x : TV} (h : KeyIn w B x) (hb : Below B w w') : KeyIn w' B x := ⟨h.sl.below hb, h.b8⟩
theorem KeyIn.mono {w : World} {B B' : Nat} {x : TV} (h : KeyIn w B x) (hb : B ≤ B') : KeyIn w B' x := ⟨h.sl.mono hb, h.b8⟩

def ordT (x y : TV) : Int :=
  if x.a ≠ y.a then cmpI x.a y.a else if wlt x.win y.win then -1 else if wlt y.win x.win then 1 else orI (cmpB x.kb y.kb) (cmpI x.w y.w)
theorem less_grow7 (af at_ bf bt : Int) (w : World) : Calls Try.prog 51 #[.agg #[.int .i64 af, .int .i64 at_], .agg #[.int .i64 bf, .int .i64 bt]] w fun e w' => e = .returned (.bool (decide (wlt ⟨af, at_⟩ ⟨bf, bt⟩))) ∧ ∃ q os, w' = grow (w.drewN q) os := by
  obtain ⟨r, hr⟩ : ∃ r : Bool, r = decide (wlt ⟨af, at_⟩ ⟨bf, bt⟩) := ⟨_, rfl⟩
  rw [← hr]
  have HR : Hid (r = decide (ordI ⟨af, at_⟩ ⟨bf, bt⟩ < 0)) := by show _ = _; rw [hr]; exact decide_eq_decide.2 (ordI_neg _ _).symm
  clear hr
  go_enter Try.func51, Try.ntmps51
  go_wp2_with fail
  refine (order_any7 af at_ bf bt _).mono ?_
  rintro e w2 ⟨rfl, q, os, rfl⟩
  have HB2 : Hid (∃ q' os', grow (((w.alloc (.cells #[.int .i64 af, .int .i64 at_] wT)).alloc (.cells #[.int .i64 bf, .int .i64 bt] wT)).drewN q) os = grow (w.drewN q') os') := ⟨q, _, by rw [alloc_eq_grow, alloc_eq_grow, grow_grow]; show grow (grow (w.drewN q) _) os = _; rw [grow_grow]⟩
  generalize grow (World.drewN _ q) os = w3 at *
  generalize ordI ⟨af, at_⟩ ⟨bf, bt⟩ = x at *
  go_wp2_with fail
  go_ret
  rw [HR.out]
  exact ⟨rfl, HB2.out⟩
theorem grow_trans {w w1 w2 : World} (h : ∃ q os, w1 = grow (w.drewN q) os) (k : ∃ q os, w2 = grow (w1.drewN q) os) : ∃ q os, w2 = grow (w.drewN q) os := by
  obtain ⟨q, os, rfl⟩ := h
  obtain ⟨q', os', rfl⟩ := k
  refine ⟨q + q', os ++ os', ?_⟩
  show grow (grow ((w.drewN q).drewN q') os) os' = _
  rw [grow_grow]
  congr 1
  rw [World.drewN_drewN]
theorem grow_alloc (w : World) (o : Obj) : ∃ q os, w.alloc o = grow (w.drewN q) os := ⟨0, _, by rw [alloc_eq_grow]; rfl⟩
theorem grow_drew (w : World) (j : Nat) : ∃ q os, w.drewN j = grow (w.drewN q) os := ⟨j, #[], by rw [grow_empty]⟩
theorem grow_bel {w w' : World} (h : ∃ q os, w' = grow (w.drewN q) os) : Below w.heap.size w w' := by
  obtain ⟨q, os, rfl⟩ := h
  exact grow_below q os

set_option maxHeartbeats 8000000 in
theorem order_any (x y : TV) (B : Nat) (w : World) (hx : KeyIn w B x) (hy : KeyIn w B y) (hB : B ≤ w.heap.size) :
    Calls Try.prog 36 #[.agg x.cells.toArray, .agg y.cells.toArray] w fun e w' => e = .returned (.int .i64 (ordT x y)) ∧ ∃ q os, w' = grow (w.drewN q) os := by
  obtain ⟨xa, xk, xb, xf, xt, xw⟩ := x
  obtain ⟨ya, yk, yb, yf, yt, yw⟩ := y
  obtain ⟨A, c, hkx, hc⟩ := hx.sl.form
  obtain ⟨A', c', hky, hc'⟩ := hy.sl.form
  simp only at hkx hky hc hc'
  subst hkx hky
  have HX := hide hx
  have HY := hide hy
  obtain ⟨r, hr⟩ : ∃ r, r = ordT ⟨xa, .slice A xb.length c, xb, xf, xt, xw⟩ ⟨ya, .slice A' yb.length c', yb, yf, yt, yw⟩ := ⟨_, rfl⟩
  rw [← hr]
  have HR : Hid (r = if xa ≠ ya then cmpI xa ya else if wlt ⟨xf, xt⟩ ⟨yf, yt⟩ then -1 else if wlt ⟨yf, yt⟩ ⟨xf, xt⟩ then 1 else orI (cmpB xb yb) (cmpI xw yw)) := by
    show _ = _; rw [hr]; rfl
  clear hr hx hy
  obtain ⟨n, hn⟩ : ∃ n, n = xb.length := ⟨_, rfl⟩
  obtain ⟨m, hm⟩ : ∃ m, m = yb.length := ⟨_, rfl⟩
  rw [← hn] at HX hc ⊢
  rw [← hm] at HY hc' ⊢
  have HN := hide hn
  have HM := hide hm
  have HXS : Hid (Sl w B (.slice A n c) 1 n (bys xb)) := by have h9 := HX.out.sl; simp only [← hn] at h9; exact h9
  have HYS : Hid (Sl w B (.slice A' m c') 1 m (bys yb)) := by have h9 := HY.out.sl; simp only [← hm] at h9; exact h9
  have HX8 := hide HX.out.b8
  have HY8 := hide HY.out.b8
  clear hn hm HX HY
  unfold TV.cells
  simp only at HX8 HY8 ⊢
  have HP : Hid (Blk ((w.alloc (.cells #[.int .i64 xa, .slice A n c, .int .i64 xf, .int .i64 xt, .int .i64 xw] tmT)).alloc (.cells #[.int .i64 ya, .slice A' m c', .int .i64 yf, .int .i64 yt, .int .i64 yw] tmT)) w.heap.size tmT #[.int .i64 xa, .slice A n c, .int .i64 xf, .int .i64 xt, .int .i64 xw]) := (Blk.new w _ _).alloc _
  have HQ : Hid (Blk ((w.alloc (.cells #[.int .i64 xa, .slice A n c, .int .i64 xf, .int .i64 xt, .int .i64 xw] tmT)).alloc (.cells #[.int .i64 ya, .slice A' m c', .int .i64 yf, .int .i64 yt, .int .i64 yw] tmT)) (w.heap.size + 1) tmT #[.int .i64 ya, .slice A' m c', .int .i64 yf, .int .i64 yt, .int .i64 yw]) := by
    have h9 := Blk.new (w.alloc (.cells #[.int .i64 xa, .slice A n c, .int .i64 xf, .int .i64 xt, .int .i64 xw] tmT)) tmT #[.int .i64 ya, .slice A' m c', .int .i64 yf, .int .i64 yt, .int .i64 yw]
    simpa [Hid] using h9
  have HE : Hid (∃ q os, (w.alloc (.cells #[.int .i64 xa, .slice A n c, .int .i64 xf, .int .i64 xt, .int .i64 xw] tmT)).alloc (.cells #[.int .i64 ya, .slice A' m c', .int .i64 yf, .int .i64 yt, .int .i64 yw] tmT) = grow (w.drewN q) os) := grow_trans (grow_alloc w _) (grow_alloc _ _)
  go_enter Try.func36, Try.ntmps36
  go_upto_region 1 with fail
  generalize (w.alloc (.cells #[.int .i64 xa, .slice A n c, .int .i64 xf, .int .i64 xt, .int .i64 xw] tmT)).alloc (.cells #[.int .i64 ya, .slice A' m c', .int .i64 yf, .int .i64 yt, .int .i64 yw] tmT) = w1 at *
  obtain ⟨pb, hpb⟩ : ∃ pb, pb = w.heap.size := ⟨_, rfl⟩
  obtain ⟨qb, hqb⟩ : ∃ qb, qb = w.heap.size + 1 := ⟨_, rfl⟩
  rw [← hqb] at HQ ⊢
  rw [← hpb] at HP ⊢
  have HBW := hide (grow_bel HE.out)
  have HXS1 := hide (HXS.out.below (HBW.out.mono hB))
  have HYS1 := hide (HYS.out.below (HBW.out.mono hB))
  have hB1 : B ≤ w1.heap.size := Nat.le_trans hB HBW.out.size
  clear hpb hqb HXS HYS
  have hp := HP.out.lt
  have hq := HQ.out.lt
  have HPQ : Hid (∀ X : World, Below w1.heap.size w1 X → (X.cell? ⟨pb, 0, none⟩ = some (.int .i64 xa) ∧ X.cell? ⟨pb, 1, none⟩ = some (.slice A n c) ∧ X.cell? ⟨pb, 2, none⟩ = some (.int .i64 xf) ∧ X.cell? ⟨pb, 3, none⟩ = some (.int .i64 xt) ∧ X.cell? ⟨pb, 4, none⟩ = some (.int .i64 xw)) ∧
      (X.cell? ⟨qb, 0, none⟩ = some (.int .i64 ya) ∧ X.cell? ⟨qb, 1, none⟩ = some (.slice A' m c') ∧ X.cell? ⟨qb, 2, none⟩ = some (.int .i64 yf) ∧ X.cell? ⟨qb, 3, none⟩ = some (.int .i64 yt) ∧ X.cell? ⟨qb, 4, none⟩ = some (.int .i64 yw))) := by
    intro X h
    have k1 := HP.out.below h hp
    have k2 := HQ.out.below h hq
    exact ⟨⟨k1.cell 0, k1.cell 1, k1.cell 2, k1.cell 3, k1.cell 4⟩, ⟨k2.cell 0, k2.cell 1, k2.cell 2, k2.cell 3, k2.cell 4⟩⟩
  obtain ⟨⟨p0, p1, p2, p3, p4⟩, ⟨q0, q1, q2, q3, q4⟩⟩ := HPQ.out w1 (Below.refl _ _)
  by_cases ha : xa = ya
  · subst ha
    have e1 : (xa != xa) = false := by simp
    go_wp2_with fail
    refine (less_grow7 xf xt yf yt _).mono ?_
    by_cases h1 : wlt ⟨xf, xt⟩ ⟨yf, yt⟩
    · have HF : Hid (r = -1) := by show _ = _; rw [HR.out, if_neg (by simp), if_pos h1]
      rw [decide_eq_true h1]
      rintro e w2 ⟨rfl, hg⟩
      have HG := hide (grow_trans HE.out hg)
      clear hg
      go_wp2_with fail
      go_ret
      rw [HF.out]
      exact ⟨rfl, HG.out⟩
    · rw [decide_eq_false h1]
      rintro e w2 ⟨rfl, hg⟩
      have HG := hide hg
      have HB2 := hide (grow_bel hg)
      clear hg p0 p1 p2 p3 p4 q0 q1 q2 q3 q4
      obtain ⟨⟨p0, p1, p2, p3, p4⟩, ⟨q0, q1, q2, q3, q4⟩⟩ := HPQ.out w2 HB2.out
      have hz2 := HB2.out.size
      have hp2 : pb < w2.heap.size := by omega
      have hq2 : qb < w2.heap.size := by omega
      go_wp2_with fail
      refine (less_grow7 yf yt xf xt _).mono ?_
      by_cases h2 : wlt ⟨yf, yt⟩ ⟨xf, xt⟩
      · have HF : Hid (r = 1) := by show _ = _; rw [HR.out, if_neg (by simp), if_neg h1, if_pos h2]
        rw [decide_eq_true h2]
        rintro e w3 ⟨rfl, hg⟩
        have HG3 := hide (grow_trans (grow_trans HE.out HG.out) hg)
        clear hg
        go_wp2_with fail
        go_ret
        rw [HF.out]
        exact ⟨rfl, HG3.out⟩
      · have HF : Hid (r = orI (cmpB xb yb) (cmpI xw yw)) := by show _ = _; rw [HR.out, if_neg (by simp), if_neg h1, if_neg h2]
        rw [decide_eq_false h2]
        rintro e w3 ⟨rfl, hg⟩
        have HG3 := hide (grow_trans HG.out hg)
        have HB3 := hide (grow_bel HG3.out)
        have HGA := hide (grow_trans HE.out HG3.out)
        clear hg p0 p1 p2 p3 p4 q0 q1 q2 q3 q4 HR h1 h2
        obtain ⟨⟨p0, p1, p2, p3, p4⟩, ⟨q0, q1, q2, q3, q4⟩⟩ := HPQ.out w3 HB3.out
        have hz3 := HB3.out.size
        have hp3 : pb < w3.heap.size := by omega
        have hq3 : qb < w3.heap.size := by omega
        have HXS3 := hide (HXS1.out.below (HB3.out.mono hB1))
        have HYS3 := hide (HYS1.out.below (HB3.out.mono hB1))
        have HCS : Hid (∀ X : World, Below w3.heap.size w3 X → X.cell? ⟨pb, 1, none⟩ = some (.slice A n c) ∧ X.cell? ⟨pb, 4, none⟩ = some (.int .i64 xw) ∧ X.cell? ⟨qb, 1, none⟩ = some (.slice A' m c') ∧ X.cell? ⟨qb, 4, none⟩ = some (.int .i64 yw)) := by
          intro X h
          obtain ⟨⟨_, k1, _, _, k4⟩, ⟨_, k5, _, _, k6⟩⟩ := HPQ.out X (HB3.out.trans (h.mono hz3))
          exact ⟨k1, k4, k5, k6⟩
        go_wp2_with fail
        go_region_held3 (fun w' : World => w'.cell? ⟨pb, 1, none⟩ = some (.slice A n c) ∧ w'.cell? ⟨pb, 4, none⟩ = some (.int .i64 xw) ∧ w'.cell? ⟨qb, 1, none⟩ = some (.slice A' m c') ∧ w'.cell? ⟨qb, 4, none⟩ = some (.int .i64 yw)) (first | exact ⟨p1, p4, q1, q4⟩ | exact HCS.out _ (((Below.refl w3.heap.size w3).drewN 1).alloc (Nat.le_refl _) _)) (first
          | (go_at_call 53; refine (bcompare_any _ _ xb yb n m B B _ HXS3.out.drew HYS3.out.drew HN.out.symm HM.out.symm HX8.out HY8.out).mono ?_; rintro e w7 ⟨rfl, rfl⟩)
          | (go_at_call 50; refine (cmp7 _ _ _).mono ?_; rintro e w7 ⟨rfl, rfl⟩)
          | (go_at_call 52; refine (or_any7 _ (cmpB xb yb) (cmpI xw yw) (w3.heap.size + 1) _ (by have h9 := Sl.of_own (Own.new (n := 2) (sz := 1) (e := nT7) (base := 0) w3.drew #[.int .i64 (cmpB xb yb), .int .i64 (cmpI xw yw)] (by omega) (by omega) rfl); simp at h9; exact h9) (by simp)).mono ?_; rintro e w8 ⟨rfl, rfl⟩))
        all_goals
          rw [← HF.out]
          go_wp2_with fail
          go_ret
          exact ⟨rfl, grow_trans HGA.out (grow_trans (grow_alloc w3 _) (grow_drew _ 1))⟩
  · have HF : Hid (r = cmpI xa ya) := by show _ = _; rw [HR.out, if_pos ha]
    have e1 : (xa != ya) = true := by simp [ha]
    go_wp2_with fail
    refine (cmp7 _ _ _).mono ?_
    rintro e w2 ⟨rfl, rfl⟩
    rw [← HF.out]
    go_wp2_with fail
    go_ret
    exact ⟨rfl, HE.out⟩

end Go.Proofs.Ytogelnljkdcajaa
