/- cells: the order of places; cmp.Compare of strings. -/
import Derived.Test.YtkobaidamdffmaaCell2
import Derived.Deep.CutRange
import Derived.Sort.Grow
namespace Go.Proofs.Ytkobaidamdffmaa
open Go.RowKit Go.Sort
set_option linter.unusedVariables false
set_option linter.unusedSimpArgs false

theorem strOf_toList (D : List Int) : (strOfNums D).toList = D.map (fun n => UInt8.ofNat n.toNat) := by
  rw [ByteArray.toList_eq, strOfNums_data]
theorem less_eq : ∀ (D E : List Int), Bytes8 D → Bytes8 E → Op.bytesLess (D.map (fun n => UInt8.ofNat n.toNat)) (E.map (fun n => UInt8.ofNat n.toNat)) = decide (cmpB D E < 0)
  | [], [], _, _ => rfl
  | [], _ :: _, _, _ => rfl
  | _ :: _, [], _, _ => rfl
  | d :: D, e :: E, h1, h2 => by
    have hd := h1 d List.mem_cons_self
    have he := h2 e List.mem_cons_self
    have ih := less_eq D E (fun c hc => h1 c (List.mem_cons_of_mem _ hc)) (fun c hc => h2 c (List.mem_cons_of_mem _ hc))
    rw [List.map_cons, List.map_cons, Op.bytesLess, cmpB, ih]
    have l1 : (UInt8.ofNat d.toNat < UInt8.ofNat e.toNat) ↔ d < e := by
      rw [UInt8.lt_iff_toNat_lt]
      simp
      omega
    have l2 : (UInt8.ofNat d.toNat = UInt8.ofNat e.toNat) ↔ d = e := by
      constructor
      · intro h
        have h3 := congrArg UInt8.toNat h
        simp only [UInt8.toNat_ofNat'] at h3
        omega
      · intro h; rw [h]
    by_cases h3 : d < e
    · simp [l1, h3]
    · by_cases h4 : e < d
      · have h5 : ¬ d = e := by omega
        simp [l1, l2, h3, h4, h5]
      · have h5 : d = e := by omega
        subst h5
        simp

theorem snan (w : World) (x : ByteArray) : Calls Try.prog 81 #[.string x] w fun e w' => e = .returned (.bool false) ∧ w' = w := by
  have h : (x.toList == x.toList) = true := by simp
  have h2 : (x.toList != x.toList) = false := by simp
  go_enter Try.func81, Try.ntmps81
  go_wp2_with fail
  go_ret
  exact ⟨by simp, rfl⟩
theorem scmp_any (D E : List Int) (w : World) (h1 : Bytes8 D) (h2 : Bytes8 E) : Calls Try.prog 70 #[.string (strOfNums D), .string (strOfNums E)] w fun e w' => e = .returned (.int .i64 (cmpB D E)) ∧ w' = w := by
  have k1 : Op.bytesLess (strOfNums D).toList (strOfNums E).toList = decide (cmpB D E < 0) := by
    rw [strOf_toList, strOf_toList]
    exact less_eq D E h1 h2
  have k2 : ((strOfNums D).toList == (strOfNums E).toList) = decide (cmpB D E = 0) := by
    rw [str_eq D E h1 h2]
    exact decide_eq_decide.2 (cmpB_zero D E).symm
  have hn : cmpB D E = -1 ∨ cmpB D E = 0 ∨ cmpB D E = 1 := by
    clear k1 k2
    induction D generalizing E with
    | nil => cases E <;> simp [cmpB]
    | cons d D ih =>
      cases E with
      | nil => simp [cmpB]
      | cons e E =>
        unfold cmpB
        have := ih E (fun c hc => h1 c (List.mem_cons_of_mem _ hc)) (fun c hc => h2 c (List.mem_cons_of_mem _ hc))
        split
        · simp
        · split
          · simp
          · exact this
  generalize strOfNums D = s at *
  generalize strOfNums E = t at *
  generalize cmpB D E = c at *
  rcases hn with rfl | rfl | rfl
  all_goals
    simp only [show ((-1 : Int) < 0) = True by decide, show ((-1 : Int) = 0) = False by decide, show ((0 : Int) < 0) = False by decide, show ((1 : Int) < 0) = False by decide, show ((1 : Int) = 0) = False by decide, decide_true, decide_false] at k1 k2
    go_enter Try.func70, Try.ntmps70
    go_wp2_with (go_at_call 81; refine (snan _ _).mono ?_; rintro e w' ⟨rfl, rfl⟩)
    go_ret
    exact ⟨rfl, rfl⟩

/-- the order of places -/
def ordP (x y : PK) : Int := if wlt x.win y.win then -1 else if wlt y.win x.win then 1 else cmpB x.b y.b
theorem grow_trans {w w1 w2 : World} (h : ∃ q os, w1 = grow (w.drewN q) os) (k : ∃ q os, w2 = grow (w1.drewN q) os) : ∃ q os, w2 = grow (w.drewN q) os := by
  obtain ⟨q, os, rfl⟩ := h
  obtain ⟨q', os', rfl⟩ := k
  refine ⟨q + q', os ++ os', ?_⟩
  show grow (grow ((w.drewN q).drewN q') os) os' = _
  rw [grow_grow]
  congr 1
  rw [World.drewN_drewN]
theorem grow_alloc (w : World) (o : Obj) : ∃ q os, w.alloc o = grow (w.drewN q) os := ⟨0, _, by rw [alloc_eq_grow]; rfl⟩
theorem grow_bel {w w' : World} (h : ∃ q os, w' = grow (w.drewN q) os) : Below w.heap.size w w' := by
  obtain ⟨q, os, rfl⟩ := h
  exact grow_below q os
theorem less_grow7 (af at_ bf bt : Int) (w : World) : Calls Try.prog 69 #[.agg #[.int .i64 af, .int .i64 at_], .agg #[.int .i64 bf, .int .i64 bt]] w fun e w' => e = .returned (.bool (decide (wlt ⟨af, at_⟩ ⟨bf, bt⟩))) ∧ ∃ q os, w' = grow (w.drewN q) os := by
  obtain ⟨r, hr⟩ : ∃ r : Bool, r = decide (wlt ⟨af, at_⟩ ⟨bf, bt⟩) := ⟨_, rfl⟩
  rw [← hr]
  have HR : Hid (r = decide (ordI ⟨af, at_⟩ ⟨bf, bt⟩ < 0)) := by show _ = _; rw [hr]; exact decide_eq_decide.2 (ordI_neg _ _).symm
  clear hr
  go_enter Try.func69, Try.ntmps69
  go_wp2_with fail
  refine (order_any7 af at_ bf bt _).mono ?_
  rintro e w2 ⟨rfl, q, os, rfl⟩
  have HB2 : Hid (∃ q' os', grow (((w.alloc (.cells #[.int .i64 af, .int .i64 at_] wT)).alloc (.cells #[.int .i64 bf, .int .i64 bt] wT)).drewN q) os = grow (w.drewN q') os') := ⟨q, _, by rw [alloc_eq_grow, alloc_eq_grow, grow_grow]; show grow (grow (w.drewN q) _) os = _; rw [grow_grow]⟩
  generalize grow (World.drewN _ q) os = w3 at *
  generalize ordI ⟨af, at_⟩ ⟨bf, bt⟩ = x at *
  go_wp2_with fail
  go_ret
  rw [HR.out]
  exact ⟨rfl, HB2.out⟩

set_option maxHeartbeats 4000000 in
theorem pord_any (x y : PK) (w : World) : Calls Try.prog 51 #[.agg #[.string (strOfNums x.b), .int .i64 x.f, .int .i64 x.t], .agg #[.string (strOfNums y.b), .int .i64 y.f, .int .i64 y.t]] w fun e w' => e = .returned (.int .i64 (ordP x y)) ∧ ∃ q os, w' = grow (w.drewN q) os := by
  obtain ⟨xb, xf, xt, xo⟩ := x
  obtain ⟨yb, yf, yt, yo⟩ := y
  have HSC := hide (fun W => scmp_any xb yb W xo.1 yo.1)
  obtain ⟨r, hr⟩ : ∃ r, r = ordP ⟨xb, xf, xt, xo⟩ ⟨yb, yf, yt, yo⟩ := ⟨_, rfl⟩
  rw [← hr]
  have HR : Hid (r = if wlt ⟨xf, xt⟩ ⟨yf, yt⟩ then -1 else if wlt ⟨yf, yt⟩ ⟨xf, xt⟩ then 1 else cmpB xb yb) := hr
  simp only
  generalize hxs : strOfNums xb = xs at *
  generalize hys : strOfNums yb = ys at *
  clear hr hxs hys
  have HG : Hid (∃ q os, ((w.alloc (.cells #[.string xs, .int .i64 xf, .int .i64 xt] plT)).alloc (.cells #[.string ys, .int .i64 yf, .int .i64 yt] plT)) = grow (w.drewN q) os) := grow_trans (grow_alloc _ _) (grow_alloc _ _)
  have HP : Hid (Blk ((w.alloc (.cells #[.string xs, .int .i64 xf, .int .i64 xt] plT)).alloc (.cells #[.string ys, .int .i64 yf, .int .i64 yt] plT)) w.heap.size plT #[.string xs, .int .i64 xf, .int .i64 xt]) := (Blk.new w _ _).alloc _
  have HQ : Hid (Blk ((w.alloc (.cells #[.string xs, .int .i64 xf, .int .i64 xt] plT)).alloc (.cells #[.string ys, .int .i64 yf, .int .i64 yt] plT)) (w.heap.size + 1) plT #[.string ys, .int .i64 yf, .int .i64 yt]) := by
    have h9 := Blk.new (w.alloc (.cells #[.string xs, .int .i64 xf, .int .i64 xt] plT)) plT #[.string ys, .int .i64 yf, .int .i64 yt]
    simpa [Hid] using h9
  go_enter Try.func51, Try.ntmps51
  go_wp2_with fail
  generalize (w.alloc (.cells #[.string xs, .int .i64 xf, .int .i64 xt] plT)).alloc (.cells #[.string ys, .int .i64 yf, .int .i64 yt] plT) = w1 at *
  obtain ⟨pb, hpb⟩ : ∃ pb, pb = w.heap.size := ⟨_, rfl⟩
  obtain ⟨qb, hqb⟩ : ∃ qb, qb = w.heap.size + 1 := ⟨_, rfl⟩
  rw [← hqb] at HQ ⊢
  rw [← hpb] at HP ⊢
  clear hpb hqb
  refine (less_grow7 xf xt yf yt w1).mono ?_
  rintro e w2 ⟨rfl, hg2⟩
  have HG2 := hide (grow_trans HG.out hg2)
  have HP2 := hide (HP.out.below (grow_bel hg2) HP.out.lt)
  have HQ2 := hide (HQ.out.below (grow_bel hg2) HQ.out.lt)
  clear hg2
  by_cases h1 : wlt ⟨xf, xt⟩ ⟨yf, yt⟩
  · have HF : Hid (r = -1) := by rw [Hid, HR.out, if_pos h1]
    rw [decide_eq_true h1]
    clear h1
    go_wp2_with fail
    go_ret
    rw [HF.out]
    exact ⟨rfl, HG2.out⟩
  · have HF : Hid (r = if wlt ⟨yf, yt⟩ ⟨xf, xt⟩ then 1 else cmpB xb yb) := by rw [Hid, HR.out, if_neg h1]
    rw [decide_eq_false h1]
    clear h1
    have p1 : w2.cell? ⟨pb, 1, none⟩ = some (.int .i64 xf) := HP2.out.cell 1
    have p2 : w2.cell? ⟨pb, 2, none⟩ = some (.int .i64 xt) := HP2.out.cell 2
    have q1 : w2.cell? ⟨qb, 1, none⟩ = some (.int .i64 yf) := HQ2.out.cell 1
    have q2 : w2.cell? ⟨qb, 2, none⟩ = some (.int .i64 yt) := HQ2.out.cell 2
    have hpl := HP2.out.lt
    have hql := HQ2.out.lt
    go_wp2_with fail
    refine (less_grow7 yf yt xf xt w2).mono ?_
    rintro e w3 ⟨rfl, hg3⟩
    have HG3 := hide (grow_trans HG2.out hg3)
    have HP3 := hide (HP2.out.below (grow_bel hg3) HP2.out.lt)
    have HQ3 := hide (HQ2.out.below (grow_bel hg3) HQ2.out.lt)
    clear hg3 p1 p2 q1 q2 hpl hql
    by_cases h2 : wlt ⟨yf, yt⟩ ⟨xf, xt⟩
    · have HE : Hid (r = 1) := by rw [Hid, HF.out, if_pos h2]
      rw [decide_eq_true h2]
      clear h2
      go_wp2_with fail
      go_ret
      rw [HE.out]
      exact ⟨rfl, HG3.out⟩
    · have HE : Hid (r = cmpB xb yb) := by rw [Hid, HF.out, if_neg h2]
      rw [decide_eq_false h2]
      clear h2
      have p0 : w3.cell? ⟨pb, 0, none⟩ = some (.string xs) := HP3.out.cell 0
      have q0 : w3.cell? ⟨qb, 0, none⟩ = some (.string ys) := HQ3.out.cell 0
      have hpl := HP3.out.lt
      have hql := HQ3.out.lt
      go_wp2_with fail
      refine (HSC.out w3).mono ?_
      rintro e w4 ⟨rfl, rfl⟩
      go_wp2_with fail
      go_ret
      rw [HE.out]
      exact ⟨rfl, HG3.out⟩

end Go.Proofs.Ytkobaidamdffmaa
