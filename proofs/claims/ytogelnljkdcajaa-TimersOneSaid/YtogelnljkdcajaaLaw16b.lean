/- TimersOne: the walk. -/
import Derived.Test.YtogelnljkdcajaaLaw16c
import Derived.Deep.CutBlock
namespace Go.Proofs.Ytogelnljkdcajaa
open Go.RowKit Go.Sort
set_option linter.unusedVariables false
set_option linter.unusedSimpArgs false


theorem setD_twice {L5 : List TD} {L L' : List TV} {x : TD} (h : (L.map TV.d).Perm (setD L5 x)) (k : (L'.map TV.d).Perm (setD (L.map TV.d) x)) : L'.length = L.length := by
  have h1 := k.length_eq
  have h2 := h.length_eq
  have h3 := (h.filter (fun y => decide (y.nm ≠ x.nm))).length_eq
  have h4 : ((setD L5 x).filter (fun y => decide (y.nm ≠ x.nm))) = L5.filter (fun y => decide (y.nm ≠ x.nm)) := by
    unfold setD
    rw [List.filter_append, List.filter_filter]
    simp
  rw [h4] at h3
  unfold setD at h1 h2
  rw [List.length_append] at h1 h2
  simp only [List.length_map, List.length_cons, List.length_nil] at h1 h2
  omega

set_option maxRecDepth 100000 in
set_option maxHeartbeats 16000000 in
theorem one16_ok (x y : TV) (v : Value) (D : List TV) (w : World) (hx : TmQ w x) (hy : TmQ w y) (hs : Sl w w.heap.size v 5 D.length (tms D)) (hD : ∀ x ∈ D, TmQ w x) :
    Calls Try.prog 3 #[.agg x.cells.toArray, .agg y.cells.toArray, v] w fun e w' => e = .returned (.bool true) ∧ Below w.heap.size w w' := by
  obtain ⟨A, c, hkx, hc⟩ := hx.1.sl.form
  obtain ⟨A', c', hky, hc'⟩ := hy.1.sl.form
  obtain ⟨sA, sc, rfl, hsc⟩ := hs.form
  have hmax := hs.max
  obtain ⟨xa, xk, xb, xf, xt, xw⟩ := x
  obtain ⟨ya, yk, yb, yf, yt, yw⟩ := y
  simp only at hkx hky hc hc'
  subst hkx hky
  have HXS := hide hx.1.sl
  have HYS := hide hy.1.sl
  have HX8 := hide hx.1.b8
  have HY8 := hide hy.1.b8
  have hxn := hx.2
  have hyn := hy.2
  simp only at HXS HYS HX8 HY8 hxn hyn
  have HS := hide hs
  have HD := hide hD
  unfold TV.cells
  simp only
  clear hx hy hs hD
  obtain ⟨n, hn⟩ : ∃ n, n = xb.length := ⟨_, rfl⟩
  obtain ⟨m, hm⟩ : ∃ m, m = yb.length := ⟨_, rfl⟩
  obtain ⟨N, hN⟩ : ∃ N, N = D.length := ⟨_, rfl⟩
  rw [← hn] at HXS hc hxn ⊢
  rw [← hm] at HYS hc' hyn ⊢
  rw [← hN] at HS hsc hmax ⊢
  have HN := hide hn
  have HM := hide hm
  have HNN := hide hN
  clear hn hm hN
  have HP : Hid (Blk ((w.alloc (.cells #[.int .i64 xa, .slice A n c, .int .i64 xf, .int .i64 xt, .int .i64 xw] rtT)).alloc (.cells #[.int .i64 ya, .slice A' m c', .int .i64 yf, .int .i64 yt, .int .i64 yw] rtT)) w.heap.size rtT #[.int .i64 xa, .slice A n c, .int .i64 xf, .int .i64 xt, .int .i64 xw]) := (two_boxes w rtT _ _).1
  have HQ : Hid (Blk ((w.alloc (.cells #[.int .i64 xa, .slice A n c, .int .i64 xf, .int .i64 xt, .int .i64 xw] rtT)).alloc (.cells #[.int .i64 ya, .slice A' m c', .int .i64 yf, .int .i64 yt, .int .i64 yw] rtT)) (w.heap.size + 1) rtT #[.int .i64 ya, .slice A' m c', .int .i64 yf, .int .i64 yt, .int .i64 yw]) := (two_boxes w rtT _ _).2.1
  have HB1 : Hid (Below w.heap.size w ((w.alloc (.cells #[.int .i64 xa, .slice A n c, .int .i64 xf, .int .i64 xt, .int .i64 xw] rtT)).alloc (.cells #[.int .i64 ya, .slice A' m c', .int .i64 yf, .int .i64 yt, .int .i64 yw] rtT))) := (two_boxes w rtT _ _).2.2
  go_enter Try.func3, Try.ntmps3
  go_wp2_with fail
  refine (new_any _ w.heap.size HB1.out.size).mono ?_
  generalize ((w.alloc (.cells #[.int .i64 xa, .slice A n c, .int .i64 xf, .int .i64 xt, .int .i64 xw] rtT)).alloc (.cells #[.int .i64 ya, .slice A' m c', .int .i64 yf, .int .i64 yt, .int .i64 yw] rtT)) = w1 at *
  rintro e w2 ⟨hb, tb, mb, lv, rfl, hp2, hb2⟩
  obtain ⟨pb, hpb⟩ : ∃ pb, pb = w.heap.size := ⟨_, rfl⟩
  obtain ⟨qb, hqb⟩ : ∃ qb, qb = w.heap.size + 1 := ⟨_, rfl⟩
  have HW : Hid (w.heap.size ≤ pb ∧ w.heap.size ≤ qb) := by rw [hpb, hqb]; exact ⟨Nat.le_refl _, Nat.le_succ _⟩
  have HPQ : Hid (pb ≠ qb) := by show _ ≠ _; omega
  rw [← hqb] at HQ ⊢
  rw [← hpb] at HP ⊢
  clear hpb hqb
  have HP2 := hide (HP.out.below hb2 HP.out.lt)
  have HQ2 := hide (HQ.out.below hb2 HQ.out.lt)
  have H2 : Hid (HR w w2 hb tb mb lv []) := ⟨hp2, HB1.out.trans (hb2.mono HB1.out.size)⟩
  clear hp2 hb2 HP HQ HB1
  by_cases h100 : N ≤ 100
  · have hg : ¬ (100 : Int) < (N : Int) := by omega
    go_wp2_with fail
    go_loopw [30] (fun i wr => ∃ (k : Nat) (lv1 : Value) (L1 : List TV), k ≤ N ∧ i = .int .i64 k ∧ L1.length ≤ k ∧ Hid (HR w wr hb tb mb lv1 L1 ∧ Blk wr pb rtT #[.int .i64 xa, .slice A n c, .int .i64 xf, .int .i64 xt, .int .i64 xw] ∧ Blk wr qb rtT #[.int .i64 ya, .slice A' m c', .int .i64 yf, .int .i64 yt, .int .i64 yw])) (fun i _ => N - (intOf i).toNat)
    case atStart => exact ⟨0, lv, [], Nat.zero_le _, rfl, Nat.le_refl _, H2.out, HP2.out, HQ2.out⟩
    case round =>
      obtain ⟨k, lv1, L1, hk, rfl, hl1, HI⟩ := hrel
      by_cases hlt : k < N
      · have hkD : k < D.length := by rw [← HNN.out]; exact hlt
        obtain ⟨ad, rfl, hab, a0, a1, a2, a3, a4⟩ := tm_at (HS.out.below HI.out.1.bl) hlt HNN.out.symm
        have hzr := HI.out.1.bl.size
        have hab2 : (ad.add (k * 5)).block < wr.heap.size := by omega
        have HO := hide (HD.out _ (List.getElem_mem hkD))
        generalize D[k] = o at a0 a1 a2 a3 a4 HO
        obtain ⟨oa, ok, ob, of, ot, ow⟩ := o
        obtain ⟨oA, oc, hok, hoc⟩ := HO.out.1.sl.form
        simp only at a0 a1 a2 a3 a4 hok hoc
        subst hok
        have HOS := hide HO.out.1.sl
        have HO8 := hide HO.out.1.b8
        have hon := HO.out.2
        simp only at HOS HO8 hon
        obtain ⟨on, hol⟩ : ∃ on, on = ob.length := ⟨_, rfl⟩
        rw [← hol] at a1 HOS hon hoc
        have HOL := hide hol
        clear hol HO
        go_wp2_with fail
        have HI2 : Hid (HR w (wr.alloc (.cells #[.int .i64 oa, .slice oA on oc, .int .i64 of, .int .i64 ot, .int .i64 ow] rtT)) hb tb mb lv1 L1 ∧ Blk (wr.alloc (.cells #[.int .i64 oa, .slice oA on oc, .int .i64 of, .int .i64 ot, .int .i64 ow] rtT)) pb rtT #[.int .i64 xa, .slice A n c, .int .i64 xf, .int .i64 xt, .int .i64 xw] ∧ Blk (wr.alloc (.cells #[.int .i64 oa, .slice oA on oc, .int .i64 of, .int .i64 ot, .int .i64 ow] rtT)) qb rtT #[.int .i64 ya, .slice A' m c', .int .i64 yf, .int .i64 yt, .int .i64 yw]) :=
          ⟨HI.out.1.below ((Below.refl _ _).alloc (Nat.le_refl _) _), HI.out.2.1.alloc _, HI.out.2.2.alloc _⟩
        generalize wr.alloc (.cells #[.int .i64 oa, .slice oA on oc, .int .i64 of, .int .i64 ot, .int .i64 ow] rtT) = w3 at *
        refine (out_any _ _ _ _ _ ob on w.heap.size _ (HOS.out.below HI2.out.1.bl) HOL.out.symm hon HI2.out.1.bl.size).mono ?_
        rintro e w4 ⟨u, rfl, ho4, hb4⟩
        obtain ⟨uA, uc, rfl, huc⟩ := ho4.sl.form
        have HS4 := hide (hset_out w w3 w4 hb tb mb on lv1 _ L1 ob oa of ot ow HI2.out.1 ho4 hb4 HOL.out.symm HO8.out (by omega))
        have HI4 : Hid (Blk (w4.alloc (.cells #[.int .i64 oa, .slice uA on uc, .int .i64 of, .int .i64 ot, .int .i64 ow] tmT)) pb rtT #[.int .i64 xa, .slice A n c, .int .i64 xf, .int .i64 xt, .int .i64 xw] ∧ Blk (w4.alloc (.cells #[.int .i64 oa, .slice uA on uc, .int .i64 of, .int .i64 ot, .int .i64 ow] tmT)) qb rtT #[.int .i64 ya, .slice A' m c', .int .i64 yf, .int .i64 yt, .int .i64 yw] ∧ HR w (w4.alloc (.cells #[.int .i64 oa, .slice uA on uc, .int .i64 of, .int .i64 ot, .int .i64 ow] tmT)) hb tb mb lv1 L1) :=
          ⟨(HI2.out.2.1.below hb4 HI2.out.2.1.lt).alloc _, (HI2.out.2.2.below hb4 HI2.out.2.2.lt).alloc _, (HI2.out.1.below hb4).below ((Below.refl _ _).alloc (Nat.le_refl _) _)⟩
        clear ho4 hb4 a0 a1 a2 a3 a4
        go_wp2_with fail
        refine HS4.out.mono ?_
        rintro e w5 hset
        obtain ⟨z5, lv5, L5, rfl, h5, hl5, hf5, hn5⟩ := hset.both
        have HI5 : Hid (HR w w5 hb tb mb lv5 L5 ∧ Blk w5 pb rtT #[.int .i64 xa, .slice A n c, .int .i64 xf, .int .i64 xt, .int .i64 xw] ∧ Blk w5 qb rtT #[.int .i64 ya, .slice A' m c', .int .i64 yf, .int .i64 yt, .int .i64 yw]) :=
          ⟨h5, HI4.out.2.2.keep hf5 HI4.out.1 (by decide) (by decide), HI4.out.2.2.keep hf5 HI4.out.2.1 (by decide) (by decide)⟩
        clear h5 hf5 hn5 hset HS4 HI4
        simp only [List.length_cons, List.length_nil] at hl5
        go_wp2_with fail
        go_roundw
        case rel => exact ⟨k + 1, lv5, L5, by omega, by simp, by omega, HI5⟩
        case measure => simp [intOf]; omega
      · have hl1' : L1.length ≤ 100 := by omega
        clear HS HD HNN H2 HP2 HQ2 hl1
        have hpl := HI.out.2.1.lt
        have hql := HI.out.2.2.lt
        have p1 : wr.cell? ⟨pb, 1, none⟩ = some (.slice A n c) := HI.out.2.1.cell 1
        have p2 : wr.cell? ⟨pb, 2, none⟩ = some (.int .i64 xf) := HI.out.2.1.cell 2
        have p3 : wr.cell? ⟨pb, 3, none⟩ = some (.int .i64 xt) := HI.out.2.1.cell 3
        have p4 : wr.cell? ⟨pb, 4, none⟩ = some (.int .i64 xw) := HI.out.2.1.cell 4
        have q1 : wr.cell? ⟨qb, 1, none⟩ = some (.slice A' m c') := HI.out.2.2.cell 1
        have q2 : wr.cell? ⟨qb, 2, none⟩ = some (.int .i64 yf) := HI.out.2.2.cell 2
        have q3 : wr.cell? ⟨qb, 3, none⟩ = some (.int .i64 yt) := HI.out.2.2.cell 3
        have q4 : wr.cell? ⟨qb, 4, none⟩ = some (.int .i64 yw) := HI.out.2.2.cell 4
        have z1 := HI.out.2.2.frozen 1
        have z2 := HI.out.2.2.frozen 2
        have z3 := HI.out.2.2.frozen 3
        have z4 := HI.out.2.2.frozen 4
        have HFAR : Hid (∀ (X : World) (i o : Nat) (u : Value), (X.setCell ⟨qb, i, none⟩ u).cell? ⟨pb, o, none⟩ = X.cell? ⟨pb, o, none⟩) := fun X i o u => World.cell?_of_block (Below.heap_setCell X ⟨qb, i, none⟩ u pb HPQ.out)
        have HDR : Hid (∀ (X : World) (p : Addr), X.drew.cell? p = X.cell? p) := fun _ _ => rfl
        go_upto_region 9 with fail
        go_cut [] from 40 to 48 (fun wx => wx = ((((wr.setCell ⟨qb, 1, none⟩ (.slice A n c)).setCell ⟨qb, 2, none⟩ (.int .i64 xf)).setCell ⟨qb, 3, none⟩ (.int .i64 xt)).setCell ⟨qb, 4, none⟩ (.int .i64 xw)).drew)
        case first =>
          go_region_held3 (fun X : World => X.cell? ⟨pb, 1, none⟩ = some (.slice A n c) ∧ X.cell? ⟨pb, 2, none⟩ = some (.int .i64 xf) ∧ X.cell? ⟨pb, 3, none⟩ = some (.int .i64 xt) ∧ X.cell? ⟨pb, 4, none⟩ = some (.int .i64 xw)) (first | exact ⟨p1, p2, p3, p4⟩ | (refine ⟨?_, ?_, ?_, ?_⟩ <;> simp only [HDR.out, HFAR.out, p1, p2, p3, p4])) (fail)
          all_goals
            go_wp2_with fail
            go_meet
            case rel => rfl
        case rest =>
          have HI3 : Hid (HR w wc hb tb mb lv1 L1 ∧ Blk wc pb rtT #[.int .i64 xa, .slice A n c, .int .i64 xf, .int .i64 xt, .int .i64 xw] ∧ Blk wc qb rtT #[.int .i64 ya, .slice A n c, .int .i64 xf, .int .i64 xt, .int .i64 xw]) := by
            rw [hcut]
            have hf : Fr (fun k => k = qb) wr ((((wr.setCell ⟨qb, 1, none⟩ (.slice A n c)).setCell ⟨qb, 2, none⟩ (.int .i64 xf)).setCell ⟨qb, 3, none⟩ (.int .i64 xt)).setCell ⟨qb, 4, none⟩ (.int .i64 xw)).drew := (((((Fr.refl _ wr).put1 1 _).put1 2 _).put1 3 _).put1 4 _).drew
            exact ⟨HI.out.1.wr HI.out.2.2 hf HW.out.2 (by decide) (by decide) (by decide) (HI.out.1.own_ne HI.out.2.2 (by decide)), hf.blk HI.out.2.1 HPQ.out, ((((HI.out.2.2.put 1 _).put 2 _).put 3 _).put 4 _).drew⟩
          clear hcut p1 p2 p3 p4 q1 q2 q3 q4 z1 z2 z3 z4 hpl hql HFAR HDR HI
          have p0 : wc.cell? ⟨pb, 0, none⟩ = some (.int .i64 xa) := HI3.out.2.1.cell 0
          have p1 : wc.cell? ⟨pb, 1, none⟩ = some (.slice A n c) := HI3.out.2.1.cell 1
          have p2 : wc.cell? ⟨pb, 2, none⟩ = some (.int .i64 xf) := HI3.out.2.1.cell 2
          have p3 : wc.cell? ⟨pb, 3, none⟩ = some (.int .i64 xt) := HI3.out.2.1.cell 3
          have p4 : wc.cell? ⟨pb, 4, none⟩ = some (.int .i64 xw) := HI3.out.2.1.cell 4
          have hpl := HI3.out.2.1.lt
          go_wp2_with fail
          refine (out_any _ _ _ _ _ xb n w.heap.size _ (HXS.out.below HI3.out.1.bl) HN.out.symm hxn HI3.out.1.bl.size).mono ?_
          rintro e w4 ⟨u, rfl, ho4, hb4⟩
          obtain ⟨uA, uc, rfl, huc⟩ := ho4.sl.form
          have HS4 := hide (hset_out w wc w4 hb tb mb n lv1 _ L1 xb xa xf xt xw HI3.out.1 ho4 hb4 HN.out.symm HX8.out (by omega))
          have HI4 : Hid (Blk (w4.alloc (.cells #[.int .i64 xa, .slice uA n uc, .int .i64 xf, .int .i64 xt, .int .i64 xw] tmT)) pb rtT #[.int .i64 xa, .slice A n c, .int .i64 xf, .int .i64 xt, .int .i64 xw] ∧ Blk (w4.alloc (.cells #[.int .i64 xa, .slice uA n uc, .int .i64 xf, .int .i64 xt, .int .i64 xw] tmT)) qb rtT #[.int .i64 ya, .slice A n c, .int .i64 xf, .int .i64 xt, .int .i64 xw] ∧ HR w (w4.alloc (.cells #[.int .i64 xa, .slice uA n uc, .int .i64 xf, .int .i64 xt, .int .i64 xw] tmT)) hb tb mb lv1 L1) :=
            ⟨(HI3.out.2.1.below hb4 HI3.out.2.1.lt).alloc _, (HI3.out.2.2.below hb4 HI3.out.2.2.lt).alloc _, (HI3.out.1.below hb4).below ((Below.refl _ _).alloc (Nat.le_refl _) _)⟩
          clear ho4 hb4 p0 p1 p2 p3 p4 hpl HI3
          go_wp2_with fail
          refine HS4.out.mono ?_
          clear HS4
          rintro e w5 ⟨lv5, hf5, hn5, ⟨hnr, rfl, h5⟩ | ⟨hr, rfl, L5, h5, hpm5⟩⟩
          · have HXR : Hid (¬ TV.right ⟨xa, .slice A n c, xb, xf, xt, xw⟩) := fun h9 => hnr (fun z hz => by rw [List.mem_singleton.1 hz]; exact h9)
            have HP5 := hide (HI4.out.2.2.keep hf5 HI4.out.1 (by decide) (by decide))
            have H5 := hide h5
            clear hf5 hn5 hnr h5 HI4
            have p0 : w5.cell? ⟨pb, 0, none⟩ = some (.int .i64 xa) := HP5.out.cell 0
            have p1 : w5.cell? ⟨pb, 1, none⟩ = some (.slice A n c) := HP5.out.cell 1
            have p2 : w5.cell? ⟨pb, 2, none⟩ = some (.int .i64 xf) := HP5.out.cell 2
            have p3 : w5.cell? ⟨pb, 3, none⟩ = some (.int .i64 xt) := HP5.out.cell 3
            have p4 : w5.cell? ⟨pb, 4, none⟩ = some (.int .i64 xw) := HP5.out.cell 4
            have hpl := HP5.out.lt
            go_wp2_with fail
            refine (rright_any ⟨xa, .slice A n c, xb, xf, xt, xw⟩ w.heap.size w5 ⟨by have h9 := HXS.out.below H5.out.bl; rw [HN.out] at h9 ⊢; exact h9, HX8.out⟩).mono ?_
            rw [decide_eq_false HXR.out]
            rintro e w6 ⟨rfl, hb6⟩
            have H6 := hide (H5.out.bl.trans (hb6.mono H5.out.bl.size))
            clear hb6
            go_wp2_with fail
            refine (awake16 w6).mono ?_
            rintro e w7 ⟨rfl, hb7⟩
            have H7 := hide (H6.out.trans (hb7.mono H6.out.size))
            clear hb7
            go_wp2_with fail
            go_ret
            exact ⟨rfl, H7.out⟩
          · skip
            -- BEGIN
            have HXR : Hid (TV.right ⟨xa, .slice A n c, xb, xf, xt, xw⟩) := hr ⟨xa, xb, xf, xt, xw⟩ (by simp)
            have HK5 : Hid (HR w w5 hb tb mb lv5 L5 ∧ Blk w5 pb rtT #[.int .i64 xa, .slice A n c, .int .i64 xf, .int .i64 xt, .int .i64 xw] ∧ Blk w5 qb rtT #[.int .i64 ya, .slice A n c, .int .i64 xf, .int .i64 xt, .int .i64 xw]) := ⟨h5, HI4.out.2.2.keep hf5 HI4.out.1 (by decide) (by decide), HI4.out.2.2.keep hf5 HI4.out.2.1 (by decide) (by decide)⟩
            have HPM5 : Hid ((L5.map TV.d).Perm (setD (L1.map TV.d) ⟨xa, xb, xf, xt, xw⟩)) := hpm5
            have hl5 : L5.length ≤ 101 := by
              have h9 := hpm5.length_eq
              have h8 := sets_len [⟨xa, xb, xf, xt, xw⟩] (L1.map TV.d)
              simp only [List.length_map, List.length_cons, List.length_nil] at h9 h8
              omega
            clear h5 hf5 hn5 hr hpm5 HI4
            have q0 : w5.cell? ⟨qb, 0, none⟩ = some (.int .i64 ya) := HK5.out.2.2.cell 0
            have q1 : w5.cell? ⟨qb, 1, none⟩ = some (.slice A n c) := HK5.out.2.2.cell 1
            have q2 : w5.cell? ⟨qb, 2, none⟩ = some (.int .i64 xf) := HK5.out.2.2.cell 2
            have q3 : w5.cell? ⟨qb, 3, none⟩ = some (.int .i64 xt) := HK5.out.2.2.cell 3
            have q4 : w5.cell? ⟨qb, 4, none⟩ = some (.int .i64 xw) := HK5.out.2.2.cell 4
            have hql := HK5.out.2.2.lt
            go_wp2_with fail
            refine (out_any _ _ _ _ _ xb n w.heap.size _ (HXS.out.below HK5.out.1.bl) HN.out.symm hxn HK5.out.1.bl.size).mono ?_
            rintro e w6 ⟨u, rfl, ho4, hb4⟩
            obtain ⟨uA6, uc6, rfl, huc6⟩ := ho4.sl.form
            have HS6 := hide (hset_out w w5 w6 hb tb mb n lv5 _ L5 xb ya xf xt xw HK5.out.1 ho4 hb4 HN.out.symm HX8.out (by omega))
            have HI6 : Hid (Blk (w6.alloc (.cells #[.int .i64 ya, .slice uA6 n uc6, .int .i64 xf, .int .i64 xt, .int .i64 xw] tmT)) pb rtT #[.int .i64 xa, .slice A n c, .int .i64 xf, .int .i64 xt, .int .i64 xw] ∧ Blk (w6.alloc (.cells #[.int .i64 ya, .slice uA6 n uc6, .int .i64 xf, .int .i64 xt, .int .i64 xw] tmT)) qb rtT #[.int .i64 ya, .slice A n c, .int .i64 xf, .int .i64 xt, .int .i64 xw] ∧ HR w (w6.alloc (.cells #[.int .i64 ya, .slice uA6 n uc6, .int .i64 xf, .int .i64 xt, .int .i64 xw] tmT)) hb tb mb lv5 L5) :=
              ⟨(HK5.out.2.1.below hb4 HK5.out.2.1.lt).alloc _, (HK5.out.2.2.below hb4 HK5.out.2.2.lt).alloc _, (HK5.out.1.below hb4).below ((Below.refl _ _).alloc (Nat.le_refl _) _)⟩
            clear ho4 hb4
            clear q0 q1 q2 q3 q4 hql
            go_wp2_with fail
            refine HS6.out.mono ?_
            clear HS6
            rintro e w7 ⟨lv7, hf7, hn7, ⟨hnr, rfl, h7⟩ | ⟨hr7, rfl, L7, h7, hpm7⟩⟩
            · have HYR : Hid (¬ TV.right ⟨ya, .slice A n c, xb, xf, xt, xw⟩) := fun h9 => hnr (fun z hz => by rw [List.mem_singleton.1 hz]; exact h9)
              have HK7 : Hid (HR w w7 hb tb mb lv7 L5 ∧ Blk w7 pb rtT #[.int .i64 xa, .slice A n c, .int .i64 xf, .int .i64 xt, .int .i64 xw] ∧ Blk w7 qb rtT #[.int .i64 ya, .slice A n c, .int .i64 xf, .int .i64 xt, .int .i64 xw]) := ⟨h7, HI6.out.2.2.keep hf7 HI6.out.1 (by decide) (by decide), HI6.out.2.2.keep hf7 HI6.out.2.1 (by decide) (by decide)⟩
              clear h7 hf7 hn7 hnr HI6 HPM5 HK5
              have p0 : w7.cell? ⟨pb, 0, none⟩ = some (.int .i64 xa) := HK7.out.2.1.cell 0
              have p1 : w7.cell? ⟨pb, 1, none⟩ = some (.slice A n c) := HK7.out.2.1.cell 1
              have p2 : w7.cell? ⟨pb, 2, none⟩ = some (.int .i64 xf) := HK7.out.2.1.cell 2
              have p3 : w7.cell? ⟨pb, 3, none⟩ = some (.int .i64 xt) := HK7.out.2.1.cell 3
              have p4 : w7.cell? ⟨pb, 4, none⟩ = some (.int .i64 xw) := HK7.out.2.1.cell 4
              have hpl := HK7.out.2.1.lt
              go_wp2_with fail
              refine (rright_any ⟨xa, .slice A n c, xb, xf, xt, xw⟩ w.heap.size w7 ⟨by have h9 := HXS.out.below HK7.out.1.bl; rw [HN.out] at h9 ⊢; exact h9, HX8.out⟩).mono ?_
              rw [decide_eq_true HXR.out]
              rintro e w8 ⟨rfl, hb8⟩
              have HQ8 := hide (HK7.out.2.2.below hb8 HK7.out.2.2.lt)
              have H8 := hide (HK7.out.1.bl.trans (hb8.mono HK7.out.1.bl.size))
              clear hb8
              clear p0 p1 p2 p3 p4 hpl
              have q0 : w8.cell? ⟨qb, 0, none⟩ = some (.int .i64 ya) := HQ8.out.cell 0
              have q1 : w8.cell? ⟨qb, 1, none⟩ = some (.slice A n c) := HQ8.out.cell 1
              have q2 : w8.cell? ⟨qb, 2, none⟩ = some (.int .i64 xf) := HQ8.out.cell 2
              have q3 : w8.cell? ⟨qb, 3, none⟩ = some (.int .i64 xt) := HQ8.out.cell 3
              have q4 : w8.cell? ⟨qb, 4, none⟩ = some (.int .i64 xw) := HQ8.out.cell 4
              have hql := HQ8.out.lt
              go_wp2_with fail
              refine (rright_any ⟨ya, .slice A n c, xb, xf, xt, xw⟩ w.heap.size w8 ⟨by have h9 := HXS.out.below H8.out; rw [HN.out] at h9 ⊢; exact h9, HX8.out⟩).mono ?_
              rw [decide_eq_false HYR.out]
              rintro e w9 ⟨rfl, hb9⟩
              have H9 := hide (H8.out.trans (hb9.mono H8.out.size))
              clear hb9
              clear q0 q1 q2 q3 q4 hql
              go_wp2_with fail
              refine (awake16 w9).mono ?_
              rintro e w10 ⟨rfl, hb10⟩
              have H10 := hide (H9.out.trans (hb10.mono H9.out.size))
              clear hb10
              go_wp2_with fail
              go_ret
              exact ⟨rfl, H10.out⟩
            · have HYR : Hid (TD.right ⟨ya, xb, xf, xt, xw⟩) := hr7 ⟨ya, xb, xf, xt, xw⟩ (by simp)
              have HK7 : Hid (HR w w7 hb tb mb lv7 L7 ∧ Blk w7 pb rtT #[.int .i64 xa, .slice A n c, .int .i64 xf, .int .i64 xt, .int .i64 xw] ∧ Blk w7 qb rtT #[.int .i64 ya, .slice A n c, .int .i64 xf, .int .i64 xt, .int .i64 xw]) := ⟨h7, HI6.out.2.2.keep hf7 HI6.out.1 (by decide) (by decide), HI6.out.2.2.keep hf7 HI6.out.2.1 (by decide) (by decide)⟩
              have HPM7 : Hid ((L7.map TV.d).Perm (setD (L5.map TV.d) ⟨ya, xb, xf, xt, xw⟩)) := hpm7
              have hl7 : L7.length ≤ 102 := by
                have h9 := hpm7.length_eq
                have h8 := sets_len [⟨ya, xb, xf, xt, xw⟩] (L5.map TV.d)
                simp only [List.length_map, List.length_cons, List.length_nil] at h9 h8
                omega
              clear h7 hf7 hn7 hr7 hpm7 HI6 HPM5 HK5
              go_wp2_with fail
              refine (hlen_any w7 _ hb tb mb lv7 L7 HK7.out.1.hp).mono ?_
              rintro e w8 ⟨rfl, rfl⟩
              obtain ⟨l, hl⟩ : ∃ l, l = L7.length := ⟨_, rfl⟩
              have HL := hide hl
              rw [← hl]
              clear hl
              have q0 : w8.cell? ⟨qb, 0, none⟩ = some (.int .i64 ya) := HK7.out.2.2.cell 0
              have q1 : w8.cell? ⟨qb, 1, none⟩ = some (.slice A n c) := HK7.out.2.2.cell 1
              have q2 : w8.cell? ⟨qb, 2, none⟩ = some (.int .i64 xf) := HK7.out.2.2.cell 2
              have q3 : w8.cell? ⟨qb, 3, none⟩ = some (.int .i64 xt) := HK7.out.2.2.cell 3
              have q4 : w8.cell? ⟨qb, 4, none⟩ = some (.int .i64 xw) := HK7.out.2.2.cell 4
              have hql := HK7.out.2.2.lt
              go_wp2_with fail
              refine (out_any _ _ _ _ _ xb n w.heap.size _ (HXS.out.below HK7.out.1.bl) HN.out.symm hxn HK7.out.1.bl.size).mono ?_
              rintro e w9 ⟨u, rfl, ho4, hb4⟩
              obtain ⟨uA9, uc9, rfl, huc9⟩ := ho4.sl.form
              have HS9 := hide (hset_out w w8 w9 hb tb mb n lv7 _ L7 xb ya xf xt xw HK7.out.1 ho4 hb4 HN.out.symm HX8.out (by omega))
              have HI9 : Hid (Blk (w9.alloc (.cells #[.int .i64 ya, .slice uA9 n uc9, .int .i64 xf, .int .i64 xt, .int .i64 xw] tmT)) pb rtT #[.int .i64 xa, .slice A n c, .int .i64 xf, .int .i64 xt, .int .i64 xw] ∧ Blk (w9.alloc (.cells #[.int .i64 ya, .slice uA9 n uc9, .int .i64 xf, .int .i64 xt, .int .i64 xw] tmT)) qb rtT #[.int .i64 ya, .slice A n c, .int .i64 xf, .int .i64 xt, .int .i64 xw] ∧ HR w (w9.alloc (.cells #[.int .i64 ya, .slice uA9 n uc9, .int .i64 xf, .int .i64 xt, .int .i64 xw] tmT)) hb tb mb lv7 L7) :=
                ⟨(HK7.out.2.1.below hb4 HK7.out.2.1.lt).alloc _, (HK7.out.2.2.below hb4 HK7.out.2.2.lt).alloc _, (HK7.out.1.below hb4).below ((Below.refl _ _).alloc (Nat.le_refl _) _)⟩
              clear ho4 hb4
              clear q0 q1 q2 q3 q4 hql
              go_wp2_with fail
              refine HS9.out.mono ?_
              clear HS9
              rintro e w10 ⟨lv10, hf10, hn10, ⟨hnr, rfl, h10⟩ | ⟨_, rfl, L10, h10, hpm10⟩⟩
              · exact absurd (fun z hz => by rw [List.mem_singleton.1 hz]; exact HYR.out) hnr
              have HK10 : Hid (HR w w10 hb tb mb lv10 L10 ∧ Blk w10 pb rtT #[.int .i64 xa, .slice A n c, .int .i64 xf, .int .i64 xt, .int .i64 xw] ∧ Blk w10 qb rtT #[.int .i64 ya, .slice A n c, .int .i64 xf, .int .i64 xt, .int .i64 xw]) := ⟨h10, HI9.out.2.2.keep hf10 HI9.out.1 (by decide) (by decide), HI9.out.2.2.keep hf10 HI9.out.2.1 (by decide) (by decide)⟩
              have HT : Hid (L10.length = l ∧ (L10.map TV.d).Perm (setD (L7.map TV.d) ⟨ya, xb, xf, xt, xw⟩)) := ⟨by rw [HL.out]; exact setD_twice HPM7.out hpm10, hpm10⟩
              clear h10 hf10 hn10 hpm10 HI9 HPM7 HK7
              go_wp2_with fail
              refine (hlen_any w10 _ hb tb mb lv10 L10 HK10.out.1.hp).mono ?_
              rintro e w11 ⟨rfl, rfl⟩
              rw [HT.out.1]
              go_upto_region 15 with fail
              have hzW := HK10.out.1.bl.size
              have HOUT := hide (fun X hX => hout_q xa xf xt xw A c xb n w.heap.size w11 X (HXS.out.below HK10.out.1.bl) HN.out.symm hxn hzW hX)
              have HCAN := hide (fun X uA uc hX hs => hcan_q w w11 X hb tb mb n lv10 uA uc L10 xb xf xt xw HK10.out.1 hX hs HN.out.symm)
              have HPB := hide HK10.out.2.1
              have HSET : Hid (∀ (X : World) (nb : Nat) (u0 u1 u2 u3 u4 : Value), Blk X pb rtT #[.int .i64 xa, .slice A n c, .int .i64 xf, .int .i64 xt, .int .i64 xw] → w11.heap.size ≤ nb → (fun X : World => X.cell? ⟨pb, 0, none⟩ = some (.int .i64 xa) ∧ X.cell? ⟨pb, 1, none⟩ = some (.slice A n c) ∧ X.cell? ⟨pb, 2, none⟩ = some (.int .i64 xf) ∧ X.cell? ⟨pb, 3, none⟩ = some (.int .i64 xt) ∧ X.cell? ⟨pb, 4, none⟩ = some (.int .i64 xw)) (((((X.setCell ⟨nb, 0, none⟩ u0).setCell ⟨nb, 1, none⟩ u1).setCell ⟨nb, 2, none⟩ u2).setCell ⟨nb, 3, none⟩ u3).setCell ⟨nb, 4, none⟩ u4)) := by
                intro X nb u0 u1 u2 u3 u4 hk hle
                have hne : pb ≠ nb := by have := HPB.out.lt; omega
                have k := ((((hk.far (p := ⟨nb, 0, none⟩) hne u0).far (p := ⟨nb, 1, none⟩) hne u1).far (p := ⟨nb, 2, none⟩) hne u2).far (p := ⟨nb, 3, none⟩) hne u3).far (p := ⟨nb, 4, none⟩) hne u4
                exact ⟨k.cell 0, k.cell 1, k.cell 2, k.cell 3, k.cell 4⟩
              have p0 : w11.cell? ⟨pb, 0, none⟩ = some (.int .i64 xa) := HPB.out.cell 0
              have p1 : w11.cell? ⟨pb, 1, none⟩ = some (.slice A n c) := HPB.out.cell 1
              have p2 : w11.cell? ⟨pb, 2, none⟩ = some (.int .i64 xf) := HPB.out.cell 2
              have p3 : w11.cell? ⟨pb, 3, none⟩ = some (.int .i64 xt) := HPB.out.cell 3
              have p4 : w11.cell? ⟨pb, 4, none⟩ = some (.int .i64 xw) := HPB.out.cell 4
              have hpl := HPB.out.lt
              go_cut [11, 12] from 88 to 97 (fun pa po wx => ∃ (nb : Nat) (ka : Int) (kA : Option Addr) (kn kc : Nat) (kb : List Int) (kf kt kw : Int) (ok : Bool) (lvq : Value) (Lq : List TV), pa = .pointer (some ⟨nb, 0, none⟩) ∧ po = .bool ok ∧ Hid (CanF w w11 wx hb tb mb nb lvq L10 Lq ⟨ka, .slice kA kn kc, kb, kf, kt, kw⟩ ok ⟨strOfNums xb, xf, xt, xw⟩))
              case first =>
                go_region_held3 (fun X : World => X.cell? ⟨pb, 0, none⟩ = some (.int .i64 xa) ∧ X.cell? ⟨pb, 1, none⟩ = some (.slice A n c) ∧ X.cell? ⟨pb, 2, none⟩ = some (.int .i64 xf) ∧ X.cell? ⟨pb, 3, none⟩ = some (.int .i64 xt) ∧ X.cell? ⟨pb, 4, none⟩ = some (.int .i64 xw)) (first
                    | with_reducible exact HSET.out _ _ _ _ _ _ _ hk13 (by first | exact Nat.le_refl _ | exact hle12)
                    | with_reducible exact hs13
                    | exact ⟨(hk13.alloc _).cell 0, (hk13.alloc _).cell 1, (hk13.alloc _).cell 2, (hk13.alloc _).cell 3, (hk13.alloc _).cell 4⟩
                    | with_reducible exact hs12
                    | exact ⟨(hk12.alloc _).cell 0, (hk12.alloc _).cell 1, (hk12.alloc _).cell 2, (hk12.alloc _).cell 3, (hk12.alloc _).cell 4⟩
                    | exact ⟨p0, p1, p2, p3, p4⟩
                    | exact ⟨(HPB.out.alloc _).cell 0, (HPB.out.alloc _).cell 1, (HPB.out.alloc _).cell 2, (HPB.out.alloc _).cell 3, (HPB.out.alloc _).cell 4⟩) (first
                  | (go_at_call 10; refine (HOUT.out _ (by first | exact (Below.refl _ _).drewN 1 | exact ((Below.refl _ _).alloc (Nat.le_refl _) _).drewN 1)).mono ?_; rintro e w12 ⟨uA12, uc12, rfl, hb12, hsl12, hz12⟩
                     have hk12 : Blk w12 pb rtT #[.int .i64 xa, .slice A n c, .int .i64 xf, .int .i64 xt, .int .i64 xw] := HPB.out.below hb12 HPB.out.lt
                     have hle12 := hb12.size
                     have hfd : ∀ Z : World, (Instr.field tmT (.agg #[.int .i64 xa, .slice uA12 n uc12, .int .i64 xf, .int .i64 xt, .int .i64 xw]) 1).run Try.prog Z = .ok (.agg #[.slice uA12 n uc12, .int .i64 xf, .int .i64 xt]) Z := fun _ => by kernel_rfl
                     have hs12 : w12.cell? ⟨pb, 0, none⟩ = some (.int .i64 xa) ∧ w12.cell? ⟨pb, 1, none⟩ = some (.slice A n c) ∧ w12.cell? ⟨pb, 2, none⟩ = some (.int .i64 xf) ∧ w12.cell? ⟨pb, 3, none⟩ = some (.int .i64 xt) ∧ w12.cell? ⟨pb, 4, none⟩ = some (.int .i64 xw) := ⟨hk12.cell 0, hk12.cell 1, hk12.cell 2, hk12.cell 3, hk12.cell 4⟩)
                  | (go_at_call 13; refine (HCAN.out _ uA12 uc12 (by first | exact hb12 | exact hb12.alloc hle12 _) (by first | exact hsl12 | exact (hsl12.alloc (Nat.le_refl _) _).mono (by simp))).mono ?_; rintro e w13 ⟨ka, kA, kn, kc, kb, kf, kt, kw, ok, lv13, L13, rfl, hq13⟩
                     have hk13 : Blk w13 pb rtT #[.int .i64 xa, .slice A n c, .int .i64 xf, .int .i64 xt, .int .i64 xw] := hq13.kp _ _ _ (by decide) (by decide) HPB.out
                     have hs13 : w13.cell? ⟨pb, 0, none⟩ = some (.int .i64 xa) ∧ w13.cell? ⟨pb, 1, none⟩ = some (.slice A n c) ∧ w13.cell? ⟨pb, 2, none⟩ = some (.int .i64 xf) ∧ w13.cell? ⟨pb, 3, none⟩ = some (.int .i64 xt) ∧ w13.cell? ⟨pb, 4, none⟩ = some (.int .i64 xw) := ⟨hk13.cell 0, hk13.cell 1, hk13.cell 2, hk13.cell 3, hk13.cell 4⟩
                     first
                       | (have kq := hz12 _ tmT zero5 (by first | exact Blk.new w11 tmT zero5 | exact (Blk.new w11 tmT zero5).drew); have kz := (hq13.old _ _ kq (hq13.lo.2 _ (Nat.le_refl _))).1; have f0 := kz.frozen 0; have f1 := kz.frozen 1; have f2 := kz.frozen 2; have f3 := kz.frozen 3; have f4 := kz.frozen 4; have d0 := kz.cell 0; have d1 := kz.cell 1; have d2 := kz.cell 2; have d3 := kz.cell 3; have d4 := kz.cell 4; simp [zero5] at d0 d1 d2 d3 d4; have hlz := kz.lt)
                       | (have kq := Blk.new w12 tmT zero5; have kz := (hq13.old _ _ kq (hq13.lo.2 _ hle12)).1; have f0 := kz.frozen 0; have f1 := kz.frozen 1; have f2 := kz.frozen 2; have f3 := kz.frozen 3; have f4 := kz.frozen 4; have d0 := kz.cell 0; have d1 := kz.cell 1; have d2 := kz.cell 2; have d3 := kz.cell 3; have d4 := kz.cell 4; simp [zero5] at d0 d1 d2 d3 d4; have hlz := kz.lt)
                       | skip))
                all_goals
                  go_wp2_with fail
                  go_meet
                  case rel => first
                    | exact ⟨_, ka, kA, kn, kc, kb, kf, kt, kw, ok, lv13, L13, rfl, rfl, hq13.fin_put kq (by first | exact Nat.le_refl _ | exact hle12)⟩
                    | exact ⟨_, ka, kA, kn, kc, kb, kf, kt, kw, ok, lv13, L13, rfl, rfl, hq13.fin_alloc⟩
              case rest =>
                obtain ⟨nb, za, zA, zn, zc, zb, zf, zt, zw, ok, lv9, L9, rfl, rfl, HF⟩ := hcut
                obtain ⟨h1, h2, h3, h4⟩ := can_of HT.out.2 HK10.out.1.nd HF.out.res
                simp only [TV.d, TD.mk.injEq] at h2
                obtain ⟨rfl, rfl, rfl, rfl, rfl⟩ := h2
                subst h1
                have HNI := hide h4
                obtain ⟨l9, hl9⟩ : ∃ l9, l9 = L9.length := ⟨_, rfl⟩
                have HL9 := hide hl9
                have hll : (l : Int) - 1 = (l9 : Int) := by have := HT.out.1; omega
                have hlb : l ≤ 103 := by
                  have h9 := HL.out
                  omega
                have HPC := hide (HF.out.kp _ _ _ (by decide) (by decide) HK10.out.2.1)
                have HQC := hide (HF.out.kp _ _ _ (by decide) (by decide) HK10.out.2.2)
                have HHC := hide HF.out.aim.hr
                have HKC := hide HF.out.aim.key
                have HNC := hide HF.out.blk
                clear h3 h4 hl9 HF HT HK10 HOUT HCAN HSET HPB p0 p1 p2 p3 p4 hpl hzW
                have z0 : wc.cell? ⟨nb, 0, none⟩ = some (.int .i64 za) := HNC.out.cell 0
                have z1 : wc.cell? ⟨nb, 1, none⟩ = some (.slice zA zn zc) := HNC.out.cell 1
                have z2 : wc.cell? ⟨nb, 2, none⟩ = some (.int .i64 zf) := HNC.out.cell 2
                have z3 : wc.cell? ⟨nb, 3, none⟩ = some (.int .i64 zt) := HNC.out.cell 3
                have z4 : wc.cell? ⟨nb, 4, none⟩ = some (.int .i64 zw) := HNC.out.cell 4
                have hzl := HNC.out.lt
                have q0 : wc.cell? ⟨qb, 0, none⟩ = some (.int .i64 za) := HQC.out.cell 0
                have q1 : wc.cell? ⟨qb, 1, none⟩ = some (.slice A n c) := HQC.out.cell 1
                have q2 : wc.cell? ⟨qb, 2, none⟩ = some (.int .i64 zf) := HQC.out.cell 2
                have q3 : wc.cell? ⟨qb, 3, none⟩ = some (.int .i64 zt) := HQC.out.cell 3
                have q4 : wc.cell? ⟨qb, 4, none⟩ = some (.int .i64 zw) := HQC.out.cell 4
                have hql := HQC.out.lt
                go_wp2_with fail
                refine (same_any16 ⟨za, .slice zA zn zc, zb, zf, zt, zw⟩ ⟨za, .slice A n c, zb, zf, zt, zw⟩ wc.heap.size wc ⟨HKC.out.1.sl, HKC.out.2.1⟩ ⟨by have h9 := (HXS.out.below HHC.out.bl).mono HHC.out.bl.size; rw [HN.out] at h9 ⊢; exact h9, HX8.out⟩ (Nat.le_refl _)).mono ?_
                rw [show TV.same ⟨za, .slice zA zn zc, zb, zf, zt, zw⟩ ⟨za, .slice A n c, zb, zf, zt, zw⟩ = true from decide_eq_true rfl]
                rintro e w14 ⟨rfl, hb14⟩
                have HK14 : Hid (HR w w14 hb tb mb lv9 L9 ∧ Blk w14 pb rtT #[.int .i64 xa, .slice A n c, .int .i64 zf, .int .i64 zt, .int .i64 zw] ∧ Blk w14 qb rtT #[.int .i64 za, .slice A n c, .int .i64 zf, .int .i64 zt, .int .i64 zw]) := ⟨HHC.out.below hb14, HPC.out.below hb14 HPC.out.lt, HQC.out.below hb14 HQC.out.lt⟩
                clear hb14 z0 z1 z2 z3 z4 hzl q0 q1 q2 q3 q4 hql HKC HNC HHC HPC HQC
                go_wp2_with fail
                refine (hlen_any w14 _ hb tb mb lv9 L9 HK14.out.1.hp).mono ?_
                rintro e w15 ⟨rfl, rfl⟩
                rw [← HL9.out]
                go_upto_region 18 with fail
                have hzW := HK14.out.1.bl.size
                have HOUT := hide (fun X hX => hout_q xa zf zt zw A c zb n w.heap.size w15 X (HXS.out.below HK14.out.1.bl) HN.out.symm hxn hzW hX)
                have HCAN := hide (fun X uA uc hX hs => hcan_q w w15 X hb tb mb n lv9 uA uc L9 zb zf zt zw HK14.out.1 hX hs HN.out.symm)
                have HPB := hide HK14.out.2.1
                have HSET : Hid (∀ (X : World) (nb : Nat) (u0 u1 u2 u3 u4 : Value), Blk X pb rtT #[.int .i64 xa, .slice A n c, .int .i64 zf, .int .i64 zt, .int .i64 zw] → w15.heap.size ≤ nb → (fun X : World => X.cell? ⟨pb, 0, none⟩ = some (.int .i64 xa) ∧ X.cell? ⟨pb, 1, none⟩ = some (.slice A n c) ∧ X.cell? ⟨pb, 2, none⟩ = some (.int .i64 zf) ∧ X.cell? ⟨pb, 3, none⟩ = some (.int .i64 zt) ∧ X.cell? ⟨pb, 4, none⟩ = some (.int .i64 zw)) (((((X.setCell ⟨nb, 0, none⟩ u0).setCell ⟨nb, 1, none⟩ u1).setCell ⟨nb, 2, none⟩ u2).setCell ⟨nb, 3, none⟩ u3).setCell ⟨nb, 4, none⟩ u4)) := by
                  intro X nb u0 u1 u2 u3 u4 hk hle
                  have hne : pb ≠ nb := by have := HPB.out.lt; omega
                  have k := ((((hk.far (p := ⟨nb, 0, none⟩) hne u0).far (p := ⟨nb, 1, none⟩) hne u1).far (p := ⟨nb, 2, none⟩) hne u2).far (p := ⟨nb, 3, none⟩) hne u3).far (p := ⟨nb, 4, none⟩) hne u4
                  exact ⟨k.cell 0, k.cell 1, k.cell 2, k.cell 3, k.cell 4⟩
                have p0 : w15.cell? ⟨pb, 0, none⟩ = some (.int .i64 xa) := HPB.out.cell 0
                have p1 : w15.cell? ⟨pb, 1, none⟩ = some (.slice A n c) := HPB.out.cell 1
                have p2 : w15.cell? ⟨pb, 2, none⟩ = some (.int .i64 zf) := HPB.out.cell 2
                have p3 : w15.cell? ⟨pb, 3, none⟩ = some (.int .i64 zt) := HPB.out.cell 3
                have p4 : w15.cell? ⟨pb, 4, none⟩ = some (.int .i64 zw) := HPB.out.cell 4
                have hpl := HPB.out.lt
                go_cut [13, 14] from 113 to 122 (fun pa po wx => ∃ (nb : Nat) (ka : Int) (kA : Option Addr) (kn kc : Nat) (kb : List Int) (kf kt kw : Int) (ok : Bool) (lvq : Value) (Lq : List TV), pa = .pointer (some ⟨nb, 0, none⟩) ∧ po = .bool ok ∧ Hid (CanF w w15 wx hb tb mb nb lvq L9 Lq ⟨ka, .slice kA kn kc, kb, kf, kt, kw⟩ ok ⟨strOfNums zb, zf, zt, zw⟩))
                case first =>
                  go_region_held3 (fun X : World => X.cell? ⟨pb, 0, none⟩ = some (.int .i64 xa) ∧ X.cell? ⟨pb, 1, none⟩ = some (.slice A n c) ∧ X.cell? ⟨pb, 2, none⟩ = some (.int .i64 zf) ∧ X.cell? ⟨pb, 3, none⟩ = some (.int .i64 zt) ∧ X.cell? ⟨pb, 4, none⟩ = some (.int .i64 zw)) (first
                      | with_reducible exact HSET.out _ _ _ _ _ _ _ hk13 (by first | exact Nat.le_refl _ | exact hle12)
                      | with_reducible exact hs13
                      | exact ⟨(hk13.alloc _).cell 0, (hk13.alloc _).cell 1, (hk13.alloc _).cell 2, (hk13.alloc _).cell 3, (hk13.alloc _).cell 4⟩
                      | with_reducible exact hs12
                      | exact ⟨(hk12.alloc _).cell 0, (hk12.alloc _).cell 1, (hk12.alloc _).cell 2, (hk12.alloc _).cell 3, (hk12.alloc _).cell 4⟩
                      | exact ⟨p0, p1, p2, p3, p4⟩
                      | exact ⟨(HPB.out.alloc _).cell 0, (HPB.out.alloc _).cell 1, (HPB.out.alloc _).cell 2, (HPB.out.alloc _).cell 3, (HPB.out.alloc _).cell 4⟩) (first
                    | (go_at_call 10; refine (HOUT.out _ (by first | exact (Below.refl _ _).drewN 1 | exact ((Below.refl _ _).alloc (Nat.le_refl _) _).drewN 1)).mono ?_; rintro e w12 ⟨uA12, uc12, rfl, hb12, hsl12, hz12⟩
                       have hk12 : Blk w12 pb rtT #[.int .i64 xa, .slice A n c, .int .i64 zf, .int .i64 zt, .int .i64 zw] := HPB.out.below hb12 HPB.out.lt
                       have hle12 := hb12.size
                       have hfd : ∀ Z : World, (Instr.field tmT (.agg #[.int .i64 xa, .slice uA12 n uc12, .int .i64 zf, .int .i64 zt, .int .i64 zw]) 1).run Try.prog Z = .ok (.agg #[.slice uA12 n uc12, .int .i64 zf, .int .i64 zt]) Z := fun _ => by kernel_rfl
                       have hs12 : w12.cell? ⟨pb, 0, none⟩ = some (.int .i64 xa) ∧ w12.cell? ⟨pb, 1, none⟩ = some (.slice A n c) ∧ w12.cell? ⟨pb, 2, none⟩ = some (.int .i64 zf) ∧ w12.cell? ⟨pb, 3, none⟩ = some (.int .i64 zt) ∧ w12.cell? ⟨pb, 4, none⟩ = some (.int .i64 zw) := ⟨hk12.cell 0, hk12.cell 1, hk12.cell 2, hk12.cell 3, hk12.cell 4⟩)
                    | (go_at_call 13; refine (HCAN.out _ uA12 uc12 (by first | exact hb12 | exact hb12.alloc hle12 _) (by first | exact hsl12 | exact (hsl12.alloc (Nat.le_refl _) _).mono (by simp))).mono ?_; rintro e w13 ⟨ka, kA, kn, kc, kb, kf, kt, kw, ok, lv13, L13, rfl, hq13⟩
                       have hk13 : Blk w13 pb rtT #[.int .i64 xa, .slice A n c, .int .i64 zf, .int .i64 zt, .int .i64 zw] := hq13.kp _ _ _ (by decide) (by decide) HPB.out
                       have hs13 : w13.cell? ⟨pb, 0, none⟩ = some (.int .i64 xa) ∧ w13.cell? ⟨pb, 1, none⟩ = some (.slice A n c) ∧ w13.cell? ⟨pb, 2, none⟩ = some (.int .i64 zf) ∧ w13.cell? ⟨pb, 3, none⟩ = some (.int .i64 zt) ∧ w13.cell? ⟨pb, 4, none⟩ = some (.int .i64 zw) := ⟨hk13.cell 0, hk13.cell 1, hk13.cell 2, hk13.cell 3, hk13.cell 4⟩
                       first
                         | (have kq := hz12 _ tmT zero5 (by first | exact Blk.new w15 tmT zero5 | exact (Blk.new w15 tmT zero5).drew); have kz := (hq13.old _ _ kq (hq13.lo.2 _ (Nat.le_refl _))).1; have f0 := kz.frozen 0; have f1 := kz.frozen 1; have f2 := kz.frozen 2; have f3 := kz.frozen 3; have f4 := kz.frozen 4; have d0 := kz.cell 0; have d1 := kz.cell 1; have d2 := kz.cell 2; have d3 := kz.cell 3; have d4 := kz.cell 4; simp [zero5] at d0 d1 d2 d3 d4; have hlz := kz.lt)
                         | (have kq := Blk.new w12 tmT zero5; have kz := (hq13.old _ _ kq (hq13.lo.2 _ hle12)).1; have f0 := kz.frozen 0; have f1 := kz.frozen 1; have f2 := kz.frozen 2; have f3 := kz.frozen 3; have f4 := kz.frozen 4; have d0 := kz.cell 0; have d1 := kz.cell 1; have d2 := kz.cell 2; have d3 := kz.cell 3; have d4 := kz.cell 4; simp [zero5] at d0 d1 d2 d3 d4; have hlz := kz.lt)
                         | skip))
                  all_goals
                    go_wp2_with fail
                    go_meet
                    case rel => first
                      | exact ⟨_, ka, kA, kn, kc, kb, kf, kt, kw, ok, lv13, L13, rfl, rfl, hq13.fin_put kq (by first | exact Nat.le_refl _ | exact hle12)⟩
                      | exact ⟨_, ka, kA, kn, kc, kb, kf, kt, kw, ok, lv13, L13, rfl, rfl, hq13.fin_alloc⟩
                case rest =>
                  obtain ⟨nb2, ya2, yA2, yn2, yc2, yb2, yf2, yt2, yw2, ok2, lv16, L16, rfl, rfl, HF2⟩ := hcut
                  have h2 : ok2 = false ∧ L16 = L9 := by
                    rcases HF2.out.res with ⟨h5, h6, h7, h8⟩ | ⟨h5, h6, h7, h8⟩
                    · exact absurd (by have h9 := List.mem_map_of_mem (f := TV.nm) h6; rw [h7] at h9; exact h9) HNI.out
                    · exact ⟨h5, h8⟩
                  obtain ⟨rfl, rfl⟩ := h2
                  have HHC := hide HF2.out.aim.hr
                  clear HF2 HOUT HCAN HSET HPB p0 p1 p2 p3 p4 hpl hzW
                  go_wp2_with fail
                  refine (hlen_any wc _ hb tb mb lv16 L16 HHC.out.hp).mono ?_
                  rintro e w17 ⟨rfl, rfl⟩
                  rw [← HL9.out]
                  go_wp2_with fail
                  refine (awake16 w17).mono ?_
                  rintro e w18 ⟨rfl, hb18⟩
                  have H18 := hide (HHC.out.bl.trans (hb18.mono HHC.out.bl.size))
                  clear hb18
                  go_wp2_with fail
                  go_ret
                  exact ⟨rfl, H18.out⟩
            -- END
  · have hg : (100 : Int) < (N : Int) := by omega
    clear HP2 HQ2
    go_wp2_with fail
    refine (awake16 w2).mono ?_
    rintro e w3 ⟨rfl, hb3⟩
    have H3 := hide (H2.out.bl.trans (hb3.mono H2.out.bl.size))
    clear hb3
    go_wp2_with fail
    go_ret
    exact ⟨rfl, H3.out⟩

end Go.Proofs.Ytogelnljkdcajaa
