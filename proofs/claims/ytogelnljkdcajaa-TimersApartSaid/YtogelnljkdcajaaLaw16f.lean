/- TimersApart: the walk (printed by genapart.py). -/
import Derived.Test.YtogelnljkdcajaaRowT
import Derived.Deep.CutBlock
import Derived.Deep.RegionHeld3
namespace Go.Proofs.Ytogelnljkdcajaa
open Go.RowKit Go.Sort
set_option linter.unusedVariables false
set_option linter.unusedSimpArgs false

/-- the heap, and the row of all that it has, in order -/
structure ApI (w wx : World) (hb tb mb : Nat) (lv : Value) (L : List TV) (v : Value) (X : List TV) : Prop where
  hr : HR w wx hb tb mb lv L
  row : Row w wx lv v X
  pm : (X.map TV.d).Perm (L.map TV.d)
  so : X.Pairwise leT
theorem ap_len {O E X : List TV} (h : (O ++ E).map TV.d = X.map TV.d) : (O ++ E).length = X.length := by
  have := congrArg List.length h
  simpa using this
theorem ap_at {O E X : List TV} (h : (O ++ E).map TV.d = X.map TV.d) {k : Nat} (h1 : k < (O ++ E).length) (h2 : k < X.length) : ((O ++ E)[k]).d = (X[k]).d := by
  have h3 : ((O ++ E).map TV.d)[k]? = (X.map TV.d)[k]? := by rw [h]
  rw [List.getElem?_map, List.getElem?_map, List.getElem?_eq_getElem h1, List.getElem?_eq_getElem h2] at h3
  simpa using h3
theorem ap_due {O E L' : List TV} {now : Int} (hO : ∀ x ∈ O, x.a ≤ now) (hL : ∀ y ∈ L', now < y.a) (hE : (E.map TV.d).Perm (L'.map TV.d)) {k : Nat} (h1 : k < (O ++ E).length) : ((O ++ E)[k]).a ≤ now ↔ k < O.length := by
  by_cases hk : k < O.length
  · rw [List.getElem_append_left hk]
    exact ⟨fun _ => hk, fun _ => hO _ (List.getElem_mem hk)⟩
  · rw [List.getElem_append_right (by omega)]
    have hm := List.getElem_mem (l := E) (n := k - O.length) (by rw [List.length_append] at h1; omega)
    have h2 := hE.mem_iff.1 (List.mem_map_of_mem (f := TV.d) hm)
    obtain ⟨y, hy, hd⟩ := List.mem_map.1 h2
    have h3 := hL y hy
    have h4 : y.a = (E[k - O.length]'(by rw [List.length_append] at h1; omega)).a := congrArg TD.a hd
    constructor
    · intro h5; omega
    · intro h5; exact absurd h5 hk
theorem wT_nn (f t : Int) (W : World) : (binOp .neq wT (.agg #[.int .i64 f, .int .i64 t]) (.agg #[.int .i64 f, .int .i64 t])).run Try.prog W = .ok (.bool false) W := by
  go_simp

set_option maxRecDepth 100000 in
set_option maxHeartbeats 16000000 in
theorem apart16_ok (v : Value) (D : List TV) (at_ now : Int) (w : World) (hs : Sl w w.heap.size v 5 D.length (tms D)) (hD : ∀ x ∈ D, TmQ w x) :
    Calls Try.prog 5 #[v, .int .i64 at_, .int .i64 now] w fun e w' => e = .returned (.bool true) ∧ Below w.heap.size w w' := by
  obtain ⟨sA, sc, rfl, hsc⟩ := hs.form
  have hmax := hs.max
  have HS := hide hs
  have HD := hide hD
  clear hs hD
  obtain ⟨N, hN⟩ : ∃ N, N = D.length := ⟨_, rfl⟩
  rw [← hN] at HS hsc hmax ⊢
  have HNN := hide hN
  clear hN
  go_enter Try.func5, Try.ntmps5
  go_wp2_with fail
  refine (new_any _ w.heap.size (Nat.le_refl _)).mono ?_
  rintro e w2 ⟨hb, tb, mb, lv, rfl, hp2, hb2⟩
  have H2 : Hid (HR w w2 hb tb mb lv []) := ⟨hp2, hb2⟩
  clear hp2 hb2
  by_cases h100 : N ≤ 100
  · have hg : ¬ (100 : Int) < (N : Int) := by omega
    go_wp2_with fail
    go_loopw [33] (fun i wr => ∃ (k : Nat) (lv1 : Value) (L1 : List TV), k ≤ N ∧ i = .int .i64 k ∧ L1.length ≤ k ∧ Hid (HR w wr hb tb mb lv1 L1 ∧ ∀ y ∈ L1, y.right)) (fun i _ => N - (intOf i).toNat)
    case atStart => exact ⟨0, lv, [], Nat.zero_le _, rfl, Nat.le_refl _, H2.out, fun y hy => by cases hy⟩
    case round =>
      obtain ⟨k, lv1, L1, hk, rfl, hl1, HI⟩ := hrel
      by_cases hlt : k < N
      · have hkD : k < D.length := by rw [← HNN.out]; exact hlt
        obtain ⟨ad, rfl, hab, a0, a1, a2, a3, a4⟩ := tm_at (HS.out.below HI.out.1.bl) hlt HNN.out.symm
        have hzr := HI.out.1.bl.size
        have hab2 : (ad.add (k * 5)).block < wr.heap.size := by omega
        have HO := hide (HD.out _ (List.getElem_mem hkD))
        generalize D[k] = o at a0 a1 a2 a3 a4 HO
        obtain ⟨oa, ok, ob, of, ot, ow⟩ := o
        obtain ⟨oA, oc, hok, hoc⟩ := HO.out.1.sl.form
        simp only at a0 a1 a2 a3 a4 hok hoc
        subst hok
        have HOS := hide HO.out.1.sl
        have HO8 := hide HO.out.1.b8
        have hon := HO.out.2
        simp only at HOS HO8 hon
        obtain ⟨on, hol⟩ : ∃ on, on = ob.length := ⟨_, rfl⟩
        rw [← hol] at a1 HOS hon hoc
        have HOL := hide hol
        clear hol HO
        go_wp2_with fail
        have HI2 : Hid (HR w (wr.alloc (.cells #[.int .i64 oa, .slice oA on oc, .int .i64 of, .int .i64 ot, .int .i64 ow] rtT)) hb tb mb lv1 L1) := HI.out.1.below ((Below.refl _ _).alloc (Nat.le_refl _) _)
        generalize wr.alloc (.cells #[.int .i64 oa, .slice oA on oc, .int .i64 of, .int .i64 ot, .int .i64 ow] rtT) = w3 at *
        refine (out_any _ _ _ _ _ ob on w.heap.size _ (HOS.out.below HI2.out.bl) HOL.out.symm hon HI2.out.bl.size).mono ?_
        rintro e w4 ⟨u, rfl, ho4, hb4⟩
        obtain ⟨uA, uc, rfl, huc⟩ := ho4.sl.form
        have HS4 := hide (hset_out w w3 w4 hb tb mb on lv1 _ L1 ob oa of ot ow HI2.out ho4 hb4 HOL.out.symm HO8.out (by omega))
        clear ho4 hb4 a0 a1 a2 a3 a4
        go_wp2_with fail
        refine HS4.out.mono ?_
        rintro e w5 hset
        obtain ⟨z5, lv5, L5, rfl, h5, hr5, hl5, hf5, hn5⟩ := hset.rights HI.out.2
        have HI5 : Hid (HR w w5 hb tb mb lv5 L5 ∧ ∀ y ∈ L5, y.right) := ⟨h5, hr5⟩
        clear h5 hr5 hf5 hn5 hset HS4
        simp only [List.length_cons, List.length_nil] at hl5
        go_wp2_with fail
        go_roundw
        case rel => exact ⟨k + 1, lv5, L5, by omega, by simp, by omega, HI5⟩
        case measure => simp [intOf]; omega
      · have hl1' : L1.length ≤ 100 := by omega
        clear HS HD HNN H2 hl1
        go_wp2_with fail
        refine (hall_r w wr hb tb mb lv1 L1 HI.out.1).mono ?_
        rintro e w6 ⟨X, xA, xc, rfl, hb6, hr6, hrow6, hfr6, hpm6, hso6⟩
        have HQ : Hid (ApI w w6 hb tb mb lv1 L1 (.slice xA X.length xc) X) := ⟨hr6, hrow6, hpm6, hso6⟩
        have hxl : X.length ≤ 100 := by
          have h9 := hpm6.length_eq
          simp only [List.length_map] at h9
          omega
        obtain ⟨xn, hxn⟩ : ∃ xn, xn = X.length := ⟨_, rfl⟩
        rw [← hxn] at HQ hxl ⊢
        have HXN := hide hxn
        clear hb6 hr6 hrow6 hfr6 hpm6 hso6 hxn HI hl1'
        by_cases hin : 0 ≤ at_ ∧ at_ < (xn : Int)
        · skip
          obtain ⟨hi1, hi2⟩ := hin
          obtain ⟨p, hp⟩ : ∃ p : Nat, at_ = (p : Int) := ⟨at_.toNat, by omega⟩
          subst hp
          have hpn : p < xn := by omega
          have hpX : p < X.length := by rw [← HXN.out]; exact hpn
          have HOW : Hid (Own w6 w.heap.size tmT 5 (.slice xA xn xc) xn (tms X)) := by have h9 := HQ.out.row.own; rw [← HXN.out] at h9; exact h9
          obtain ⟨xad, rfl, hxb, a0, a1, a2, a3, a4⟩ := tm_at HOW.out.sl hpn HXN.out.symm
          have HSX : Hid (∀ Y : World, Own Y w.heap.size tmT 5 (.slice (some xad) xn xc) xn (tms X) → Y.cell? (xad.add (p * 5)) = some (.int .i64 (X[p]).a) ∧ Y.cell? ⟨(xad.add (p * 5)).block, (xad.add (p * 5)).off + 1, none⟩ = some (X[p]).kv ∧ Y.cell? ⟨(xad.add (p * 5)).block, (xad.add (p * 5)).off + 2, none⟩ = some (.int .i64 (X[p]).f) ∧ Y.cell? ⟨(xad.add (p * 5)).block, (xad.add (p * 5)).off + 3, none⟩ = some (.int .i64 (X[p]).t) ∧ Y.cell? ⟨(xad.add (p * 5)).block, (xad.add (p * 5)).off + 4, none⟩ = some (.int .i64 (X[p]).w) ∧ (xad.add (p * 5)).block < Y.heap.size) := by
            intro Y hY
            obtain ⟨ad, had, h0, h1, h2, h3, h4, h5⟩ := tm_at hY.sl hpn HXN.out.symm
            injection had with had
            subst had
            exact ⟨h1, h2, h3, h4, h5, h0⟩
          have HXP := hide (List.getElem_mem hpX)
          have HKZ := hide (HQ.out.row.ky _ HXP.out)
          obtain ⟨z, hz⟩ : ∃ z, z = X[p] := ⟨_, rfl⟩
          rw [← hz] at a0 a1 a2 a3 a4 HSX HXP HKZ
          have HZ := hide hz
          clear hz
          obtain ⟨zA, zc, hzk, hzc⟩ := HKZ.out.1.sl.form
          obtain ⟨za, zk, zb, zf, zt, zw⟩ := z
          simp only at a0 a1 a2 a3 a4 HSX hzk hzc
          subst hzk
          obtain ⟨zn, hzn⟩ : ∃ zn, zn = zb.length := ⟨_, rfl⟩
          rw [← hzn] at a1 HSX hzc
          have HZN := hide hzn
          have HZS : Hid (Sl w6 w6.heap.size (.slice zA zn zc) 1 zn (bys zb)) := by have h9 := HKZ.out.1.sl; simp only [← hzn] at h9; exact h9
          clear hzn
          have HCAN := hide (fun Y hY => hcan_q w w6 Y hb tb mb zn lv1 zA zc L1 zb zf zt zw HQ.out.hr hY ((HZS.out.below hY).mono hY.size) HZN.out.symm)
          have HROW := hide HQ.out.row
          have hz6 := HQ.out.hr.bl.size
          have hle6 : Hid (w6.heap.size ≤ w6.heap.size) := Nat.le_refl _
          have HS5 : Hid (∀ Y : World, Own Y w.heap.size tmT 5 (.slice (some xad) xn xc) xn (tms X) → (fun X : World => X.cell? ⟨(xad.add (p * 5)).block, (xad.add (p * 5)).off + 1, none⟩ = some (.slice zA zn zc) ∧ X.cell? ⟨(xad.add (p * 5)).block, (xad.add (p * 5)).off + 2, none⟩ = some (.int .i64 zf) ∧ X.cell? ⟨(xad.add (p * 5)).block, (xad.add (p * 5)).off + 3, none⟩ = some (.int .i64 zt) ∧ X.cell? ⟨(xad.add (p * 5)).block, (xad.add (p * 5)).off + 4, none⟩ = some (.int .i64 zw)) Y) := fun Y hY => ⟨(HSX.out Y hY).2.1, (HSX.out Y hY).2.2.1, (HSX.out Y hY).2.2.2.1, (HSX.out Y hY).2.2.2.2.1⟩
          have HNB : Hid (∀ nb, w6.heap.size ≤ nb → (Value.slice (some xad) xn xc).ownBlock ≠ some nb) := fun nb h9 e => by have := (HOW.out.lt nb e).2; omega
          have HSET : Hid (∀ (X1 : World) (nb : Nat) (u0 u1 u2 u3 u4 : Value), Own X1 w.heap.size tmT 5 (.slice (some xad) xn xc) xn (tms X) → w6.heap.size ≤ nb → (fun X : World => X.cell? ⟨(xad.add (p * 5)).block, (xad.add (p * 5)).off + 1, none⟩ = some (.slice zA zn zc) ∧ X.cell? ⟨(xad.add (p * 5)).block, (xad.add (p * 5)).off + 2, none⟩ = some (.int .i64 zf) ∧ X.cell? ⟨(xad.add (p * 5)).block, (xad.add (p * 5)).off + 3, none⟩ = some (.int .i64 zt) ∧ X.cell? ⟨(xad.add (p * 5)).block, (xad.add (p * 5)).off + 4, none⟩ = some (.int .i64 zw)) (((((X1.setCell ⟨nb, 0, none⟩ u0).setCell ⟨nb, 1, none⟩ u1).setCell ⟨nb, 2, none⟩ u2).setCell ⟨nb, 3, none⟩ u3).setCell ⟨nb, 4, none⟩ u4)) := by
            intro X1 nb u0 u1 u2 u3 u4 hk hle
            have hne := HNB.out nb hle
            exact HS5.out _ (((((hk.put (p := ⟨nb, 0, none⟩) hne u0).put (p := ⟨nb, 1, none⟩) hne u1).put (p := ⟨nb, 2, none⟩) hne u2).put (p := ⟨nb, 3, none⟩) hne u3).put (p := ⟨nb, 4, none⟩) hne u4)
          clear a0
          go_upto_region 11 with fail
          go_cut [11, 12] from 53 to 67 (fun pa po wx => ∃ (nb : Nat) (ka : Int) (kA : Option Addr) (kn kc : Nat) (kb : List Int) (kf kt kw : Int) (ok : Bool) (lvq : Value) (Lq : List TV), pa = .pointer (some ⟨nb, 0, none⟩) ∧ po = .bool ok ∧ Hid (CanF w w6 wx hb tb mb nb lvq L1 Lq ⟨ka, .slice kA kn kc, kb, kf, kt, kw⟩ ok ⟨strOfNums zb, zf, zt, zw⟩ ∧ Row w wx lvq (.slice (some xad) xn xc) X))
          case first =>
            go_region_held3 (fun X : World => X.cell? ⟨(xad.add (p * 5)).block, (xad.add (p * 5)).off + 1, none⟩ = some (.slice zA zn zc) ∧ X.cell? ⟨(xad.add (p * 5)).block, (xad.add (p * 5)).off + 2, none⟩ = some (.int .i64 zf) ∧ X.cell? ⟨(xad.add (p * 5)).block, (xad.add (p * 5)).off + 3, none⟩ = some (.int .i64 zt) ∧ X.cell? ⟨(xad.add (p * 5)).block, (xad.add (p * 5)).off + 4, none⟩ = some (.int .i64 zw)) (first
                | with_reducible exact HSET.out _ _ _ _ _ _ _ how13 (Nat.le_refl _)
                | with_reducible exact hs13
                | exact HS5.out _ (how13.alloc _)
                | exact ⟨a1, a2, a3, a4⟩
                | exact HS5.out _ (HOW.out.alloc _)) (first
              | (go_at_call 13; refine (HCAN.out _ (by first | exact (Below.refl _ _).drewN 1 | exact ((Below.refl _ _).alloc (Nat.le_refl _) _).drewN 1)).mono ?_; rintro e w13 ⟨ka, kA, kn, kc, kb, kf, kt, kw, ok, lv13, L13, rfl, hq13⟩
                 have hrow13 := hq13.row (by first | exact (Below.refl _ _).drewN 1 | exact ((Below.refl _ _).alloc (Nat.le_refl _) _).drewN 1) HROW.out
                 have how13 : Own w13 w.heap.size tmT 5 (.slice (some xad) xn xc) xn (tms X) := by have h9 := hrow13.own; rw [← HXN.out] at h9; exact h9
                 have hs13 := HS5.out w13 how13
                 first
                   | (have kq := hq13.old w6.heap.size zero5 (by first | exact Blk.new w6 tmT zero5 | exact (Blk.new w6 tmT zero5).drew) (hq13.lo.2 _ (Nat.le_refl _)); have kz := kq.1; have f0 := kz.frozen 0; have f1 := kz.frozen 1; have f2 := kz.frozen 2; have f3 := kz.frozen 3; have f4 := kz.frozen 4; have d0 := kz.cell 0; have d1 := kz.cell 1; have d2 := kz.cell 2; have d3 := kz.cell 3; have d4 := kz.cell 4; simp [zero5] at d0 d1 d2 d3 d4; have hlz := kz.lt)
                   | skip))
            all_goals
              go_wp2_with fail
              go_meet
              case rel => first
                | exact ⟨_, ka, kA, kn, kc, kb, kf, kt, kw, ok, lv13, L13, rfl, rfl, hq13.fin_put (by first | exact Blk.new w6 tmT zero5 | exact (Blk.new w6 tmT zero5).drew) (Nat.le_refl _), hrow13.put5 kq.1 (HNB.out _ hle6.out) ⟨ka, .slice kA kn kc, kb, kf, kt, kw⟩⟩
                | exact ⟨_, ka, kA, kn, kc, kb, kf, kt, kw, ok, lv13, L13, rfl, rfl, hq13.fin_alloc, hrow13.below ((Below.refl _ _).alloc (Nat.le_refl _) _)⟩
          case rest =>
            obtain ⟨nb, ka, kA, kn, kc, kb, kf, kt, kw, ok, lvq, Lq, rfl, rfl, HF⟩ := hcut
            obtain ⟨h1, h2, h3⟩ := can_in HQ.out.pm HQ.out.hr.nd HXP.out HF.out.1.res
            simp only [TV.d, TD.mk.injEq] at h2
            obtain ⟨rfl, rfl, rfl, rfl, rfl⟩ := h2
            subst h1
            have HS2 : Hid (((X.take p ++ X.drop (p + 1)).map TV.d).Perm (Lq.map TV.d) ∧ (X.take p ++ X.drop (p + 1)).Pairwise leT) := can_sorted HQ.out.pm HQ.out.so h3 hpX (by rw [← HZ.out]; rfl)
            have HH := hide HF.out.1.aim.hr
            have HRX := hide HF.out.2
            have HOWC : Hid (Own wc w.heap.size tmT 5 (.slice (some xad) xn xc) xn (tms X)) := by have h9 := HRX.out.own; rw [← HXN.out] at h9; exact h9
            have z0 : wc.cell? ⟨nb, 0, none⟩ = some (.int .i64 ka) := HF.out.1.blk.cell 0
            have b0 := (HSX.out wc HOWC.out).1
            have hbl := (HSX.out wc HOWC.out).2.2.2.2.2
            have hnl := HF.out.1.blk.lt
            have he : (ka != ka) = false := by simp
            clear h3 HF HQ HCAN HROW HS5 HNB HSET HOW HKZ HZS HXP HZ a1 a2 a3 a4 hxb
            obtain ⟨p1, hp1⟩ : ∃ p1, p1 = p + 1 := ⟨_, rfl⟩
            have hw1 : IntKind.i64.wrap ((p : Int) + 1) = (p1 : Int) := by rw [IntWalk.i64_in _ (by omega)]; omega
            have HP1 := hide hp1
            have hp1a : p1 ≤ p + 1 := by omega
            have hp1b : p + 1 ≤ p1 := by omega
            have hi4 : (0 : Int) ≤ (p1 : Int) := by omega
            have hi5 : (p1 : Int) ≤ (xn : Int) := by omega
            have hi6 : (p : Int) ≤ (xn : Int) := by omega
            have hi7 : (p : Int) ≤ (xc : Int) := by have := HOWC.out.sl.inv.2.1; omega
            have hi8 : (xn : Int) ≤ (xc : Int) := by have := HOWC.out.sl.inv.2.1; omega
            clear hp1
            go_wp2_with fail
            go_quiet (fail)
            clear z0 b0 hbl hnl he
            go_upto_region 14 with fail
            have HHD := hide (HH.out.below ((Below.refl _ _).drewN nq))
            have HRD := hide (HRX.out.below ((Below.refl _ _).drewN nq))
            have HOWD : Hid (Own (wc.drewN nq) w.heap.size tmT 5 (.slice (some xad) xn xc) xn (tms X)) := HOWC.out.drewN nq
            generalize wc.drewN nq = wd at *
            have HLT : Hid (Own (wd.alloc (.cells #[] tmT)) w.heap.size tmT 5 (.slice (some ⟨wd.heap.size, 0, none⟩) 0 0) 0 (tms [])) := (Row.lit HHD.out).own
            have HTK : Hid (Sl (wd.alloc (.cells #[] tmT)) wd.heap.size (.slice (some xad) p xc) 5 p (tms (X.take p))) := by
              have h9 := (HOWD.out.sl.take (k := p) (by omega)).alloc (Nat.le_refl _) (.cells #[] tmT)
              rw [tms, flat_take TV.cells 5 (fun _ => rfl)] at h9
              exact h9
            have HOKT : Hid (∀ u ∈ tms (X.take p), u.oneCell' = true) := tms_ok _ (fun x hx => by obtain ⟨_, _, hv, _⟩ := (HRD.out.ky x (List.mem_of_mem_take hx)).1.sl.form; rw [hv]; rfl)
            have hzc := HHD.out.bl.size
            have HDR : Hid (∀ Y : World, Own Y w.heap.size tmT 5 (.slice (some xad) xn xc) xn (tms X) → Sl Y Y.heap.size (.slice (if xc = p1 then some xad else some (xad.add (p1 * 5))) (xn - p1) (xc - p1)) 5 (xn - p1) (tms (X.drop p1))) := by
              intro Y hY
              have h9 := hY.sl.drop' (k := p1) (by omega)
              rw [tms, flat_drop TV.cells 5 (fun _ => rfl)] at h9
              exact h9
            have HOKD : Hid (∀ u ∈ tms (X.drop p1), u.oneCell' = true) := tms_ok _ (fun x hx => by obtain ⟨_, _, hv, _⟩ := (HRD.out.ky x (List.mem_of_mem_drop hx)).1.sl.form; rw [hv]; rfl)
            have HX2 : Hid (X.take p ++ X.drop (p + 1) = X.take p ++ X.drop p1) := by rw [HP1.out]; rfl
            go_cut [10] from 80 to 89 (fun v wx => ∃ (vA : Option Addr) (vc : Nat), v = .slice vA (xn - 1) vc ∧ Hid (HR w wx hb tb mb lvq Lq ∧ Row w wx lvq (.slice vA (xn - 1) vc) (X.take p ++ X.drop p1)))
            case first =>
              by_cases hcp : xc = p1
              · skip
                have hxp : xn = p1 := by omega
                subst hxp
                subst hcp
                have hcp : True := trivial
                have HDV : Hid (∀ Y : World, Own Y w.heap.size tmT 5 (.slice (some xad) xc xc) xc (tms X) → Sl Y Y.heap.size (.slice (some xad) 0 0) 5 (0) (tms (X.drop xc))) := by
                  intro Y hY
                  have h9 := HDR.out Y hY
                  simpa [hcp] using h9
                have HPM : Hid (p + (0) = xc - 1) := by show _ = _; omega
                go_region_held3 (fun X : World => True) (trivial) (first
                  | (refine step_app rfl tyT (.tmp 80) (.tmp 83) rfl w.heap.size (n := 0) (m := p) (B := wd.heap.size) (xs := tms []) (news := tms (X.take p)) rfl rfl (by first | exact HLT.out.drew | exact HLT.out | exact HLT.out.drewN 1) (by first | exact HTK.out.drew | exact HTK.out) HOKT.out (by omega) (by omega) (by simp; omega) ?_; intro v20 w20 ha20
                     have hl20 : HR w (wd.alloc (.cells #[] tmT)) hb tb mb lvq Lq := HHD.out.below ((Below.refl _ _).alloc (Nat.le_refl _) _)
                     have hrl : Row w (wd.alloc (.cells #[] tmT)) lvq (.slice (some ⟨wd.heap.size, 0, none⟩) 0 0) [] := Row.lit HHD.out
                     have hfr20 : Fr (fun k => (Value.slice (some ⟨wd.heap.size, 0, none⟩) 0 0).ownBlock = some k) (wd.alloc (.cells #[] tmT)) w20 := ⟨ha20.fr.os, ha20.fr.tape, ha20.fr.output, ha20.fr.size, ha20.fr.block⟩
                     have hap20 : App (wd.alloc (.cells #[] tmT)) w.heap.size tmT 5 (.slice (some ⟨wd.heap.size, 0, none⟩) 0 0) (0 + p) (tms [] ++ tms (X.take p)) v20 w20 := ⟨ha20.own, hfr20, ha20.at_⟩
                     have hh20 : HR w w20 hb tb mb lvq Lq := hl20.row hrl hfr20
                     have hr20 : Row w w20 lvq v20 (X.take p) := by
                       have h9 := hrl.app hl20 (X := X.take p) (fun x hx => ((HRD.out.below ((Below.refl _ _).alloc (Nat.le_refl _) _)).ky x (List.mem_of_mem_take hx))) (by rw [show ([] : List TV).length + (X.take p).length = 0 + p by rw [List.length_take]; have := HXN.out; simp; omega]; exact hap20)
                       simpa using h9
                     have hx20 : Row w w20 lvq (.slice (some xad) xc xc) X := (HRD.out.below ((Below.refl _ _).alloc (Nat.le_refl _) _)).row hrl hfr20 (fun g hg e => by
                       have h8 : wd.heap.size = g := by simpa [Value.ownBlock] using hg
                       have := (HRD.out.own.lt g e).2
                       omega)
                     have how20 : Own w20 w.heap.size tmT 5 (.slice (some xad) xc xc) xc (tms X) := by have h9 := hx20.own; rw [← HXN.out] at h9; exact h9
                     have ho20 : Own w20 w.heap.size tmT 5 v20 p (tms (X.take p)) := by have h9 := hr20.own; rw [show (X.take p).length = p by rw [List.length_take]; have := HXN.out; omega] at h9; exact h9
                     obtain ⟨tA, tc, rfl, htc⟩ := ho20.sl.form
                     have hz20 := hh20.bl.size)
                  | (refine step_app rfl tyT (.tmp 84) (.tmp 88) rfl w.heap.size (n := p) (m := 0) (B := w20.heap.size) (xs := tms (X.take p)) (news := tms (X.drop xc)) rfl rfl (by exact ho20) (by exact HDV.out _ how20) HOKD.out (by omega) (by omega) (by exact hz20) ?_; intro v21 w21 ha21
                     have hr21 : Row w w21 lvq v21 (X.take p ++ X.drop xc) := hr20.app hh20 (fun x hx => hx20.ky x (List.mem_of_mem_drop hx)) (by rw [show (X.take p).length + (X.drop xc).length = p + (0) by rw [List.length_take, List.length_drop]; have := HXN.out; omega]; exact ha21)
                     have hh21 : HR w w21 hb tb mb lvq Lq := hh20.row hr20 ha21.fr
                     have hln : (X.take p ++ X.drop xc).length = xc - 1 := by rw [List.length_append, List.length_take, List.length_drop, ← HXN.out]; omega
                     have ho21 : Own w21 w.heap.size tmT 5 v21 (xc - 1) (tms (X.take p ++ X.drop xc)) := by have h9 := hr21.own; rw [hln] at h9; exact h9
                     obtain ⟨uA, uc, rfl, huc⟩ := ho21.sl.form))
                all_goals
                  go_wp2_with fail
                  go_meet
                  case rel => exact ⟨uA, uc, rfl, hh21, hr21⟩
              · skip
                skip
                have HDV : Hid (∀ Y : World, Own Y w.heap.size tmT 5 (.slice (some xad) xn xc) xn (tms X) → Sl Y Y.heap.size (.slice (some (xad.add (p1 * 5))) (xn - p1) (xc - p1)) 5 (xn - p1) (tms (X.drop p1))) := by
                  intro Y hY
                  have h9 := HDR.out Y hY
                  simpa [hcp] using h9
                have HPM : Hid (p + (xn - p1) = xn - 1) := by show _ = _; omega
                have hcq : (xc = p1) = False := eq_false hcp
                clear hcp
                go_region_held3 (fun X : World => True) (trivial) (first
                  | (refine step_app rfl tyT (.tmp 80) (.tmp 83) rfl w.heap.size (n := 0) (m := p) (B := wd.heap.size) (xs := tms []) (news := tms (X.take p)) rfl rfl (by first | exact HLT.out.drew | exact HLT.out | exact HLT.out.drewN 1) (by first | exact HTK.out.drew | exact HTK.out) HOKT.out (by omega) (by omega) (by simp; omega) ?_; intro v20 w20 ha20
                     have hl20 : HR w (wd.alloc (.cells #[] tmT)) hb tb mb lvq Lq := HHD.out.below ((Below.refl _ _).alloc (Nat.le_refl _) _)
                     have hrl : Row w (wd.alloc (.cells #[] tmT)) lvq (.slice (some ⟨wd.heap.size, 0, none⟩) 0 0) [] := Row.lit HHD.out
                     have hfr20 : Fr (fun k => (Value.slice (some ⟨wd.heap.size, 0, none⟩) 0 0).ownBlock = some k) (wd.alloc (.cells #[] tmT)) w20 := ⟨ha20.fr.os, ha20.fr.tape, ha20.fr.output, ha20.fr.size, ha20.fr.block⟩
                     have hap20 : App (wd.alloc (.cells #[] tmT)) w.heap.size tmT 5 (.slice (some ⟨wd.heap.size, 0, none⟩) 0 0) (0 + p) (tms [] ++ tms (X.take p)) v20 w20 := ⟨ha20.own, hfr20, ha20.at_⟩
                     have hh20 : HR w w20 hb tb mb lvq Lq := hl20.row hrl hfr20
                     have hr20 : Row w w20 lvq v20 (X.take p) := by
                       have h9 := hrl.app hl20 (X := X.take p) (fun x hx => ((HRD.out.below ((Below.refl _ _).alloc (Nat.le_refl _) _)).ky x (List.mem_of_mem_take hx))) (by rw [show ([] : List TV).length + (X.take p).length = 0 + p by rw [List.length_take]; have := HXN.out; simp; omega]; exact hap20)
                       simpa using h9
                     have hx20 : Row w w20 lvq (.slice (some xad) xn xc) X := (HRD.out.below ((Below.refl _ _).alloc (Nat.le_refl _) _)).row hrl hfr20 (fun g hg e => by
                       have h8 : wd.heap.size = g := by simpa [Value.ownBlock] using hg
                       have := (HRD.out.own.lt g e).2
                       omega)
                     have how20 : Own w20 w.heap.size tmT 5 (.slice (some xad) xn xc) xn (tms X) := by have h9 := hx20.own; rw [← HXN.out] at h9; exact h9
                     have ho20 : Own w20 w.heap.size tmT 5 v20 p (tms (X.take p)) := by have h9 := hr20.own; rw [show (X.take p).length = p by rw [List.length_take]; have := HXN.out; omega] at h9; exact h9
                     obtain ⟨tA, tc, rfl, htc⟩ := ho20.sl.form
                     have hz20 := hh20.bl.size)
                  | (refine step_app rfl tyT (.tmp 84) (.tmp 88) rfl w.heap.size (n := p) (m := xn - p1) (B := w20.heap.size) (xs := tms (X.take p)) (news := tms (X.drop p1)) rfl rfl (by exact ho20) (by exact HDV.out _ how20) HOKD.out (by omega) (by omega) (by exact hz20) ?_; intro v21 w21 ha21
                     have hr21 : Row w w21 lvq v21 (X.take p ++ X.drop p1) := hr20.app hh20 (fun x hx => hx20.ky x (List.mem_of_mem_drop hx)) (by rw [show (X.take p).length + (X.drop p1).length = p + (xn - p1) by rw [List.length_take, List.length_drop]; have := HXN.out; omega]; exact ha21)
                     have hh21 : HR w w21 hb tb mb lvq Lq := hh20.row hr20 ha21.fr
                     have hln : (X.take p ++ X.drop p1).length = xn - 1 := by rw [List.length_append, List.length_take, List.length_drop, ← HXN.out]; omega
                     have ho21 : Own w21 w.heap.size tmT 5 v21 (xn - 1) (tms (X.take p ++ X.drop p1)) := by have h9 := hr21.own; rw [hln] at h9; exact h9
                     obtain ⟨uA, uc, rfl, huc⟩ := ho21.sl.form))
                all_goals
                  go_wp2_with fail
                  go_meet
                  case rel => exact ⟨uA, uc, rfl, hh21, hr21⟩
            case rest =>
              obtain ⟨vA, vc, rfl, HV⟩ := hcut
              have HQ2 : Hid (ApI w wc hb tb mb lvq Lq (.slice vA (xn - 1) vc) (X.take p ++ X.drop p1)) := ⟨HV.out.1, HV.out.2, by rw [← HX2.out]; exact HS2.out.1, by rw [← HX2.out]; exact HS2.out.2⟩
              have hl2 : xn - 1 = (X.take p ++ X.drop p1).length := by
                rw [List.length_append, List.length_take, List.length_drop, ← HXN.out]
                omega
              obtain ⟨X2, hX2⟩ : ∃ X2, X2 = X.take p ++ X.drop p1 := ⟨_, rfl⟩
              rw [← hX2] at HQ2 hl2
              obtain ⟨xn2, hxn2⟩ : ∃ xn2, xn2 = xn - 1 := ⟨_, rfl⟩
              rw [← hxn2] at HQ2 hl2 ⊢
              have HXN2 := hide hl2
              have hxl2 : xn2 ≤ 100 := by omega
              clear hX2 hl2 HV HX2 HS2 HDR HOKD HLT HTK HOKT HOWC HRX HH HOWD HRD HHD HXN hw1 hi4 hi5 hi6 hi7 hi8 hxn2 hpn hpX hi1 hi2 hp1a hp1b
              go_wp2_with fail
              refine (hdue_r w wc hb tb mb lvq Lq now HQ2.out.hr).mono ?_
              rintro e w10 ⟨O, oA, oc, lv3, L3, rfl, hd⟩
              have hzq := HQ2.out.hr.bl.size
              have HX10 : Hid (Row w w10 lv3 (.slice vA xn2 vc) X2) := HQ2.out.row.step HQ2.out.hr hd.fr hd.nb
              have HO10 := hide (hd.row hzq)
              have HR10 := hide hd.hr
              have HDU : Hid ((∀ x ∈ O, x.a ≤ now) ∧ (∀ y ∈ L3, now < y.a) ∧ Lq.Perm (O ++ L3) ∧ O.Pairwise leT ∧ (∀ x ∈ O, ∀ y ∈ L3, leT x y)) := ⟨hd.du, hd.nd, hd.pm, hd.so, hd.le⟩
              have HPS : Hid ((X2.map TV.d).Perm (Lq.map TV.d) ∧ X2.Pairwise leT) := ⟨HQ2.out.pm, HQ2.out.so⟩
              obtain ⟨on, hon⟩ : ∃ on, on = O.length := ⟨_, rfl⟩
              have honl : on ≤ 100 := by
                have h1 := hd.pm.length_eq
                have h2 := HQ2.out.pm.length_eq
                have h3 := HXN2.out
                simp only [List.length_map, List.length_append] at h1 h2
                omega
              rw [← hon] at HO10 ⊢
              have HON := hide hon
              clear hd hon HQ2
              have HLIT : Hid (HR w (w10.alloc (.cells #[] tmT)) hb tb mb lv3 L3 ∧ Row w (w10.alloc (.cells #[] tmT)) lv3 (.slice (some ⟨w10.heap.size, 0, none⟩) 0 0) [] ∧ Row w (w10.alloc (.cells #[] tmT)) lv3 (.slice vA xn2 vc) X2 ∧ Row w (w10.alloc (.cells #[] tmT)) lv3 (.slice oA on oc) O) :=
                ⟨HR10.out.below ((Below.refl _ _).alloc (Nat.le_refl _) _), Row.lit HR10.out, HX10.out.below ((Below.refl _ _).alloc (Nat.le_refl _) _), HO10.out.below ((Below.refl _ _).alloc (Nat.le_refl _) _)⟩
              have hz10 := HR10.out.bl.size
              have HOS : Hid (Sl (w10.alloc (.cells #[] tmT)) (w10.alloc (.cells #[] tmT)).heap.size (.slice oA on oc) 5 on (tms O)) := by have h9 := HLIT.out.2.2.2.sl; rw [← HON.out] at h9; exact h9
              have HOK : Hid (∀ u ∈ tms O, u.oneCell' = true) := tms_ok O (fun x hx => by obtain ⟨_, _, hv, _⟩ := (HO10.out.ky x hx).1.sl.form; rw [hv]; rfl)
              go_wp2_with (at_builtin; refine wpList_app rfl tyT (.tmp 93) (.tmp 94) rfl w.heap.size (n := 0) (m := on) (B := (w10.alloc (.cells #[] tmT)).heap.size) (xs := tms []) (news := tms O) rfl rfl (by exact HLIT.out.2.1.own) (by exact HOS.out) HOK.out (by omega) (by omega) (by simp; omega) ?_)
              intro v11 w11 ha11
              have HFR : Hid (∀ g, v11.ownBlock = some g → w10.heap.size ≤ g) := by
                intro g hg
                rcases ha11.at_ with h9 | h9
                · have h8 := h9.symm.trans hg
                  have : w10.heap.size = g := by simpa [Value.ownBlock] using h8
                  omega
                · have h8 := h9.symm.trans hg
                  injection h8 with h8
                  rw [World.size_alloc] at h8
                  omega
              have HL11 : Hid (HR w w11 hb tb mb lv3 L3 ∧ Row w w11 lv3 v11 O ∧ Row w w11 lv3 (.slice vA xn2 vc) X2) := by
                refine ⟨HLIT.out.1.row HLIT.out.2.1 ha11.fr, ?_, HLIT.out.2.2.1.row HLIT.out.2.1 ha11.fr (fun g hg e => ?_)⟩
                · have h9 := HLIT.out.2.1.app HLIT.out.1 (X := O) HLIT.out.2.2.2.ky (by rw [← HON.out, show ([] : List TV).length + on = on from Nat.zero_add on]; exact ha11)
                  simpa using h9
                · have h8 : w10.heap.size = g := by simpa [Value.ownBlock] using hg
                  have := (HX10.out.own.lt g e).2
                  omega
              have hX10 : ∀ g, (Value.slice vA xn2 vc).ownBlock = some g → g < w10.heap.size := fun g hg => (HX10.out.own.lt g hg).2
              have HXL := hide hX10
              clear ha11 HLIT HOS HOK HX10 HO10 HR10 hX10
              obtain ⟨bA, bc, rfl, hbc⟩ := HL11.out.2.1.own.sl.form
              rw [← HON.out] at hbc
              go_wp2_with fail
              refine (hall_r w w11 hb tb mb lv3 L3 HL11.out.1).mono ?_
              rintro e w12 ⟨E, eA, ec, rfl, hb12, hr12, hrow12, hfr12, hpm12, hso12⟩
              obtain ⟨en, hen⟩ : ∃ en, en = E.length := ⟨_, rfl⟩
              have hsp := due_split HPS.out.1 HPS.out.2 HDU.out.2.2.1 HDU.out.2.2.2.1 HDU.out.2.2.2.2 hpm12 hso12
              have HSP := hide hsp
              have HPM := hide hpm12
              have hoe : on + en = xn2 := by
                have h9 := ap_len hsp
                have h8 := HON.out
                have h7 := HXN2.out
                rw [List.length_append] at h9
                omega
              have HL12 : Hid (HR w w12 hb tb mb lv3 L3 ∧ Row w w12 lv3 (.slice bA O.length bc) O ∧ Row w w12 lv3 (.slice vA xn2 vc) X2 ∧ Row w w12 lv3 (.slice eA E.length ec) E) := ⟨hr12, HL11.out.2.1.below hb12, HL11.out.2.2.below hb12, hrow12⟩
              have HES : Hid (Sl w12 w12.heap.size (.slice eA en ec) 5 en (tms E)) := by have h9 := hrow12.sl; rw [← hen] at h9; exact h9
              have HEK : Hid (∀ u ∈ tms E, u.oneCell' = true) := tms_ok E (fun x hx => by obtain ⟨_, _, hv, _⟩ := (hrow12.ky x hx).1.sl.form; rw [hv]; rfl)
              have HBO : Hid (Own w12 w.heap.size tmT 5 (.slice bA on bc) on (tms O)) := by have h9 := HL12.out.2.1.own; rw [← HON.out] at h9; exact h9
              have hz12 := hr12.bl.size
              rw [← HON.out, ← hen]
              have HEN := hide hen
              clear hb12 hr12 hrow12 hfr12 hpm12 hso12 hsp hen HL11
              go_wp2_with (at_builtin; refine wpList_app rfl tyT (.tmp 95) (.tmp 97) rfl w.heap.size (n := on) (m := en) (B := w12.heap.size) (xs := tms O) (news := tms E) rfl rfl (by exact HBO.out) (by exact HES.out) HEK.out (by omega) (by omega) (by omega) ?_)
              intro v13 w13 ha13
              have HY : Hid (HR w w13 hb tb mb lv3 L3 ∧ Row w w13 lv3 v13 (O ++ E) ∧ Row w w13 lv3 (.slice vA xn2 vc) X2) := by
                have hbo := HL12.out.2.1
                have e1 : (Value.slice bA on bc) = (.slice bA O.length bc) := by rw [HON.out]
                rw [e1] at ha13
                refine ⟨HL12.out.1.row hbo ha13.fr, ?_, HL12.out.2.2.1.row hbo ha13.fr (fun g hg e => ?_)⟩
                · exact hbo.app HL12.out.1 HL12.out.2.2.2.ky (by rw [← HON.out, ← HEN.out, hoe]; rw [← HON.out] at ha13; exact ha13)
                · have h8 := HFR.out g hg
                  have := HXL.out g e
                  omega
              obtain ⟨yA, yc, rfl, hyc⟩ := HY.out.2.1.own.sl.form
              have HYL : Hid ((O ++ E).length = xn2) := by show _ = _; rw [List.length_append, ← HON.out, ← HEN.out]; exact hoe
              rw [HYL.out] at hyc ⊢
              have HYS : Hid (Sl w13 w13.heap.size (.slice yA xn2 yc) 5 xn2 (tms (O ++ E))) := by have h9 := HY.out.2.1.sl; rw [HYL.out] at h9; exact h9
              have HXS : Hid (Sl w13 w13.heap.size (.slice vA xn2 vc) 5 xn2 (tms X2)) := by have h9 := HY.out.2.2.sl; rw [← HXN2.out] at h9; exact h9
              have HKK : Hid ((∀ x ∈ O ++ E, KeyO w13 w.heap.size x) ∧ ∀ x ∈ X2, KeyO w13 w.heap.size x) := ⟨HY.out.2.1.ky, HY.out.2.2.ky⟩
              have HBL := hide HY.out.1.bl
              clear ha13 HL12 HES HEK HBO HY HFR HXL
              go_wp2_with fail
              go_loopw [106] (fun i wz => ∃ k : Nat, k ≤ xn2 ∧ i = .int .i64 k ∧ Hid (Below w13.heap.size w13 wz)) (fun i _ => xn2 - (intOf i).toNat)
              case atStart => exact ⟨0, Nat.zero_le _, rfl, Below.refl _ _⟩
              case round =>
                obtain ⟨k, hk, rfl, HBZ⟩ := hrel
                by_cases hlt : k < xn2
                · have hkY : k < (O ++ E).length := by rw [HYL.out]; exact hlt
                  have hkX : k < X2.length := by rw [← HXN2.out]; exact hlt
                  obtain ⟨yad, rfl, hyb, a0, a1, a2, a3, a4⟩ := tm_at (HYS.out.below HBZ.out) hlt HYL.out
                  obtain ⟨xad, rfl, hxb, b0, b1, b2, b3, b4⟩ := tm_at (HXS.out.below HBZ.out) hlt HXN2.out.symm
                  have hzz := HBZ.out.size
                  have hyb2 : (yad.add (k * 5)).block < wr.heap.size := by omega
                  have hxb2 : (xad.add (k * 5)).block < wr.heap.size := by omega
                  have hdd := ap_at HSP.out hkY hkX
                  have hdu := ap_due HDU.out.1 HDU.out.2.1 HPM.out hkY
                  have hky := HKK.out.1 _ (List.getElem_mem hkY)
                  have hkx := HKK.out.2 _ (List.getElem_mem hkX)
                  generalize (O ++ E)[k] = y at a0 a1 a2 a3 a4 hdd hdu hky
                  generalize X2[k] = x at b0 b1 b2 b3 b4 hdd hkx
                  clear hkY hkX
                  obtain ⟨ya, yk, yb, yf, yt, yw⟩ := y
                  obtain ⟨za, zk, zb, zf, zt, zw⟩ := x
                  simp only [TV.d, TD.mk.injEq] at hdd
                  obtain ⟨rfl, rfl, rfl, rfl, rfl⟩ := hdd
                  obtain ⟨kA, kc, hk1, hkc⟩ := hky.1.sl.form
                  obtain ⟨jA, jc, hk2, hjc⟩ := hkx.1.sl.form
                  simp only at hk1 hk2 hkc hjc a0 a1 a2 a3 a4 b0 b1 b2 b3 b4 hdu
                  subst hk1 hk2
                  have HKY := hide hky
                  have HKX := hide hkx
                  rw [← HON.out] at hdu
                  obtain ⟨kn, hkn⟩ : ∃ kn, kn = yb.length := ⟨_, rfl⟩
                  rw [← hkn] at a1 b1 hkc hjc
                  have HKN := hide hkn
                  have HSY : Hid (Sl w13 w13.heap.size (.slice kA kn kc) 1 kn (bys yb)) := by have h9 := HKY.out.1.sl; simp only [← hkn] at h9; exact h9
                  have HSX : Hid (Sl w13 w13.heap.size (.slice jA kn jc) 1 kn (bys yb)) := by have h9 := HKX.out.1.sl; simp only [← hkn] at h9; exact h9
                  have HY8 := hide HKY.out.2.1
                  simp only at HY8
                  clear hky hkx hkn HKY HKX
                  have e1 : (ya != ya) = false := by simp
                  have e2 : (yw != yw) = false := by simp
                  have e3 := wT_nn yf yt
                  have HB9 : Hid (Below w13.heap.size w13 ((wr.alloc (.cells #[.int .i64 ya, .slice kA kn kc, .int .i64 yf, .int .i64 yt, .int .i64 yw] tmT)).alloc (.cells #[.int .i64 ya, .slice jA kn jc, .int .i64 yf, .int .i64 yt, .int .i64 yw] tmT))) := (HBZ.out.alloc hzz _).alloc (by simp; omega) _
                  have hcase : (k < on ∧ ya ≤ now) ∨ (¬ k < on ∧ ¬ ya ≤ now) := by
                    by_cases h9 : k < on
                    · exact .inl ⟨h9, hdu.2 h9⟩
                    · exact .inr ⟨h9, fun h8 => h9 (hdu.1 h8)⟩
                  clear hdu
                  rcases hcase with ⟨hko, hkn⟩ | ⟨hko, hkn⟩
                  all_goals
                    go_wp2_with fail
                    refine (rbytes_any _ _ yb yb kn kn w13.heap.size w13.heap.size _ (HSY.out.below HB9.out) (HSX.out.below HB9.out) HKN.out.symm HKN.out.symm HY8.out HY8.out).mono ?_
                    rw [(bytesR_zero yb yb).2 rfl]
                    rintro e w15 ⟨rfl, j15, rfl⟩
                    have HB15 := hide (HB9.out.drewN j15)
                    go_wp2_with fail
                    go_roundw
                    case rel => exact ⟨k + 1, by omega, by simp, HB15.out⟩
                    case measure => simp [intOf]; omega
                · have HB16 := hide (HBL.out.trans (HBZ.out.mono HBL.out.size))
                  clear HYS HXS HKK HSP HPM HDU HPS
                  go_wp2_with fail
                  refine (awake16 wr).mono ?_
                  rintro e w17 ⟨rfl, hb17⟩
                  have H17 := hide (HB16.out.trans (hb17.mono HB16.out.size))
                  clear hb17
                  go_wp2_with fail
                  go_ret
                  exact ⟨rfl, H17.out⟩

        · have hin2 : (¬ 0 ≤ at_) ∨ (0 ≤ at_ ∧ ¬ at_ < (xn : Int)) := by omega
          clear hin
          rcases hin2 with hi1 | ⟨hi1, hi2⟩
          · skip
            go_wp2_with fail
            refine (hdue_r w w6 hb tb mb lv1 L1 now HQ.out.hr).mono ?_
            rintro e w10 ⟨O, oA, oc, lv3, L3, rfl, hd⟩
            have hzq := HQ.out.hr.bl.size
            have HX10 : Hid (Row w w10 lv3 (.slice xA xn xc) X) := HQ.out.row.step HQ.out.hr hd.fr hd.nb
            have HO10 := hide (hd.row hzq)
            have HR10 := hide hd.hr
            have HDU : Hid ((∀ x ∈ O, x.a ≤ now) ∧ (∀ y ∈ L3, now < y.a) ∧ L1.Perm (O ++ L3) ∧ O.Pairwise leT ∧ (∀ x ∈ O, ∀ y ∈ L3, leT x y)) := ⟨hd.du, hd.nd, hd.pm, hd.so, hd.le⟩
            have HPS : Hid ((X.map TV.d).Perm (L1.map TV.d) ∧ X.Pairwise leT) := ⟨HQ.out.pm, HQ.out.so⟩
            obtain ⟨on, hon⟩ : ∃ on, on = O.length := ⟨_, rfl⟩
            have honl : on ≤ 100 := by
              have h1 := hd.pm.length_eq
              have h2 := HQ.out.pm.length_eq
              have h3 := HXN.out
              simp only [List.length_map, List.length_append] at h1 h2
              omega
            rw [← hon] at HO10 ⊢
            have HON := hide hon
            clear hd hon HQ
            have HLIT : Hid (HR w (w10.alloc (.cells #[] tmT)) hb tb mb lv3 L3 ∧ Row w (w10.alloc (.cells #[] tmT)) lv3 (.slice (some ⟨w10.heap.size, 0, none⟩) 0 0) [] ∧ Row w (w10.alloc (.cells #[] tmT)) lv3 (.slice xA xn xc) X ∧ Row w (w10.alloc (.cells #[] tmT)) lv3 (.slice oA on oc) O) :=
              ⟨HR10.out.below ((Below.refl _ _).alloc (Nat.le_refl _) _), Row.lit HR10.out, HX10.out.below ((Below.refl _ _).alloc (Nat.le_refl _) _), HO10.out.below ((Below.refl _ _).alloc (Nat.le_refl _) _)⟩
            have hz10 := HR10.out.bl.size
            have HOS : Hid (Sl (w10.alloc (.cells #[] tmT)) (w10.alloc (.cells #[] tmT)).heap.size (.slice oA on oc) 5 on (tms O)) := by have h9 := HLIT.out.2.2.2.sl; rw [← HON.out] at h9; exact h9
            have HOK : Hid (∀ u ∈ tms O, u.oneCell' = true) := tms_ok O (fun x hx => by obtain ⟨_, _, hv, _⟩ := (HO10.out.ky x hx).1.sl.form; rw [hv]; rfl)
            go_wp2_with (at_builtin; refine wpList_app rfl tyT (.tmp 93) (.tmp 94) rfl w.heap.size (n := 0) (m := on) (B := (w10.alloc (.cells #[] tmT)).heap.size) (xs := tms []) (news := tms O) rfl rfl (by exact HLIT.out.2.1.own) (by exact HOS.out) HOK.out (by omega) (by omega) (by simp; omega) ?_)
            intro v11 w11 ha11
            have HFR : Hid (∀ g, v11.ownBlock = some g → w10.heap.size ≤ g) := by
              intro g hg
              rcases ha11.at_ with h9 | h9
              · have h8 := h9.symm.trans hg
                have : w10.heap.size = g := by simpa [Value.ownBlock] using h8
                omega
              · have h8 := h9.symm.trans hg
                injection h8 with h8
                rw [World.size_alloc] at h8
                omega
            have HL11 : Hid (HR w w11 hb tb mb lv3 L3 ∧ Row w w11 lv3 v11 O ∧ Row w w11 lv3 (.slice xA xn xc) X) := by
              refine ⟨HLIT.out.1.row HLIT.out.2.1 ha11.fr, ?_, HLIT.out.2.2.1.row HLIT.out.2.1 ha11.fr (fun g hg e => ?_)⟩
              · have h9 := HLIT.out.2.1.app HLIT.out.1 (X := O) HLIT.out.2.2.2.ky (by rw [← HON.out, show ([] : List TV).length + on = on from Nat.zero_add on]; exact ha11)
                simpa using h9
              · have h8 : w10.heap.size = g := by simpa [Value.ownBlock] using hg
                have := (HX10.out.own.lt g e).2
                omega
            have hX10 : ∀ g, (Value.slice xA xn xc).ownBlock = some g → g < w10.heap.size := fun g hg => (HX10.out.own.lt g hg).2
            have HXL := hide hX10
            clear ha11 HLIT HOS HOK HX10 HO10 HR10 hX10
            obtain ⟨bA, bc, rfl, hbc⟩ := HL11.out.2.1.own.sl.form
            rw [← HON.out] at hbc
            go_wp2_with fail
            refine (hall_r w w11 hb tb mb lv3 L3 HL11.out.1).mono ?_
            rintro e w12 ⟨E, eA, ec, rfl, hb12, hr12, hrow12, hfr12, hpm12, hso12⟩
            obtain ⟨en, hen⟩ : ∃ en, en = E.length := ⟨_, rfl⟩
            have hsp := due_split HPS.out.1 HPS.out.2 HDU.out.2.2.1 HDU.out.2.2.2.1 HDU.out.2.2.2.2 hpm12 hso12
            have HSP := hide hsp
            have HPM := hide hpm12
            have hoe : on + en = xn := by
              have h9 := ap_len hsp
              have h8 := HON.out
              have h7 := HXN.out
              rw [List.length_append] at h9
              omega
            have HL12 : Hid (HR w w12 hb tb mb lv3 L3 ∧ Row w w12 lv3 (.slice bA O.length bc) O ∧ Row w w12 lv3 (.slice xA xn xc) X ∧ Row w w12 lv3 (.slice eA E.length ec) E) := ⟨hr12, HL11.out.2.1.below hb12, HL11.out.2.2.below hb12, hrow12⟩
            have HES : Hid (Sl w12 w12.heap.size (.slice eA en ec) 5 en (tms E)) := by have h9 := hrow12.sl; rw [← hen] at h9; exact h9
            have HEK : Hid (∀ u ∈ tms E, u.oneCell' = true) := tms_ok E (fun x hx => by obtain ⟨_, _, hv, _⟩ := (hrow12.ky x hx).1.sl.form; rw [hv]; rfl)
            have HBO : Hid (Own w12 w.heap.size tmT 5 (.slice bA on bc) on (tms O)) := by have h9 := HL12.out.2.1.own; rw [← HON.out] at h9; exact h9
            have hz12 := hr12.bl.size
            rw [← HON.out, ← hen]
            have HEN := hide hen
            clear hb12 hr12 hrow12 hfr12 hpm12 hso12 hsp hen HL11
            go_wp2_with (at_builtin; refine wpList_app rfl tyT (.tmp 95) (.tmp 97) rfl w.heap.size (n := on) (m := en) (B := w12.heap.size) (xs := tms O) (news := tms E) rfl rfl (by exact HBO.out) (by exact HES.out) HEK.out (by omega) (by omega) (by omega) ?_)
            intro v13 w13 ha13
            have HY : Hid (HR w w13 hb tb mb lv3 L3 ∧ Row w w13 lv3 v13 (O ++ E) ∧ Row w w13 lv3 (.slice xA xn xc) X) := by
              have hbo := HL12.out.2.1
              have e1 : (Value.slice bA on bc) = (.slice bA O.length bc) := by rw [HON.out]
              rw [e1] at ha13
              refine ⟨HL12.out.1.row hbo ha13.fr, ?_, HL12.out.2.2.1.row hbo ha13.fr (fun g hg e => ?_)⟩
              · exact hbo.app HL12.out.1 HL12.out.2.2.2.ky (by rw [← HON.out, ← HEN.out, hoe]; rw [← HON.out] at ha13; exact ha13)
              · have h8 := HFR.out g hg
                have := HXL.out g e
                omega
            obtain ⟨yA, yc, rfl, hyc⟩ := HY.out.2.1.own.sl.form
            have HYL : Hid ((O ++ E).length = xn) := by show _ = _; rw [List.length_append, ← HON.out, ← HEN.out]; exact hoe
            rw [HYL.out] at hyc ⊢
            have HYS : Hid (Sl w13 w13.heap.size (.slice yA xn yc) 5 xn (tms (O ++ E))) := by have h9 := HY.out.2.1.sl; rw [HYL.out] at h9; exact h9
            have HXS : Hid (Sl w13 w13.heap.size (.slice xA xn xc) 5 xn (tms X)) := by have h9 := HY.out.2.2.sl; rw [← HXN.out] at h9; exact h9
            have HKK : Hid ((∀ x ∈ O ++ E, KeyO w13 w.heap.size x) ∧ ∀ x ∈ X, KeyO w13 w.heap.size x) := ⟨HY.out.2.1.ky, HY.out.2.2.ky⟩
            have HBL := hide HY.out.1.bl
            clear ha13 HL12 HES HEK HBO HY HFR HXL
            go_wp2_with fail
            go_loopw [106] (fun i wz => ∃ k : Nat, k ≤ xn ∧ i = .int .i64 k ∧ Hid (Below w13.heap.size w13 wz)) (fun i _ => xn - (intOf i).toNat)
            case atStart => exact ⟨0, Nat.zero_le _, rfl, Below.refl _ _⟩
            case round =>
              obtain ⟨k, hk, rfl, HBZ⟩ := hrel
              by_cases hlt : k < xn
              · have hkY : k < (O ++ E).length := by rw [HYL.out]; exact hlt
                have hkX : k < X.length := by rw [← HXN.out]; exact hlt
                obtain ⟨yad, rfl, hyb, a0, a1, a2, a3, a4⟩ := tm_at (HYS.out.below HBZ.out) hlt HYL.out
                obtain ⟨xad, rfl, hxb, b0, b1, b2, b3, b4⟩ := tm_at (HXS.out.below HBZ.out) hlt HXN.out.symm
                have hzz := HBZ.out.size
                have hyb2 : (yad.add (k * 5)).block < wr.heap.size := by omega
                have hxb2 : (xad.add (k * 5)).block < wr.heap.size := by omega
                have hdd := ap_at HSP.out hkY hkX
                have hdu := ap_due HDU.out.1 HDU.out.2.1 HPM.out hkY
                have hky := HKK.out.1 _ (List.getElem_mem hkY)
                have hkx := HKK.out.2 _ (List.getElem_mem hkX)
                generalize (O ++ E)[k] = y at a0 a1 a2 a3 a4 hdd hdu hky
                generalize X[k] = x at b0 b1 b2 b3 b4 hdd hkx
                clear hkY hkX
                obtain ⟨ya, yk, yb, yf, yt, yw⟩ := y
                obtain ⟨za, zk, zb, zf, zt, zw⟩ := x
                simp only [TV.d, TD.mk.injEq] at hdd
                obtain ⟨rfl, rfl, rfl, rfl, rfl⟩ := hdd
                obtain ⟨kA, kc, hk1, hkc⟩ := hky.1.sl.form
                obtain ⟨jA, jc, hk2, hjc⟩ := hkx.1.sl.form
                simp only at hk1 hk2 hkc hjc a0 a1 a2 a3 a4 b0 b1 b2 b3 b4 hdu
                subst hk1 hk2
                have HKY := hide hky
                have HKX := hide hkx
                rw [← HON.out] at hdu
                obtain ⟨kn, hkn⟩ : ∃ kn, kn = yb.length := ⟨_, rfl⟩
                rw [← hkn] at a1 b1 hkc hjc
                have HKN := hide hkn
                have HSY : Hid (Sl w13 w13.heap.size (.slice kA kn kc) 1 kn (bys yb)) := by have h9 := HKY.out.1.sl; simp only [← hkn] at h9; exact h9
                have HSX : Hid (Sl w13 w13.heap.size (.slice jA kn jc) 1 kn (bys yb)) := by have h9 := HKX.out.1.sl; simp only [← hkn] at h9; exact h9
                have HY8 := hide HKY.out.2.1
                simp only at HY8
                clear hky hkx hkn HKY HKX
                have e1 : (ya != ya) = false := by simp
                have e2 : (yw != yw) = false := by simp
                have e3 := wT_nn yf yt
                have HB9 : Hid (Below w13.heap.size w13 ((wr.alloc (.cells #[.int .i64 ya, .slice kA kn kc, .int .i64 yf, .int .i64 yt, .int .i64 yw] tmT)).alloc (.cells #[.int .i64 ya, .slice jA kn jc, .int .i64 yf, .int .i64 yt, .int .i64 yw] tmT))) := (HBZ.out.alloc hzz _).alloc (by simp; omega) _
                have hcase : (k < on ∧ ya ≤ now) ∨ (¬ k < on ∧ ¬ ya ≤ now) := by
                  by_cases h9 : k < on
                  · exact .inl ⟨h9, hdu.2 h9⟩
                  · exact .inr ⟨h9, fun h8 => h9 (hdu.1 h8)⟩
                clear hdu
                rcases hcase with ⟨hko, hkn⟩ | ⟨hko, hkn⟩
                all_goals
                  go_wp2_with fail
                  refine (rbytes_any _ _ yb yb kn kn w13.heap.size w13.heap.size _ (HSY.out.below HB9.out) (HSX.out.below HB9.out) HKN.out.symm HKN.out.symm HY8.out HY8.out).mono ?_
                  rw [(bytesR_zero yb yb).2 rfl]
                  rintro e w15 ⟨rfl, j15, rfl⟩
                  have HB15 := hide (HB9.out.drewN j15)
                  go_wp2_with fail
                  go_roundw
                  case rel => exact ⟨k + 1, by omega, by simp, HB15.out⟩
                  case measure => simp [intOf]; omega
              · have HB16 := hide (HBL.out.trans (HBZ.out.mono HBL.out.size))
                clear HYS HXS HKK HSP HPM HDU HPS
                go_wp2_with fail
                refine (awake16 wr).mono ?_
                rintro e w17 ⟨rfl, hb17⟩
                have H17 := hide (HB16.out.trans (hb17.mono HB16.out.size))
                clear hb17
                go_wp2_with fail
                go_ret
                exact ⟨rfl, H17.out⟩
          · skip
            go_wp2_with fail
            refine (hdue_r w w6 hb tb mb lv1 L1 now HQ.out.hr).mono ?_
            rintro e w10 ⟨O, oA, oc, lv3, L3, rfl, hd⟩
            have hzq := HQ.out.hr.bl.size
            have HX10 : Hid (Row w w10 lv3 (.slice xA xn xc) X) := HQ.out.row.step HQ.out.hr hd.fr hd.nb
            have HO10 := hide (hd.row hzq)
            have HR10 := hide hd.hr
            have HDU : Hid ((∀ x ∈ O, x.a ≤ now) ∧ (∀ y ∈ L3, now < y.a) ∧ L1.Perm (O ++ L3) ∧ O.Pairwise leT ∧ (∀ x ∈ O, ∀ y ∈ L3, leT x y)) := ⟨hd.du, hd.nd, hd.pm, hd.so, hd.le⟩
            have HPS : Hid ((X.map TV.d).Perm (L1.map TV.d) ∧ X.Pairwise leT) := ⟨HQ.out.pm, HQ.out.so⟩
            obtain ⟨on, hon⟩ : ∃ on, on = O.length := ⟨_, rfl⟩
            have honl : on ≤ 100 := by
              have h1 := hd.pm.length_eq
              have h2 := HQ.out.pm.length_eq
              have h3 := HXN.out
              simp only [List.length_map, List.length_append] at h1 h2
              omega
            rw [← hon] at HO10 ⊢
            have HON := hide hon
            clear hd hon HQ
            have HLIT : Hid (HR w (w10.alloc (.cells #[] tmT)) hb tb mb lv3 L3 ∧ Row w (w10.alloc (.cells #[] tmT)) lv3 (.slice (some ⟨w10.heap.size, 0, none⟩) 0 0) [] ∧ Row w (w10.alloc (.cells #[] tmT)) lv3 (.slice xA xn xc) X ∧ Row w (w10.alloc (.cells #[] tmT)) lv3 (.slice oA on oc) O) :=
              ⟨HR10.out.below ((Below.refl _ _).alloc (Nat.le_refl _) _), Row.lit HR10.out, HX10.out.below ((Below.refl _ _).alloc (Nat.le_refl _) _), HO10.out.below ((Below.refl _ _).alloc (Nat.le_refl _) _)⟩
            have hz10 := HR10.out.bl.size
            have HOS : Hid (Sl (w10.alloc (.cells #[] tmT)) (w10.alloc (.cells #[] tmT)).heap.size (.slice oA on oc) 5 on (tms O)) := by have h9 := HLIT.out.2.2.2.sl; rw [← HON.out] at h9; exact h9
            have HOK : Hid (∀ u ∈ tms O, u.oneCell' = true) := tms_ok O (fun x hx => by obtain ⟨_, _, hv, _⟩ := (HO10.out.ky x hx).1.sl.form; rw [hv]; rfl)
            go_wp2_with (at_builtin; refine wpList_app rfl tyT (.tmp 93) (.tmp 94) rfl w.heap.size (n := 0) (m := on) (B := (w10.alloc (.cells #[] tmT)).heap.size) (xs := tms []) (news := tms O) rfl rfl (by exact HLIT.out.2.1.own) (by exact HOS.out) HOK.out (by omega) (by omega) (by simp; omega) ?_)
            intro v11 w11 ha11
            have HFR : Hid (∀ g, v11.ownBlock = some g → w10.heap.size ≤ g) := by
              intro g hg
              rcases ha11.at_ with h9 | h9
              · have h8 := h9.symm.trans hg
                have : w10.heap.size = g := by simpa [Value.ownBlock] using h8
                omega
              · have h8 := h9.symm.trans hg
                injection h8 with h8
                rw [World.size_alloc] at h8
                omega
            have HL11 : Hid (HR w w11 hb tb mb lv3 L3 ∧ Row w w11 lv3 v11 O ∧ Row w w11 lv3 (.slice xA xn xc) X) := by
              refine ⟨HLIT.out.1.row HLIT.out.2.1 ha11.fr, ?_, HLIT.out.2.2.1.row HLIT.out.2.1 ha11.fr (fun g hg e => ?_)⟩
              · have h9 := HLIT.out.2.1.app HLIT.out.1 (X := O) HLIT.out.2.2.2.ky (by rw [← HON.out, show ([] : List TV).length + on = on from Nat.zero_add on]; exact ha11)
                simpa using h9
              · have h8 : w10.heap.size = g := by simpa [Value.ownBlock] using hg
                have := (HX10.out.own.lt g e).2
                omega
            have hX10 : ∀ g, (Value.slice xA xn xc).ownBlock = some g → g < w10.heap.size := fun g hg => (HX10.out.own.lt g hg).2
            have HXL := hide hX10
            clear ha11 HLIT HOS HOK HX10 HO10 HR10 hX10
            obtain ⟨bA, bc, rfl, hbc⟩ := HL11.out.2.1.own.sl.form
            rw [← HON.out] at hbc
            go_wp2_with fail
            refine (hall_r w w11 hb tb mb lv3 L3 HL11.out.1).mono ?_
            rintro e w12 ⟨E, eA, ec, rfl, hb12, hr12, hrow12, hfr12, hpm12, hso12⟩
            obtain ⟨en, hen⟩ : ∃ en, en = E.length := ⟨_, rfl⟩
            have hsp := due_split HPS.out.1 HPS.out.2 HDU.out.2.2.1 HDU.out.2.2.2.1 HDU.out.2.2.2.2 hpm12 hso12
            have HSP := hide hsp
            have HPM := hide hpm12
            have hoe : on + en = xn := by
              have h9 := ap_len hsp
              have h8 := HON.out
              have h7 := HXN.out
              rw [List.length_append] at h9
              omega
            have HL12 : Hid (HR w w12 hb tb mb lv3 L3 ∧ Row w w12 lv3 (.slice bA O.length bc) O ∧ Row w w12 lv3 (.slice xA xn xc) X ∧ Row w w12 lv3 (.slice eA E.length ec) E) := ⟨hr12, HL11.out.2.1.below hb12, HL11.out.2.2.below hb12, hrow12⟩
            have HES : Hid (Sl w12 w12.heap.size (.slice eA en ec) 5 en (tms E)) := by have h9 := hrow12.sl; rw [← hen] at h9; exact h9
            have HEK : Hid (∀ u ∈ tms E, u.oneCell' = true) := tms_ok E (fun x hx => by obtain ⟨_, _, hv, _⟩ := (hrow12.ky x hx).1.sl.form; rw [hv]; rfl)
            have HBO : Hid (Own w12 w.heap.size tmT 5 (.slice bA on bc) on (tms O)) := by have h9 := HL12.out.2.1.own; rw [← HON.out] at h9; exact h9
            have hz12 := hr12.bl.size
            rw [← HON.out, ← hen]
            have HEN := hide hen
            clear hb12 hr12 hrow12 hfr12 hpm12 hso12 hsp hen HL11
            go_wp2_with (at_builtin; refine wpList_app rfl tyT (.tmp 95) (.tmp 97) rfl w.heap.size (n := on) (m := en) (B := w12.heap.size) (xs := tms O) (news := tms E) rfl rfl (by exact HBO.out) (by exact HES.out) HEK.out (by omega) (by omega) (by omega) ?_)
            intro v13 w13 ha13
            have HY : Hid (HR w w13 hb tb mb lv3 L3 ∧ Row w w13 lv3 v13 (O ++ E) ∧ Row w w13 lv3 (.slice xA xn xc) X) := by
              have hbo := HL12.out.2.1
              have e1 : (Value.slice bA on bc) = (.slice bA O.length bc) := by rw [HON.out]
              rw [e1] at ha13
              refine ⟨HL12.out.1.row hbo ha13.fr, ?_, HL12.out.2.2.1.row hbo ha13.fr (fun g hg e => ?_)⟩
              · exact hbo.app HL12.out.1 HL12.out.2.2.2.ky (by rw [← HON.out, ← HEN.out, hoe]; rw [← HON.out] at ha13; exact ha13)
              · have h8 := HFR.out g hg
                have := HXL.out g e
                omega
            obtain ⟨yA, yc, rfl, hyc⟩ := HY.out.2.1.own.sl.form
            have HYL : Hid ((O ++ E).length = xn) := by show _ = _; rw [List.length_append, ← HON.out, ← HEN.out]; exact hoe
            rw [HYL.out] at hyc ⊢
            have HYS : Hid (Sl w13 w13.heap.size (.slice yA xn yc) 5 xn (tms (O ++ E))) := by have h9 := HY.out.2.1.sl; rw [HYL.out] at h9; exact h9
            have HXS : Hid (Sl w13 w13.heap.size (.slice xA xn xc) 5 xn (tms X)) := by have h9 := HY.out.2.2.sl; rw [← HXN.out] at h9; exact h9
            have HKK : Hid ((∀ x ∈ O ++ E, KeyO w13 w.heap.size x) ∧ ∀ x ∈ X, KeyO w13 w.heap.size x) := ⟨HY.out.2.1.ky, HY.out.2.2.ky⟩
            have HBL := hide HY.out.1.bl
            clear ha13 HL12 HES HEK HBO HY HFR HXL
            go_wp2_with fail
            go_loopw [106] (fun i wz => ∃ k : Nat, k ≤ xn ∧ i = .int .i64 k ∧ Hid (Below w13.heap.size w13 wz)) (fun i _ => xn - (intOf i).toNat)
            case atStart => exact ⟨0, Nat.zero_le _, rfl, Below.refl _ _⟩
            case round =>
              obtain ⟨k, hk, rfl, HBZ⟩ := hrel
              by_cases hlt : k < xn
              · have hkY : k < (O ++ E).length := by rw [HYL.out]; exact hlt
                have hkX : k < X.length := by rw [← HXN.out]; exact hlt
                obtain ⟨yad, rfl, hyb, a0, a1, a2, a3, a4⟩ := tm_at (HYS.out.below HBZ.out) hlt HYL.out
                obtain ⟨xad, rfl, hxb, b0, b1, b2, b3, b4⟩ := tm_at (HXS.out.below HBZ.out) hlt HXN.out.symm
                have hzz := HBZ.out.size
                have hyb2 : (yad.add (k * 5)).block < wr.heap.size := by omega
                have hxb2 : (xad.add (k * 5)).block < wr.heap.size := by omega
                have hdd := ap_at HSP.out hkY hkX
                have hdu := ap_due HDU.out.1 HDU.out.2.1 HPM.out hkY
                have hky := HKK.out.1 _ (List.getElem_mem hkY)
                have hkx := HKK.out.2 _ (List.getElem_mem hkX)
                generalize (O ++ E)[k] = y at a0 a1 a2 a3 a4 hdd hdu hky
                generalize X[k] = x at b0 b1 b2 b3 b4 hdd hkx
                clear hkY hkX
                obtain ⟨ya, yk, yb, yf, yt, yw⟩ := y
                obtain ⟨za, zk, zb, zf, zt, zw⟩ := x
                simp only [TV.d, TD.mk.injEq] at hdd
                obtain ⟨rfl, rfl, rfl, rfl, rfl⟩ := hdd
                obtain ⟨kA, kc, hk1, hkc⟩ := hky.1.sl.form
                obtain ⟨jA, jc, hk2, hjc⟩ := hkx.1.sl.form
                simp only at hk1 hk2 hkc hjc a0 a1 a2 a3 a4 b0 b1 b2 b3 b4 hdu
                subst hk1 hk2
                have HKY := hide hky
                have HKX := hide hkx
                rw [← HON.out] at hdu
                obtain ⟨kn, hkn⟩ : ∃ kn, kn = yb.length := ⟨_, rfl⟩
                rw [← hkn] at a1 b1 hkc hjc
                have HKN := hide hkn
                have HSY : Hid (Sl w13 w13.heap.size (.slice kA kn kc) 1 kn (bys yb)) := by have h9 := HKY.out.1.sl; simp only [← hkn] at h9; exact h9
                have HSX : Hid (Sl w13 w13.heap.size (.slice jA kn jc) 1 kn (bys yb)) := by have h9 := HKX.out.1.sl; simp only [← hkn] at h9; exact h9
                have HY8 := hide HKY.out.2.1
                simp only at HY8
                clear hky hkx hkn HKY HKX
                have e1 : (ya != ya) = false := by simp
                have e2 : (yw != yw) = false := by simp
                have e3 := wT_nn yf yt
                have HB9 : Hid (Below w13.heap.size w13 ((wr.alloc (.cells #[.int .i64 ya, .slice kA kn kc, .int .i64 yf, .int .i64 yt, .int .i64 yw] tmT)).alloc (.cells #[.int .i64 ya, .slice jA kn jc, .int .i64 yf, .int .i64 yt, .int .i64 yw] tmT))) := (HBZ.out.alloc hzz _).alloc (by simp; omega) _
                have hcase : (k < on ∧ ya ≤ now) ∨ (¬ k < on ∧ ¬ ya ≤ now) := by
                  by_cases h9 : k < on
                  · exact .inl ⟨h9, hdu.2 h9⟩
                  · exact .inr ⟨h9, fun h8 => h9 (hdu.1 h8)⟩
                clear hdu
                rcases hcase with ⟨hko, hkn⟩ | ⟨hko, hkn⟩
                all_goals
                  go_wp2_with fail
                  refine (rbytes_any _ _ yb yb kn kn w13.heap.size w13.heap.size _ (HSY.out.below HB9.out) (HSX.out.below HB9.out) HKN.out.symm HKN.out.symm HY8.out HY8.out).mono ?_
                  rw [(bytesR_zero yb yb).2 rfl]
                  rintro e w15 ⟨rfl, j15, rfl⟩
                  have HB15 := hide (HB9.out.drewN j15)
                  go_wp2_with fail
                  go_roundw
                  case rel => exact ⟨k + 1, by omega, by simp, HB15.out⟩
                  case measure => simp [intOf]; omega
              · have HB16 := hide (HBL.out.trans (HBZ.out.mono HBL.out.size))
                clear HYS HXS HKK HSP HPM HDU HPS
                go_wp2_with fail
                refine (awake16 wr).mono ?_
                rintro e w17 ⟨rfl, hb17⟩
                have H17 := hide (HB16.out.trans (hb17.mono HB16.out.size))
                clear hb17
                go_wp2_with fail
                go_ret
                exact ⟨rfl, H17.out⟩
  · have hg : (100 : Int) < (N : Int) := by omega
    go_wp2_with fail
    refine (awake16 w2).mono ?_
    rintro e w3 ⟨rfl, hb3⟩
    have H3 := hide (H2.out.bl.trans (hb3.mono H2.out.bl.size))
    clear hb3
    go_wp2_with fail
    go_ret
    exact ⟨rfl, H3.out⟩

end Go.Proofs.Ytogelnljkdcajaa
