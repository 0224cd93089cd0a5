/- CellsPlays: the walk (printed by genlpl15.py). / CellsPlays at its arguments. -/
import Derived.Test.YtkobaidamdffmaaQCellsPlays22
import Derived.Test.YtkobaidamdffmaaQCellsPlays25

namespace Go.Proofs.Ytkobaidamdffmaa
open Go.RowKit Go.Sort
set_option linter.unusedVariables false
set_option linter.unusedSimpArgs false

set_option maxRecDepth 100000 in
set_option maxHeartbeats 16000000 in
theorem plays15_ok (v1 : Value) (O1 : List Op15) (w : World) (hs1 : Sl w w.heap.size v1 11 O1.length (ops15 O1)) (hD1 : ∀ o ∈ O1, RCQ w o.x) :
    Calls Try.prog 7 #[v1] w fun e w' => e = .returned (.bool true) ∧ Below w.heap.size w w' := by
  obtain ⟨v1A, v1c, rfl, hvc1⟩ := hs1.form
  have hmax1 := hs1.max
  have HS1 := hide hs1
  have HD1 := hide hD1
  clear hs1 hD1
  obtain ⟨N1, hN1⟩ : ∃ N, N = O1.length := ⟨_, rfl⟩
  rw [← hN1] at HS1 hvc1 hmax1 ⊢
  have HNN1 := hide hN1
  clear hN1
  go_enter Try.func7, Try.ntmps7
  go_wp2_with fail
  refine (cnew_any w w.heap.size (Nat.le_refl _)).mono ?_
  rintro e w2 ⟨tb, cb, rfl, ht, hb⟩
  have HT2 : Hid (TabG w w2 tb cb none none false [] [] []) := ⟨ht, hb⟩
  clear ht hb
  go_upto_region 3 with fail
  have HR3 : Hid (RT w (w2.alloc (.cells #[.slice none 0 0, .slice none 0 0, .bool false] rtT)) 0 w2.heap.size (.slice none 0 0) [] (.slice none 0 0) [] false) :=
    ⟨Blk.new w2 _ _, Own.nil _ _ _ _, Own.nil _ _ _ _, (fun x hx => by cases hx), (fun x hx => by cases hx), HT2.out.bl.alloc HT2.out.bl.size _, Nat.zero_le _⟩
  have HT3 : Hid (TabG w (w2.alloc (.cells #[.slice none 0 0, .slice none 0 0, .bool false] rtT)) tb cb none none false [] [] []) := HT2.out.below ((Below.refl _ _).alloc (Nat.le_refl _) _)
  have hwx : w.heap.size ≤ w2.heap.size := HT2.out.bl.size
  change Code.wp _ _ _ _ (w2.alloc (.cells #[.slice none 0 0, .slice none 0 0, .bool false] rtT))
  generalize (w2.alloc (.cells #[.slice none 0 0, .slice none 0 0, .bool false] rtT)) = w3 at *
  obtain ⟨xb, hxb⟩ : ∃ xb, xb = w2.heap.size := ⟨_, rfl⟩
  rw [← hxb] at HR3 hwx ⊢
  clear hxb HT2
  by_cases h100 : N1 ≤ 200
  · have hg : ¬ (200 : Int) < (N1 : Int) := by omega
    go_wp2_with fail
    go_loopw [32] (fun i wr => ∃ (k : Nat) (wm fm : Option Nat) (bg : Bool) (L W : List (PK × CV)) (F : List (PK × Int)) (D E : List RC) (v u : Value), k ≤ N1 ∧ i = .int .i64 k ∧ Hid (PlI bg L W F D E k) ∧ Hid (TabG w wr tb cb wm fm bg L W F) ∧ Hid (RT w wr 0 xb v D u E bg)) (fun i _ => N1 - (intOf i).toNat)
    case atStart => exact ⟨0, none, none, false, [], [], [], [], [], _, _, Nat.zero_le _, rfl, ⟨MatT.nil, by simp, fun e => by cases e⟩, HT3.out, HR3.out⟩
    case round =>
    clear HT3 HR3
    obtain ⟨k, wm, fm, bg, L, W, F, D, E, v, u, hk, rfl, HI, HT, HR⟩ := hrel
    by_cases hlt : k < N1
    · have hkD : k < O1.length := by rw [← HNN1.out]; exact hlt
      obtain ⟨ad, rfl, hab, a0, a1, a2, a3, a4, a5, a6, a7, a8, a9, a10⟩ := op_at (HS1.out.below HT.out.bl) hlt HNN1.out.symm
      have hzr := (HT.out.bl).size
      have hab2 : (ad.add (k * 11)).block < wr.heap.size := by omega
      have HO := hide (HD1.out _ (List.getElem_mem hkD))
      generalize O1[k] = o at a0 a1 a2 a3 a4 a5 a6 a7 a8 a9 a10 HO
      obtain ⟨okk, ok_, obb, of, ot, oa, od⟩ := o
      obtain ⟨oA, oc, hok, hoc⟩ := HO.out.ks.form
      obtain ⟨bA, bc, hbk, hbc⟩ := HO.out.ac.form
      simp only at a0 a1 a2 a3 a4 a5 a6 a7 a8 a9 a10 hok hoc hbk hbc
      obtain ⟨on, hon⟩ : ∃ n, n = obb.length := ⟨_, rfl⟩
      obtain ⟨bn, hbn⟩ : ∃ n, n = od.b.length := ⟨_, rfl⟩
      rw [← hon] at hok hoc
      rw [← hbn] at hbk hbc
      subst hok hbk
      clear hon hbn
      have HOK : Hid (Sl w w.heap.size (.slice oA on oc) 1 on (bys obb) ∧ obb.length = on ∧ Bytes8 obb) := by
        have h9 := HO.out.ks
        have hl9 : obb.length = on := by
          obtain ⟨A9, c9, h8, _⟩ := h9.form
          injection h8 with _ h8 _
          exact h8.symm
        refine ⟨?_, hl9, HO.out.k8⟩
        rw [← hl9]
        simp only at h9
        rw [← hl9] at h9
        exact h9
      go_upto_region 8 with fail
      have HT3 := hide (HT.out.below (show Below wr.heap.size wr (wr.alloc (.cells #[.int .i64 okk, .slice oA on oc, .int .i64 of, .int .i64 ot, .slice bA bn bc, .int .i64 od.s, .int .i64 od.n, .int .i64 od.g, .int .i64 od.h, .bool od.p, .bool od.c] opT15')) from (Below.refl _ _).alloc (Nat.le_refl _) _))
      have HR3 := hide (HR.out.below (show Below wr.heap.size wr (wr.alloc (.cells #[.int .i64 okk, .slice oA on oc, .int .i64 of, .int .i64 ot, .slice bA bn bc, .int .i64 od.s, .int .i64 od.n, .int .i64 od.g, .int .i64 od.h, .bool od.p, .bool od.c] opT15')) from (Below.refl _ _).alloc (Nat.le_refl _) _))
      have HP3 : Hid (Blk (wr.alloc (.cells #[.int .i64 okk, .slice oA on oc, .int .i64 of, .int .i64 ot, .slice bA bn bc, .int .i64 od.s, .int .i64 od.n, .int .i64 od.g, .int .i64 od.h, .bool od.p, .bool od.c] opT15')) wr.heap.size opT15' #[.int .i64 okk, .slice oA on oc, .int .i64 of, .int .i64 ot, .slice bA bn bc, .int .i64 od.s, .int .i64 od.n, .int .i64 od.g, .int .i64 od.h, .bool od.p, .bool od.c]) := Blk.new wr _ _
      change Code.wp _ _ _ _ (wr.alloc (.cells #[.int .i64 okk, .slice oA on oc, .int .i64 of, .int .i64 ot, .slice bA bn bc, .int .i64 od.s, .int .i64 od.n, .int .i64 od.g, .int .i64 od.h, .bool od.p, .bool od.c] opT15'))
      generalize (wr.alloc (.cells #[.int .i64 okk, .slice oA on oc, .int .i64 of, .int .i64 ot, .slice bA bn bc, .int .i64 od.s, .int .i64 od.n, .int .i64 od.g, .int .i64 od.h, .bool od.p, .bool od.c] opT15')) = w3 at *
      generalize wr.heap.size = pb at *
      clear a0 a1 a2 a3 a4 a5 a6 a7 a8 a9 a10 HT HR hab hab2
      have hpl := HP3.out.lt
      have b0 : w3.cell? ⟨pb, 0, none⟩ = some (.int .i64 okk) := HP3.out.cell 0
      have b1 : w3.cell? ⟨pb, 1, none⟩ = some (.slice oA on oc) := HP3.out.cell 1
      have b2 : w3.cell? ⟨pb, 2, none⟩ = some (.int .i64 of) := HP3.out.cell 2
      have b3 : w3.cell? ⟨pb, 3, none⟩ = some (.int .i64 ot) := HP3.out.cell 3
      have b4 : w3.cell? ⟨pb, 4, none⟩ = some (.slice bA bn bc) := HP3.out.cell 4
      have b5 : w3.cell? ⟨pb, 5, none⟩ = some (.int .i64 od.s) := HP3.out.cell 5
      have b6 : w3.cell? ⟨pb, 6, none⟩ = some (.int .i64 od.n) := HP3.out.cell 6
      have b7 : w3.cell? ⟨pb, 7, none⟩ = some (.int .i64 od.g) := HP3.out.cell 7
      have b8 : w3.cell? ⟨pb, 8, none⟩ = some (.int .i64 od.h) := HP3.out.cell 8
      have b9 : w3.cell? ⟨pb, 9, none⟩ = some (.bool od.p) := HP3.out.cell 9
      have b10 : w3.cell? ⟨pb, 10, none⟩ = some (.bool od.c) := HP3.out.cell 10
      have HST := hide (step_any w w3 0 tb cb xb wm fm bg L W F v u D E k (⟨okk, ⟨.slice oA on oc, obb, of, ot, .slice bA bn bc, od⟩⟩ : Op15) HT3.out HR3.out HO.out hwx HI.out (by omega))
      unfold Op15.cells RC.cells at HST
      simp only at HST
      go_wp2_with fail
      refine HST.out.mono ?_
      clear HST
      rintro e w4 ⟨rfl, wm, fm, bg, L, W, F, v, D, u, E, hi, ht4, hr4, hk4⟩
      have HT4 := hide ht4
      have HR4 := hide hr4
      have HJ := hide hi
      have HP4 := hide (hk4.blk HP3.out (by decide) (by decide))
      clear ht4 hr4 hi hk4 HT3 HR3 HP3 HO HI b0 b1 b2 b3 b4 b5 b6 b7 b8 b9 b10 hpl
      obtain ⟨lA, lc, hlv, hlc⟩ := HR4.out.own.sl.form
      subst hlv
      obtain ⟨dn, hdn⟩ : ∃ n, n = D.length := ⟨_, rfl⟩
      have HDN := hide hdn
      have hdl : dn ≤ 1000 := by rw [hdn]; have := HJ.out.len; omega
      have t0 : w4.cell? ⟨xb, 0, none⟩ = some (.slice lA D.length lc) := HR4.out.blk.cell 0
      rw [← hdn] at t0 hlc
      have htl := HR4.out.blk.lt
      have HHD : Hid (Calls Try.prog 27 #[.pointer (some ⟨tb, 0, none⟩), .slice lA dn lc] w4 fun e w' => e = .returned (.bool true) ∧ Below w4.heap.size w4 w') := by
        rw [hdn]
        exact holds_any w4 w.heap.size tb cb wm fm bg L W F _ D HT4.out.ts HR4.out.own.sl (fun x hx => (HR4.out.q x hx).below HR4.out.bl) HJ.out.mat (by have := HJ.out.len; omega)
      clear hdn
      go_wp2_with fail
      refine HHD.out.mono ?_
      rintro e w5 ⟨rfl, hb5⟩
      have HT5 := hide (HT4.out.below hb5)
      have HR5 := hide (HR4.out.below hb5)
      have HP5 := hide (HP4.out.below hb5 HP4.out.lt)
      clear hb5 HT4 HR4 HP4 HHD t0 htl
      have t0 : w5.cell? ⟨xb, 0, none⟩ = some (.slice lA D.length lc) := HR5.out.blk.cell 0
      rw [← HDN.out] at t0
      have htl := HR5.out.blk.lt
      have HSD : Hid (Sl w5 w5.heap.size (.slice lA dn lc) 10 dn (rcs D)) := by rw [HDN.out]; exact HR5.out.own.sl
      go_wp2_with fail
      clear t0 htl
      go_loopw [7, 55] (fun q i wr => ∃ (j c : Nat), j ≤ dn ∧ i = .int .i64 j ∧ q = .int .i64 c ∧ c ≤ j ∧ Hid (c = (D.take j).countP (fun x => decide (x.kb = obb))) ∧ Hid (Below w5.heap.size w5 wr)) (fun _ i _ => dn - (intOf i).toNat)
      case atStart => exact ⟨0, 0, Nat.zero_le _, rfl, rfl, Nat.le_refl _, rfl, Below.refl _ _⟩
      case round =>
      obtain ⟨j, c, hj, rfl, rfl, hcj, HC, HB⟩ := hrel
      by_cases hjl : j < dn
      · have hjD : j < D.length := by rw [← HDN.out]; exact hjl
        obtain ⟨ld, hlA, hlb, l0, l1, l2, l3, l4, l5, l6, l7, l8, l9⟩ := rc_at (HSD.out.below HB.out) hjl HDN.out.symm
        subst hlA
        have hlb2 : (ld.add (j * 10)).block < wr.heap.size := Nat.lt_of_lt_of_le hlb HB.out.size
        obtain ⟨y, hy⟩ : ∃ y, y = D[j] := ⟨_, rfl⟩
        have HYQ := hide (HR5.out.q y (by rw [hy]; exact List.getElem_mem hjD))
        have HTK : Hid (D.take (j + 1) = D.take j ++ [y]) := by rw [hy]; exact List.take_succ_eq_append_getElem hjD
        have HC1 : Hid ((D.take (j + 1)).countP (fun x => decide (x.kb = obb)) = c + (if decide (y.kb = obb) = true then 1 else 0)) := by
          rw [Hid, HTK.out, List.countP_append, List.countP_cons, List.countP_nil, Nat.zero_add, HC.out]
        rw [← hy] at l0 l1 l2 l3 l4 l5 l6 l7 l8 l9
        clear hy HTK
        obtain ⟨rk_, ry, rf, rt, ra_, rd⟩ := y
        obtain ⟨rA, rc, hrk, hrc⟩ := HYQ.out.ks.form
        obtain ⟨rE, rq, hre, hrec⟩ := HYQ.out.ac.form
        simp only at hrk hrc hre hrec l0 l1 l2 l3 l4 l5 l6 l7 l8 l9 HC1
        obtain ⟨rn, hrn⟩ : ∃ n, n = ry.length := ⟨_, rfl⟩
        obtain ⟨rm, hrm⟩ : ∃ n, n = rd.b.length := ⟨_, rfl⟩
        rw [← hrn] at hrk hrc
        rw [← hrm] at hre hrec
        subst hrk hre
        have HRS : Hid (Sl w w.heap.size (.slice rA rn rc) 1 rn (bys ry) ∧ ry.length = rn ∧ Bytes8 ry) := ⟨by have h9 := HYQ.out.ks; rw [← hrn] at h9; exact h9, hrn.symm, HYQ.out.k8⟩
        clear hrn hrm HYQ HC
        go_upto_region 14 with fail
        have HBZ : Hid (Below w5.heap.size w5 (wr.alloc (.cells #[.slice rA rn rc, .int .i64 rf, .int .i64 rt, .slice rE rm rq, .int .i64 rd.s, .int .i64 rd.n, .int .i64 rd.g, .int .i64 rd.h, .bool rd.p, .bool rd.c] rcT))) := HB.out.alloc HB.out.size _
        have HRB : Hid (Blk (wr.alloc (.cells #[.slice rA rn rc, .int .i64 rf, .int .i64 rt, .slice rE rm rq, .int .i64 rd.s, .int .i64 rd.n, .int .i64 rd.g, .int .i64 rd.h, .bool rd.p, .bool rd.c] rcT)) wr.heap.size rcT #[.slice rA rn rc, .int .i64 rf, .int .i64 rt, .slice rE rm rq, .int .i64 rd.s, .int .i64 rd.n, .int .i64 rd.g, .int .i64 rd.h, .bool rd.p, .bool rd.c]) := Blk.new wr _ _
        change Code.wp _ _ _ _ (wr.alloc (.cells #[.slice rA rn rc, .int .i64 rf, .int .i64 rt, .slice rE rm rq, .int .i64 rd.s, .int .i64 rd.n, .int .i64 rd.g, .int .i64 rd.h, .bool rd.p, .bool rd.c] rcT))
        clear HB l0 l1 l2 l3 l4 l5 l6 l7 l8 l9 hlb hlb2
        generalize (wr.alloc (.cells #[.slice rA rn rc, .int .i64 rf, .int .i64 rt, .slice rE rm rq, .int .i64 rd.s, .int .i64 rd.n, .int .i64 rd.g, .int .i64 rd.h, .bool rd.p, .bool rd.c] rcT)) = wz at *
        generalize wr.heap.size = rb at *
        have HBW := hide (HR5.out.bl.trans (HBZ.out.mono HR5.out.bl.size))
        have HBY := hide (rbytes_any (.slice rA rn rc) (.slice oA on oc) ry obb rn on w.heap.size w.heap.size wz (HRS.out.1.below HBW.out) (HOK.out.1.below HBW.out) HRS.out.2.1 HOK.out.2.1 HRS.out.2.2 HOK.out.2.2)
        have k0 : wz.cell? ⟨rb, 0, none⟩ = some (.slice rA rn rc) := HRB.out.cell 0
        have hrl := HRB.out.lt
        have b1 : wz.cell? ⟨pb, 1, none⟩ = some (.slice oA on oc) := (HP5.out.below HBZ.out HP5.out.lt).cell 1
        have hpl := (HP5.out.below HBZ.out HP5.out.lt).lt
        obtain ⟨o, ho⟩ : ∃ o, o = bytesR ry obb := ⟨_, rfl⟩
        have HO0 : Hid (o = 0 ↔ ry = obb) := by rw [Hid, ho]; exact bytesR_zero _ _
        rw [← ho] at HBY
        clear ho
        go_wp2_with fail
        refine HBY.out.mono ?_
        rintro e w7 ⟨rfl, q, rfl⟩
        have HB7 := hide (HBZ.out.drewN q)
        clear HBY HBZ HRB HBW HRS k0 hrl b1 hpl
        by_cases h0 : o = 0
        · have HCN : Hid (c + 1 = (D.take (j + 1)).countP (fun x => decide (x.kb = obb))) := by rw [Hid, HC1.out, if_pos (decide_eq_true (HO0.out.1 h0))]
          subst h0
          clear HC1 HO0
          go_wp2_with fail
          go_roundw
          case rel => exact ⟨j + 1, c + 1, by omega, by simp, by simp, by omega, HCN, HB7⟩
          case measure => simp [intOf]; omega
        · have HCN : Hid (c = (D.take (j + 1)).countP (fun x => decide (x.kb = obb))) := by rw [Hid, HC1.out, decide_eq_false (fun h => h0 (HO0.out.2 h))]; rfl
          clear HC1 HO0
          go_wp2_with fail
          go_roundw
          case rel => exact ⟨j + 1, c, by omega, by simp, rfl, by omega, HCN, HB7⟩
          case measure => simp [intOf]; omega
      · have HCD : Hid (c = D.countP (fun x => decide (x.kb = obb))) := by rw [Hid, HC.out, List.take_of_length_le (by rw [← HDN.out]; omega)]
        have HT6 := hide (HT5.out.below HB.out)
        have HR6 := hide (HR5.out.below HB.out)
        have HP6 := hide (HP5.out.below HB.out HP5.out.lt)
        have hcl : c ≤ 1000 := by omega
        clear HC HB HT5 HR5 HP5 HSD
        have b1 : wr.cell? ⟨pb, 1, none⟩ = some (.slice oA on oc) := HP6.out.cell 1
        have hpl := HP6.out.lt
        have HOF := hide (cof_any wr w.heap.size tb cb wm fm bg L W F oA on oc obb HT6.out.ts (by have := HJ.out.len; omega) ((HOK.out.1.below HT6.out.bl).mono HT6.out.bl.size) HOK.out.2.1 HOK.out.2.2)
        go_wp2_with fail
        refine HOF.out.mono ?_
        rintro e w7 ⟨O, fA, fc, rfl, ho7, hb7, hpm7, hky7⟩
        have hlen := ofX_len (K := obb) HJ.out.mat HT6.out.ts.nodup hpm7
        rw [← HCD.out] at hlen
        have HO7 : Hid (Go.Proofs.Ytkobaidamdffmaa.Own w7 0 keyT 3 (.slice fA c fc) c (kvs (ofX O obb))) := by have h9 := ho7.lower (Nat.zero_le _); rw [hlen] at h9; exact h9
        have HLN : Hid ((ofX O obb).length = c) := hlen
        have HKY : Hid (∀ x ∈ ofX O obb, KyO w7 0 x ∧ x.p.b = obb) := fun x hx => ⟨hky7 x (ofX_key hx).1, (ofX_key hx).2⟩
        have HT7 := hide (HT6.out.below hb7)
        have HR7 := hide (HR6.out.below hb7)
        have HP7 := hide (HP6.out.below hb7 HP6.out.lt)
        rw [hlen]
        clear hlen ho7 hb7 hpm7 hky7 HOF HT6 HR6 HP6 HCD b1 hpl
        go_wp2_with fail
        go_loopw [80] (fun i wr => ∃ (j : Nat), j ≤ c ∧ i = .int .i64 j ∧ Hid (Below w7.heap.size w7 wr)) (fun i _ => c - (intOf i).toNat)
        case atStart => exact ⟨0, Nat.zero_le _, rfl, Below.refl _ _⟩
        case round =>
        obtain ⟨j, hj, rfl, HB⟩ := hrel
        by_cases hjl : j < c
        · have hjO : j < (ofX O obb).length := by rw [HLN.out]; exact hjl
          obtain ⟨ad3, hfA, hab3, g0, g1, g2⟩ := kv_at (HO7.out.below HB.out).sl hjl HLN.out
          subst hfA
          have hab4 : (ad3.add (j * 3)).block < wr.heap.size := hab3
          obtain ⟨x, hx⟩ : ∃ x, x = (ofX O obb)[j] := ⟨_, rfl⟩
          obtain ⟨hky, hkb⟩ := HKY.out x (by rw [hx]; exact List.getElem_mem hjO)
          rw [← hx] at g0 g1 g2
          clear hx
          have HKR := hide (hky.below HB.out)
          obtain ⟨xv, p⟩ := x
          obtain ⟨qA, qc, hkv, hkc⟩ := RoB.form HKR.out
          simp only at hkv hkc g0 g1 g2 hkb
          subst hkv
          obtain ⟨qn, hqn⟩ : ∃ n, n = p.b.length := ⟨_, rfl⟩
          have HQ0 : Hid (Sl wr wr.heap.size (.slice qA qn qc) 1 qn (bys p.b) ∧ p.b.length = qn ∧ p.b = obb) := ⟨by have h9 := RoB.sl HKR.out; simp only at h9; rw [← hqn] at h9; exact h9, hqn.symm, hkb⟩
          rw [← hqn] at g0 hkc
          clear hqn hkb hky HKR
          go_upto_region 23 with fail
          have hbk : Below wr.heap.size wr (wr.alloc (.cells #[.slice qA qn qc, .int .i64 p.f, .int .i64 p.t] keyT)) := (Below.refl _ _).alloc (Nat.le_refl _) _
          have HBZ : Hid (Below w7.heap.size w7 (wr.alloc (.cells #[.slice qA qn qc, .int .i64 p.f, .int .i64 p.t] keyT))) := HB.out.alloc HB.out.size _
          have HKB : Hid (Blk (wr.alloc (.cells #[.slice qA qn qc, .int .i64 p.f, .int .i64 p.t] keyT)) wr.heap.size keyT #[.slice qA qn qc, .int .i64 p.f, .int .i64 p.t]) := Blk.new wr _ _
          have HQ1 : Hid (Sl (wr.alloc (.cells #[.slice qA qn qc, .int .i64 p.f, .int .i64 p.t] keyT)) (wr.alloc (.cells #[.slice qA qn qc, .int .i64 p.f, .int .i64 p.t] keyT)).heap.size (.slice qA qn qc) 1 qn (bys p.b)) := (HQ0.out.1.below hbk).mono hbk.size
          change Code.wp _ _ _ _ (wr.alloc (.cells #[.slice qA qn qc, .int .i64 p.f, .int .i64 p.t] keyT))
          clear HB g0 g1 g2 hab3 hab4 hbk
          generalize (wr.alloc (.cells #[.slice qA qn qc, .int .i64 p.f, .int .i64 p.t] keyT)) = wz at *
          generalize wr.heap.size = rb at *
          have HBW := hide (HT7.out.bl.trans (HBZ.out.mono HT7.out.bl.size))
          have HBY : Hid (Calls Try.prog 22 #[.slice qA qn qc, .slice oA on oc] wz fun e w' => e = .returned (.int .i64 0) ∧ ∃ q, w' = wz.drewN q) := by
            have h9 := rbytes_any (.slice qA qn qc) (.slice oA on oc) p.b obb qn on wz.heap.size w.heap.size wz HQ1.out (HOK.out.1.below HBW.out) HQ0.out.2.1 HOK.out.2.1 p.ok.1 HOK.out.2.2
            rw [(bytesR_zero _ _).2 HQ0.out.2.2] at h9
            exact h9
          have k0 : wz.cell? ⟨rb, 0, none⟩ = some (.slice qA qn qc) := HKB.out.cell 0
          have hrl := HKB.out.lt
          have b1 : wz.cell? ⟨pb, 1, none⟩ = some (.slice oA on oc) := (HP7.out.below HBZ.out HP7.out.lt).cell 1
          have hpl := (HP7.out.below HBZ.out HP7.out.lt).lt
          clear HQ0
          go_wp2_with fail
          refine HBY.out.mono ?_
          rintro e w8 ⟨rfl, q, rfl⟩
          have HB8 := hide (HBZ.out.drewN q)
          clear HBY HBZ HKB HQ1 HBW k0 hrl b1 hpl
          go_wp2_with fail
          go_roundw
          case rel => exact ⟨j + 1, by omega, by simp, HB8⟩
          case measure => simp [intOf]; omega
        · have HT8 := hide (HT7.out.below HB.out)
          have HR8 := hide (HR7.out.below HB.out)
          clear HO7 HKY HLN HT7 HR7 HP7 HB
          cases bg with
          | true =>
            go_wp2_with fail
            refine (cencb_any wr w.heap.size tb cb wm fm L W F HT8.out.ts).mono ?_
            rintro e w9 ⟨rfl, hb9⟩
            have HT9 := hide (HT8.out.below hb9)
            have HR9 := hide (HR8.out.below hb9)
            clear hb9 HT8 HR8
            have t2 : w9.cell? ⟨xb, 2, none⟩ = some (.bool true) := HR9.out.blk.cell 2
            have htl := HR9.out.blk.lt
            go_wp2_with fail
            go_roundw
            case rel => exact ⟨k + 1, wm, fm, true, L, W, F, D, E, _, u, by omega, by simp, HJ.out, HT9.out, HR9.out⟩
            case measure => simp [intOf]; omega
          | false =>
            go_wp2_with fail
            refine (cenc_any wr w.heap.size tb cb wm fm L W F HT8.out.ts (by have := HJ.out.len; omega)).mono ?_
            rintro e w9 ⟨nA, nn, nc, D3, rfl, hnn, hpm2, hps2, h82, hs2, hbuf⟩
            have HT9 := hide (HT8.out.below hbuf.bl)
            have HR9 := hide (HR8.out.below hbuf.bl)
            have HBF : Hid (Go.Proofs.Ytkobaidamdffmaa.Own w9 wr.heap.size bT 1 (.slice nA nn nc) nn (bys (encB D3 L)) ∧ (encB D3 L).length = nn ∧ Bytes8 (encB D3 L) ∧ encB D3 L = encR D) := ⟨by have h9 := hbuf.own; rw [← hnn] at h9; exact h9, hnn.symm, h82, encR_eq HJ.out.mat HT8.out.ts.nodup hpm2 hps2⟩
            clear hnn hpm2 hps2 h82 hbuf HT8 HR8
            have t2 : w9.cell? ⟨xb, 2, none⟩ = some (.bool false) := HR9.out.blk.cell 2
            have htl := HR9.out.blk.lt
            have HRE := hide (renc_any w9 xb _ u D false HR9.out.blk HR9.out.own.sl (fun x hx => (HR9.out.q x hx).below HR9.out.bl) (HJ.out.mat.right HT9.out.ts) (by have := HJ.out.len; omega))
            go_wp2_with fail
            refine HRE.out.mono ?_
            rintro e w10 ⟨z, rfl, hz⟩
            obtain ⟨zA, zc, rfl, _⟩ := hz.own.sl.form
            have HBY : Hid (Calls Try.prog 22 #[.slice nA nn nc, .slice zA (encR D).length zc] w10 fun e w' => e = .returned (.int .i64 0) ∧ ∃ q, w' = w10.drewN q) := by
              have h9 := rbytes_any (.slice nA nn nc) (.slice zA (encR D).length zc) (encB D3 L) (encR D) nn (encR D).length w10.heap.size w10.heap.size w10 (HBF.out.1.below hz.bl).sl hz.own.sl HBF.out.2.1 rfl HBF.out.2.2.1 (by rw [← HBF.out.2.2.2]; exact HBF.out.2.2.1)
              rw [(bytesR_zero _ _).2 HBF.out.2.2.2] at h9
              exact h9
            have HT10 := hide (HT9.out.below hz.bl)
            have HR10 := hide (HR9.out.below hz.bl)
            clear hz t2 htl HT9 HR9 HBF HRE
            generalize (encR D).length = zn at *
            go_wp2_with fail
            refine HBY.out.mono ?_
            rintro e w11 ⟨rfl, q, rfl⟩
            have HT11 := hide (HT10.out.below ((Below.refl _ _).drewN q))
            have HR11 := hide (HR10.out.below ((Below.refl _ _).drewN q))
            clear HBY HT10 HR10
            go_wp2_with fail
            go_roundw
            case rel => exact ⟨k + 1, wm, fm, false, L, W, F, D, E, _, u, by omega, by simp, HJ.out, HT11.out, HR11.out⟩
            case measure => simp [intOf]; omega
    · have HBE := hide HT.out.bl
      clear HS1 HD1 HNN1 HI HT HR
      go_wp2_with fail
      refine (awake15 wr).mono ?_
      rintro e w3 ⟨rfl, hb⟩
      go_wp2_with fail
      go_ret
      exact ⟨rfl, HBE.out.trans (hb.mono HBE.out.size)⟩
  · have hg : (200 : Int) < (N1 : Int) := by omega
    have HB2 := hide HT3.out.bl
    clear HT3 HR3 HS1 HD1 HNN1
    go_wp2_with fail
    refine (awake15 w3).mono ?_
    rintro e w4 ⟨rfl, hb⟩
    go_wp2_with fail
    go_ret
    exact ⟨rfl, HB2.out.trans (hb.mono HB2.out.size)⟩
end Go.Proofs.Ytkobaidamdffmaa

namespace Go.Proofs.Ytkobaidamdffmaa
open Go.RowKit Go.ChangeShapes Go.WideShapes Go.Deep
set_option linter.unusedVariables false
set_option linter.unusedSimpArgs false

section
variable {H : Type} (enc : TypeId × Value → H) (w : World)
theorem rd2_ops : Reads2 enc Try.prog w 65 (fun s : Value × List Op15 => [s.1]) (fun s => Sl w w.heap.size s.1 11 s.2.length (ops15 s.2) ∧ s.2.length * 112 ≤ 140737488351232 ∧ ∀ o ∈ s.2, RCQ w o.x) (fun s => (s.2.map fun o => o.x.kb.length + o.x.d.b.length + 1).sum + 1) :=
  (reads2_slice (E := Op15.cells) Try.underlying65 (by kernel_rfl) (by kernel_rfl) (fun _ => rfl) (by omega) (rd2_op enc w)).map id (fun _ => rfl) (fun _ h => h) (fun s => Nat.le_refl _)
end
theorem plays15_walk (z : Value × List Op15) (w : World) (h : Sl w w.heap.size z.1 11 z.2.length (ops15 z.2) ∧ z.2.length * 112 ≤ 140737488351232 ∧ ∀ o ∈ z.2, RCQ w o.x) :
    Calls Try.prog 7 #[z.1] w fun e w' => e = .returned (.bool true) ∧ Below w.heap.size w w' := plays15_ok z.1 z.2 w h.1 h.2.2

end Go.Proofs.Ytkobaidamdffmaa
