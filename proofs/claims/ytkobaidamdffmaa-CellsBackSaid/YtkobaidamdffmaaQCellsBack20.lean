/- CellsBack: the walk (printed by genlbk15.py). / CellsBack at its arguments. -/
import Derived.Test.YtkobaidamdffmaaQCellsBack19

namespace Go.Proofs.Ytkobaidamdffmaa
open Go.RowKit Go.Sort
set_option linter.unusedVariables false
set_option linter.unusedSimpArgs false

set_option maxRecDepth 100000 in
set_option maxHeartbeats 16000000 in
theorem back15_ok (v1 v2 : Value) (O1 O2 : List Op15) (w : World) (hs1 : Sl w w.heap.size v1 11 O1.length (ops15 O1)) (hD1 : ∀ o ∈ O1, RCQ w o.x) (hs2 : Sl w w.heap.size v2 11 O2.length (ops15 O2)) (hD2 : ∀ o ∈ O2, RCQ w o.x) :
    Calls Try.prog 5 #[v1, v2] w fun e w' => e = .returned (.bool true) ∧ Below w.heap.size w w' := by
  obtain ⟨v1A, v1c, rfl, hvc1⟩ := hs1.form
  obtain ⟨v2A, v2c, rfl, hvc2⟩ := hs2.form
  have hmax1 := hs1.max
  have hmax2 := hs2.max
  have HS1 := hide hs1
  have HD1 := hide hD1
  have HS2 := hide hs2
  have HD2 := hide hD2
  clear hs1 hD1 hs2 hD2
  obtain ⟨N1, hN1⟩ : ∃ N, N = O1.length := ⟨_, rfl⟩
  obtain ⟨N2, hN2⟩ : ∃ N, N = O2.length := ⟨_, rfl⟩
  rw [← hN1] at HS1 hvc1 hmax1 ⊢
  rw [← hN2] at HS2 hvc2 hmax2 ⊢
  have HNN1 := hide hN1
  have HNN2 := hide hN2
  clear hN1 hN2
  go_enter Try.func5, Try.ntmps5
  go_wp2_with fail
  refine (cnew_any w w.heap.size (Nat.le_refl _)).mono ?_
  rintro e w2 ⟨tb, cb, rfl, ht, hb⟩
  have HT2 : Hid (TabG w w2 tb cb none none false [] [] []) := ⟨ht, hb⟩
  clear ht hb
  by_cases h100 : N1 ≤ 100 ∧ N2 ≤ 100
  · obtain ⟨h1, h2⟩ := h100
    have hg : ¬ (100 : Int) < max (N1 : Int) (N2 : Int) := by omega
    go_upto_region 5 with fail
    have HR3 : Hid (RT w (w2.alloc (.cells #[.slice none 0 0, .slice none 0 0, .bool false] rtT)) 0 w2.heap.size (.slice none 0 0) [] (.slice none 0 0) [] false) :=
      ⟨Blk.new w2 _ _, Own.nil _ _ _ _, Own.nil _ _ _ _, (fun x hx => by cases hx), (fun x hx => by cases hx), HT2.out.bl.alloc HT2.out.bl.size _, Nat.zero_le _⟩
    have HT3 : Hid (TabG w (w2.alloc (.cells #[.slice none 0 0, .slice none 0 0, .bool false] rtT)) tb cb none none false [] [] []) := HT2.out.below ((Below.refl _ _).alloc (Nat.le_refl _) _)
    have hwx : w.heap.size ≤ w2.heap.size := HT2.out.bl.size
    change Code.wp _ _ _ _ (w2.alloc (.cells #[.slice none 0 0, .slice none 0 0, .bool false] rtT))
    generalize (w2.alloc (.cells #[.slice none 0 0, .slice none 0 0, .bool false] rtT)) = w3 at *
    obtain ⟨xb, hxb⟩ : ∃ xb, xb = w2.heap.size := ⟨_, rfl⟩
    rw [← hxb] at HR3 hwx ⊢
    clear hxb HT2
    go_wp2_with fail
    go_loopw [35] (fun i wr => ∃ (k : Nat) (L W : List (PK × CV)) (F : List (PK × Int)) (D : List RC) (v : Value), k ≤ N1 ∧ i = .int .i64 k ∧ L.length ≤ k ∧ D.length ≤ k ∧ Hid (MatT L D) ∧ Hid (TabG w wr tb cb none none false L W F) ∧ Hid (RT w wr 0 xb v D (.slice none 0 0) [] false)) (fun i _ => N1 - (intOf i).toNat)
    case atStart => exact ⟨0, [], [], [], [], _, Nat.zero_le _, rfl, Nat.le_refl _, Nat.le_refl _, MatT.nil, HT3.out, HR3.out⟩
    case round =>
      clear HT3 HR3
      obtain ⟨k, L, W, F, D, v, hk, rfl, hl, hd, HM, HT, HR⟩ := hrel
      by_cases hlt : k < N1
      · have hkD : k < O1.length := by rw [← HNN1.out]; exact hlt
        obtain ⟨ad, rfl, hab, a0, a1, a2, a3, a4, a5, a6, a7, a8, a9, a10⟩ := op_at (HS1.out.below HT.out.bl) hlt HNN1.out.symm
        have hzr := (HT.out.bl).size
        have hab2 : (ad.add (k * 11)).block < wr.heap.size := by omega
        have HO := hide (HD1.out _ (List.getElem_mem hkD))
        generalize O1[k] = o at a0 a1 a2 a3 a4 a5 a6 a7 a8 a9 a10 HO
        obtain ⟨okk, ok_, obb, of, ot, oa, od⟩ := o
        obtain ⟨oA, oc, hok, hoc⟩ := HO.out.ks.form
        obtain ⟨bA, bc, hbk, hbc⟩ := HO.out.ac.form
        simp only at a0 a1 a2 a3 a4 a5 a6 a7 a8 a9 a10 hok hoc hbk hbc
        obtain ⟨on, hon⟩ : ∃ n, n = obb.length := ⟨_, rfl⟩
        obtain ⟨bn, hbn⟩ : ∃ n, n = od.b.length := ⟨_, rfl⟩
        rw [← hon] at hok hoc
        rw [← hbn] at hbk hbc
        subst hok hbk
        clear hon hbn
        go_upto_region 8 with fail
        have HT3 := hide (HT.out.below (show Below wr.heap.size wr (wr.alloc (.cells #[.int .i64 okk, .slice oA on oc, .int .i64 of, .int .i64 ot, .slice bA bn bc, .int .i64 od.s, .int .i64 od.n, .int .i64 od.g, .int .i64 od.h, .bool od.p, .bool od.c] opT15')) from (Below.refl _ _).alloc (Nat.le_refl _) _))
        have HR3 := hide (HR.out.below (show Below wr.heap.size wr (wr.alloc (.cells #[.int .i64 okk, .slice oA on oc, .int .i64 of, .int .i64 ot, .slice bA bn bc, .int .i64 od.s, .int .i64 od.n, .int .i64 od.g, .int .i64 od.h, .bool od.p, .bool od.c] opT15')) from (Below.refl _ _).alloc (Nat.le_refl _) _))
        have HP3 : Hid (Blk (wr.alloc (.cells #[.int .i64 okk, .slice oA on oc, .int .i64 of, .int .i64 ot, .slice bA bn bc, .int .i64 od.s, .int .i64 od.n, .int .i64 od.g, .int .i64 od.h, .bool od.p, .bool od.c] opT15')) wr.heap.size opT15' #[.int .i64 okk, .slice oA on oc, .int .i64 of, .int .i64 ot, .slice bA bn bc, .int .i64 od.s, .int .i64 od.n, .int .i64 od.g, .int .i64 od.h, .bool od.p, .bool od.c]) := Blk.new wr _ _
        change Code.wp _ _ _ _ (wr.alloc (.cells #[.int .i64 okk, .slice oA on oc, .int .i64 of, .int .i64 ot, .slice bA bn bc, .int .i64 od.s, .int .i64 od.n, .int .i64 od.g, .int .i64 od.h, .bool od.p, .bool od.c] opT15'))
        generalize (wr.alloc (.cells #[.int .i64 okk, .slice oA on oc, .int .i64 of, .int .i64 ot, .slice bA bn bc, .int .i64 od.s, .int .i64 od.n, .int .i64 od.g, .int .i64 od.h, .bool od.p, .bool od.c] opT15')) = w3 at *
        generalize wr.heap.size = pb at *
        clear a0 a1 a2 a3 a4 a5 a6 a7 a8 a9 a10 HT HR hab hab2
        have hpl := HP3.out.lt
        have b0 : w3.cell? ⟨pb, 0, none⟩ = some (.int .i64 okk) := HP3.out.cell 0
        have b1 : w3.cell? ⟨pb, 1, none⟩ = some (.slice oA on oc) := HP3.out.cell 1
        have b2 : w3.cell? ⟨pb, 2, none⟩ = some (.int .i64 of) := HP3.out.cell 2
        have b3 : w3.cell? ⟨pb, 3, none⟩ = some (.int .i64 ot) := HP3.out.cell 3
        have b4 : w3.cell? ⟨pb, 4, none⟩ = some (.slice bA bn bc) := HP3.out.cell 4
        have b5 : w3.cell? ⟨pb, 5, none⟩ = some (.int .i64 od.s) := HP3.out.cell 5
        have b6 : w3.cell? ⟨pb, 6, none⟩ = some (.int .i64 od.n) := HP3.out.cell 6
        have b7 : w3.cell? ⟨pb, 7, none⟩ = some (.int .i64 od.g) := HP3.out.cell 7
        have b8 : w3.cell? ⟨pb, 8, none⟩ = some (.int .i64 od.h) := HP3.out.cell 8
        have b9 : w3.cell? ⟨pb, 9, none⟩ = some (.bool od.p) := HP3.out.cell 9
        have b10 : w3.cell? ⟨pb, 10, none⟩ = some (.bool od.c) := HP3.out.cell 10
        by_cases h3 : okk < 3
        · have HST := hide (step_q w w3 0 tb cb xb none none false L W F v (.slice none 0 0) D [] false (⟨okk, ⟨.slice oA on oc, obb, of, ot, .slice bA bn bc, od⟩⟩ : Op15) h3 HT3.out HR3.out HO.out (by omega) hwx HM.out)
          unfold Op15.cells RC.cells at HST
          simp only at HST
          go_wp2_with fail
          refine HST.out.mono ?_
          clear HST
          rintro e w4 ⟨rfl, L', W', F', v', D', hu, ht4, hr4, _⟩
          have HT4 := hide ht4
          have HR4 := hide hr4
          have HU := hide hu
          clear ht4 hr4 hu HT3 HR3 HP3 HO b0 b1 b2 b3 b4 b5 b6 b7 b8 b9 b10 hpl
          go_wp2_with fail
          go_roundw
          case rel => exact ⟨k + 1, L', W', F', D', v', by omega, by simp, by have := HU.out.2.1; omega, by have := HU.out.2.2.1; omega, HU.out.1, HT4.out, HR4.out⟩
          case measure => simp [intOf]; omega
        · go_wp2_with fail
          go_roundw
          case rel => exact ⟨k + 1, L, W, F, D, v, by omega, by simp, by omega, by omega, HM.out, HT3.out, HR3.out⟩
          case measure => simp [intOf]; omega
      · have hl1 : L.length ≤ 100 := by omega
        have hd1 : D.length ≤ 100 := by omega
        clear HS1 HD1 HNN1 hl hd
        go_wp2_with fail
        refine (cenc_any wr w.heap.size tb cb none none L W F HT.out.ts (by omega)).mono ?_
        rintro e w5 ⟨sA, sn, sc, D0, rfl, hsn, hpm0, hps0, h80, hs0, hbuf⟩
        have HT5 := hide (HT.out.below hbuf.bl)
        have HR5 := hide (HR.out.below hbuf.bl)
        have HE0 : Hid (D0.Perm (L.map (·.1)) ∧ D0.Pairwise leP ∧ Bytes8 (encB D0 L) ∧ (encB D0 L).length = sn) := ⟨hpm0, hps0, h80, hsn.symm⟩
        have HW5 : Hid (Go.Proofs.Ytkobaidamdffmaa.Own w5 0 bT 1 (.slice sA sn sc) sn (bys (encB D0 L))) := by have h9 := hbuf.own.lower (Nat.zero_le _); rw [← hsn] at h9; exact h9
        have HND := hide HT.out.ts.nodup
        clear hsn hpm0 hps0 h80 hbuf HT HR
        go_wp2_with fail
        refine (lbegin_g HT5.out).mono ?_
        rintro e w6 ⟨rfl, wm, fm, ht6, hk6⟩
        have HT6 := hide ht6
        have HW6 := hide (hk6.own HW5.out (by decide))
        have HR6 := hide (HR5.out.kt hk6 ht6.bl)
        clear ht6 hk6 HT5 HW5 HR5
        go_wp2_with fail
        go_loopw [64] (fun i wr => ∃ (k : Nat) (L2 W2 : List (PK × CV)) (F2 : List (PK × Int)) (D2 : List RC) (v2 : Value), k ≤ N2 ∧ i = .int .i64 k ∧ L2.length ≤ 100 + k ∧ D2.length ≤ 100 + k ∧ Hid (MatT L2 D2) ∧ Hid (BkI L L2 W2 F2) ∧ Hid (TabG w wr tb cb wm fm true L2 W2 F2) ∧ Hid (RT w wr 0 xb v2 D2 (.slice none 0 0) [] false) ∧ Hid (Go.Proofs.Ytkobaidamdffmaa.Own wr 0 bT 1 (.slice sA sn sc) sn (bys (encB D0 L)))) (fun i _ => N2 - (intOf i).toNat)
        case atStart => exact ⟨0, L, [], [], D, v, Nat.zero_le _, rfl, by omega, by omega, HM.out, BkI.start L, HT6.out, HR6.out, HW6.out⟩
        case round =>
          clear HT6 HR6 HW6 HM
          obtain ⟨k, L2, W2, F2, D2, v2, hk, rfl, hl, hd, HM, HBK, HT, HR, HW⟩ := hrel
          by_cases hlt : k < N2
          · have hkD : k < O2.length := by rw [← HNN2.out]; exact hlt
            obtain ⟨ad, rfl, hab, a0, a1, a2, a3, a4, a5, a6, a7, a8, a9, a10⟩ := op_at (HS2.out.below HT.out.bl) hlt HNN2.out.symm
            have hzr := (HT.out.bl).size
            have hab2 : (ad.add (k * 11)).block < wr.heap.size := by omega
            have HO := hide (HD2.out _ (List.getElem_mem hkD))
            generalize O2[k] = o at a0 a1 a2 a3 a4 a5 a6 a7 a8 a9 a10 HO
            obtain ⟨okk, ok_, obb, of, ot, oa, od⟩ := o
            obtain ⟨oA, oc, hok, hoc⟩ := HO.out.ks.form
            obtain ⟨bA, bc, hbk, hbc⟩ := HO.out.ac.form
            simp only at a0 a1 a2 a3 a4 a5 a6 a7 a8 a9 a10 hok hoc hbk hbc
            obtain ⟨on, hon⟩ : ∃ n, n = obb.length := ⟨_, rfl⟩
            obtain ⟨bn, hbn⟩ : ∃ n, n = od.b.length := ⟨_, rfl⟩
            rw [← hon] at hok hoc
            rw [← hbn] at hbk hbc
            subst hok hbk
            clear hon hbn
            go_upto_region 17 with fail
            have HT3 := hide (HT.out.below (show Below wr.heap.size wr (wr.alloc (.cells #[.int .i64 okk, .slice oA on oc, .int .i64 of, .int .i64 ot, .slice bA bn bc, .int .i64 od.s, .int .i64 od.n, .int .i64 od.g, .int .i64 od.h, .bool od.p, .bool od.c] opT15')) from (Below.refl _ _).alloc (Nat.le_refl _) _))
            have HR3 := hide (HR.out.below (show Below wr.heap.size wr (wr.alloc (.cells #[.int .i64 okk, .slice oA on oc, .int .i64 of, .int .i64 ot, .slice bA bn bc, .int .i64 od.s, .int .i64 od.n, .int .i64 od.g, .int .i64 od.h, .bool od.p, .bool od.c] opT15')) from (Below.refl _ _).alloc (Nat.le_refl _) _))
            have HW3 := hide (HW.out.below (show Below wr.heap.size wr (wr.alloc (.cells #[.int .i64 okk, .slice oA on oc, .int .i64 of, .int .i64 ot, .slice bA bn bc, .int .i64 od.s, .int .i64 od.n, .int .i64 od.g, .int .i64 od.h, .bool od.p, .bool od.c] opT15')) from (Below.refl _ _).alloc (Nat.le_refl _) _))
            have HP3 : Hid (Blk (wr.alloc (.cells #[.int .i64 okk, .slice oA on oc, .int .i64 of, .int .i64 ot, .slice bA bn bc, .int .i64 od.s, .int .i64 od.n, .int .i64 od.g, .int .i64 od.h, .bool od.p, .bool od.c] opT15')) wr.heap.size opT15' #[.int .i64 okk, .slice oA on oc, .int .i64 of, .int .i64 ot, .slice bA bn bc, .int .i64 od.s, .int .i64 od.n, .int .i64 od.g, .int .i64 od.h, .bool od.p, .bool od.c]) := Blk.new wr _ _
            change Code.wp _ _ _ _ (wr.alloc (.cells #[.int .i64 okk, .slice oA on oc, .int .i64 of, .int .i64 ot, .slice bA bn bc, .int .i64 od.s, .int .i64 od.n, .int .i64 od.g, .int .i64 od.h, .bool od.p, .bool od.c] opT15'))
            generalize (wr.alloc (.cells #[.int .i64 okk, .slice oA on oc, .int .i64 of, .int .i64 ot, .slice bA bn bc, .int .i64 od.s, .int .i64 od.n, .int .i64 od.g, .int .i64 od.h, .bool od.p, .bool od.c] opT15')) = w3 at *
            generalize wr.heap.size = pb at *
            clear a0 a1 a2 a3 a4 a5 a6 a7 a8 a9 a10 HT HR HW hab hab2
            have hpl := HP3.out.lt
            have b0 : w3.cell? ⟨pb, 0, none⟩ = some (.int .i64 okk) := HP3.out.cell 0
            have b1 : w3.cell? ⟨pb, 1, none⟩ = some (.slice oA on oc) := HP3.out.cell 1
            have b2 : w3.cell? ⟨pb, 2, none⟩ = some (.int .i64 of) := HP3.out.cell 2
            have b3 : w3.cell? ⟨pb, 3, none⟩ = some (.int .i64 ot) := HP3.out.cell 3
            have b4 : w3.cell? ⟨pb, 4, none⟩ = some (.slice bA bn bc) := HP3.out.cell 4
            have b5 : w3.cell? ⟨pb, 5, none⟩ = some (.int .i64 od.s) := HP3.out.cell 5
            have b6 : w3.cell? ⟨pb, 6, none⟩ = some (.int .i64 od.n) := HP3.out.cell 6
            have b7 : w3.cell? ⟨pb, 7, none⟩ = some (.int .i64 od.g) := HP3.out.cell 7
            have b8 : w3.cell? ⟨pb, 8, none⟩ = some (.int .i64 od.h) := HP3.out.cell 8
            have b9 : w3.cell? ⟨pb, 9, none⟩ = some (.bool od.p) := HP3.out.cell 9
            have b10 : w3.cell? ⟨pb, 10, none⟩ = some (.bool od.c) := HP3.out.cell 10
            by_cases h3 : okk < 3
            · have HST := hide (step_q w w3 0 tb cb xb wm fm true L2 W2 F2 v2 (.slice none 0 0) D2 [] false (⟨okk, ⟨.slice oA on oc, obb, of, ot, .slice bA bn bc, od⟩⟩ : Op15) h3 HT3.out HR3.out HO.out (by omega) hwx HM.out)
              unfold Op15.cells RC.cells at HST
              simp only at HST
              go_wp2_with fail
              refine HST.out.mono ?_
              clear HST
              rintro e w4 ⟨rfl, L', W', F', v', D', hu, ht4, hr4, hk4⟩
              have HT4 := hide ht4
              have HR4 := hide hr4
              have HU := hide hu
              have HW4 := hide (hk4.own HW3.out (by decide) (by decide))
              clear ht4 hr4 hu hk4 HT3 HR3 HW3 HP3 HO b0 b1 b2 b3 b4 b5 b6 b7 b8 b9 b10 hpl
              go_wp2_with fail
              go_roundw
              case rel => exact ⟨k + 1, L', W', F', D', v', by omega, by simp, by have := HU.out.2.1; omega, by have := HU.out.2.2.1; omega, HU.out.1, HU.out.2.2.2 rfl L HBK.out, HT4.out, HR4.out, HW4.out⟩
              case measure => simp [intOf]; omega
            · go_wp2_with fail
              go_roundw
              case rel => exact ⟨k + 1, L2, W2, F2, D2, v2, by omega, by simp, by omega, by omega, HM.out, HBK.out, HT3.out, HR3.out, HW3.out⟩
              case measure => simp [intOf]; omega
          · clear HS2 HD2 HNN2 HM HR
            go_wp2_with fail
            refine (lback_g HT.out HBK.out).mono ?_
            rintro e w12 ⟨rfl, L3, hsm, ht12, hk12⟩
            have HSM := hide hsm
            have HT12 := hide ht12
            have HB12 := hide (hk12.own HW.out (by decide))
            have hll : L3.length ≤ 100 := by rw [hsm.len ht12.ts.nodup HND.out]; exact hl1
            clear hsm ht12 hk12 HT HW HBK hl hd
            go_wp2_with fail
            refine (cenc_any w12 w.heap.size tb cb wm fm L3 [] [] HT12.out.ts (by omega)).mono ?_
            rintro e w13 ⟨nA, nn, nc, D3, rfl, hnn, hpm2, hps2, h82, hs2, hbuf⟩
            have HEQ : Hid (encB D0 L = encB D3 L3) := encB_eq HSM.out.symm HND.out HT12.out.ts.nodup HE0.out.1 hpm2 HE0.out.2.1 hps2
            have HBY : Hid (Calls Try.prog 22 #[.slice sA sn sc, .slice nA nn nc] w13 fun e w' => e = .returned (.int .i64 0) ∧ ∃ j, w' = w13.drewN j) := by
              have h9 := rbytes_any (.slice sA sn sc) (.slice nA nn nc) (encB D0 L) (encB D3 L3) sn nn w13.heap.size w13.heap.size w13 (HB12.out.below hbuf.bl).sl (by have h8 := hbuf.own.sl; rw [← hnn] at h8; exact h8) HE0.out.2.2.2 hnn.symm HE0.out.2.2.1 h82
              rw [(bytesR_zero _ _).2 HEQ.out] at h9
              exact h9
            have HB13 := hide (HT12.out.bl.trans (hbuf.bl.mono HT12.out.bl.size))
            clear hnn hpm2 hps2 h82 hbuf HT12 HB12 HE0 HND HSM
            go_wp2_with fail
            refine HBY.out.mono ?_
            rintro e w14 ⟨rfl, j, rfl⟩
            go_wp2_with fail
            refine (awake15 _).mono ?_
            rintro e w15 ⟨rfl, hb⟩
            go_wp2_with fail
            go_ret
            exact ⟨rfl, (HB13.out.drewN j).trans (hb.mono (HB13.out.drewN j).size)⟩
  · have hg : (100 : Int) < max (N1 : Int) (N2 : Int) := by omega
    have HB2 := hide HT2.out.bl
    clear HT2 HS1 HD1 HNN1 HS2 HD2 HNN2 h100
    go_wp2_with fail
    refine (awake15 w2).mono ?_
    rintro e w3 ⟨rfl, hb⟩
    go_wp2_with fail
    go_ret
    exact ⟨rfl, HB2.out.trans (hb.mono HB2.out.size)⟩
end Go.Proofs.Ytkobaidamdffmaa

namespace Go.Proofs.Ytkobaidamdffmaa
open Go.RowKit Go.ChangeShapes Go.WideShapes Go.Deep
set_option linter.unusedVariables false
set_option linter.unusedSimpArgs false

section
variable {H : Type} (enc : TypeId × Value → H) (w : World)
theorem rd2_ops : Reads2 enc Try.prog w 65 (fun s : Value × List Op15 => [s.1]) (fun s => Sl w w.heap.size s.1 11 s.2.length (ops15 s.2) ∧ s.2.length * 112 ≤ 140737488351232 ∧ ∀ o ∈ s.2, RCQ w o.x) (fun s => (s.2.map fun o => o.x.kb.length + o.x.d.b.length + 1).sum + 1) :=
  (reads2_slice (E := Op15.cells) Try.underlying65 (by kernel_rfl) (by kernel_rfl) (fun _ => rfl) (by omega) (rd2_op enc w)).map id (fun _ => rfl) (fun _ h => h) (fun s => Nat.le_refl _)
end
theorem back15_walk (z : Value × List Op15) (y : Value × List Op15) (w : World) (h : Sl w w.heap.size z.1 11 z.2.length (ops15 z.2) ∧ z.2.length * 112 ≤ 140737488351232 ∧ ∀ o ∈ z.2, RCQ w o.x) (k : Sl w w.heap.size y.1 11 y.2.length (ops15 y.2) ∧ y.2.length * 112 ≤ 140737488351232 ∧ ∀ o ∈ y.2, RCQ w o.x) :
    Calls Try.prog 5 #[z.1, y.1] w fun e w' => e = .returned (.bool true) ∧ Below w.heap.size w w' := back15_ok z.1 y.1 z.2 y.2 w h.1 h.2.2 k.1 k.2.2

end Go.Proofs.Ytkobaidamdffmaa
