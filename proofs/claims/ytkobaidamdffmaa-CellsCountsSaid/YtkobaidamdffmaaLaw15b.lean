/- CellsCounts: the walk (printed by genlcn15.py). -/
import Derived.Test.YtkobaidamdffmaaCnP15
import Derived.Test.YtkobaidamdffmaaCn1
import Derived.Test.YtkobaidamdffmaaLaw15a
namespace Go.Proofs.Ytkobaidamdffmaa
open Go.RowKit Go.Sort
set_option linter.unusedVariables false
set_option linter.unusedSimpArgs false

/-- the keys and the bytes that the law holds -/
structure KS15 (w : World) (yA : Option Addr) (yn yc : Nat) (O : List KV) (sA : Option Addr) (sn sc : Nat) (E : List Int) : Prop where
  own : Go.Proofs.Ytkobaidamdffmaa.Own w 0 keyT 3 (.slice yA yn yc) yn (kvs O)
  ky : ∀ x ∈ O, KyO w 0 x
  bs : Go.Proofs.Ytkobaidamdffmaa.Own w 0 bT 1 (.slice sA sn sc) sn (bys E)
theorem KS15.kt {w w' : World} {yA sA : Option Addr} {yn yc sn sc : Nat} {O : List KV} {E : List Int} (h : KS15 w yA yn yc O sA sn sc E) (k : Kt w w') : KS15 w' yA yn yc O sA sn sc E :=
  ⟨k.own h.own (by decide), fun x hx => k.ro (h.ky x hx), k.own h.bs (by decide)⟩

set_option maxRecDepth 100000 in
set_option maxHeartbeats 16000000 in
theorem counts15_ok (v : Value) (D : List RC) (w : World) (hs : Sl w w.heap.size v 10 D.length (rcs D)) (hD : ∀ x ∈ D, RCQ w x) :
    Calls Try.prog 4 #[v] w fun e w' => e = .returned (.bool true) ∧ Below w.heap.size w w' := by
  obtain ⟨vA, vc, rfl, hvc⟩ := hs.form
  have hmax := hs.max
  have HS := hide hs
  have HD := hide hD
  clear hs hD
  obtain ⟨N, hN⟩ : ∃ N, N = D.length := ⟨_, rfl⟩
  rw [← hN] at HS hvc hmax ⊢
  have HNN := hide hN
  clear hN
  have HB0 : Hid (Below w.heap.size w w) := Below.refl w.heap.size w
  go_enter Try.func4, Try.ntmps4
  go_wp2_with fail
  refine (cnew_any w w.heap.size (Nat.le_refl _)).mono ?_
  rintro e w2 ⟨tb, cb, rfl, ht, hb⟩
  have HT2 : Hid (TabG w w2 tb cb none none false [] [] []) := ⟨ht, hb⟩
  clear ht hb HB0
  by_cases h100 : N ≤ 200
  · have hg : ¬ (200 : Int) < (N : Int) := by omega
    go_wp2_with fail
    go_loopw [33] (fun i wr => ∃ (k : Nat) (L : List (PK × CV)), k ≤ N ∧ i = .int .i64 k ∧ L.length ≤ k ∧ Hid (TabG w wr tb cb none none false L [] [])) (fun i _ => N - (intOf i).toNat)
    case atStart => exact ⟨0, [], Nat.zero_le _, rfl, Nat.le_refl _, HT2.out⟩
    case round =>
      obtain ⟨k, L, hk, rfl, hl, HI⟩ := hrel
      by_cases hlt : k < N
      · have hkD : k < D.length := by rw [← HNN.out]; exact hlt
        obtain ⟨ad, rfl, hab, a0, a1, a2, a3, a4, a5, a6, a7, a8, a9⟩ := rc_at (HS.out.below HI.out.bl) hlt HNN.out.symm
        have hzr := HI.out.bl.size
        have hab2 : (ad.add (k * 10)).block < wr.heap.size := by omega
        have HO := hide (HD.out _ (List.getElem_mem hkD))
        generalize D[k] = o at a0 a1 a2 a3 a4 a5 a6 a7 a8 a9 HO
        obtain ⟨okk, obb, of, ot, oa, od⟩ := o
        obtain ⟨oA, oc, hok, hoc⟩ := HO.out.ks.form
        obtain ⟨bA, bc, hbk, hbc⟩ := HO.out.ac.form
        simp only at a0 a1 a2 a3 a4 a5 a6 a7 a8 a9 hok hoc hbk hbc
        obtain ⟨on, hon⟩ : ∃ n, n = obb.length := ⟨_, rfl⟩
        obtain ⟨bn, hbn⟩ : ∃ n, n = od.b.length := ⟨_, rfl⟩
        rw [← hon] at hok hoc
        rw [← hbn] at hbk hbc
        subst hok hbk
        have HK : Hid (Sl w w.heap.size (.slice oA on oc) 1 on (bys obb) ∧ obb.length = on ∧ Bytes8 obb ∧ on ≤ 140737488355328) := ⟨by have h9 := HO.out.ks; rw [← hon] at h9; exact h9, hon.symm, HO.out.k8, by rw [hon]; exact HO.out.kn⟩
        have HA : Hid (Sl w w.heap.size (.slice bA bn bc) 1 bn (bys od.b) ∧ od.b.length = bn ∧ Bytes8 od.b ∧ bn ≤ 140737488355328) := ⟨by have h9 := HO.out.ac; rw [← hbn] at h9; exact h9, hbn.symm, HO.out.a8, by rw [hbn]; exact HO.out.an⟩
        clear HO hon hbn
        go_upto_region 7 with fail
        have HI3 : Hid (TabG w (wr.alloc (.cells #[.slice oA on oc, .int .i64 of, .int .i64 ot, .slice bA bn bc, .int .i64 od.s, .int .i64 od.n, .int .i64 od.g, .int .i64 od.h, .bool od.p, .bool od.c] rcT)) tb cb none none false L [] [] ∧ Blk (wr.alloc (.cells #[.slice oA on oc, .int .i64 of, .int .i64 ot, .slice bA bn bc, .int .i64 od.s, .int .i64 od.n, .int .i64 od.g, .int .i64 od.h, .bool od.p, .bool od.c] rcT)) wr.heap.size rcT #[.slice oA on oc, .int .i64 of, .int .i64 ot, .slice bA bn bc, .int .i64 od.s, .int .i64 od.n, .int .i64 od.g, .int .i64 od.h, .bool od.p, .bool od.c]) :=
          ⟨HI.out.below ((Below.refl _ _).alloc (Nat.le_refl _) _), Blk.new wr _ _⟩
        change Code.wp _ _ _ _ (wr.alloc (.cells #[.slice oA on oc, .int .i64 of, .int .i64 ot, .slice bA bn bc, .int .i64 od.s, .int .i64 od.n, .int .i64 od.g, .int .i64 od.h, .bool od.p, .bool od.c] rcT))
        generalize (wr.alloc (.cells #[.slice oA on oc, .int .i64 of, .int .i64 ot, .slice bA bn bc, .int .i64 od.s, .int .i64 od.n, .int .i64 od.g, .int .i64 od.h, .bool od.p, .bool od.c] rcT)) = w3 at *
        generalize wr.heap.size = pb at *
        clear a0 a1 a2 a3 a4 a5 a6 a7 a8 a9 HI
        refine counts15_put w w3 tb cb pb on oc bn bc none none false L [] [] oA bA obb of ot od (hide HI3.out.1) (hide HI3.out.2) HK HA _ ?_
        rintro a' wc ⟨_, _, _, _, _, _, ⟨r, Y, HP⟩, rfl⟩
        obtain ⟨L', h4, h5, h6, _⟩ := HP.out.2.noBeg
        have HI4 : Hid (TabG w wc tb cb none none false L' [] []) := h4
        clear HP h4 h5 HI3 HK HA
        go_wp2_with fail
        go_roundw
        case rel => exact ⟨k + 1, L', by omega, by simp, by omega, HI4⟩
        case measure => simp [intOf]; omega
      · have hl1 : L.length ≤ 200 := by omega
        clear HS HD HNN HT2 hl
        go_wp2_with fail
        refine (cenc_any wr w.heap.size tb cb none none L [] [] HI.out.ts (by omega)).mono ?_
        rintro e w5 ⟨sA, sn, sc, D0, rfl, hsn, hpm0, hps0, h80, hs0, hbuf⟩
        have HT5 := hide (HI.out.below hbuf.bl)
        have HE0 : Hid (D0.Perm (L.map (·.1)) ∧ D0.Pairwise leP ∧ Bytes8 (encB D0 L) ∧ (encB D0 L).length = sn) := ⟨hpm0, hps0, h80, hsn.symm⟩
        have HW5 : Hid (Go.Proofs.Ytkobaidamdffmaa.Own w5 0 bT 1 (.slice sA sn sc) sn (bys (encB D0 L))) := by have h9 := hbuf.own.lower (Nat.zero_le _); rw [← hsn] at h9; exact h9
        have HND := hide HI.out.ts.nodup
        clear hsn hpm0 hps0 h80 hbuf HI
        go_wp2_with fail
        refine (lbegin_g HT5.out).mono ?_
        rintro e w6 ⟨rfl, wm, fm, ht6, hk6⟩
        have HT6 := hide ht6
        have HW6 := hide (hk6.own HW5.out (by decide))
        clear ht6 hk6 HT5 HW5
        go_wp2_with fail
        refine (ckeys_any w6 w.heap.size tb cb wm fm true L [] [] HT6.out.ts (by omega)).mono ?_
        rintro e w7 ⟨yA, yc, O, rfl, hky⟩
        obtain ⟨yn, hyn⟩ : ∃ n, n = O.length := ⟨_, rfl⟩
        have HYN := hide hyn
        have HPM : Hid ((O.map KV.p).Perm (L.map (·.1))) := hky.pm
        have hyl : yn ≤ 200 := by have := hky.pm.length_eq; simp at this; omega
        have HT7 := hide (HT6.out.below hky.bl)
        have HK7 : Hid (KS15 w7 yA yn yc O sA sn sc (encB D0 L)) := ⟨by rw [hyn]; exact hky.own.lower (Nat.zero_le _), fun x hx => RoB.lower (hky.ky x hx) (Nat.zero_le _), HW6.out.below hky.bl⟩
        rw [← hyn]
        clear hky hyn HT6 HW6
        go_wp2_with fail
        go_loopw [9] (fun i wr => ∃ (k : Nat) (L2 W2 : List (PK × CV)), k ≤ yn ∧ i = .int .i64 ((k : Int) - 1) ∧ W2.length + k ≤ yn ∧ Hid (CntI L L2 W2) ∧ Hid (TabG w wr tb cb wm fm true L2 W2 []) ∧ Hid (KS15 wr yA yn yc O sA sn sc (encB D0 L))) (fun i _ => (intOf i + 1).toNat)
        case atStart => exact ⟨yn, L, [], Nat.le_refl _, rfl, by simp, CntI.start L, HT7.out, HK7.out⟩
        case round =>
          clear HT7 HK7
          obtain ⟨k, L2, W2, hk, rfl, hw2, HC, HT, HK⟩ := hrel
          cases k with
          | zero =>
            have HCM : Hid (Calls Try.prog 21 #[.pointer (some ⟨tb, 0, none⟩)] wr fun e w' => e = .returned (.tuple #[.int .i64 0, .int .i64 0]) ∧ TabG w w' tb cb wm fm false L2 [] [] ∧ Kt wr w') := by
              have h9 := lcommit_g HT.out (by omega) (by simp)
              rw [HC.out.count] at h9
              exact h9
            have hll : L2.length ≤ 200 := by rw [HC.out.same.len HT.out.ts.nodup HND.out]; exact hl1
            go_wp2_with fail
            refine HCM.out.mono ?_
            rintro e w12 ⟨rfl, ht12, hk12⟩
            have HT12 := hide ht12
            have HB12 := hide (hk12.own HK.out.bs (by decide))
            clear ht12 hk12 HCM HK HPM HYN
            go_wp2_with fail
            refine (cenc_any w12 w.heap.size tb cb wm fm L2 [] [] HT12.out.ts (by omega)).mono ?_
            rintro e w13 ⟨nA, nn, nc, D2, rfl, hnn, hpm2, hps2, h82, hs2, hbuf⟩
            have HEQ : Hid (encB D0 L = encB D2 L2) := encB_eq HC.out.same.symm HND.out HT12.out.ts.nodup HE0.out.1 hpm2 HE0.out.2.1 hps2
            have HBY : Hid (Calls Try.prog 22 #[.slice sA sn sc, .slice nA nn nc] w13 fun e w' => e = .returned (.int .i64 0) ∧ ∃ j, w' = w13.drewN j) := by
              have h9 := rbytes_any (.slice sA sn sc) (.slice nA nn nc) (encB D0 L) (encB D2 L2) sn nn w13.heap.size w13.heap.size w13 (HB12.out.below hbuf.bl).sl (by have h8 := hbuf.own.sl; rw [← hnn] at h8; exact h8) HE0.out.2.2.2 hnn.symm HE0.out.2.2.1 h82
              rw [(bytesR_zero _ _).2 HEQ.out] at h9
              exact h9
            have HB13 := hide (HT12.out.bl.trans (hbuf.bl.mono HT12.out.bl.size))
            clear hnn hpm2 hps2 h82 hbuf HT12 HB12 HC HT HE0 HND
            go_wp2_with fail
            refine HBY.out.mono ?_
            rintro e w14 ⟨rfl, j, rfl⟩
            go_wp2_with fail
            refine (awake15 _).mono ?_
            rintro e w15 ⟨rfl, hb⟩
            go_wp2_with fail
            go_ret
            exact ⟨rfl, (HB13.out.drewN j).trans (hb.mono (HB13.out.drewN j).size)⟩
          | succ k =>
            rw [show (((k + 1 : Nat) : Int) - 1) = (k : Int) by omega]
            have hlt : k < yn := by omega
            have hki : (k : Int) < (yn : Int) := by omega
            have hkO : k < O.length := by rw [← HYN.out]; exact hlt
            obtain ⟨x, hx⟩ : ∃ x, x = O[k] := ⟨_, rfl⟩
            have HKA : Hid (∀ X : World, KS15 X yA yn yc O sA sn sc (encB D0 L) → ∃ ad, yA = some ad ∧ (ad.add (k * 3)).block < X.heap.size ∧ X.cell? (ad.add (k * 3)) = some x.v ∧ X.cell? ⟨(ad.add (k * 3)).block, (ad.add (k * 3)).off + 1, none⟩ = some (.int .i64 x.p.f) ∧ X.cell? ⟨(ad.add (k * 3)).block, (ad.add (k * 3)).off + 2, none⟩ = some (.int .i64 x.p.t)) := fun X hX => by
              obtain ⟨ad, h1, h2, h3, h4, h5⟩ := kv_at hX.own.sl hlt HYN.out.symm
              rw [hx]
              exact ⟨ad, h1, h2, h3, h4, h5⟩
            have HRO : Hid (∀ X : World, KS15 X yA yn yc O sA sn sc (encB D0 L) → KyO X 0 x) := fun X hX => hX.ky x (by rw [hx]; exact List.getElem_mem hkO)
            have hpm : x.p ∈ L.map (·.1) := HPM.out.mem_iff.1 (by rw [hx]; exact List.mem_map_of_mem (List.getElem_mem hkO))
            clear hx
            obtain ⟨ad, rfl, hab, -, -, -⟩ := HKA.out wr HK.out
            obtain ⟨xv, p⟩ := x
            obtain ⟨qA, qc, hkv, hkc⟩ := RoB.form (HRO.out wr HK.out)
            simp only at hkv hkc hpm
            subst hkv
            obtain ⟨qn, hqn⟩ : ∃ n, n = p.b.length := ⟨_, rfl⟩
            have HQN := hide hqn
            have HKA2 : Hid (∀ X : World, KS15 X (some ad) yn yc O sA sn sc (encB D0 L) → ((ad.add (k * 3)).block < X.heap.size) ∧ X.cell? (ad.add (k * 3)) = some (.slice qA qn qc) ∧ X.cell? ⟨(ad.add (k * 3)).block, (ad.add (k * 3)).off + 1, none⟩ = some (.int .i64 p.f) ∧ X.cell? ⟨(ad.add (k * 3)).block, (ad.add (k * 3)).off + 2, none⟩ = some (.int .i64 p.t)) := fun X hX => by
              obtain ⟨ad', h1, h2, h3, h4, h5⟩ := HKA.out X hX
              injection h1 with h1
              subst h1
              rw [hqn]
              exact ⟨h2, h3, h4, h5⟩
            have HSQ : Hid (∀ X : World, KS15 X (some ad) yn yc O sA sn sc (encB D0 L) → Sl X X.heap.size (.slice qA qn qc) 1 qn (bys p.b)) := fun X hX => by
              have h9 := RoB.sl (HRO.out X hX)
              rw [hqn]
              exact h9
            rw [← hqn] at hkc
            clear hqn HKA HRO hab
            have hp2 : p ∈ L2.map (·.1) := (HC.out.same.mem p).2 hpm
            obtain ⟨c, hlk, hmem⟩ := lk_memE hp2
            have HACC := hide (HT.out.ts.acc _ hmem)
            have HLK := hide hlk
            have HG : Hid (Calls Try.prog 14 #[.pointer (some ⟨tb, 0, none⟩), .agg #[.slice qA qn qc, .int .i64 p.f, .int .i64 p.t]] wr (GetP wr c.d true)) := by
              have h9 := cget_any wr w.heap.size tb cb wr.heap.size qn qc wm fm true L2 W2 [] qA p HT.out.ts (HSQ.out wr HK.out) HQN.out.symm (Nat.le_refl _)
              rw [hlk] at h9
              exact h9
            have HC8 : Hid (Bytes8 c.d.b ∧ c.d.right) := (HT.out.ts.acc _ hmem).2
            obtain ⟨cd, hcd⟩ : ∃ cd, cd = c.d := ⟨_, rfl⟩
            have HCD := hide hcd
            rw [← hcd] at HG HC8
            clear hlk hmem hp2 hpm HACC hcd
            obtain ⟨hab, a0, a1, a2⟩ := HKA2.out wr HK.out
            go_wp2_with fail
            refine HG.out.mono ?_
            rintro e w8 ⟨uA, uc, rfl, ho, hb8⟩
            obtain ⟨un, hun⟩ : ∃ n, n = cd.b.length := ⟨_, rfl⟩
            rw [← hun] at ho ⊢
            have HUN := hide hun
            have HU8 : Hid (Go.Proofs.Ytkobaidamdffmaa.Own w8 0 bT 1 (.slice uA un uc) un (bys cd.b)) := ho.lower (Nat.zero_le _)
            have HT8 := hide (HT.out.below hb8)
            have HK8 := hide (HK.out.kt (Kt.below hb8))
            clear HT HK HG ho hb8 hun a0 a1 a2 hab
            go_upto_region 17 with fail
            have hwc : Below w8.heap.size w8 (w8.alloc (.cells #[.slice uA un uc, .int .i64 cd.s, .int .i64 cd.n, .int .i64 cd.g, .int .i64 cd.h, .bool cd.p, .bool cd.c] cvT)) := (Below.refl _ _).alloc (Nat.le_refl _) _
            have HU9 := hide (HU8.out.below hwc)
            have HT9 := hide (HT8.out.below hwc)
            have HK9 := hide (HK8.out.kt (Kt.below hwc))
            have HG9 : Hid (Blk (w8.alloc (.cells #[.slice uA un uc, .int .i64 cd.s, .int .i64 cd.n, .int .i64 cd.g, .int .i64 cd.h, .bool cd.p, .bool cd.c] cvT)) w8.heap.size cvT #[.slice uA un uc, .int .i64 cd.s, .int .i64 cd.n, .int .i64 cd.g, .int .i64 cd.h, .bool cd.p, .bool cd.c]) := Blk.new w8 _ _
            change Code.wp _ _ _ _ (w8.alloc (.cells #[.slice uA un uc, .int .i64 cd.s, .int .i64 cd.n, .int .i64 cd.g, .int .i64 cd.h, .bool cd.p, .bool cd.c] cvT))
            clear hwc HU8 HT8 HK8
            generalize (w8.alloc (.cells #[.slice uA un uc, .int .i64 cd.s, .int .i64 cd.n, .int .i64 cd.g, .int .i64 cd.h, .bool cd.p, .bool cd.c] cvT)) = w9 at *
            generalize w8.heap.size = gb at *
            obtain ⟨hab, a0, a1, a2⟩ := HKA2.out w9 HK9.out
            go_wp2_with fail
            refine (ldrop_s w9 w9.heap.size qn qc qA p c HT9.out HLK.out (HSQ.out w9 HK9.out) HQN.out.symm (Nat.le_refl _)).mono ?_
            rintro e w10 ⟨rfl, hk10, ht10⟩
            have HU10 := hide (hk10.own HU9.out (by decide))
            have HK10 := hide (HK9.out.kt hk10)
            have HG10 := hide (hk10.blk HG9.out (by decide))
            have HND2 := hide HT9.out.ts.nodup
            have HT10 := hide ht10
            obtain ⟨z, hz⟩ := kpW_lk (L := L2) (W := W2) (p := p) HLK.out
            have HPUT : Hid (∀ Y : World, Below w10.heap.size w10 Y → Calls Try.prog 10 #[.pointer (some ⟨tb, 0, none⟩), .agg #[.slice qA qn qc, .int .i64 p.f, .int .i64 p.t], .agg #[.slice uA un uc, .int .i64 cd.s, .int .i64 cd.n, .int .i64 cd.g, .int .i64 cd.h, .bool cd.p, .bool cd.c]] Y fun e w' => e = .returned (.int .i64 0) ∧ Kt w10 w' ∧ ∃ c' : CV, c'.d = cd ∧ TabG w w' tb cb wm fm true (putM (delM L2 p) p c') (kpW true L2 W2 [] p) []) := fun Y hY => by
              have h9 := lput_s Y Y.heap.size qn qc un uc qA uA p cd HC8.out.2 (HT10.out.below hY) (HSQ.out Y (HK10.out.kt (Kt.below hY))) HQN.out.symm (HU10.out.below hY) HUN.out.symm HC8.out.1 (Nat.le_refl _)
              rw [kpF_in HLK.out, kpW_has hz, kpF_has hz] at h9
              exact h9.mono (fun e w' ⟨h1, h2, h3⟩ => ⟨h1, (Kt.below hY).trans h2, h3⟩)
            clear hz
            clear hk10 ht10 HU9 HK9 HG9 HT9 a0 a1 a2 hab
            have HS22 : Hid (∀ Y : World, Kt w10 Y → (fun X : World => X.cell? (ad.add (k * 3)) = some (.slice qA qn qc) ∧ X.cell? ⟨(ad.add (k * 3)).block, (ad.add (k * 3)).off + 1, none⟩ = some (.int .i64 p.f) ∧ X.cell? ⟨(ad.add (k * 3)).block, (ad.add (k * 3)).off + 2, none⟩ = some (.int .i64 p.t) ∧ X.cell? ⟨gb, 0, none⟩ = some (.slice uA un uc) ∧ X.cell? ⟨gb, 1, none⟩ = some (.int .i64 cd.s) ∧ X.cell? ⟨gb, 2, none⟩ = some (.int .i64 cd.n) ∧ X.cell? ⟨gb, 3, none⟩ = some (.int .i64 cd.g) ∧ X.cell? ⟨gb, 4, none⟩ = some (.int .i64 cd.h) ∧ X.cell? ⟨gb, 5, none⟩ = some (.bool cd.p) ∧ X.cell? ⟨gb, 6, none⟩ = some (.bool cd.c)) Y) := fun Y hY => by
              have h1 := (HKA2.out Y (HK10.out.kt hY)).2
              have j := hY.blk HG10.out (by decide)
              exact ⟨h1.1, h1.2.1, h1.2.2, j.cell 0, j.cell 1, j.cell 2, j.cell 3, j.cell 4, j.cell 5, j.cell 6⟩
            have HR0 : Hid (Below w10.heap.size w10 w10.drew ∧ Below w10.heap.size w10 w10) := ⟨(Below.refl _ _).drewN 1, Below.refl _ _⟩
            obtain ⟨s0, s1, s2, s3, s4, s5, s6, s7, s8, s9⟩ := HS22.out w10 (Kt.refl _)
            have hab := (HKA2.out w10 HK10.out).1
            have hgl := HG10.out.lt
            clear HSQ HKA2
            go_wp2_with fail
            go_region_held3 (fun X : World => X.cell? (ad.add (k * 3)) = some (.slice qA qn qc) ∧ X.cell? ⟨(ad.add (k * 3)).block, (ad.add (k * 3)).off + 1, none⟩ = some (.int .i64 p.f) ∧ X.cell? ⟨(ad.add (k * 3)).block, (ad.add (k * 3)).off + 2, none⟩ = some (.int .i64 p.t) ∧ X.cell? ⟨gb, 0, none⟩ = some (.slice uA un uc) ∧ X.cell? ⟨gb, 1, none⟩ = some (.int .i64 cd.s) ∧ X.cell? ⟨gb, 2, none⟩ = some (.int .i64 cd.n) ∧ X.cell? ⟨gb, 3, none⟩ = some (.int .i64 cd.g) ∧ X.cell? ⟨gb, 4, none⟩ = some (.int .i64 cd.h) ∧ X.cell? ⟨gb, 5, none⟩ = some (.bool cd.p) ∧ X.cell? ⟨gb, 6, none⟩ = some (.bool cd.c)) (first
                | with_reducible exact HS22.out _ hk11
                | with_reducible exact HS22.out _ (Kt.below HR0.out.1)
                | with_reducible exact HS22.out _ (Kt.below HR0.out.2)) (first
              | (go_at_call 10; have hc := HPUT.out _ HR0.out.1; refine Calls.mono hc ?_; clear hc; rintro e w11 ⟨rfl, hk11, c', hc', ht11⟩))
            all_goals
              have HIN : Hid (CntI L (putM (delM L2 p) p c') (kpW true L2 W2 [] p) ∧ (kpW true L2 W2 [] p).length ≤ W2.length + 1) := HC.out.step HND2.out HLK.out (by rw [hc', HCD.out])
              have HT11 := hide ht11
              have HK11 := hide (HK10.out.kt hk11)
              clear hk11 ht11 hc' HC HT10 HK10 HG10 HU10 HS22 HR0 HPUT s0 s1 s2 s3 s4 s5 s6 s7 s8 s9
              go_wp2_with fail
              go_roundw
              case rel => exact ⟨k, _, _, by omega, rfl, by have := HIN.out.2; omega, HIN.out.1, HT11, HK11⟩
              case measure => simp [intOf]
  · have hg : (200 : Int) < (N : Int) := by omega
    have HB2 := hide HT2.out.bl
    clear HT2 HS HD HNN
    go_wp2_with fail
    refine (awake15 w2).mono ?_
    rintro e w3 ⟨rfl, hb⟩
    go_wp2_with fail
    go_ret
    exact ⟨rfl, HB2.out.trans (hb.mono HB2.out.size)⟩
end Go.Proofs.Ytkobaidamdffmaa
