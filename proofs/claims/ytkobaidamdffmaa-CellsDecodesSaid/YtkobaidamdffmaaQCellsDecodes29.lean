/- CellsDecodes: the walk (printed by genlde15.py). -/
import Derived.Test.YtkobaidamdffmaaQCellsDecodes25
import Derived.Test.YtkobaidamdffmaaQCellsDecodes26
import Derived.Test.YtkobaidamdffmaaQCellsDecodes27
import Derived.Test.YtkobaidamdffmaaQCellsDecodes28
import Derived.Test.YtkobaidamdffmaaQCellsDecodes19

namespace Go.Proofs.Ytkobaidamdffmaa
open Go.RowKit Go.Sort
set_option linter.unusedVariables false
set_option linter.unusedSimpArgs false

theorem encP_len (p : PK) (d : CD) : 39 ≤ (encP p d).length := by
  unfold encP
  simp only [List.length_append, beN_len, List.length_cons, List.length_nil]
  omega
theorem flat_ge : ∀ M : List (PK × CD), 39 * M.length ≤ (M.flatMap fun x => encP x.1 x.2).length
  | [] => by simp
  | x :: M => by
    have h1 := flat_ge M
    have h2 := encP_len x.1 x.2
    rw [List.flatMap_cons, List.length_append, List.length_cons]
    omega
theorem DecT.few {B : List Int} {M : List (PK × CD)} (h : DecT B M) : 39 * M.length ≤ B.length := by
  rw [h.enc.1]
  unfold encM
  rw [List.length_append]
  have := flat_ge M
  omega
theorem PutG.right {w X w' : World} {tb cb : Nat} {L : List (PK × CV)} {x : RC} {r : Int} (h : PutG w X tb cb none none false L [] [] x.kb x.f x.t x.d r w') (hr : keyR x.kb.length x.f x.t ∧ x.d.right) :
    ∃ (p : PK) (c : CV), x.has p ∧ c.d = x.d ∧ TabG w w' tb cb none none false (putM L p c) [] [] := by
  rcases h.2 with ⟨h1, _⟩ | ⟨_, _, p, h1, h2, h3, c, hc, h4⟩
  · exact absurd hr h1
  · have e1 : kpW false L [] [] p = [] := if_neg (by simp)
    have e2 : kpF false L [] [] p = [] := if_neg (by simp)
    rw [e1, e2] at h4
    exact ⟨p, c, ⟨h1, h2, h3⟩, hc, h4⟩

set_option maxRecDepth 100000 in
set_option maxHeartbeats 16000000 in
theorem decodes15_ok (v1 v2 : Value) (B : List Int) (D : List RC) (w : World) (hs1 : Sl w w.heap.size v1 1 B.length (bys B)) (h8 : Bytes8 B) (hs2 : Sl w w.heap.size v2 10 D.length (rcs D)) (hD : ∀ x ∈ D, RCQ w x) :
    Calls Try.prog 6 #[v1, v2] w fun e w' => e = .returned (.bool true) ∧ Below w.heap.size w w' := by
  obtain ⟨aA, ac, rfl, hac⟩ := hs1.form
  obtain ⟨vA, vc, rfl, hvc⟩ := hs2.form
  have hmax1 := hs1.inv.2.2.1
  have hmax2 := hs2.inv.2.2.1
  have HS1 := hide hs1
  have H8 := hide h8
  have HS2 := hide hs2
  have HD := hide hD
  clear hs1 h8 hs2 hD
  obtain ⟨an, han⟩ : ∃ n, n = B.length := ⟨_, rfl⟩
  obtain ⟨N, hN⟩ : ∃ n, n = D.length := ⟨_, rfl⟩
  have HBS : Hid (∀ X : World, Below w.heap.size w X → Sl X w.heap.size (.slice aA an ac) 1 an (bys B)) := fun X hX => by have h9 := HS1.out.below hX; rw [← han] at h9; exact h9
  rw [← han] at hac ⊢
  rw [← hN] at HS2 hvc ⊢
  have HAN := hide han
  have HNN := hide hN
  clear han hN HS1
  go_enter Try.func6, Try.ntmps6
  by_cases h1 : an ≤ 1048576
  · have hg1 : ¬ (1048576 : Int) < (an : Int) := by omega
    by_cases h2 : N ≤ 200
    · have hg2 : ¬ (200 : Int) < (N : Int) := by omega
      have hn1 : (an : Int) ≤ 1048576 := by omega
      have HN1 := hide h1
      clear h1
      go_wp2_with (at_builtin; refine wpList_app rfl tyB (.tmp 29) (.tmp 30) rfl w.heap.size (n := 0) (m := an) (B := w.heap.size) (xs := []) (news := bys B) rfl rfl ?c1 ?c2 (bys_ok _) (by omega) (by omega) (by simp) ?_)
      case c1 => exact Own.new w w.heap.size #[] (Nat.le_refl _) (by omega) rfl
      case c2 => exact HBS.out _ ((Below.refl _ _).alloc (Nat.le_refl _) _)
      intro v5 w5 ha5
      have HO5 : Hid (Own w5 w.heap.size bT 1 v5 an (bys B)) := by simpa [Hid] using ha5.own
      have HB5 : Hid (Below w.heap.size w w5) := ((Below.refl w.heap.size w).alloc (Nat.le_refl _) _).trans (ha5.fr.below (by simp) (fun k hk h => by have := own_eq h; omega))
      clear ha5
      obtain ⟨pA, pc, rfl, hpc⟩ := HO5.out.sl.form
      go_wp2_with fail
      refine (cdecode_any w5 _ B (by rw [← HAN.out]; exact HO5.out.sl) H8.out).mono ?_
      clear HO5
      rintro e w6 (⟨tb, cb, L, hdt, rfl, htg⟩ | ⟨hno, rfl, hb6⟩)
      · have HDT := hide hdt
        have HTG := hide htg
        have HB6 : Hid (Below w.heap.size w w6) := HB5.out.trans (htg.bl.mono HB5.out.size)
        clear hdt htg HB5
        go_wp2_with fail
        refine (rdecode_any w6 _ B (by rw [← HAN.out]; exact (HBS.out _ HB6.out).mono HB6.out.size) H8.out (by rw [← HAN.out]; exact HN1.out)).mono ?_
        rintro e w7 (⟨M, xb, lv, R, hM, hMR, rfl, hrd⟩ | ⟨hno, _⟩)
        · have hML : L.map kd = M := DecT.uniq HDT.out hM
          have HM := hide hM
          have HMT : Hid (MatT L R) := mat_of hML hMR hM.enc.2.2
          have hLl : L.length ≤ 30000 := by
            have h9 := hM.few
            rw [← hML, List.length_map, ← HAN.out] at h9
            have := HN1.out
            omega
          have HML := hide hML
          clear hM hMR hML HDT
          obtain ⟨lA, lc, hlv, hlc⟩ := hrd.own.sl.form
          subst hlv
          obtain ⟨rn, hrn⟩ : ∃ n, n = R.length := ⟨_, rfl⟩
          have HRN := hide hrn
          have t0 : w7.cell? ⟨xb, 0, none⟩ = some (.slice lA R.length lc) := hrd.blk.cell 0
          rw [← hrn] at t0 hlc
          have xlt := hrd.blk.lt
          have hb67 : Below w6.heap.size w6 w7 := hrd.bl
          have HT7 : Hid (TabG w5 w7 tb cb none none false L [] []) := HTG.out.below hb67
          have HHD : Hid (Calls Try.prog 27 #[.pointer (some ⟨tb, 0, none⟩), .slice lA rn lc] w7 fun e w' => e = .returned (.bool true) ∧ Below w7.heap.size w7 w') := by
            rw [hrn]
            exact holds_any w7 w5.heap.size tb cb none none false L [] [] _ R HT7.out.ts hrd.own.sl hrd.rcq HMT.out (by omega)
          have HB7 : Hid (Below w.heap.size w w7) := HB6.out.trans (hb67.mono HB6.out.size)
          clear hrd hb67 HTG hrn HB6
          go_wp2_with fail
          refine HHD.out.mono ?_
          rintro e w8 ⟨rfl, hb8⟩
          have HT8 := hide (HT7.out.below hb8)
          have HB8 : Hid (Below w.heap.size w w8) := HB7.out.trans (hb8.mono HB7.out.size)
          clear hb8 HHD HT7 HB7 t0 xlt HMT HRN hlc
          go_wp2_with fail
          refine (cenc_any w8 w5.heap.size tb cb none none L [] [] HT8.out.ts (by omega)).mono ?_
          rintro e w9 ⟨eA, en, ec, K, rfl, hen, hpm, hso, h8e, hle, hbuf⟩
          have HEQ : Hid (encB K L = B) := enc_back HM.out HML.out hpm hso
          have HB9 : Hid (Below w.heap.size w w9) := HB8.out.trans (hbuf.bl.mono HB8.out.size)
          have HBY : Hid (Calls Try.prog 22 #[.slice aA an ac, .slice eA en ec] w9 fun e w' => e = .returned (.int .i64 0) ∧ ∃ j, w' = w9.drewN j) := by
            have h9 := rbytes_any (.slice aA an ac) (.slice eA en ec) B (encB K L) an en w.heap.size w9.heap.size w9 (HBS.out _ HB9.out) (by have h8 := hbuf.own.sl; rw [← hen] at h8; exact h8) HAN.out.symm hen.symm H8.out h8e
            rw [(bytesR_zero _ _).2 HEQ.out.symm] at h9
            exact h9
          clear hen hpm hso h8e hle hbuf HT8 HB8 HM HML HEQ
          go_wp2_with fail
          refine HBY.out.mono ?_
          rintro e w10 ⟨rfl, j, rfl⟩
          have HBX : Hid (Below w.heap.size w (w9.drewN j)) := HB9.out.drewN j
          clear HBY HB9
          generalize w9.drewN j = w7 at *
          clear HAN HN1 hn1 hg1 hac H8 HBS
          go_wp2_with fail
          refine (cnew_any w7 w.heap.size HBX.out.size).mono ?_
          rintro e w20 ⟨ub, ucb, rfl, ht, hb⟩
          have HT20 : Hid (TabG w w20 ub ucb none none false [] [] []) := ⟨ht, HBX.out.trans (hb.mono HBX.out.size)⟩
          clear ht hb HBX
          go_upto_region 15 with fail
          have HR3 : Hid (RT w (w20.alloc (.cells #[.slice none 0 0, .slice none 0 0, .bool false] rtT)) 0 w20.heap.size (.slice none 0 0) [] (.slice none 0 0) [] false) :=
            ⟨Blk.new w20 _ _, Own.nil _ _ _ _, Own.nil _ _ _ _, (fun x hx => by cases hx), (fun x hx => by cases hx), HT20.out.bl.alloc HT20.out.bl.size _, Nat.zero_le _⟩
          have HT3 : Hid (TabG w (w20.alloc (.cells #[.slice none 0 0, .slice none 0 0, .bool false] rtT)) ub ucb none none false [] [] []) := HT20.out.below ((Below.refl _ _).alloc (Nat.le_refl _) _)
          have hwx : w.heap.size ≤ w20.heap.size := HT20.out.bl.size
          change Code.wp _ _ _ _ (w20.alloc (.cells #[.slice none 0 0, .slice none 0 0, .bool false] rtT))
          generalize (w20.alloc (.cells #[.slice none 0 0, .slice none 0 0, .bool false] rtT)) = w21 at *
          obtain ⟨yb, hyb⟩ : ∃ yb, yb = w20.heap.size := ⟨_, rfl⟩
          rw [← hyb] at HR3 hwx ⊢
          clear hyb HT20
          go_wp2_with fail
          go_loopw [81] (fun i wr => ∃ (k : Nat) (L : List (PK × CV)) (R : List RC) (v : Value), k ≤ N ∧ i = .int .i64 k ∧ L.length ≤ k ∧ R.length ≤ k ∧ Hid (MatT L R) ∧ Hid (TabG w wr ub ucb none none false L [] []) ∧ Hid (RT w wr 0 yb v R (.slice none 0 0) [] false)) (fun i _ => N - (intOf i).toNat)
          case atStart => exact ⟨0, [], [], _, Nat.zero_le _, rfl, Nat.le_refl _, Nat.le_refl _, MatT.nil, HT3.out, HR3.out⟩
          case round =>
          clear HT3 HR3
          obtain ⟨k, L, R, v, hk, rfl, hLk, hRk, HMT, HT, HR⟩ := hrel
          by_cases hlt : k < N
          · have hkD : k < D.length := by rw [← HNN.out]; exact hlt
            obtain ⟨ad, rfl, hab, a0, a1, a2, a3, a4, a5, a6, a7, a8, a9⟩ := rc_at (HS2.out.below HT.out.bl) hlt HNN.out.symm
            have hzr := HT.out.bl.size
            have hab2 : (ad.add (k * 10)).block < wr.heap.size := by omega
            have HO := hide (HD.out _ (List.getElem_mem hkD))
            generalize D[k] = o at a0 a1 a2 a3 a4 a5 a6 a7 a8 a9 HO
            obtain ⟨okk, obb, of, ot, oa, od⟩ := o
            obtain ⟨oA, oc, hok, hoc⟩ := HO.out.ks.form
            obtain ⟨bA, bc, hbk, hbc⟩ := HO.out.ac.form
            simp only at a0 a1 a2 a3 a4 a5 a6 a7 a8 a9 hok hoc hbk hbc
            obtain ⟨on, hon⟩ : ∃ n, n = obb.length := ⟨_, rfl⟩
            obtain ⟨bn, hbn⟩ : ∃ n, n = od.b.length := ⟨_, rfl⟩
            rw [← hon] at hok hoc
            rw [← hbn] at hbk hbc
            subst hok hbk
            have HK : Hid (Sl w w.heap.size (.slice oA on oc) 1 on (bys obb) ∧ obb.length = on ∧ Bytes8 obb ∧ on ≤ 140737488355328) := ⟨by have h9 := HO.out.ks; rw [← hon] at h9; exact h9, hon.symm, HO.out.k8, by rw [hon]; exact HO.out.kn⟩
            have HA : Hid (Sl w w.heap.size (.slice bA bn bc) 1 bn (bys od.b) ∧ od.b.length = bn ∧ Bytes8 od.b ∧ bn ≤ 140737488355328) := ⟨by have h9 := HO.out.ac; rw [← hbn] at h9; exact h9, hbn.symm, HO.out.a8, by rw [hbn]; exact HO.out.an⟩
            clear hon hbn
            go_upto_region 18 with fail
            have HT4 := hide (HT.out.below (show Below wr.heap.size wr (wr.alloc (.cells #[.slice oA on oc, .int .i64 of, .int .i64 ot, .slice bA bn bc, .int .i64 od.s, .int .i64 od.n, .int .i64 od.g, .int .i64 od.h, .bool od.p, .bool od.c] rcT)) from (Below.refl _ _).alloc (Nat.le_refl _) _))
            have HR4 := hide (HR.out.below (show Below wr.heap.size wr (wr.alloc (.cells #[.slice oA on oc, .int .i64 of, .int .i64 ot, .slice bA bn bc, .int .i64 od.s, .int .i64 od.n, .int .i64 od.g, .int .i64 od.h, .bool od.p, .bool od.c] rcT)) from (Below.refl _ _).alloc (Nat.le_refl _) _))
            have HP4 : Hid (Blk (wr.alloc (.cells #[.slice oA on oc, .int .i64 of, .int .i64 ot, .slice bA bn bc, .int .i64 od.s, .int .i64 od.n, .int .i64 od.g, .int .i64 od.h, .bool od.p, .bool od.c] rcT)) wr.heap.size rcT #[.slice oA on oc, .int .i64 of, .int .i64 ot, .slice bA bn bc, .int .i64 od.s, .int .i64 od.n, .int .i64 od.g, .int .i64 od.h, .bool od.p, .bool od.c]) := Blk.new wr _ _
            change Code.wp _ _ _ _ (wr.alloc (.cells #[.slice oA on oc, .int .i64 of, .int .i64 ot, .slice bA bn bc, .int .i64 od.s, .int .i64 od.n, .int .i64 od.g, .int .i64 od.h, .bool od.p, .bool od.c] rcT))
            generalize (wr.alloc (.cells #[.slice oA on oc, .int .i64 of, .int .i64 ot, .slice bA bn bc, .int .i64 od.s, .int .i64 od.n, .int .i64 od.g, .int .i64 od.h, .bool od.p, .bool od.c] rcT)) = w22 at *
            generalize wr.heap.size = pb at *
            clear a0 a1 a2 a3 a4 a5 a6 a7 a8 a9 HT HR hab hab2
            have b0 : w22.cell? ⟨pb, 0, none⟩ = some (.slice oA on oc) := HP4.out.cell 0
            have b1 : w22.cell? ⟨pb, 1, none⟩ = some (.int .i64 of) := HP4.out.cell 1
            have b2 : w22.cell? ⟨pb, 2, none⟩ = some (.int .i64 ot) := HP4.out.cell 2
            have b3 : w22.cell? ⟨pb, 3, none⟩ = some (.slice bA bn bc) := HP4.out.cell 3
            have b4 : w22.cell? ⟨pb, 4, none⟩ = some (.int .i64 od.s) := HP4.out.cell 4
            have b5 : w22.cell? ⟨pb, 5, none⟩ = some (.int .i64 od.n) := HP4.out.cell 5
            have b6 : w22.cell? ⟨pb, 6, none⟩ = some (.int .i64 od.g) := HP4.out.cell 6
            have b7 : w22.cell? ⟨pb, 7, none⟩ = some (.int .i64 od.h) := HP4.out.cell 7
            have b8 : w22.cell? ⟨pb, 8, none⟩ = some (.bool od.p) := HP4.out.cell 8
            have b9 : w22.cell? ⟨pb, 9, none⟩ = some (.bool od.c) := HP4.out.cell 9
            have hpl := HP4.out.lt
            obtain ⟨rr, hrr⟩ : ∃ b, b = decide (keyR on of ot ∧ od.right) := ⟨_, rfl⟩
            have HRT : Hid (Calls Try.prog 28 #[.agg #[.slice oA on oc, .int .i64 of, .int .i64 ot, .slice bA bn bc, .int .i64 od.s, .int .i64 od.n, .int .i64 od.g, .int .i64 od.h, .bool od.p, .bool od.c]] w22 fun e w' => e = .returned (.bool rr) ∧ Below w22.heap.size w22 w') := by
              have h9 := right_any oA bA on oc bn bc of ot od HA.out.2.1 w22
              rw [← hrr] at h9
              exact h9
            have HRR := hide hrr
            clear hrr
            go_wp2_with fail
            refine HRT.out.mono ?_
            rintro e w23 ⟨rfl, hb23⟩
            have HT5 := hide (HT4.out.below hb23)
            have HR5 := hide (HR4.out.below hb23)
            have HP5 := hide (HP4.out.below hb23 HP4.out.lt)
            clear hb23 HT4 HR4 HP4 HRT b0 b1 b2 b3 b4 b5 b6 b7 b8 b9 hpl
            cases rr
            · go_wp2_with fail
              go_roundw
              case rel => exact ⟨k + 1, L, R, v, by omega, by simp, by omega, by omega, HMT.out, HT5.out, HR5.out⟩
              case measure => simp [intOf]; omega
            · have HRI := hide (of_decide_eq_true HRR.out.symm)
              go_upto_region 19 with fail
              go_cut [] from 87 to 92 (fun wx => ∃ r Y, Hid (Kt w23 wx ∧ PutG w Y ub ucb none none false L [] [] obb of ot od r wx))
              case first => exact decodes15_put w w23 ub ucb pb on oc bn bc none none false L [] [] oA bA obb of ot od (hide HT5.out) (hide HP5.out) HK HA _ _ _ (by assumption) (by assumption)
              case rest =>
                obtain ⟨r, Y, HP⟩ := hcut
                obtain ⟨p, c, hhas, hcd, htab⟩ := PutG.right (x := ⟨.slice oA on oc, obb, of, ot, .slice bA bn bc, od⟩) HP.out.2 (by simp only; rw [HK.out.2.1]; exact HRI.out)
                have HT6 := hide htab
                have HR6 := hide (HR5.out.kt HP.out.1 htab.bl)
                have HP6 := hide (HP.out.1.blk HP5.out (by decide))
                have HMT2 : Hid (MatT (putM L p c) (putL ⟨.slice oA on oc, obb, of, ot, .slice bA bn bc, od⟩ false R)) := HMT.out.put hhas hcd
                have hl6 : (putM L p c).length ≤ k + 1 := by have := (put_len L p c).2; omega
                have hr6 : (putL ⟨.slice oA on oc, obb, of, ot, .slice bA bn bc, od⟩ false R).length ≤ k + 1 := by have := putL_len ⟨.slice oA on oc, obb, of, ot, .slice bA bn bc, od⟩ false R; simp at this; omega
                clear HP hhas hcd htab HT5 HR5 HP5 HRI HRR HMT
                have b0 : wc.cell? ⟨pb, 0, none⟩ = some (.slice oA on oc) := HP6.out.cell 0
                have b1 : wc.cell? ⟨pb, 1, none⟩ = some (.int .i64 of) := HP6.out.cell 1
                have b2 : wc.cell? ⟨pb, 2, none⟩ = some (.int .i64 ot) := HP6.out.cell 2
                have b3 : wc.cell? ⟨pb, 3, none⟩ = some (.slice bA bn bc) := HP6.out.cell 3
                have b4 : wc.cell? ⟨pb, 4, none⟩ = some (.int .i64 od.s) := HP6.out.cell 4
                have b5 : wc.cell? ⟨pb, 5, none⟩ = some (.int .i64 od.n) := HP6.out.cell 5
                have b6 : wc.cell? ⟨pb, 6, none⟩ = some (.int .i64 od.g) := HP6.out.cell 6
                have b7 : wc.cell? ⟨pb, 7, none⟩ = some (.int .i64 od.h) := HP6.out.cell 7
                have b8 : wc.cell? ⟨pb, 8, none⟩ = some (.bool od.p) := HP6.out.cell 8
                have b9 : wc.cell? ⟨pb, 9, none⟩ = some (.bool od.c) := HP6.out.cell 9
                have hpl := HP6.out.lt
                have HRP := hide (rput_any w wc 0 yb v (.slice none 0 0) R [] false (⟨.slice oA on oc, obb, of, ot, .slice bA bn bc, od⟩ : RC) HR6.out HO.out (by omega) hwx)
                unfold RC.cells at HRP
                simp only at HRP
                obtain ⟨L2, hL2⟩ : ∃ l, l = putM L p c := ⟨_, rfl⟩
                rw [← hL2] at HT6 HMT2 hl6
                clear hL2
                go_wp2_with fail
                refine HRP.out.mono ?_
                rintro e w25 ⟨rfl, o', hrt, hfr⟩
                have HT7 := hide (HT6.out.of_fr HR6.out.blk hfr hwx)
                have HR7 := hide hrt
                clear hrt hfr HRP HT6 HR6 HP6 b0 b1 b2 b3 b4 b5 b6 b7 b8 b9 hpl
                go_wp2_with fail
                go_roundw
                case rel => exact ⟨k + 1, L2, _, o', by omega, by simp, hl6, hr6, HMT2.out, HT7.out, HR7.out⟩
                case measure => simp [intOf]; omega
          · have hLl : L.length ≤ 200 := by omega
            go_wp2_with fail
            refine (cenc_any wr w.heap.size ub ucb none none L [] [] HT.out.ts (by omega)).mono ?_
            rintro e w31 ⟨eA, en, ec, K, rfl, hen, hpm, hso, h8e, hle, hbuf⟩
            have HDE := hide (decT_enc HT.out.ts hpm hso (by omega))
            have HPM := hide hpm
            have HT31 := hide (HT.out.below hbuf.bl)
            have HR31 := hide (HR.out.below hbuf.bl)
            have HES : Hid (Sl w31 w31.heap.size (.slice eA en ec) 1 (encB K L).length (bys (encB K L))) := by have h8 := hbuf.own.sl; exact h8
            have H8E := hide h8e
            clear hen hpm hso h8e hle hbuf HT HR
            go_wp2_with fail
            refine (cdecode_any w31 _ (encB K L) HES.out H8E.out).mono ?_
            rintro e w32 (⟨vb, vcb, L', hdt, rfl, htg⟩ | ⟨hno, _⟩)
            · have hLL : L'.map kd = K.map fun p => (p, (gv (lk L p)).d) := DecT.uniq hdt HDE.out
              have HMT2 : Hid (MatT L' R) := HMT.out.same (same_of HPM.out hLL)
              have hL2 : L'.length ≤ 200 := by
                have h9 := congrArg List.length hLL
                rw [List.length_map, List.length_map, HPM.out.length_eq, List.length_map] at h9
                omega
              have HTV := hide htg
              have HR32 := hide (HR31.out.below htg.bl)
              clear hdt htg hLL HDE HPM HES H8E HT31 HR31 HMT
              obtain ⟨lA, lc, hlv, hlc⟩ := HR32.out.own.sl.form
              subst hlv
              obtain ⟨rn, hrn⟩ : ∃ n, n = R.length := ⟨_, rfl⟩
              have t0 : w32.cell? ⟨yb, 0, none⟩ = some (.slice lA R.length lc) := HR32.out.blk.cell 0
              have HHD : Hid (Calls Try.prog 27 #[.pointer (some ⟨vb, 0, none⟩), .slice lA rn lc] w32 fun e w' => e = .returned (.bool true) ∧ Below w32.heap.size w32 w') := by
                rw [hrn]
                exact holds_any w32 w31.heap.size vb vcb none none false L' [] [] _ R HTV.out.ts HR32.out.own.sl (fun x hx => (HR32.out.q x hx).below HR32.out.bl) HMT2.out (by omega)
              rw [← hrn] at t0 hlc
              have xlt := HR32.out.blk.lt
              have HB32 := hide HR32.out.bl
              clear HR32 HTV hrn HMT2
              go_wp2_with fail
              refine HHD.out.mono ?_
              rintro e w33 ⟨rfl, hb33⟩
              have HB33 := hide (HB32.out.trans (hb33.mono HB32.out.size))
              clear hb33 HHD HB32 t0 xlt
              go_wp2_with fail
              refine (awake15 _).mono ?_
              rintro e w34 ⟨rfl, hb34⟩
              have HB34 := hide (HB33.out.trans (hb34.mono HB33.out.size))
              clear hb34 HB33
              go_wp2_with fail
              go_ret
              exact ⟨rfl, HB34.out⟩
            · exact absurd HDE.out (hno _)
        · exact absurd HDT.out (hno _)
      · have HNO := hide hno
        have HB6 : Hid (Below w.heap.size w w6) := HB5.out.trans (hb6.mono HB5.out.size)
        clear hno hb6 HB5
        go_wp2_with fail
        refine (rdecode_any w6 _ B (by rw [← HAN.out]; exact (HBS.out _ HB6.out).mono HB6.out.size) H8.out (by rw [← HAN.out]; exact HN1.out)).mono ?_
        rintro e w7 (⟨M, xb, lv, R, hM, hMR, rfl, hrd⟩ | ⟨hno, ⟨u, rfl⟩, hb7⟩)
        · exact absurd hM (HNO.out _)
        · have HBX : Hid (Below w.heap.size w w7) := HB6.out.trans (hb7.mono HB6.out.size)
          clear hno hb7 HB6 HNO
          clear HAN HN1 hn1 hg1 hac H8 HBS
          go_wp2_with fail
          refine (cnew_any w7 w.heap.size HBX.out.size).mono ?_
          rintro e w20 ⟨ub, ucb, rfl, ht, hb⟩
          have HT20 : Hid (TabG w w20 ub ucb none none false [] [] []) := ⟨ht, HBX.out.trans (hb.mono HBX.out.size)⟩
          clear ht hb HBX
          go_upto_region 15 with fail
          have HR3 : Hid (RT w (w20.alloc (.cells #[.slice none 0 0, .slice none 0 0, .bool false] rtT)) 0 w20.heap.size (.slice none 0 0) [] (.slice none 0 0) [] false) :=
            ⟨Blk.new w20 _ _, Own.nil _ _ _ _, Own.nil _ _ _ _, (fun x hx => by cases hx), (fun x hx => by cases hx), HT20.out.bl.alloc HT20.out.bl.size _, Nat.zero_le _⟩
          have HT3 : Hid (TabG w (w20.alloc (.cells #[.slice none 0 0, .slice none 0 0, .bool false] rtT)) ub ucb none none false [] [] []) := HT20.out.below ((Below.refl _ _).alloc (Nat.le_refl _) _)
          have hwx : w.heap.size ≤ w20.heap.size := HT20.out.bl.size
          change Code.wp _ _ _ _ (w20.alloc (.cells #[.slice none 0 0, .slice none 0 0, .bool false] rtT))
          generalize (w20.alloc (.cells #[.slice none 0 0, .slice none 0 0, .bool false] rtT)) = w21 at *
          obtain ⟨yb, hyb⟩ : ∃ yb, yb = w20.heap.size := ⟨_, rfl⟩
          rw [← hyb] at HR3 hwx ⊢
          clear hyb HT20
          go_wp2_with fail
          go_loopw [81] (fun i wr => ∃ (k : Nat) (L : List (PK × CV)) (R : List RC) (v : Value), k ≤ N ∧ i = .int .i64 k ∧ L.length ≤ k ∧ R.length ≤ k ∧ Hid (MatT L R) ∧ Hid (TabG w wr ub ucb none none false L [] []) ∧ Hid (RT w wr 0 yb v R (.slice none 0 0) [] false)) (fun i _ => N - (intOf i).toNat)
          case atStart => exact ⟨0, [], [], _, Nat.zero_le _, rfl, Nat.le_refl _, Nat.le_refl _, MatT.nil, HT3.out, HR3.out⟩
          case round =>
          clear HT3 HR3
          obtain ⟨k, L, R, v, hk, rfl, hLk, hRk, HMT, HT, HR⟩ := hrel
          by_cases hlt : k < N
          · have hkD : k < D.length := by rw [← HNN.out]; exact hlt
            obtain ⟨ad, rfl, hab, a0, a1, a2, a3, a4, a5, a6, a7, a8, a9⟩ := rc_at (HS2.out.below HT.out.bl) hlt HNN.out.symm
            have hzr := HT.out.bl.size
            have hab2 : (ad.add (k * 10)).block < wr.heap.size := by omega
            have HO := hide (HD.out _ (List.getElem_mem hkD))
            generalize D[k] = o at a0 a1 a2 a3 a4 a5 a6 a7 a8 a9 HO
            obtain ⟨okk, obb, of, ot, oa, od⟩ := o
            obtain ⟨oA, oc, hok, hoc⟩ := HO.out.ks.form
            obtain ⟨bA, bc, hbk, hbc⟩ := HO.out.ac.form
            simp only at a0 a1 a2 a3 a4 a5 a6 a7 a8 a9 hok hoc hbk hbc
            obtain ⟨on, hon⟩ : ∃ n, n = obb.length := ⟨_, rfl⟩
            obtain ⟨bn, hbn⟩ : ∃ n, n = od.b.length := ⟨_, rfl⟩
            rw [← hon] at hok hoc
            rw [← hbn] at hbk hbc
            subst hok hbk
            have HK : Hid (Sl w w.heap.size (.slice oA on oc) 1 on (bys obb) ∧ obb.length = on ∧ Bytes8 obb ∧ on ≤ 140737488355328) := ⟨by have h9 := HO.out.ks; rw [← hon] at h9; exact h9, hon.symm, HO.out.k8, by rw [hon]; exact HO.out.kn⟩
            have HA : Hid (Sl w w.heap.size (.slice bA bn bc) 1 bn (bys od.b) ∧ od.b.length = bn ∧ Bytes8 od.b ∧ bn ≤ 140737488355328) := ⟨by have h9 := HO.out.ac; rw [← hbn] at h9; exact h9, hbn.symm, HO.out.a8, by rw [hbn]; exact HO.out.an⟩
            clear hon hbn
            go_upto_region 18 with fail
            have HT4 := hide (HT.out.below (show Below wr.heap.size wr (wr.alloc (.cells #[.slice oA on oc, .int .i64 of, .int .i64 ot, .slice bA bn bc, .int .i64 od.s, .int .i64 od.n, .int .i64 od.g, .int .i64 od.h, .bool od.p, .bool od.c] rcT)) from (Below.refl _ _).alloc (Nat.le_refl _) _))
            have HR4 := hide (HR.out.below (show Below wr.heap.size wr (wr.alloc (.cells #[.slice oA on oc, .int .i64 of, .int .i64 ot, .slice bA bn bc, .int .i64 od.s, .int .i64 od.n, .int .i64 od.g, .int .i64 od.h, .bool od.p, .bool od.c] rcT)) from (Below.refl _ _).alloc (Nat.le_refl _) _))
            have HP4 : Hid (Blk (wr.alloc (.cells #[.slice oA on oc, .int .i64 of, .int .i64 ot, .slice bA bn bc, .int .i64 od.s, .int .i64 od.n, .int .i64 od.g, .int .i64 od.h, .bool od.p, .bool od.c] rcT)) wr.heap.size rcT #[.slice oA on oc, .int .i64 of, .int .i64 ot, .slice bA bn bc, .int .i64 od.s, .int .i64 od.n, .int .i64 od.g, .int .i64 od.h, .bool od.p, .bool od.c]) := Blk.new wr _ _
            change Code.wp _ _ _ _ (wr.alloc (.cells #[.slice oA on oc, .int .i64 of, .int .i64 ot, .slice bA bn bc, .int .i64 od.s, .int .i64 od.n, .int .i64 od.g, .int .i64 od.h, .bool od.p, .bool od.c] rcT))
            generalize (wr.alloc (.cells #[.slice oA on oc, .int .i64 of, .int .i64 ot, .slice bA bn bc, .int .i64 od.s, .int .i64 od.n, .int .i64 od.g, .int .i64 od.h, .bool od.p, .bool od.c] rcT)) = w22 at *
            generalize wr.heap.size = pb at *
            clear a0 a1 a2 a3 a4 a5 a6 a7 a8 a9 HT HR hab hab2
            have b0 : w22.cell? ⟨pb, 0, none⟩ = some (.slice oA on oc) := HP4.out.cell 0
            have b1 : w22.cell? ⟨pb, 1, none⟩ = some (.int .i64 of) := HP4.out.cell 1
            have b2 : w22.cell? ⟨pb, 2, none⟩ = some (.int .i64 ot) := HP4.out.cell 2
            have b3 : w22.cell? ⟨pb, 3, none⟩ = some (.slice bA bn bc) := HP4.out.cell 3
            have b4 : w22.cell? ⟨pb, 4, none⟩ = some (.int .i64 od.s) := HP4.out.cell 4
            have b5 : w22.cell? ⟨pb, 5, none⟩ = some (.int .i64 od.n) := HP4.out.cell 5
            have b6 : w22.cell? ⟨pb, 6, none⟩ = some (.int .i64 od.g) := HP4.out.cell 6
            have b7 : w22.cell? ⟨pb, 7, none⟩ = some (.int .i64 od.h) := HP4.out.cell 7
            have b8 : w22.cell? ⟨pb, 8, none⟩ = some (.bool od.p) := HP4.out.cell 8
            have b9 : w22.cell? ⟨pb, 9, none⟩ = some (.bool od.c) := HP4.out.cell 9
            have hpl := HP4.out.lt
            obtain ⟨rr, hrr⟩ : ∃ b, b = decide (keyR on of ot ∧ od.right) := ⟨_, rfl⟩
            have HRT : Hid (Calls Try.prog 28 #[.agg #[.slice oA on oc, .int .i64 of, .int .i64 ot, .slice bA bn bc, .int .i64 od.s, .int .i64 od.n, .int .i64 od.g, .int .i64 od.h, .bool od.p, .bool od.c]] w22 fun e w' => e = .returned (.bool rr) ∧ Below w22.heap.size w22 w') := by
              have h9 := right_any oA bA on oc bn bc of ot od HA.out.2.1 w22
              rw [← hrr] at h9
              exact h9
            have HRR := hide hrr
            clear hrr
            go_wp2_with fail
            refine HRT.out.mono ?_
            rintro e w23 ⟨rfl, hb23⟩
            have HT5 := hide (HT4.out.below hb23)
            have HR5 := hide (HR4.out.below hb23)
            have HP5 := hide (HP4.out.below hb23 HP4.out.lt)
            clear hb23 HT4 HR4 HP4 HRT b0 b1 b2 b3 b4 b5 b6 b7 b8 b9 hpl
            cases rr
            · go_wp2_with fail
              go_roundw
              case rel => exact ⟨k + 1, L, R, v, by omega, by simp, by omega, by omega, HMT.out, HT5.out, HR5.out⟩
              case measure => simp [intOf]; omega
            · have HRI := hide (of_decide_eq_true HRR.out.symm)
              go_upto_region 19 with fail
              go_cut [] from 87 to 92 (fun wx => ∃ r Y, Hid (Kt w23 wx ∧ PutG w Y ub ucb none none false L [] [] obb of ot od r wx))
              case first => exact decodes15_put w w23 ub ucb pb on oc bn bc none none false L [] [] oA bA obb of ot od (hide HT5.out) (hide HP5.out) HK HA _ _ _ (by assumption) (by assumption)
              case rest =>
                obtain ⟨r, Y, HP⟩ := hcut
                obtain ⟨p, c, hhas, hcd, htab⟩ := PutG.right (x := ⟨.slice oA on oc, obb, of, ot, .slice bA bn bc, od⟩) HP.out.2 (by simp only; rw [HK.out.2.1]; exact HRI.out)
                have HT6 := hide htab
                have HR6 := hide (HR5.out.kt HP.out.1 htab.bl)
                have HP6 := hide (HP.out.1.blk HP5.out (by decide))
                have HMT2 : Hid (MatT (putM L p c) (putL ⟨.slice oA on oc, obb, of, ot, .slice bA bn bc, od⟩ false R)) := HMT.out.put hhas hcd
                have hl6 : (putM L p c).length ≤ k + 1 := by have := (put_len L p c).2; omega
                have hr6 : (putL ⟨.slice oA on oc, obb, of, ot, .slice bA bn bc, od⟩ false R).length ≤ k + 1 := by have := putL_len ⟨.slice oA on oc, obb, of, ot, .slice bA bn bc, od⟩ false R; simp at this; omega
                clear HP hhas hcd htab HT5 HR5 HP5 HRI HRR HMT
                have b0 : wc.cell? ⟨pb, 0, none⟩ = some (.slice oA on oc) := HP6.out.cell 0
                have b1 : wc.cell? ⟨pb, 1, none⟩ = some (.int .i64 of) := HP6.out.cell 1
                have b2 : wc.cell? ⟨pb, 2, none⟩ = some (.int .i64 ot) := HP6.out.cell 2
                have b3 : wc.cell? ⟨pb, 3, none⟩ = some (.slice bA bn bc) := HP6.out.cell 3
                have b4 : wc.cell? ⟨pb, 4, none⟩ = some (.int .i64 od.s) := HP6.out.cell 4
                have b5 : wc.cell? ⟨pb, 5, none⟩ = some (.int .i64 od.n) := HP6.out.cell 5
                have b6 : wc.cell? ⟨pb, 6, none⟩ = some (.int .i64 od.g) := HP6.out.cell 6
                have b7 : wc.cell? ⟨pb, 7, none⟩ = some (.int .i64 od.h) := HP6.out.cell 7
                have b8 : wc.cell? ⟨pb, 8, none⟩ = some (.bool od.p) := HP6.out.cell 8
                have b9 : wc.cell? ⟨pb, 9, none⟩ = some (.bool od.c) := HP6.out.cell 9
                have hpl := HP6.out.lt
                have HRP := hide (rput_any w wc 0 yb v (.slice none 0 0) R [] false (⟨.slice oA on oc, obb, of, ot, .slice bA bn bc, od⟩ : RC) HR6.out HO.out (by omega) hwx)
                unfold RC.cells at HRP
                simp only at HRP
                obtain ⟨L2, hL2⟩ : ∃ l, l = putM L p c := ⟨_, rfl⟩
                rw [← hL2] at HT6 HMT2 hl6
                clear hL2
                go_wp2_with fail
                refine HRP.out.mono ?_
                rintro e w25 ⟨rfl, o', hrt, hfr⟩
                have HT7 := hide (HT6.out.of_fr HR6.out.blk hfr hwx)
                have HR7 := hide hrt
                clear hrt hfr HRP HT6 HR6 HP6 b0 b1 b2 b3 b4 b5 b6 b7 b8 b9 hpl
                go_wp2_with fail
                go_roundw
                case rel => exact ⟨k + 1, L2, _, o', by omega, by simp, hl6, hr6, HMT2.out, HT7.out, HR7.out⟩
                case measure => simp [intOf]; omega
          · have hLl : L.length ≤ 200 := by omega
            go_wp2_with fail
            refine (cenc_any wr w.heap.size ub ucb none none L [] [] HT.out.ts (by omega)).mono ?_
            rintro e w31 ⟨eA, en, ec, K, rfl, hen, hpm, hso, h8e, hle, hbuf⟩
            have HDE := hide (decT_enc HT.out.ts hpm hso (by omega))
            have HPM := hide hpm
            have HT31 := hide (HT.out.below hbuf.bl)
            have HR31 := hide (HR.out.below hbuf.bl)
            have HES : Hid (Sl w31 w31.heap.size (.slice eA en ec) 1 (encB K L).length (bys (encB K L))) := by have h8 := hbuf.own.sl; exact h8
            have H8E := hide h8e
            clear hen hpm hso h8e hle hbuf HT HR
            go_wp2_with fail
            refine (cdecode_any w31 _ (encB K L) HES.out H8E.out).mono ?_
            rintro e w32 (⟨vb, vcb, L', hdt, rfl, htg⟩ | ⟨hno, _⟩)
            · have hLL : L'.map kd = K.map fun p => (p, (gv (lk L p)).d) := DecT.uniq hdt HDE.out
              have HMT2 : Hid (MatT L' R) := HMT.out.same (same_of HPM.out hLL)
              have hL2 : L'.length ≤ 200 := by
                have h9 := congrArg List.length hLL
                rw [List.length_map, List.length_map, HPM.out.length_eq, List.length_map] at h9
                omega
              have HTV := hide htg
              have HR32 := hide (HR31.out.below htg.bl)
              clear hdt htg hLL HDE HPM HES H8E HT31 HR31 HMT
              obtain ⟨lA, lc, hlv, hlc⟩ := HR32.out.own.sl.form
              subst hlv
              obtain ⟨rn, hrn⟩ : ∃ n, n = R.length := ⟨_, rfl⟩
              have t0 : w32.cell? ⟨yb, 0, none⟩ = some (.slice lA R.length lc) := HR32.out.blk.cell 0
              have HHD : Hid (Calls Try.prog 27 #[.pointer (some ⟨vb, 0, none⟩), .slice lA rn lc] w32 fun e w' => e = .returned (.bool true) ∧ Below w32.heap.size w32 w') := by
                rw [hrn]
                exact holds_any w32 w31.heap.size vb vcb none none false L' [] [] _ R HTV.out.ts HR32.out.own.sl (fun x hx => (HR32.out.q x hx).below HR32.out.bl) HMT2.out (by omega)
              rw [← hrn] at t0 hlc
              have xlt := HR32.out.blk.lt
              have HB32 := hide HR32.out.bl
              clear HR32 HTV hrn HMT2
              go_wp2_with fail
              refine HHD.out.mono ?_
              rintro e w33 ⟨rfl, hb33⟩
              have HB33 := hide (HB32.out.trans (hb33.mono HB32.out.size))
              clear hb33 HHD HB32 t0 xlt
              go_wp2_with fail
              refine (awake15 _).mono ?_
              rintro e w34 ⟨rfl, hb34⟩
              have HB34 := hide (HB33.out.trans (hb34.mono HB33.out.size))
              clear hb34 HB33
              go_wp2_with fail
              go_ret
              exact ⟨rfl, HB34.out⟩
            · exact absurd HDE.out (hno _)
    · have hg2 : (200 : Int) < (N : Int) := by omega
      clear h1 h2
      go_wp2_with fail
      refine (awake15 _).mono ?_
      rintro e w2 ⟨rfl, hb⟩
      go_wp2_with fail
      go_ret
      exact ⟨rfl, hb⟩
  · have hg1 : (1048576 : Int) < (an : Int) := by omega
    clear h1
    go_wp2_with fail
    refine (awake15 _).mono ?_
    rintro e w2 ⟨rfl, hb⟩
    go_wp2_with fail
    go_ret
    exact ⟨rfl, hb⟩
end Go.Proofs.Ytkobaidamdffmaa
