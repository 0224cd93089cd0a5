/- The reference's Encode (printed by genre15b.py). -/
import Derived.Test.YtkobaidamdffmaaQCellsDecodes22

namespace Go.Proofs.Ytkobaidamdffmaa
open Go.RowKit Go.Sort
set_option linter.unusedVariables false
set_option linter.unusedSimpArgs false

def encX (x : RC) : List Int :=
  beN (x.f + 4194304) 4 ++ beN (x.t + 4194304) 4 ++ (beN x.kb.length 4 ++ x.kb) ++ (beN x.d.b.length 4 ++ x.d.b) ++ (beN x.d.s 4 ++ beN x.d.n 8 ++ beN x.d.h 8) ++ [x.d.g % 256, if x.d.p then 1 else 0, if x.d.c then 1 else 0]
def encR (D : List RC) : List Int := beN D.length 4 ++ D.flatMap encX
set_option maxRecDepth 100000 in
set_option maxHeartbeats 8000000 in
theorem renc_any (w : World) (xb : Nat) (v u : Value) (D : List RC) (b : Bool) (hb : Blk w xb rtT #[v, u, .bool b]) (hs : Sl w w.heap.size v 10 D.length (rcs D)) (hq : ∀ x ∈ D, RCQ w x) (hr : ∀ x ∈ D, keyR x.kb.length x.f x.t ∧ x.d.right) (hD : D.length ≤ 1000000) :
    Calls Try.prog 31 #[.pointer (some ⟨xb, 0, none⟩)] w fun e w' => ∃ z, e = .returned z ∧ BufI w w' z (encR D) := by
  obtain ⟨lA, lc, rfl, hlc⟩ := hs.form
  obtain ⟨n, hn⟩ : ∃ n, n = D.length := ⟨_, rfl⟩
  have HN := hide hn
  have HTB : Hid (Blk w xb rtT #[.slice lA n lc, u, .bool b]) := by rw [hn]; exact hb
  have HS : Hid (Sl w w.heap.size (.slice lA n lc) 10 n (rcs D)) := by rw [hn]; exact hs
  have HQ := hide hq
  have HR := hide hr
  rw [← hn] at hlc hD
  have t0 : w.cell? ⟨xb, 0, none⟩ = some (.slice lA n lc) := HTB.out.cell 0
  have htl := HTB.out.lt
  clear hb hs hq hr hn
  go_enter Try.func31, Try.ntmps31
  go_wp2_with fail
  refine (num_any (n : Int) 4 w (by omega) (by omega)).mono ?_
  rintro e w2 ⟨v2, rfl, ho2, hb2⟩
  have HB2 : Hid (BufI w w2 v2 (beN n 4)) := ⟨by rw [beN_len]; exact ho2, hb2⟩
  clear ho2 hb2 t0 htl
  go_wp2_with fail
  go_loopw [3, 4] (fun v i wr => ∃ (k : Nat) (E : List Int), k ≤ n ∧ i = .int .i64 k ∧ E.length ≤ 4 + k * 2097300 ∧ Hid (E = beN n 4 ++ (D.take k).flatMap encX) ∧ Hid (BufI w wr v E)) (fun _ i _ => n - (intOf i).toNat)
  case atStart => exact ⟨0, beN n 4, Nat.zero_le _, rfl, by rw [beN_len]; omega, by simp [Hid], HB2.out⟩
  case round =>
    obtain ⟨k, E, hk, rfl, hEl, HE, HI⟩ := hrel
    have t0 : wr.cell? ⟨xb, 0, none⟩ = some (.slice lA n lc) := (HTB.out.below HI.out.bl HTB.out.lt).cell 0
    have htl := (HTB.out.below HI.out.bl HTB.out.lt).lt
    by_cases hlt : k < n
    · have hkD : k < D.length := by rw [← HN.out]; exact hlt
      have hki : (k : Int) < (n : Int) := by omega
      have HTK : Hid (D.take (k + 1) = D.take k ++ [D[k]]) := List.take_succ_eq_append_getElem hkD
      obtain ⟨ad, rfl, hab, a0, a1, a2, a3, a4, a5, a6, a7, a8, a9⟩ := rc_at (HS.out.below HI.out.bl) hlt HN.out.symm
      have hab2 : (ad.add (k * 10)).block < wr.heap.size := Nat.lt_of_lt_of_le hab HI.out.bl.size
      obtain ⟨y, hy⟩ : ∃ y, y = D[k] := ⟨_, rfl⟩
      have HYQ := hide (HQ.out y (by rw [hy]; exact List.getElem_mem hkD))
      have hyr := HR.out y (by rw [hy]; exact List.getElem_mem hkD)
      rw [← hy] at a0 a1 a2 a3 a4 a5 a6 a7 a8 a9 HTK
      clear hy
      have HYX : Hid (encX y = beN (y.f + 4194304) 4 ++ beN (y.t + 4194304) 4 ++ (beN y.kb.length 4 ++ y.kb) ++ (beN y.d.b.length 4 ++ y.d.b) ++ (beN y.d.s 4 ++ beN y.d.n 8 ++ beN y.d.h 8) ++ [y.d.g % 256, if y.d.p then 1 else 0, if y.d.c then 1 else 0]) := rfl
      obtain ⟨ex, hex⟩ : ∃ ex, ex = encX y := ⟨_, rfl⟩
      rw [← hex] at HYX
      have HTX : Hid ((D.take (k + 1)).flatMap encX = (D.take k).flatMap encX ++ ex) := by rw [Hid, HTK.out, List.flatMap_append, List.flatMap_singleton, hex]
      clear hex HTK
      obtain ⟨yk_, ky, yf, yt, ya_, ⟨kd, ys, yi, yg, yh, yp, yb⟩⟩ := y
      obtain ⟨yA, yc, hyk, hykc⟩ := HYQ.out.ks.form
      obtain ⟨yE, yq, hye, hyec⟩ := HYQ.out.ac.form
      simp only at hyk hykc hye hyec a0 a1 a2 a3 a4 a5 a6 a7 a8 a9 hyr HYX
      obtain ⟨yn, hyn⟩ : ∃ n, n = ky.length := ⟨_, rfl⟩
      obtain ⟨ym, hym⟩ : ∃ n, n = kd.length := ⟨_, rfl⟩
      rw [← hyn] at hyk hykc
      rw [← hym] at hye hyec
      subst hyk hye
      have HSK : Hid (Sl w w.heap.size (.slice yA yn yc) 1 yn (bys ky) ∧ ky.length = yn) := ⟨by have h9 := HYQ.out.ks; rw [← hyn] at h9; exact h9, hyn.symm⟩
      have HSA : Hid (Sl w w.heap.size (.slice yE ym yq) 1 ym (bys kd) ∧ kd.length = ym) := ⟨by have h9 := HYQ.out.ac; rw [← hym] at h9; exact h9, hym.symm⟩
      have hyn1 : yn ≤ 1048576 := by rw [hyn]; exact hyr.1.1
      have hym1 : ym ≤ 1048576 := by rw [hym]; exact hyr.2.1
      have hwn : -1048576 ≤ yf ∧ yf < yt ∧ yt ≤ 2097153 := hyr.1.2
      have hys : 0 ≤ ys ∧ ys ≤ 1048576 := hyr.2.2.1
      have hyi : 0 ≤ yi ∧ yi < 9223372036854775808 ∧ 0 ≤ yh ∧ yh < 9223372036854775808 := ldS_nh hyr.2.2.2
      clear hyr hyn hym HYQ
      go_upto_region 6 with fail
      have HX : Hid (Blk (wr.alloc (.cells #[.slice yA yn yc, .int .i64 yf, .int .i64 yt, .slice yE ym yq, .int .i64 ys, .int .i64 yi, .int .i64 yg, .int .i64 yh, .bool yp, .bool yb] rcT)) wr.heap.size rcT #[.slice yA yn yc, .int .i64 yf, .int .i64 yt, .slice yE ym yq, .int .i64 ys, .int .i64 yi, .int .i64 yg, .int .i64 yh, .bool yp, .bool yb]) := Blk.new wr _ _
      have HB := hide (HI.out.below (show Below wr.heap.size wr (wr.alloc (.cells #[.slice yA yn yc, .int .i64 yf, .int .i64 yt, .slice yE ym yq, .int .i64 ys, .int .i64 yi, .int .i64 yg, .int .i64 yh, .bool yp, .bool yb] rcT)) from (Below.refl _ _).alloc (Nat.le_refl _) _))
      change Code.wp _ _ _ _ (wr.alloc (.cells #[.slice yA yn yc, .int .i64 yf, .int .i64 yt, .slice yE ym yq, .int .i64 ys, .int .i64 yi, .int .i64 yg, .int .i64 yh, .bool yp, .bool yb] rcT))
      clear HI a0 a1 a2 a3 a4 a5 a6 a7 a8 a9 hab hab2 t0 htl
      generalize (wr.alloc (.cells #[.slice yA yn yc, .int .i64 yf, .int .i64 yt, .slice yE ym yq, .int .i64 ys, .int .i64 yi, .int .i64 yg, .int .i64 yh, .bool yp, .bool yb] rcT)) = wa at *
      generalize wr.heap.size = rb at *
      have HT := hide (Bt.refl wa)
      have hE0 : E.length ≤ 2097300000004 := by omega
      have y0 : wa.cell? ⟨rb, 0, none⟩ = some (.slice yA yn yc) := HX.out.cell 0
      have y1 : wa.cell? ⟨rb, 1, none⟩ = some (.int .i64 yf) := HX.out.cell 1
      have y2 : wa.cell? ⟨rb, 2, none⟩ = some (.int .i64 yt) := HX.out.cell 2
      have y3 : wa.cell? ⟨rb, 3, none⟩ = some (.slice yE ym yq) := HX.out.cell 3
      have y4 : wa.cell? ⟨rb, 4, none⟩ = some (.int .i64 ys) := HX.out.cell 4
      have y5 : wa.cell? ⟨rb, 5, none⟩ = some (.int .i64 yi) := HX.out.cell 5
      have y6 : wa.cell? ⟨rb, 6, none⟩ = some (.int .i64 yg) := HX.out.cell 6
      have y7 : wa.cell? ⟨rb, 7, none⟩ = some (.int .i64 yh) := HX.out.cell 7
      have y8 : wa.cell? ⟨rb, 8, none⟩ = some (.bool yp) := HX.out.cell 8
      have y9 : wa.cell? ⟨rb, 9, none⟩ = some (.bool yb) := HX.out.cell 9
      have hrl := HX.out.lt
      have HNM := hide (num_any (yf + 4194304) 4 wa (by omega) (by omega))
      go_wp2_with fail
      refine HNM.out.mono ?_
      rintro e wb ⟨u, rfl, ho, hb⟩
      have HB2 := hide (HB.out.below hb)
      have HX2 := hide (HX.out.below hb HX.out.lt)
      have HT2 := hide (HT.out.trans (Bt.below hb))
      have HO2 := hide ho.sl
      clear ho hb HNM HB HX HT y0 y1 y2 y3 y4 y5 y6 y7 y8 y9 hrl
      go_wp2_with (at_builtin; refine wpList_app rfl tyB (.tmp 28) (.tmp 33) rfl w.heap.size (n := E.length) (m := 4) (B := wb.heap.size) (xs := bys E) (news := bys (beN (yf + 4194304) 4)) rfl rfl (by exact HB2.out.own) (by exact HO2.out) (bys_ok _) (by omega) (by omega) (by exact HB2.out.bl.size) ?_)
      intro va wa ha
      have hba := BufI.app (F := beN (yf + 4194304) 4) HB2.out (beN_len _ _).symm ha
      have HX := hide (hba.2.blk HX2.out (by decide))
      have HT := hide (HT2.out.trans hba.2)
      have hB := hba.1
      clear ha hba HB2 HX2 HT2 HO2
      obtain ⟨E1, hE1⟩ : ∃ q, q = E ++ beN (yf + 4194304) 4 := ⟨_, rfl⟩
      have HHE1 := hide hE1
      have hlE1 : E1.length ≤ E.length + 4 := by rw [hE1]; simp only [List.length_append, beN_len] <;> omega
      rw [← hE1] at hB
      have HB := hide hB
      clear hE1 hB
      have y0 : wa.cell? ⟨rb, 0, none⟩ = some (.slice yA yn yc) := HX.out.cell 0
      have y1 : wa.cell? ⟨rb, 1, none⟩ = some (.int .i64 yf) := HX.out.cell 1
      have y2 : wa.cell? ⟨rb, 2, none⟩ = some (.int .i64 yt) := HX.out.cell 2
      have y3 : wa.cell? ⟨rb, 3, none⟩ = some (.slice yE ym yq) := HX.out.cell 3
      have y4 : wa.cell? ⟨rb, 4, none⟩ = some (.int .i64 ys) := HX.out.cell 4
      have y5 : wa.cell? ⟨rb, 5, none⟩ = some (.int .i64 yi) := HX.out.cell 5
      have y6 : wa.cell? ⟨rb, 6, none⟩ = some (.int .i64 yg) := HX.out.cell 6
      have y7 : wa.cell? ⟨rb, 7, none⟩ = some (.int .i64 yh) := HX.out.cell 7
      have y8 : wa.cell? ⟨rb, 8, none⟩ = some (.bool yp) := HX.out.cell 8
      have y9 : wa.cell? ⟨rb, 9, none⟩ = some (.bool yb) := HX.out.cell 9
      have hrl := HX.out.lt
      have HNM := hide (num_any (yt + 4194304) 4 wa (by omega) (by omega))
      go_wp2_with fail
      refine HNM.out.mono ?_
      rintro e wb ⟨u, rfl, ho, hb⟩
      have HB2 := hide (HB.out.below hb)
      have HX2 := hide (HX.out.below hb HX.out.lt)
      have HT2 := hide (HT.out.trans (Bt.below hb))
      have HO2 := hide ho.sl
      clear ho hb HNM HB HX HT y0 y1 y2 y3 y4 y5 y6 y7 y8 y9 hrl
      go_wp2_with (at_builtin; refine wpList_app rfl tyB (.tmp 35) (.tmp 40) rfl w.heap.size (n := E1.length) (m := 4) (B := wb.heap.size) (xs := bys E1) (news := bys (beN (yt + 4194304) 4)) rfl rfl (by exact HB2.out.own) (by exact HO2.out) (bys_ok _) (by omega) (by omega) (by exact HB2.out.bl.size) ?_)
      intro va wa ha
      have hba := BufI.app (F := beN (yt + 4194304) 4) HB2.out (beN_len _ _).symm ha
      have HX := hide (hba.2.blk HX2.out (by decide))
      have HT := hide (HT2.out.trans hba.2)
      have hB := hba.1
      clear ha hba HB2 HX2 HT2 HO2
      obtain ⟨E2, hE2⟩ : ∃ q, q = E1 ++ beN (yt + 4194304) 4 := ⟨_, rfl⟩
      have HHE2 := hide hE2
      have hlE2 : E2.length ≤ E1.length + 4 := by rw [hE2]; simp only [List.length_append, beN_len] <;> omega
      rw [← hE2] at hB
      have HB := hide hB
      clear hE2 hB
      have y0 : wa.cell? ⟨rb, 0, none⟩ = some (.slice yA yn yc) := HX.out.cell 0
      have y1 : wa.cell? ⟨rb, 1, none⟩ = some (.int .i64 yf) := HX.out.cell 1
      have y2 : wa.cell? ⟨rb, 2, none⟩ = some (.int .i64 yt) := HX.out.cell 2
      have y3 : wa.cell? ⟨rb, 3, none⟩ = some (.slice yE ym yq) := HX.out.cell 3
      have y4 : wa.cell? ⟨rb, 4, none⟩ = some (.int .i64 ys) := HX.out.cell 4
      have y5 : wa.cell? ⟨rb, 5, none⟩ = some (.int .i64 yi) := HX.out.cell 5
      have y6 : wa.cell? ⟨rb, 6, none⟩ = some (.int .i64 yg) := HX.out.cell 6
      have y7 : wa.cell? ⟨rb, 7, none⟩ = some (.int .i64 yh) := HX.out.cell 7
      have y8 : wa.cell? ⟨rb, 8, none⟩ = some (.bool yp) := HX.out.cell 8
      have y9 : wa.cell? ⟨rb, 9, none⟩ = some (.bool yb) := HX.out.cell 9
      have hrl := HX.out.lt
      have HNM := hide (num_any ((yn : Int)) 4 wa (by omega) (by omega))
      go_wp2_with fail
      refine HNM.out.mono ?_
      rintro e wb ⟨u, rfl, ho, hb⟩
      have HB2 := hide (HB.out.below hb)
      have HX2 := hide (HX.out.below hb HX.out.lt)
      have HT2 := hide (HT.out.trans (Bt.below hb))
      have HO2 := hide ho.sl
      clear ho hb HNM HB HX HT y0 y1 y2 y3 y4 y5 y6 y7 y8 y9 hrl
      go_wp2_with (at_builtin; refine wpList_app rfl tyB (.tmp 42) (.tmp 46) rfl w.heap.size (n := E2.length) (m := 4) (B := wb.heap.size) (xs := bys E2) (news := bys (beN ((yn : Int)) 4)) rfl rfl (by exact HB2.out.own) (by exact HO2.out) (bys_ok _) (by omega) (by omega) (by exact HB2.out.bl.size) ?_)
      intro va wa ha
      have hba := BufI.app (F := beN ((yn : Int)) 4) HB2.out (beN_len _ _).symm ha
      have HX := hide (hba.2.blk HX2.out (by decide))
      have HT := hide (HT2.out.trans hba.2)
      have hB := hba.1
      clear ha hba HB2 HX2 HT2 HO2
      obtain ⟨E3, hE3⟩ : ∃ q, q = E2 ++ beN ((yn : Int)) 4 := ⟨_, rfl⟩
      have HHE3 := hide hE3
      have hlE3 : E3.length ≤ E2.length + 4 := by rw [hE3]; simp only [List.length_append, beN_len] <;> omega
      rw [← hE3] at hB
      have HB := hide hB
      clear hE3 hB
      have y0 : wa.cell? ⟨rb, 0, none⟩ = some (.slice yA yn yc) := HX.out.cell 0
      have y1 : wa.cell? ⟨rb, 1, none⟩ = some (.int .i64 yf) := HX.out.cell 1
      have y2 : wa.cell? ⟨rb, 2, none⟩ = some (.int .i64 yt) := HX.out.cell 2
      have y3 : wa.cell? ⟨rb, 3, none⟩ = some (.slice yE ym yq) := HX.out.cell 3
      have y4 : wa.cell? ⟨rb, 4, none⟩ = some (.int .i64 ys) := HX.out.cell 4
      have y5 : wa.cell? ⟨rb, 5, none⟩ = some (.int .i64 yi) := HX.out.cell 5
      have y6 : wa.cell? ⟨rb, 6, none⟩ = some (.int .i64 yg) := HX.out.cell 6
      have y7 : wa.cell? ⟨rb, 7, none⟩ = some (.int .i64 yh) := HX.out.cell 7
      have y8 : wa.cell? ⟨rb, 8, none⟩ = some (.bool yp) := HX.out.cell 8
      have y9 : wa.cell? ⟨rb, 9, none⟩ = some (.bool yb) := HX.out.cell 9
      have hrl := HX.out.lt
      go_wp2_with (at_builtin; refine wpList_app rfl tyB (.tmp 48) (.tmp 50) rfl w.heap.size (n := E3.length) (m := yn) (B := w.heap.size) (xs := bys E3) (news := bys ky) rfl rfl (by exact HB.out.own) (by exact HSK.out.1.below HB.out.bl) (bys_ok _) (by omega) (by omega) (by exact HB.out.bl.size) ?_)
      intro vb wb ha
      have hba := BufI.app (F := ky) HB.out HSK.out.2.symm ha
      have HX2 := hide (hba.2.blk HX.out (by decide))
      have HT2 := hide (HT.out.trans hba.2)
      have hB := hba.1
      clear ha hba HB HX HT y0 y1 y2 y3 y4 y5 y6 y7 y8 y9 hrl
      have HX := HX2
      have HT := HT2
      clear HX2 HT2
      generalize wb = wa at *
      generalize vb = va at *
      have hlq : ky.length = yn := HSK.out.2
      obtain ⟨E4, hE4⟩ : ∃ q, q = E3 ++ ky := ⟨_, rfl⟩
      have HHE4 := hide hE4
      have hlE4 : E4.length ≤ E3.length + yn := by rw [hE4]; simp only [List.length_append, beN_len] <;> omega
      rw [← hE4] at hB
      have HB := hide hB
      clear hE4 hB
      clear hlq
      have y0 : wa.cell? ⟨rb, 0, none⟩ = some (.slice yA yn yc) := HX.out.cell 0
      have y1 : wa.cell? ⟨rb, 1, none⟩ = some (.int .i64 yf) := HX.out.cell 1
      have y2 : wa.cell? ⟨rb, 2, none⟩ = some (.int .i64 yt) := HX.out.cell 2
      have y3 : wa.cell? ⟨rb, 3, none⟩ = some (.slice yE ym yq) := HX.out.cell 3
      have y4 : wa.cell? ⟨rb, 4, none⟩ = some (.int .i64 ys) := HX.out.cell 4
      have y5 : wa.cell? ⟨rb, 5, none⟩ = some (.int .i64 yi) := HX.out.cell 5
      have y6 : wa.cell? ⟨rb, 6, none⟩ = some (.int .i64 yg) := HX.out.cell 6
      have y7 : wa.cell? ⟨rb, 7, none⟩ = some (.int .i64 yh) := HX.out.cell 7
      have y8 : wa.cell? ⟨rb, 8, none⟩ = some (.bool yp) := HX.out.cell 8
      have y9 : wa.cell? ⟨rb, 9, none⟩ = some (.bool yb) := HX.out.cell 9
      have hrl := HX.out.lt
      have HNM := hide (num_any ((ym : Int)) 4 wa (by omega) (by omega))
      go_wp2_with fail
      refine HNM.out.mono ?_
      rintro e wb ⟨u, rfl, ho, hb⟩
      have HB2 := hide (HB.out.below hb)
      have HX2 := hide (HX.out.below hb HX.out.lt)
      have HT2 := hide (HT.out.trans (Bt.below hb))
      have HO2 := hide ho.sl
      clear ho hb HNM HB HX HT y0 y1 y2 y3 y4 y5 y6 y7 y8 y9 hrl
      go_wp2_with (at_builtin; refine wpList_app rfl tyB (.tmp 52) (.tmp 56) rfl w.heap.size (n := E4.length) (m := 4) (B := wb.heap.size) (xs := bys E4) (news := bys (beN ((ym : Int)) 4)) rfl rfl (by exact HB2.out.own) (by exact HO2.out) (bys_ok _) (by omega) (by omega) (by exact HB2.out.bl.size) ?_)
      intro va wa ha
      have hba := BufI.app (F := beN ((ym : Int)) 4) HB2.out (beN_len _ _).symm ha
      have HX := hide (hba.2.blk HX2.out (by decide))
      have HT := hide (HT2.out.trans hba.2)
      have hB := hba.1
      clear ha hba HB2 HX2 HT2 HO2
      obtain ⟨E5, hE5⟩ : ∃ q, q = E4 ++ beN ((ym : Int)) 4 := ⟨_, rfl⟩
      have HHE5 := hide hE5
      have hlE5 : E5.length ≤ E4.length + 4 := by rw [hE5]; simp only [List.length_append, beN_len] <;> omega
      rw [← hE5] at hB
      have HB := hide hB
      clear hE5 hB
      have y0 : wa.cell? ⟨rb, 0, none⟩ = some (.slice yA yn yc) := HX.out.cell 0
      have y1 : wa.cell? ⟨rb, 1, none⟩ = some (.int .i64 yf) := HX.out.cell 1
      have y2 : wa.cell? ⟨rb, 2, none⟩ = some (.int .i64 yt) := HX.out.cell 2
      have y3 : wa.cell? ⟨rb, 3, none⟩ = some (.slice yE ym yq) := HX.out.cell 3
      have y4 : wa.cell? ⟨rb, 4, none⟩ = some (.int .i64 ys) := HX.out.cell 4
      have y5 : wa.cell? ⟨rb, 5, none⟩ = some (.int .i64 yi) := HX.out.cell 5
      have y6 : wa.cell? ⟨rb, 6, none⟩ = some (.int .i64 yg) := HX.out.cell 6
      have y7 : wa.cell? ⟨rb, 7, none⟩ = some (.int .i64 yh) := HX.out.cell 7
      have y8 : wa.cell? ⟨rb, 8, none⟩ = some (.bool yp) := HX.out.cell 8
      have y9 : wa.cell? ⟨rb, 9, none⟩ = some (.bool yb) := HX.out.cell 9
      have hrl := HX.out.lt
      go_wp2_with (at_builtin; refine wpList_app rfl tyB (.tmp 58) (.tmp 60) rfl w.heap.size (n := E5.length) (m := ym) (B := w.heap.size) (xs := bys E5) (news := bys kd) rfl rfl (by exact HB.out.own) (by exact HSA.out.1.below HB.out.bl) (bys_ok _) (by omega) (by omega) (by exact HB.out.bl.size) ?_)
      intro vb wb ha
      have hba := BufI.app (F := kd) HB.out HSA.out.2.symm ha
      have HX2 := hide (hba.2.blk HX.out (by decide))
      have HT2 := hide (HT.out.trans hba.2)
      have hB := hba.1
      clear ha hba HB HX HT y0 y1 y2 y3 y4 y5 y6 y7 y8 y9 hrl
      have HX := HX2
      have HT := HT2
      clear HX2 HT2
      generalize wb = wa at *
      generalize vb = va at *
      have hlq : kd.length = ym := HSA.out.2
      obtain ⟨E6, hE6⟩ : ∃ q, q = E5 ++ kd := ⟨_, rfl⟩
      have HHE6 := hide hE6
      have hlE6 : E6.length ≤ E5.length + ym := by rw [hE6]; simp only [List.length_append, beN_len] <;> omega
      rw [← hE6] at hB
      have HB := hide hB
      clear hE6 hB
      clear hlq
      have y0 : wa.cell? ⟨rb, 0, none⟩ = some (.slice yA yn yc) := HX.out.cell 0
      have y1 : wa.cell? ⟨rb, 1, none⟩ = some (.int .i64 yf) := HX.out.cell 1
      have y2 : wa.cell? ⟨rb, 2, none⟩ = some (.int .i64 yt) := HX.out.cell 2
      have y3 : wa.cell? ⟨rb, 3, none⟩ = some (.slice yE ym yq) := HX.out.cell 3
      have y4 : wa.cell? ⟨rb, 4, none⟩ = some (.int .i64 ys) := HX.out.cell 4
      have y5 : wa.cell? ⟨rb, 5, none⟩ = some (.int .i64 yi) := HX.out.cell 5
      have y6 : wa.cell? ⟨rb, 6, none⟩ = some (.int .i64 yg) := HX.out.cell 6
      have y7 : wa.cell? ⟨rb, 7, none⟩ = some (.int .i64 yh) := HX.out.cell 7
      have y8 : wa.cell? ⟨rb, 8, none⟩ = some (.bool yp) := HX.out.cell 8
      have y9 : wa.cell? ⟨rb, 9, none⟩ = some (.bool yb) := HX.out.cell 9
      have hrl := HX.out.lt
      have HNM := hide (num_any (ys) 4 wa (by omega) (by omega))
      go_wp2_with fail
      refine HNM.out.mono ?_
      rintro e wb ⟨u, rfl, ho, hb⟩
      have HB2 := hide (HB.out.below hb)
      have HX2 := hide (HX.out.below hb HX.out.lt)
      have HT2 := hide (HT.out.trans (Bt.below hb))
      have HO2 := hide ho.sl
      clear ho hb HNM HB HX HT y0 y1 y2 y3 y4 y5 y6 y7 y8 y9 hrl
      go_wp2_with (at_builtin; refine wpList_app rfl tyB (.tmp 62) (.tmp 65) rfl w.heap.size (n := E6.length) (m := 4) (B := wb.heap.size) (xs := bys E6) (news := bys (beN (ys) 4)) rfl rfl (by exact HB2.out.own) (by exact HO2.out) (bys_ok _) (by omega) (by omega) (by exact HB2.out.bl.size) ?_)
      intro va wa ha
      have hba := BufI.app (F := beN (ys) 4) HB2.out (beN_len _ _).symm ha
      have HX := hide (hba.2.blk HX2.out (by decide))
      have HT := hide (HT2.out.trans hba.2)
      have hB := hba.1
      clear ha hba HB2 HX2 HT2 HO2
      obtain ⟨E7, hE7⟩ : ∃ q, q = E6 ++ beN (ys) 4 := ⟨_, rfl⟩
      have HHE7 := hide hE7
      have hlE7 : E7.length ≤ E6.length + 4 := by rw [hE7]; simp only [List.length_append, beN_len] <;> omega
      rw [← hE7] at hB
      have HB := hide hB
      clear hE7 hB
      have y0 : wa.cell? ⟨rb, 0, none⟩ = some (.slice yA yn yc) := HX.out.cell 0
      have y1 : wa.cell? ⟨rb, 1, none⟩ = some (.int .i64 yf) := HX.out.cell 1
      have y2 : wa.cell? ⟨rb, 2, none⟩ = some (.int .i64 yt) := HX.out.cell 2
      have y3 : wa.cell? ⟨rb, 3, none⟩ = some (.slice yE ym yq) := HX.out.cell 3
      have y4 : wa.cell? ⟨rb, 4, none⟩ = some (.int .i64 ys) := HX.out.cell 4
      have y5 : wa.cell? ⟨rb, 5, none⟩ = some (.int .i64 yi) := HX.out.cell 5
      have y6 : wa.cell? ⟨rb, 6, none⟩ = some (.int .i64 yg) := HX.out.cell 6
      have y7 : wa.cell? ⟨rb, 7, none⟩ = some (.int .i64 yh) := HX.out.cell 7
      have y8 : wa.cell? ⟨rb, 8, none⟩ = some (.bool yp) := HX.out.cell 8
      have y9 : wa.cell? ⟨rb, 9, none⟩ = some (.bool yb) := HX.out.cell 9
      have hrl := HX.out.lt
      have HNM := hide (num_any (yi) 8 wa (by omega) (by omega))
      go_wp2_with fail
      refine HNM.out.mono ?_
      rintro e wb ⟨u, rfl, ho, hb⟩
      have HB2 := hide (HB.out.below hb)
      have HX2 := hide (HX.out.below hb HX.out.lt)
      have HT2 := hide (HT.out.trans (Bt.below hb))
      have HO2 := hide ho.sl
      clear ho hb HNM HB HX HT y0 y1 y2 y3 y4 y5 y6 y7 y8 y9 hrl
      go_wp2_with (at_builtin; refine wpList_app rfl tyB (.tmp 67) (.tmp 71) rfl w.heap.size (n := E7.length) (m := 8) (B := wb.heap.size) (xs := bys E7) (news := bys (beN (yi) 8)) rfl rfl (by exact HB2.out.own) (by exact HO2.out) (bys_ok _) (by omega) (by omega) (by exact HB2.out.bl.size) ?_)
      intro va wa ha
      have hba := BufI.app (F := beN (yi) 8) HB2.out (beN_len _ _).symm ha
      have HX := hide (hba.2.blk HX2.out (by decide))
      have HT := hide (HT2.out.trans hba.2)
      have hB := hba.1
      clear ha hba HB2 HX2 HT2 HO2
      obtain ⟨E8, hE8⟩ : ∃ q, q = E7 ++ beN (yi) 8 := ⟨_, rfl⟩
      have HHE8 := hide hE8
      have hlE8 : E8.length ≤ E7.length + 8 := by rw [hE8]; simp only [List.length_append, beN_len] <;> omega
      rw [← hE8] at hB
      have HB := hide hB
      clear hE8 hB
      have y0 : wa.cell? ⟨rb, 0, none⟩ = some (.slice yA yn yc) := HX.out.cell 0
      have y1 : wa.cell? ⟨rb, 1, none⟩ = some (.int .i64 yf) := HX.out.cell 1
      have y2 : wa.cell? ⟨rb, 2, none⟩ = some (.int .i64 yt) := HX.out.cell 2
      have y3 : wa.cell? ⟨rb, 3, none⟩ = some (.slice yE ym yq) := HX.out.cell 3
      have y4 : wa.cell? ⟨rb, 4, none⟩ = some (.int .i64 ys) := HX.out.cell 4
      have y5 : wa.cell? ⟨rb, 5, none⟩ = some (.int .i64 yi) := HX.out.cell 5
      have y6 : wa.cell? ⟨rb, 6, none⟩ = some (.int .i64 yg) := HX.out.cell 6
      have y7 : wa.cell? ⟨rb, 7, none⟩ = some (.int .i64 yh) := HX.out.cell 7
      have y8 : wa.cell? ⟨rb, 8, none⟩ = some (.bool yp) := HX.out.cell 8
      have y9 : wa.cell? ⟨rb, 9, none⟩ = some (.bool yb) := HX.out.cell 9
      have hrl := HX.out.lt
      have HNM := hide (num_any (yh) 8 wa (by omega) (by omega))
      go_wp2_with fail
      refine HNM.out.mono ?_
      rintro e wb ⟨u, rfl, ho, hb⟩
      have HB2 := hide (HB.out.below hb)
      have HX2 := hide (HX.out.below hb HX.out.lt)
      have HT2 := hide (HT.out.trans (Bt.below hb))
      have HO2 := hide ho.sl
      clear ho hb HNM HB HX HT y0 y1 y2 y3 y4 y5 y6 y7 y8 y9 hrl
      go_wp2_with (at_builtin; refine wpList_app rfl tyB (.tmp 73) (.tmp 77) rfl w.heap.size (n := E8.length) (m := 8) (B := wb.heap.size) (xs := bys E8) (news := bys (beN (yh) 8)) rfl rfl (by exact HB2.out.own) (by exact HO2.out) (bys_ok _) (by omega) (by omega) (by exact HB2.out.bl.size) ?_)
      intro va wa ha
      have hba := BufI.app (F := beN (yh) 8) HB2.out (beN_len _ _).symm ha
      have HX := hide (hba.2.blk HX2.out (by decide))
      have HT := hide (HT2.out.trans hba.2)
      have hB := hba.1
      clear ha hba HB2 HX2 HT2 HO2
      obtain ⟨E9, hE9⟩ : ∃ q, q = E8 ++ beN (yh) 8 := ⟨_, rfl⟩
      have HHE9 := hide hE9
      have hlE9 : E9.length ≤ E8.length + 8 := by rw [hE9]; simp only [List.length_append, beN_len] <;> omega
      rw [← hE9] at hB
      have HB := hide hB
      clear hE9 hB
      go_upto_region 15 with fail
      have HX9 := HX
      have HFA : Hid (∀ Y : World, Below wa.heap.size wa Y → Calls Try.prog 60 #[.bool yp] Y fun e w' => e = .returned (.int .u8 (if yp then 1 else 0)) ∧ Below wa.heap.size wa w') := fun Y hY => (flag_any yp Y).mono (fun e w' ⟨h1, h2⟩ => ⟨h1, hY.trans (h2.mono hY.size)⟩)
      have HFC : Hid (∀ Y : World, Below wa.heap.size wa Y → Calls Try.prog 60 #[.bool yb] Y fun e w' => e = .returned (.int .u8 (if yb then 1 else 0)) ∧ Below wa.heap.size wa w') := fun Y hY => (flag_any yb Y).mono (fun e w' ⟨h1, h2⟩ => ⟨h1, hY.trans (h2.mono hY.size)⟩)
      obtain ⟨bp, hbp⟩ : ∃ b : Int, b = if yp then 1 else 0 := ⟨_, rfl⟩
      obtain ⟨bc, hbc⟩ : ∃ b : Int, b = if yb then 1 else 0 := ⟨_, rfl⟩
      rw [← hbp] at HFA HYX
      rw [← hbc] at HFC HYX
      clear hbp hbc
      have HSL : Hid (∀ (W : World) (x y z : Int), Sl (W.alloc (.cells #[.int .u8 x, .int .u8 y, .int .u8 z] bT)) (W.heap.size + 1) (.slice (some ⟨W.heap.size, 0, none⟩) 3 3) 1 3 (bys [x, y, z])) := fun W x y z =>
        Sl.of_own (Own.new (n := 3) (sz := 1) (e := bT) (base := 0) W #[.int .u8 x, .int .u8 y, .int .u8 z] (by omega) (by omega) rfl) |>.mono (by simp)
      have HAL : Hid (∀ (Y : World) (o : Obj), Below wa.heap.size wa Y → BufI w (Y.alloc o) va E9 ∧ Bt wa (Y.alloc o)) := fun Y o hY => ⟨HB.out.below (hY.alloc hY.size o), Bt.below (hY.alloc hY.size o)⟩
      have HFN : Hid (∀ (Y : World) (o : Obj) (x y z : Int) (v' : Value) (w' : World), Below wa.heap.size wa Y → App (Y.alloc o) w.heap.size bT 1 va (E9.length + 3) (bys E9 ++ bys [x, y, z]) v' w' → BufI w w' v' (E9 ++ [x, y, z]) ∧ Bt wa w') := fun Y o x y z v' w' hY ha => by
        have hz := BufI.app (F := [x, y, z]) (HAL.out Y o hY).1 rfl ha
        exact ⟨hz.1, (HAL.out Y o hY).2.trans hz.2⟩
      have HS9 : Hid (∀ Z : World, Bt wa Z → (fun X : World => X.cell? ⟨rb, 0, none⟩ = some (.slice yA yn yc) ∧ X.cell? ⟨rb, 1, none⟩ = some (.int .i64 yf) ∧ X.cell? ⟨rb, 2, none⟩ = some (.int .i64 yt) ∧ X.cell? ⟨rb, 3, none⟩ = some (.slice yE ym yq) ∧ X.cell? ⟨rb, 4, none⟩ = some (.int .i64 ys) ∧ X.cell? ⟨rb, 5, none⟩ = some (.int .i64 yi) ∧ X.cell? ⟨rb, 6, none⟩ = some (.int .i64 yg) ∧ X.cell? ⟨rb, 7, none⟩ = some (.int .i64 yh) ∧ X.cell? ⟨rb, 8, none⟩ = some (.bool yp) ∧ X.cell? ⟨rb, 9, none⟩ = some (.bool yb)) Z) := fun Z hZ => by
        have j := hZ.blk HX9.out (by decide)
        exact ⟨j.cell 0, j.cell 1, j.cell 2, j.cell 3, j.cell 4, j.cell 5, j.cell 6, j.cell 7, j.cell 8, j.cell 9⟩
      have HR0 : Hid (Bt wa wa.drew ∧ Below wa.heap.size wa wa.drew ∧ Bt wa wa ∧ Below wa.heap.size wa wa) := ⟨Bt.below ((Below.refl _ _).drewN 1), (Below.refl _ _).drewN 1, Bt.refl _, Below.refl _ _⟩
      obtain ⟨s0, s1, s2, s3, s4, s5, s6, s7, s8, s9⟩ := HS9.out wa HR0.out.2.2.1
      go_region_held3 (fun X : World => X.cell? ⟨rb, 0, none⟩ = some (.slice yA yn yc) ∧ X.cell? ⟨rb, 1, none⟩ = some (.int .i64 yf) ∧ X.cell? ⟨rb, 2, none⟩ = some (.int .i64 yt) ∧ X.cell? ⟨rb, 3, none⟩ = some (.slice yE ym yq) ∧ X.cell? ⟨rb, 4, none⟩ = some (.int .i64 ys) ∧ X.cell? ⟨rb, 5, none⟩ = some (.int .i64 yi) ∧ X.cell? ⟨rb, 6, none⟩ = some (.int .i64 yg) ∧ X.cell? ⟨rb, 7, none⟩ = some (.int .i64 yh) ∧ X.cell? ⟨rb, 8, none⟩ = some (.bool yp) ∧ X.cell? ⟨rb, 9, none⟩ = some (.bool yb)) (first
        | with_reducible exact HS9.out _ htwb
        | with_reducible exact HS9.out _ (HAL.out _ _ hbcp).2
        | with_reducible exact HS9.out _ (HAL.out _ _ hbpc).2
        | with_reducible exact HS9.out _ (Bt.below hbcp)
        | with_reducible exact HS9.out _ (Bt.below hbpc)
        | with_reducible exact HS9.out _ (Bt.below hbp1)
        | with_reducible exact HS9.out _ (Bt.below hbc1)
        | with_reducible exact HS9.out _ HR0.out.1
        | with_reducible exact HS9.out _ HR0.out.2.2.1) (first
        | (go_at_call 60; first | (refine (HFC.out _ hbp1).mono ?_; rintro e wcp ⟨rfl, hbcp⟩) | (refine (HFA.out _ hbc1).mono ?_; rintro e wpc ⟨rfl, hbpc⟩) | (refine (HFA.out _ HR0.out.2.1).mono ?_; rintro e wp ⟨rfl, hbp1⟩) | (refine (HFC.out _ HR0.out.2.1).mono ?_; rintro e wq ⟨rfl, hbc1⟩))
        | (first | (have hy := hbcp; refine step_app rfl tyB (.tmp 79) (.tmp 92) rfl w.heap.size (n := E9.length) (m := 3) (B := _) (xs := bys E9) (news := bys [_, _, _]) rfl rfl (by exact (HAL.out _ _ hy).1.own) (by exact HSL.out _ _ _ _) (bys_ok _) (by omega) (by omega) (by exact (HAL.out _ _ hy).1.bl.size) ?_; intro vwb wb ha9; have hz := HFN.out _ _ _ _ _ _ _ hy ha9; clear ha9; have hbwb := hz.1; have htwb := hz.2; clear hz) | (have hy := hbpc; refine step_app rfl tyB (.tmp 79) (.tmp 92) rfl w.heap.size (n := E9.length) (m := 3) (B := _) (xs := bys E9) (news := bys [_, _, _]) rfl rfl (by exact (HAL.out _ _ hy).1.own) (by exact HSL.out _ _ _ _) (bys_ok _) (by omega) (by omega) (by exact (HAL.out _ _ hy).1.bl.size) ?_; intro vwb wb ha9; have hz := HFN.out _ _ _ _ _ _ _ hy ha9; clear ha9; have hbwb := hz.1; have htwb := hz.2; clear hz)))
      all_goals
        have hl5 : (E9 ++ [yg % 256, bp, bc]).length ≤ 4 + (k + 1) * 2097300 := by simp only [List.length_append, List.length_cons, List.length_nil]; omega
        have HE5 : Hid (E9 ++ [yg % 256, bp, bc] = beN n 4 ++ (D.take (k + 1)).flatMap encX) := by
          show _ = _
          rw [HHE9.out, HHE8.out, HHE7.out, HHE6.out, HHE5.out, HHE4.out, HHE3.out, HHE2.out, HHE1.out, HE.out, HTX.out, HYX.out, HSK.out.2, HSA.out.2]
          simp only [List.append_assoc]
        have HI5 : Hid (BufI w wb vwb (E9 ++ [yg % 256, bp, bc])) := hbwb
        clear hbwb htwb HB HX HT HS9 HR0 HAL HFN HSL HFA HFC HYX HTX s0 s1 s2 s3 s4 s5 s6 s7 s8 s9
        go_wp2_with fail
        go_roundw
        case rel => exact ⟨k + 1, _, by omega, by simp, hl5, HE5, HI5⟩
        case measure => simp [intOf]; omega
    · have HED : Hid (E = encR D) := by
        show _ = _
        rw [HE.out, List.take_of_length_le (by rw [← HN.out]; omega), HN.out]
        rfl
      clear HE
      go_wp2_with fail
      go_ret
      exact ⟨_, rfl, by rw [← HED.out]; exact HI.out⟩
end Go.Proofs.Ytkobaidamdffmaa
