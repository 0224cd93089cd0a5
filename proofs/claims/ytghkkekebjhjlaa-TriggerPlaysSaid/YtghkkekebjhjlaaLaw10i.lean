/- TriggerPlays. -/
import Derived.Test.YtghkkekebjhjlaaLaw10h
namespace Go.Proofs.Ytghkkekebjhjlaa
open Go.RowKit
set_option linter.unusedVariables false
set_option linter.unusedSimpArgs false

theorem ptr_same (w : World) (b : Nat) : (binOp .eql 23 (.pointer (some ⟨b, 0, none⟩)) (.pointer (some ⟨b, 0, none⟩))).run Try.prog w = .ok (.bool true) w := by
  obtain ⟨j, hj, _, hz, _⟩ := info_parts (P := Try.prog) (e := mT) (z := .agg #[.int .i64 0, .int .i64 0, .int .i64 0, .bool false, .pointer none, .int .i64 0, .bool false, .bool false]) (size := 8) (bytes := 56) (by kernel_rfl)
  exact run_eql_ptr_same (w := w) ⟨b, 0, none⟩ Try.underlying23 hj

theorem join_self (w : World) (b : Nat) : Calls Try.prog 12 #[.pointer (some ⟨b, 0, none⟩), .pointer (some ⟨b, 0, none⟩)] w fun e w' => e = .returned (.int .i64 100) ∧ w = w' := by
  have hpt := ptr_same w b
  go_enter Try.func12, Try.ntmps12
  go_wp2_with fail
  go_ret
  exact ⟨rfl, rfl⟩

theorem step_any (w : World) (B bm lm base b : Nat) (v : Value) (D : List Inf) (s : Spc) (m : Mst) (k on : Int) (oo : Bool) (hM : MR w bm lm s m) (hR : RR w base b v D s m) (hG : GI D m) (hS : s.ok = true)
    (hfr : m.fr ≤ 4611686018427386904) (hD : D.length ≤ 5864062014634) (hB1 : B ≤ bm) (hB2 : B ≤ lm) (hB3 : B ≤ base) (hB4 : B ≤ b) (hB5 : B ≤ w.heap.size) (hB6 : base ≤ w.heap.size) :
    Calls Try.prog 17 #[.pointer (some ⟨bm, 0, none⟩), .pointer (some ⟨b, 0, none⟩), s.val, .agg #[.int .i64 k, .int .i64 on, .bool oo]] w (SPost w B bm lm base b s D m) := by
  by_cases k1 : k = 1
  · subst k1; exact step_1 w B bm lm base b v D s m on oo hM hR hG hS (by omega) hD hB1 hB2 hB3 hB4 hB5 hB6
  by_cases k2 : k = 2
  · subst k2; exact step_2 w B bm lm base b v D s m on oo hM hR hG hS (by omega) hD hB1 hB2 hB3 hB4 hB5 hB6
  by_cases k3 : k = 3
  · subst k3; exact step_3 w B bm lm base b v D s m on oo hM hR hG hS (by omega) hD hB1 hB2 hB3 hB4 hB5 hB6
  by_cases k4 : k = 4
  · subst k4; exact step_join w B bm lm base b v D s m on oo hM hR hG hS hfr hD hB1 hB2 hB3 hB4 hB5 hB6
  exact step_other w B bm lm base b v D s m k on oo hM hR hG hS hfr hD hB1 hB2 hB3 hB4 hB5 hB6 k1 k2 k3 k4

set_option maxHeartbeats 4000000 in
set_option maxRecDepth 100000 in
theorem plays_bad (s : Spc) (v : Value) (w : World) (h : s.ok = false) : Calls Try.prog 6 #[s.val, v] w fun e w' => e = .returned (.bool true) ∧ Below w.heap.size w w' := by
  have HE : Hid (sokE s = 100) := by simp [Hid, sokE, h]
  have H := hide h
  clear h
  obtain ⟨se, sl, st, sa⟩ := s
  simp only [Spc.val]
  go_enter Try.func6, Try.ntmps6
  go_wp2_with fail
  refine (tnew_bad _ ⟨se, sl, st, sa⟩ H.out).mono ?_
  rintro e w1 ⟨rfl, hb⟩
  have B1 : Blk w1 w.heap.size 28 #[.int .i64 se, .int .i64 sl, .int .i64 st, .bool sa] := (Blk.new _ _ _).below hb (by simp)
  have c0 := B1.cell 0
  have c1 := B1.cell 1
  have c2 := B1.cell 2
  have c3 := B1.cell 3
  have clt := B1.lt
  simp only [List.getElem?_toArray, List.getElem?_cons_succ, List.getElem?_cons_zero] at c0 c1 c2 c3
  have HB := hide (((Below.refl w.heap.size w).alloc (Nat.le_refl _) (.cells #[.int .i64 se, .int .i64 sl, .int .i64 st, .bool sa] 28)).trans (hb.mono (by simp)))
  have HX1 := hide B1
  clear hb B1
  go_wp2_with fail
  refine (right_any _ ⟨se, sl, st, sa⟩).mono ?_
  rintro e w2 ⟨rfl, hb⟩
  rw [H.out]
  have HB2 := hide (HB.out.trans (hb.mono HB.out.size))
  have B2 := HX1.out.below hb clt
  clear c0 c1 c2 c3 hb
  have c0 := B2.cell 0
  have c1 := B2.cell 1
  have c2 := B2.cell 2
  have c3 := B2.cell 3
  have clt2 := B2.lt
  simp only [List.getElem?_toArray, List.getElem?_cons_succ, List.getElem?_cons_zero] at c0 c1 c2 c3
  clear B2
  go_wp2_with fail
  refine (scheck_any _ ⟨se, sl, st, sa⟩).mono ?_
  rintro e w3 ⟨rfl, hb⟩
  rw [HE.out]
  have HB3 := hide (HB2.out.trans (hb.mono HB2.out.size))
  clear hb c0 c1 c2 c3
  go_wp2_with fail
  refine (awake10 _).mono ?_
  rintro e w4 ⟨rfl, hb⟩
  have HB4 := hide (HB3.out.trans (hb.mono HB3.out.size))
  clear hb
  go_wp2_with fail
  go_ret
  exact ⟨rfl, HB4.out⟩

set_option maxHeartbeats 16000000 in
set_option maxRecDepth 100000 in
theorem plays_ok (s : Spc) (v : Value) (T : List Op10) (n : Nat) (w : World) (h : s.ok = true) (hs : Sl w w.heap.size v 3 n (ops10 T)) (hT : T.length = n) (hn : n * 24 ≤ 140737488351232) :
    Calls Try.prog 6 #[s.val, v] w fun e w' => e = .returned (.bool true) ∧ Below w.heap.size w w' := by
  obtain ⟨A, c, rfl, hc⟩ := hs.form
  have HS := hide hs
  have HT := hide hT
  have H := hide h
  have HE : Hid (sokE s = 0) := by simp [Hid, sokE, h]
  clear h hs hT
  have hval : s.val = .agg #[.int .i64 s.e, .int .i64 s.l, .int .i64 s.t, .bool s.a] := rfl
  rw [hval]
  clear hval
  go_enter Try.func6, Try.ntmps6
  go_wp2_with fail
  refine (tnew_ok _ s H.out).mono ?_
  rintro e w1 ⟨b, l, rfl, hm, hb, hbb, hbl⟩
  simp only [World.size_alloc] at hbb hbl
  have B1 : Blk w1 w.heap.size 28 #[.int .i64 s.e, .int .i64 s.l, .int .i64 s.t, .bool s.a] := (Blk.new _ _ _).below hb (by simp)
  have c0 := B1.cell 0
  have c1 := B1.cell 1
  have c2 := B1.cell 2
  have c3 := B1.cell 3
  have clt := B1.lt
  simp only [List.getElem?_toArray, List.getElem?_cons_succ, List.getElem?_cons_zero] at c0 c1 c2 c3
  have HB1 := hide (((Below.refl w.heap.size w).alloc (Nat.le_refl _) (.cells #[.int .i64 s.e, .int .i64 s.l, .int .i64 s.t, .bool s.a] 28)).trans (hb.mono (by simp)))
  have HM1 := hide hm
  have HX1 := hide B1
  have hlm1 := hm.lt1
  have hlm2 := hm.lt2
  clear hb B1 hm
  go_wp2_with fail
  refine (right_any _ s).mono ?_
  rintro e w2 ⟨rfl, hb⟩
  rw [H.out]
  have HB2 := hide (HB1.out.trans (hb.mono HB1.out.size))
  have HM2 := hide (HM1.out.below hb)
  have B2 := HX1.out.below hb clt
  have hz2 := hb.size
  clear c0 c1 c2 c3 hb
  have c0 := B2.cell 0
  have c1 := B2.cell 1
  have c2 := B2.cell 2
  have c3 := B2.cell 3
  have clt2 := B2.lt
  simp only [List.getElem?_toArray, List.getElem?_cons_succ, List.getElem?_cons_zero] at c0 c1 c2 c3
  have HX2 := hide B2
  clear B2
  go_wp2_with fail
  refine (scheck_any _ s).mono ?_
  rintro e w3 ⟨rfl, hb⟩
  rw [HE.out]
  have HB3 := hide (HB2.out.trans (hb.mono HB2.out.size))
  have HM3 := hide (HM2.out.below hb)
  have B3 := HX2.out.below hb clt2
  have hz3 := hb.size
  clear c0 c1 c2 c3 hb
  have c0 := B3.cell 0
  have c1 := B3.cell 1
  have c2 := B3.cell 2
  have c3 := B3.cell 3
  have clt3 := B3.lt
  simp only [List.getElem?_toArray, List.getElem?_cons_succ, List.getElem?_cons_zero] at c0 c1 c2 c3
  have HX3 := hide B3
  clear B3
  go_wp2_with fail
  clear c0 c1 c2 c3
  have HR3 : Hid (RR (w3.alloc (.cells #[.int .i64 s.e, .int .i64 s.l, .int .i64 s.t, .bool s.a, .slice none 0 0, .int .i64 0, .bool false, .bool false] rT)) w3.heap.size w3.heap.size (.slice none 0 0) [] s ⟨0, 0, 0, false, false⟩) := ⟨Blk.new w3 _ _, Own.nil _ _ _ _⟩
  go_loopw [48] (fun i wr => ∃ (k : Nat) (D : List Inf) (m : Mst) (xv : Value), k ≤ n ∧ i = .int .i64 k ∧ D.length ≤ k ∧ Hid (GI D m ∧ m.fr ≤ 1000 * k) ∧ Hid (MR wr b l s m) ∧ Hid (RR wr w3.heap.size w3.heap.size xv D s m) ∧ Hid (Blk wr w.heap.size 28 #[.int .i64 s.e, .int .i64 s.l, .int .i64 s.t, .bool s.a]) ∧ Hid (Below w.heap.size w wr)) (fun i _ => n - (intOf i).toNat)
  case atStart => exact ⟨0, [], ⟨0, 0, 0, false, false⟩, _, Nat.zero_le _, rfl, by simp, ⟨GI.new, by simp⟩, HM3.out.alloc _, HR3, HX3.out.alloc _, HB3.out.alloc HB3.out.size _⟩
  case round =>
    obtain ⟨k, D, m, xv, hk, rfl, hDk, HG, HM, HR, HX, HB⟩ := hrel
    by_cases hlt : k < n
    · obtain ⟨ad, rfl, hab, h0, h1, h2⟩ := op_at (HS.out.below HB.out) hlt HT.out
      have hb2 : (ad.add (k * 3)).block < wr.heap.size := Nat.lt_of_lt_of_le hab HB.out.size
      have hkT : k < T.length := by rw [HT.out]; exact hlt
      generalize T[k] = o at h0 h1 h2
      obtain ⟨ok, on, oo⟩ := o
      simp only at h0 h1 h2
      have c0 := HX.out.cell 0
      have c1 := HX.out.cell 1
      have c2 := HX.out.cell 2
      have c3 := HX.out.cell 3
      have clt5 := HX.out.lt
      have hxl := HR.out.1.lt
      simp only [List.getElem?_toArray, List.getElem?_cons_succ, List.getElem?_cons_zero] at c0 c1 c2 c3
      go_wp2_with fail
      refine (step_any _ (w.heap.size + 1) b l w3.heap.size w3.heap.size xv D s m ok on oo (HM.out.alloc _) (HR.out.alloc _) HG.out.1 H.out (by have := HG.out.2; omega) (by omega) (by omega) (by omega) (by omega) (by omega) (by simp; omega) (by simp; omega)).mono ?_
      rintro e w5 ⟨rfl, xv5, D5, m5, hm, hr, hg, hd5, hf5, hb5⟩
      have HM5 := hide hm
      have HR5 := hide hr
      have HG5 := hide hg
      have HX5 := hide ((HX.out.alloc _).below hb5 (by omega))
      have HB5 := hide ((HB.out.alloc HB.out.size (.cells #[.int .i64 ok, .int .i64 on, .bool oo] 52)).trans (hb5.mono (by omega)))
      have HF5 := hide hf5
      clear hm hr hg hb5 hf5 c0 c1 c2 c3 h0 h1 h2
      go_wp2_with fail
      go_roundw
      case rel => exact ⟨k + 1, D5, m5, xv5, by omega, by simp, by omega, ⟨HG5.out, by have h7 := HG.out.2; have h8 := HF5.out; push_cast; omega⟩, HM5, HR5, HX5, HB5⟩
      case measure => simp [intOf]; omega
    · have hkn : k = n := by omega
      subst hkn
      go_wp2_with fail
      refine (join_self _ b).mono ?_
      rintro e w5 ⟨rfl, rfl⟩
      go_wp2_with fail
      refine (awake10 _).mono ?_
      rintro e w6 ⟨rfl, hb9⟩
      have HB6 := hide (HB.out.trans (hb9.mono HB.out.size))
      clear hb9
      go_wp2_with fail
      go_ret
      exact ⟨rfl, HB6.out⟩

end Go.Proofs.Ytghkkekebjhjlaa
