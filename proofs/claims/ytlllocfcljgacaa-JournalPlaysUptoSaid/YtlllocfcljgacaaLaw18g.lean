/- JournalPlays: the walk. -/
import Derived.Test.YtlllocfcljgacaaPlays18b
import Derived.Test.YtlllocfcljgacaaLaw18e
import Derived.Deep.CutRange
import Derived.Deep.CutBlock
import Derived.Deep.RegionHeld3
namespace Go.Proofs.Ytlllocfcljgacaa
open Go.RowKit
set_option linter.unusedVariables false
set_option linter.unusedSimpArgs false

theorem tp_len_m {w : World} {base b m : Nat} {c sf : Int} {L : List (List Int)} (h : TP w base b c L sf) (hm : m = L.length) : Calls Try.prog 13 #[.pointer (some ⟨b, 0, none⟩)] w fun e w' => e = .returned (.int .i64 m) ∧ w' = w := by
  refine (tp_len h).mono ?_
  rintro e w' ⟨rfl, rfl⟩
  rw [hm]
  exact ⟨rfl, rfl⟩
theorem below_put {w0 w : World} {B : Nat} (hb : Below B w0 w) {p : Addr} (hp : B ≤ p.block) (hB : B ≤ w.heap.size) (u : Value) : Below B w0 (w.setCell p u) :=
  hb.trans (Fr.below (S := fun k => k = p.block) (Fr.put (S := fun k => k = p.block) (Fr.refl _ w) (.inl rfl) u) hB (fun k hk h => by omega))
theorem sync_m {w : World} {base b m : Nat} {bv ev : Value} {c sf : Int} {L : List (List Int)} (h : JR w base b bv ev c (framesL L) (endsL 0 L) sf) (hm : m = L.length) :
    Calls Try.prog 21 #[.pointer (some ⟨b, 0, none⟩)] w fun e w' => e = .returned (.int .i64 m) ∧ JR w' base b bv ev c (framesL L) (endsL 0 L) (framesL L).length ∧ Fr (WJ b bv ev) w w' := by
  refine (sync_any w base b bv ev c sf L h).mono ?_
  rintro e w' ⟨rfl, hj, hf⟩
  rw [hm]
  exact ⟨rfl, hj, hf.mono (fun k _ hk => .inl hk)⟩
theorem St.drewN1 {w : World} {base bj bx : Nat} {bv ev rv : Value} {R : List Rec} {s : Nat} {c : Int} (h : St w base bj bx bv ev rv R s c) : St (w.drewN 1) base bj bx bv ev rv R s c :=
  ⟨h.hj, h.hx, h.sep, h.sle, h.fit, h.by8, h.b1, h.b2⟩
abbrev opT : Nat := 50

set_option maxRecDepth 100000 in
set_option maxHeartbeats 16000000 in
theorem plays_ok (cap : Int) (v : Value) (S : List Op18) (n B : Nat) (w : World) (hs : Sl w B v 3 n (ops18 S)) (hS : S.length = n) (ho : OpsR w B S) (ht : totS S ≤ 100000000) (hB : B ≤ w.heap.size) (h1 : 0 ≤ cap) (h2 : cap ≤ 1073741824) (hbig : totS S ≤ 262144 ∧ n ≤ 200) (h8 : ∀ o ∈ S, ∀ r ∈ o.z.2, Bytes8 r.2) :
    Calls Try.prog 7 #[.int .i64 cap, v] w fun e w' => e = .returned (.bool true) ∧ Below w.heap.size w w' := by
  obtain ⟨A, c, rfl, hc⟩ := hs.form
  have hmax := hs.max
  have HS := hide hs
  have HSL := hide hS
  have HO := hide ho
  have H8 := hide h8
  clear hs hS ho h8
  go_enter Try.func7, Try.ntmps7
  go_wp2_with fail
  refine (jnew_ok _ cap h1 h2).mono ?_
  rintro e w1 ⟨rfl, rfl⟩
  have HB1 := hide ((Below.refl w.heap.size w).alloc (Nat.le_refl _) (.cells #[.int .i64 cap, .slice none 0 0, .slice none 0 0, .int .i64 0] jT))
  have HJ1 := hide (JR.new w w.heap.size cap)
  generalize hW1 : w.alloc (.cells #[.int .i64 cap, .slice none 0 0, .slice none 0 0, .int .i64 0] jT) = w1 at *
  clear hW1
  go_wp2_with fail
  go_loopw [7, 51] (fun t i wr => ∃ (k : Nat), k ≤ n ∧ i = .int .i64 k ∧ t = .int .i64 (totS (S.take k) : Nat) ∧ Hid (Below w.heap.size w wr) ∧ Hid (JR wr w.heap.size w.heap.size (.slice none 0 0) (.slice none 0 0) cap [] [] 0)) (fun _ i _ => n - (intOf i).toNat)
  case atStart => exact ⟨0, Nat.zero_le _, rfl, rfl, HB1.out, HJ1.out⟩
  case round =>
    obtain ⟨k, hk, rfl, rfl, HB, HJ⟩ := hrel
    have hzr := HB.out.size
    by_cases hlt : k < n
    · have hkS : k < S.length := by rw [HSL.out]; exact hlt
      obtain ⟨ad, rfl, hab, c0, c1, c2⟩ := op_at (HS.out.below (HB.out.mono hB)) hlt HSL.out
      have HT := hide (totS_snoc S k hkS)
      have hle := totS_le S (k + 1)
      rw [HT.out] at hle
      have HRo := hide ((HO.out S[k] (List.getElem_mem hkS)).below (HB.out.mono hB))
      generalize S[k] = o at c0 c1 c2 HT hle HRo
      obtain ⟨ok, okp, oz⟩ := o
      obtain ⟨ov, oR⟩ := oz
      simp only at c0 c1 c2 HT hle HRo
      obtain ⟨oA, oc, rfl, hoc⟩ := HRo.out.1.form
      have hb2 : (ad.add (k * 3)).block < wr.heap.size := by omega
      obtain ⟨rn, hrn⟩ : ∃ rn, rn = oR.length := ⟨_, rfl⟩
      have HRN := hide hrn
      rw [← hrn] at c2 hoc
      clear hrn
      obtain ⟨T0, hT0⟩ : ∃ T0, T0 = totS (S.take k) := ⟨_, rfl⟩
      rw [← hT0] at HT hle ⊢
      clear hT0
      go_wp2_with fail
      have HB2 := hide (HB.out.alloc hzr (.cells #[.int .i64 ok, .int .i64 okp, .slice oA rn oc] 50))
      have HR2 := hide (HRo.out.below ((Below.refl B wr).alloc (by omega) (.cells #[.int .i64 ok, .int .i64 okp, .slice oA rn oc] 50)))
      have HJ2 := hide (HJ.out.alloc (.cells #[.int .i64 ok, .int .i64 okp, .slice oA rn oc] 50))
      generalize wr.alloc (.cells #[.int .i64 ok, .int .i64 okp, .slice oA rn oc] 50) = w2 at *
      have HR2s := hide HR2.out.1
      rw [← HRN.out] at HR2s
      have hrmax := HR2s.out.max
      go_loopw [7, 58] (fun t i wz => ∃ (j : Nat), j ≤ rn ∧ i = .int .i64 j ∧ t = .int .i64 ((T0 + totB (oR.take j) : Nat)) ∧ wz = w2) (fun _ i _ => rn - (intOf i).toNat)
      case atStart => exact ⟨0, Nat.zero_le _, rfl, by simp [totB], rfl⟩
      case round =>
        obtain ⟨j, hj, rfl, rfl, rfl⟩ := hrel
        by_cases hltj : j < rn
        · have hjR : j < oR.length := by rw [← HRN.out]; exact hltj
          have hsl := HR2s.out
          obtain ⟨ad2, rfl, hab2, g0⟩ := rec_at hsl hltj HRN.out.symm
          have HRK := hide (HR2.out.2 oR[j] (List.getElem_mem hjR))
          have HTj := hide (totB_snoc oR j hjR)
          have hlej := totB_le oR (j + 1)
          rw [HTj.out] at hlej
          generalize oR[j] = r at g0 HRK HTj hlej
          obtain ⟨rv, rd⟩ := r
          simp only at g0 HRK HTj hlej
          obtain ⟨rA, rc, rfl, hrc⟩ := HRK.out.form
          clear hsl
          go_wp2_with fail
          go_roundw
          case rel => exact ⟨j + 1, by omega, by simp, by rw [HTj.out]; first | omega | (simp <;> omega), trivial⟩
          case measure => simp [intOf]; omega
        · have hjn : j = oR.length := by rw [← HRN.out]; omega
          have HTJ : Hid (T0 + totB (oR.take j) = totS (S.take (k + 1))) := by rw [Hid, HT.out, hjn, List.take_length]
          rw [HTJ.out]
          go_wp2_with fail
          go_roundw
          case rel => exact ⟨k + 1, by omega, by simp, rfl, HB2.out, HJ2.out⟩
          case measure => simp [intOf]; omega
    · have hkn : k = n := by omega
      have hT : totS (S.take k) = totS S := by rw [List.take_of_length_le (by rw [HSL.out]; omega)]
      rw [hT]
      obtain ⟨T, hTT⟩ : ∃ T, T = totS S := ⟨_, rfl⟩
      rw [← hTT] at hbig ht ⊢
      have HTT := hide hTT
      clear hT hTT
      subst hkn
      obtain ⟨hT1, hT2⟩ := hbig
      go_wp2_with fail
      have HX : Hid (Blk (wr.alloc (.cells #[.slice none 0 0, .int .i64 0, .int .i64 cap] xT)) wr.heap.size xT #[.slice none 0 0, .int .i64 0, .int .i64 cap]) := Blk.new wr _ _
      have HBX := hide (HB.out.alloc hzr (.cells #[.slice none 0 0, .int .i64 0, .int .i64 cap] xT))
      have HJX := hide (HJ.out.alloc (.cells #[.slice none 0 0, .int .i64 0, .int .i64 cap] xT))
      generalize wr.alloc (.cells #[.slice none 0 0, .int .i64 0, .int .i64 cap] xT) = w3 at *
      generalize wr.heap.size = xb at *
      go_loopw [82] (fun i wz => ∃ (q : Nat) (bv ev rv : Value) (R : List Rec) (s : Nat), q ≤ k ∧ i = .int .i64 q ∧ Hid ((framesL (R.map (·.2))).length ≤ totS (S.take q)) ∧ Hid (((framesL (R.map (·.2))).length : Int) ≤ cap) ∧ Hid (St wz w.heap.size w.heap.size xb bv ev rv R s cap) ∧ Hid (Below w.heap.size w wz)) (fun i _ => k - (intOf i).toNat)
      case atStart => exact ⟨0, _, _, .slice none 0 0, [], 0, Nat.zero_le _, rfl, by simp [Hid, framesL], by simpa [Hid, framesL] using h1, ⟨HJX.out, ⟨HX.out, Own.nil _ _ _ _, by simp⟩, by simp, by simp, (fun r hr => by cases hr), by simp, Nat.le_refl _, hzr⟩, HBX.out⟩
      case round =>
        obtain ⟨q, bv, ev, rv, R, s, hq, rfl, HTR, HCR, HST, HBZ⟩ := hrel
        by_cases hlt2 : q < k
        · have hkS : q < S.length := by rw [HSL.out]; exact hlt2
          obtain ⟨ad, rfl, hab, c0, c1, c2⟩ := op_at (HS.out.below (HBZ.out.mono hB)) hlt2 HSL.out
          have hzz := HBZ.out.size
          have hb2 : (ad.add (q * 3)).block < wr.heap.size := by omega
          have HTs := hide (totS_snoc S q hkS)
          have hto := totS_le S (q + 1)
          rw [HTs.out, ← HTT.out] at hto
          have htr := HTR.out
          have HR0 := hide (HO.out S[q] (List.getElem_mem hkS))
          have H8o := hide (H8.out S[q] (List.getElem_mem hkS))
          generalize S[q] = o at c0 c1 c2 HR0 H8o hto HTs
          obtain ⟨ok, okp, oz⟩ := o
          obtain ⟨ov, oR⟩ := oz
          simp only at c0 c1 c2 HR0 H8o hto HTs
          obtain ⟨oA, oc, rfl, hoc⟩ := HR0.out.1.form
          have hcnt := totB_count oR
          have HLo : Hid (∀ r ∈ oR, r.2.length ≤ 1048576) := fun r hr => by have := totB_mem hr; omega
          obtain ⟨on, hon⟩ : ∃ on, on = oR.length := ⟨_, rfl⟩
          rw [← hon] at c2 hoc hcnt
          have HON := hide hon
          clear hon
          go_upto_block 6 with fail
          have HB2 := hide (HBZ.out.alloc hzz (.cells #[.int .i64 ok, .int .i64 okp, .slice oA on oc] 50))
          have HST2 := hide (HST.out.below ((Below.refl _ wr).alloc (Nat.le_refl _) (.cells #[.int .i64 ok, .int .i64 okp, .slice oA on oc] 50)))
          have HOP2 : Hid (Blk (wr.alloc (.cells #[.int .i64 ok, .int .i64 okp, .slice oA on oc] 50)) wr.heap.size opT #[.int .i64 ok, .int .i64 okp, .slice oA on oc]) := Blk.new wr _ _
          have hz2 : (wr.alloc (.cells #[.int .i64 ok, .int .i64 okp, .slice oA on oc] 50)).heap.size = wr.heap.size + 1 := by simp
          generalize wr.alloc (.cells #[.int .i64 ok, .int .i64 okp, .slice oA on oc] 50) = w2 at *
          generalize wr.heap.size = ob at *
          clear HST HBZ c0 c1 c2
          go_cut [82] from 82 to 225 (fun i wz => i = .int .i64 q ∧ ∃ (bv ev rv : Value) (R : List Rec) (s : Nat), Hid ((framesL (R.map (·.2))).length ≤ totS (S.take (q + 1))) ∧ Hid (((framesL (R.map (·.2))).length : Int) ≤ cap) ∧ Hid (St wz w.heap.size w.heap.size xb bv ev rv R s cap) ∧ Hid (Below w.heap.size w wz))
          case first =>
            have d1 : w2.cell? ⟨ob, 1, none⟩ = some (.int .i64 okp) := HOP2.out.cell 1
            have d2 : w2.cell? ⟨ob, 2, none⟩ = some (.slice oA on oc) := HOP2.out.cell 2
            have hob : ob < w2.heap.size := by omega
            have hzB := HB2.out.size
            have hge := framesL_ge (R.map (·.2))
            rw [List.length_map] at hge
            by_cases hk1 : ok = 1
            · subst hk1
              have hRn := HR0.out.below (HB2.out.mono hB)
              rw [← HON.out] at hRn
              have HRn := hide hRn
              clear hRn
              go_wp2_with fail
              refine (copied_any _ oR B w2 HRn.out (by rw [← HON.out]; omega) HLo.out (by omega)).mono ?_
              rintro e w4 ⟨u1, Q1, rfl, ho1, he1, hb1⟩
              have hz4 := hb1.size
              have hqn : Q1.length = on := by rw [len_eq he1, ← HON.out]
              obtain ⟨uA, uc, rfl, huc⟩ := ho1.1.sl.form
              rw [hqn] at huc ho1 ⊢
              have HO1 := hide ho1
              have HE1 := hide he1
              have HBb1 := hide hb1
              have HQ8 : Hid (∀ r ∈ Q1, r.2.length ≤ 1048576 ∧ Bytes8 r.2) := all_eq (p := fun l => l.length ≤ 1048576 ∧ Bytes8 l) he1 (fun r hr => ⟨HLo.out r hr, H8o.out r hr⟩)
              have hfq : (framesL (Q1.map (·.2))).length ≤ totB oR := by
                rw [he1, ← frames_L]
                exact frames_le oR HLo.out
              have HFQ := hide hfq
              have HQN := hide hqn
              have HST4 := hide (HST2.out.below hb1)
              have HB4 := hide (HB2.out.trans (hb1.mono hzB))
              have HOP4 := hide (HOP2.out.below hb1 HOP2.out.lt)
              clear ho1 he1 hb1 hqn hfq d1 d2
              go_wp2_with fail
              refine (append_either w4 w.heap.size w.heap.size bv ev cap _ _ _ _ Q1 w4.heap.size HST4.out.hj HO1.out.read (Nat.le_refl _) (by rw [HQN.out]; omega) HQ8.out (by omega) h2 (by omega) (by rw [endsL_len, List.length_map]; omega) (by rw [frames_L]; have := HFQ.out; omega)).mono ?_
              rintro e w5 ⟨z, bv', ev', rfl, ha5⟩
              have HA5 := hide ha5
              have hz5 := ha5.1.size
              have hop5 := ha5.1.blk HOP4.out (by
                rintro (h9 | h9 | h9)
                · exact HOP4.out.apart HST4.out.hj.1 (by decide) h9
                · exact HST4.out.hj.2.1.ne HOP4.out (by decide) h9
                · exact HST4.out.hj.2.2.ne HOP4.out (by decide) h9)
              have d2 : w5.cell? ⟨ob, 2, none⟩ = some (.slice oA on oc) := hop5.cell 2
              have hob5 : ob < w5.heap.size := by omega
              have HB5 : Hid (Below w.heap.size w w5) := HB4.out.trans (ha5.1.below (by omega) (by
                rintro k9 hk9 (h9 | h9 | h9)
                · omega
                · have := (HST4.out.hj.2.1.lt k9 h9).1; omega
                · have := (HST4.out.hj.2.2.lt k9 h9).1; omega))
              have hRn := HR0.out.below (HB5.out.mono hB)
              rw [← HON.out] at hRn
              have HRn5 := hide hRn
              have HX5 := hide (HST4.out.hx.frJ HST4.out.hj HST4.out.sep ha5.1)
              clear hRn hop5 ha5
              go_wp2_with fail
              refine (copied_any _ oR B w5 HRn5.out (by rw [← HON.out]; omega) HLo.out (by omega)).mono ?_
              rintro e w6 ⟨u3, Q3, rfl, ho3, he3, hb3⟩
              have hz6 := hb3.size
              have HO3 := hide ho3
              have HE3 := hide he3
              have HBb3 := hide hb3
              have HX6 := hide (HX5.out.below hb3)
              have HQ38 : Hid (∀ r ∈ Q3, Bytes8 r.2) := all_eq (p := Bytes8) he3 H8o.out
              have HQ3f : Hid (Fit (Q3.map (·.2))) := by
                intro r hr
                rw [he3] at hr
                obtain ⟨p, hp, rfl⟩ := List.mem_map.1 hr
                exact HLo.out p hp
              have HFY : Hid ((framesL (Q3.map (·.2))).length ≤ totB oR) := by
                rw [Hid, he3, ← HE1.out]
                exact HFQ.out
              have HQ1f : Hid (Fit (Q1.map (·.2))) := by
                have h9 := HQ3f.out
                rw [he3, ← HE1.out] at h9
                exact h9
              obtain ⟨u3A, u3c, rfl, hu3c⟩ := ho3.1.sl.form
              clear ho3 he3 hb3 d2
              go_wp2_with fail
              refine (rappend_either w6 w.heap.size xb rv R s cap _ Q3 HX6.out ⟨HO3.out.1.lower (by omega), fun r hr => (HO3.out.2 r hr).lower (by omega)⟩ HST2.out.fit HST2.out.by8 HQ3f.out HQ38.out (by omega) (by have := HFY.out; omega) (by omega)).mono ?_
              rintro e w7 ⟨z', rv', rfl, ha7⟩
              obtain ⟨hzz', R', hI, hlR, hcR, hb7⟩ := HST2.out.both HO1.out HBb1.out HA5.out HO3.out HBb3.out (HE3.out.trans HE1.out.symm) ha7 HQ1f.out HQ38.out HCR.out (by omega)
              subst hzz'
              have HI7 := hide hI
              have HB7 := hide (HB4.out.trans hb7)
              have HLR := hide hlR
              have HCR' := hide hcR
              clear hI hlR hcR hb7 ha7
              go_wp2_with fail
              go_loopw [105] (fun i wz => ∃ (j : Nat), j ≤ on ∧ i = .int .i64 j ∧ Hid (Inc wz w.heap.size w.heap.size xb bv' ev' rv' R' s cap w2.heap.size (.slice uA on uc) Q1) ∧ Hid (Below w.heap.size w wz)) (fun i _ => on - (intOf i).toNat)
              case atStart => exact ⟨0, Nat.zero_le _, rfl, HI7.out, HB7.out⟩
              case round =>
                obtain ⟨j, hj, rfl, HI, HBj⟩ := hrel
                by_cases hltj : j < on
                · have hjQ : j < Q1.length := by rw [HQN.out]; exact hltj
                  have hrow := HI.out.row.sl
                  rw [HQN.out] at hrow
                  obtain ⟨ad2, rfl, hab2, g0⟩ := rec_at hrow hltj HQN.out
                  have HMEM := hide (List.getElem_mem hjQ)
                  have HBS := hide (HI.out.byt _ HMEM.out)
                  generalize Q1[j] = r at g0 HBS HMEM
                  obtain ⟨rv2, rd⟩ := r
                  simp only at g0 HBS HMEM
                  obtain ⟨rA, rc, rfl, hrc⟩ := HBS.out.form
                  obtain ⟨ln, hln⟩ : ∃ ln, ln = rd.length := ⟨_, rfl⟩
                  rw [← hln] at hrc g0 HBS HMEM
                  have HLN := hide hln
                  have hlnm : ln ≤ 1048576 := by rw [hln]; exact (HQ8.out _ HMEM.out).1
                  clear hln hrow
                  go_wp2_with fail
                  go_loopw [111] (fun i wz => ∃ (m : Nat), m ≤ ln ∧ i = .int .i64 m ∧ Hid (Inc wz w.heap.size w.heap.size xb bv' ev' rv' R' s cap w2.heap.size (.slice (some ad2) on uc) Q1) ∧ Hid (Below w.heap.size w wz)) (fun i _ => ln - (intOf i).toNat)
                  case atStart => exact ⟨0, Nat.zero_le _, rfl, HI.out, HBj.out⟩
                  case round =>
                    obtain ⟨m, hm, rfl, HIm, HBm⟩ := hrel
                    by_cases hltm : m < ln
                    · have hb3 := HIm.out.byt _ HMEM.out
                      simp only at hb3
                      rw [← HLN.out] at hb3
                      obtain ⟨ad3, y, rfl, e0, ef, elt, ege⟩ := hb3.at hltm
                      clear hb3
                      go_wp2_with fail
                      go_roundw
                      case rel => exact ⟨m + 1, by omega, by simp, HIm.out.set HMEM.out HLN.out.symm hltm _, below_put HBm.out (by omega) HBm.out.size _⟩
                      case measure => simp [intOf]; omega
                    · go_wp2_with fail
                      go_roundw
                      case rel => exact ⟨j + 1, by omega, by simp, HIm.out, HBm.out⟩
                      case measure => simp [intOf]; omega
                · go_wp2_with fail
                  go_meet
                  case rel =>
                    refine ⟨rfl, bv', ev', rv', R', s, ?_, HCR'.out, HI.out.st, HBj.out⟩
                    have h9 := HLR.out
                    have h10 := HFQ.out
                    have h11 := HTs.out
                    show _ ≤ _
                    omega
            · have HSEP := hide HST2.out.sep
              obtain ⟨xA, xc, rfl, hxc⟩ := HST2.out.hx.2.1.sl.form
              obtain ⟨rn, hrn⟩ : ∃ rn, rn = R.length := ⟨_, rfl⟩
              have HRN := hide hrn
              have HML : Hid (rn = (R.map (·.2)).length) := by rw [Hid, List.length_map]; exact hrn
              have HXR : Hid (RT w2 w.heap.size xb (.slice xA rn xc) R s cap) := by rw [hrn]; exact HST2.out.hx
              rw [← hrn] at hxc hge
              clear hrn
              have hxlt := HXR.out.1.lt
              have hX262 : (framesL (R.map (·.2))).length ≤ 262144 := by omega
              have HX2 := hide hX262
              by_cases hk2 : ok = 2
              · subst hk2
                have e0 : w2.cell? ⟨xb, 0, none⟩ = some (.slice xA rn xc) := HXR.out.1.cell 0
                have e1 : w2.cell? ⟨xb, 1, none⟩ = some (.int .i64 s) := HXR.out.1.cell 1
                have q1 := HXR.out.1.frozen 1
                go_wp2_with fail
                have HX5 : Hid (RT (w2.setCell ⟨xb, 1, none⟩ (.int .i64 rn)) w.heap.size xb (.slice xA rn xc) R rn cap) := by
                  have h0 := HXR.out
                  exact ⟨h0.1.put 1 _, h0.2.1.put (h0.2.1.ne h0.1 (by decide)) _, fun r hr => (h0.2.2 r hr).put ((h0.2.2 r hr).ne h0.1 (by decide)) _⟩
                have HF5 : Hid (Fr (fun k => k = xb ∨ (Value.slice xA rn xc).ownBlock = some k) w2 (w2.setCell ⟨xb, 1, none⟩ (.int .i64 rn))) := (Fr.refl _ w2).put (.inl (.inl rfl)) _
                have HJ5 := hide (HST2.out.hj.frX HXR.out HF5.out)
                have HB5 : Hid (Below w.heap.size w (w2.setCell ⟨xb, 1, none⟩ (.int .i64 rn))) := HB2.out.trans (HF5.out.below (by omega) (by
                  rintro k9 hk9 (h9 | h9)
                  · have := HST2.out.b2; omega
                  · have := (HXR.out.2.1.lt k9 h9).1; omega))
                have hxlt5 := HX5.out.1.lt
                generalize w2.setCell ⟨xb, 1, none⟩ (.int .i64 rn) = w5 at *
                clear e0 e1 q1
                have e1 : w5.cell? ⟨xb, 1, none⟩ = some (.int .i64 rn) := HX5.out.1.cell 1
                go_region_held3 (fun w' : World => w'.cell? ⟨xb, 0, none⟩ = some (.slice xA rn xc) ∧ w'.cell? ⟨xb, 1, none⟩ = some (.int .i64 rn) ∧ RT w' w.heap.size xb (.slice xA rn xc) R rn cap) (first
                    | exact HX5.out.keep
                    | exact ((HX5.out.drewN 1).frJ (HJ5.out.drewN 1) HSEP.out hf6).keep) (first
                  | (go_at_call 21; refine (sync_m (HJ5.out.drewN 1) HML.out).mono ?_; rintro e w6 ⟨rfl, hj6, hf6⟩))
                have HX6 := hide ((HX5.out.drewN 1).frJ (HJ5.out.drewN 1) HSEP.out hf6)
                have HJ6 := hide hj6
                have HB6 : Hid (Below w.heap.size w w6) := (HB5.out.drewN 1).trans (hf6.below (by have := HB5.out.size; exact this) (by
                  rintro k9 hk9 (h9 | h9 | h9)
                  · omega
                  · have := (HST2.out.hj.2.1.lt k9 h9).1; omega
                  · have := (HST2.out.hj.2.2.lt k9 h9).1; omega))
                clear hj6 hf6
                go_wp2_with fail
                go_meet
                case rel =>
                  refine ⟨rfl, bv, ev, .slice xA R.length xc, R, R.length, by have h9 := HTR.out; have h11 := HTs.out; show _ ≤ _; omega, HCR.out, St.all HJ6.out ?_ HSEP.out HST2.out.fit HST2.out.by8 HST2.out.b1 HST2.out.b2, HB6.out⟩
                  have h9 := HX6.out
                  rw [HRN.out] at h9
                  exact h9
              · by_cases hk3 : ok = 3
                · subst hk3
                  obtain ⟨x, hx⟩ : ∃ x, x = (framesL (R.map (·.2))).length := ⟨_, rfl⟩
                  obtain ⟨y, hy⟩ : ∃ y, y = (framesL ((R.map (·.2)).take s)).length := ⟨_, rfl⟩
                  have hyx := framesL_take (R.map (·.2)) s
                  rw [← hx, ← hy] at hyx
                  obtain ⟨nn, hnn⟩ : ∃ nn : Nat, (nn : Int) = y + min (max okp 0) (x - y) := ⟨((y : Int) + min (max okp 0) (x - y)).toNat, by omega⟩
                  rw [hx, hy] at hnn
                  have HNN := hide hnn
                  have HXY := hide (And.intro hx hy)
                  have hsle := HST2.out.sle
                  obtain ⟨t, ht1, ht2, ht3, _, _⟩ := crash_spec (R.map (·.2)) s nn okp HST2.out.fit (by
                    intro r hr
                    obtain ⟨p, hp, rfl⟩ := List.mem_map.1 hr
                    exact HST2.out.by8 p hp) (by rw [List.length_map]; exact hsle) hnn
                  have HT1 := hide ht1
                  have HL8 : Hid (∀ r ∈ R.map (·.2), Bytes8 r) := by
                    intro r hr
                    obtain ⟨p, hp, rfl⟩ := List.mem_map.1 hr
                    exact HST2.out.by8 p hp
                  have HSY : Hid ((0 : Int) ≤ ((framesL ((R.map (·.2)).take s)).length : Int) ∧ ((framesL ((R.map (·.2)).take s)).length : Int) ≤ (framesL (R.map (·.2))).length) := ⟨by omega, by rw [← hx, ← hy]; omega⟩
                  have hsl2 : s ≤ R.length := hsle
                  have HSL2 := hide hsl2
                  have hlt9 : (framesL ((R.map (·.2)).take t)).length ≤ (framesL (R.map (·.2))).length := framesL_take _ t
                  have HLT9 := hide hlt9
                  clear hx hy hnn ht1 hsle hsl2 hlt9
                  go_wp2_with fail
                  go_region_held3 (fun w' : World => w'.cell? ⟨ob, 1, none⟩ = some (.int .i64 okp) ∧ Blk w' ob opT #[.int .i64 3, .int .i64 okp, .slice oA on oc]) (first
                      | exact ⟨HOP2.out.cell 1, HOP2.out⟩
                      | exact ⟨hop5.cell 1, hop5⟩
                      | exact ⟨hop6.cell 1, hop6⟩) (first
                    | (go_at_call 22; refine (crash_any _ w.heap.size w.heap.size nn bv ev cap _ okp (R.map (·.2)) (HST2.out.hj.drewN 1) HL8.out (by have := HX2.out; omega) HSY.out HNN.out (by exact hzB)).mono ?_; rintro e w5 ⟨rfl, bv', ev', hj5, hf5, hbv⟩; have hop5 : Blk w5 ob opT #[.int .i64 3, .int .i64 okp, .slice oA on oc] := hf5.blk (HOP2.out.drewN 1) (fun h9 => HOP2.out.apart HST2.out.hj.1 (by decide) h9); have hx5 := (HXR.out.drewN 1).frJ (HST2.out.hj.drewN 1) HSEP.out (hf5.mono (fun k _ hk => .inl hk)))
                    | (go_at_call 24; refine (rcrash_any w5 w.heap.size xb _ R s nn cap okp hx5 HSL2.out HST2.out.fit HST2.out.by8 (by have := HX2.out; omega) HNN.out).mono ?_; rintro e w6 ⟨rfl, ⟨rv', R', hx6, ho6, he6⟩, hf6⟩; have hop6 : Blk w6 ob opT #[.int .i64 3, .int .i64 okp, .slice oA on oc] := hf6.blk hop5 (fun h9 => HOP2.out.apart HXR.out.1 (by decide) h9)))
                  rw [HT1.out] at hj5 he6
                  have HST6 := hide (HST2.out.drewN1.crash hj5 hf5 hbv hx6 ho6 he6 hf6 (by exact hzB))
                  have HB6 : Hid (Below w.heap.size w w6) := ((HB2.out.drewN 1).trans (hf5.below (by exact hzB) (fun k9 h8 h9 => by omega))).trans (hf6.below (by have := hf5.size; exact Nat.le_trans hzB this) (fun k9 h8 h9 => by have := HST2.out.b2; omega))
                  have HE6 := hide he6
                  clear hj5 hf5 hbv hx6 ho6 he6 hf6 hop5 hop6 hx5
                  go_wp2_with fail
                  go_meet
                  case rel =>
                    refine ⟨rfl, bv', ev', rv', R', R'.length, ?_, ?_, HST6.out, HB6.out⟩
                    · rw [HE6.out]
                      have h9 := HTR.out
                      have h10 := HLT9.out
                      have h11 := HTs.out
                      show _ ≤ _
                      omega
                    · rw [HE6.out]
                      have h9 := HCR.out
                      have h10 := HLT9.out
                      show _ ≤ _
                      omega
                · by_cases hk4 : ok = 4
                  · subst hk4
                    have HTP := hide HST2.out.tp
                    have HFit := hide HST2.out.fit
                    have HL8 : Hid (∀ r ∈ R.map (·.2), Bytes8 r) := by
                      intro r hr
                      obtain ⟨p, hp, rfl⟩ := List.mem_map.1 hr
                      exact HST2.out.by8 p hp
                    go_wp2_with fail
                    refine (tp_bytes HTP.out (by have := HX2.out; omega)).mono ?_
                    rintro e w4 ⟨u4, rfl, ho4, hb4⟩
                    have HO4 := hide ho4.sl
                    have HB4 := hide (HB2.out.trans (hb4.mono hzB))
                    have hz4 := hb4.size
                    have HX4 := hide (HXR.out.below hb4)
                    have HST4 := hide (HST2.out.below hb4)
                    obtain ⟨uA, uc, rfl, huc⟩ := ho4.sl.form
                    clear ho4 hb4
                    have HSC : Hid (scanB (framesL (R.map (·.2))) = R.map (·.2)) := scan_all _ HFit.out
                    go_wp2_with fail
                    refine (load_ok w4 cap _ (framesL (R.map (·.2))) _ HO4.out (framesL_bytes8 HL8.out) h1 h2 (by have := HCR.out; omega) (Nat.le_refl _)).mono ?_
                    rw [HSC.out]
                    rintro e w5 ⟨g, rfl, hk5, hb5⟩
                    have hz5 := hb5.size
                    have HK5 := hide hk5
                    have HKS : Hid (TP w5 w4.heap.size g cap (R.map (·.2)) (framesL ((R.map (·.2)).take rn)).length) := by
                      rw [Hid, HML.out, List.take_length]
                      exact hk5
                    have HX5 := hide (HX4.out.below hb5)
                    have HST5 := hide (HST4.out.below hb5)
                    have HB5 := hide (HB4.out.trans (hb5.mono (by omega)))
                    have hxlt5 := HX5.out.1.lt
                    have e0 : w5.cell? ⟨xb, 0, none⟩ = some (.slice xA rn xc) := HX5.out.1.cell 0
                    have e1 : w5.cell? ⟨xb, 1, none⟩ = some (.int .i64 s) := HX5.out.1.cell 1
                    clear hk5 hb5
                    have hsub : IntKind.i64.wrap (((framesL (R.map (·.2))).length : Int) - (framesL (R.map (·.2))).length) = 0 := by
                      rw [Int.sub_self]; rfl
                    go_wp2_with fail
                    go_region_held3 (fun w' : World => w'.cell? ⟨xb, 0, none⟩ = some (.slice xA rn xc) ∧ w'.cell? ⟨xb, 1, none⟩ = some (.int .i64 s) ∧ RT w' w.heap.size xb (.slice xA rn xc) R s cap) (first
                        | exact HX5.out.keep
                        | exact ((HX5.out.drewN 1).below hb6).keep) (first
                      | (go_at_call 17; refine (tp_records _ _ g _ _ (R.map (·.2)) (by first | exact HK5.out.drew | exact HK5.out.drewN _ | exact HK5.out) HFit.out HL8.out (by have := HX2.out; omega)).mono ?_; rintro e w6 ⟨u6, Q6, rfl, ho6, he6, hb6⟩; obtain ⟨yA, yc, rfl, hyc⟩ := ho6.1.sl.form)
                      | (go_at_call 16; refine (same18 _ _ Q6 R w6.heap.size _ ho6.read ((HX5.out.drewN 1).below hb6).2.read (fun r hr => HL8.out _ (by rw [← he6]; exact List.mem_map_of_mem hr)) (fun r hr => HST5.out.by8 r hr)).mono ?_; rintro e w7 ⟨rfl, j7, rfl⟩; rw [decide_eq_true (show Q6.map (·.2) = R.map (·.2) from he6)])
                      | (go_at_call 19; refine (tp_safe _ w4.heap.size g rn cap (R.map (·.2)) ((HKS.out.drewN 1 |>.below hb6).drewN j7) (by rw [HML.out]; exact Nat.le_refl _) (by have := HX2.out; omega)).mono ?_; rintro e w8 ⟨rfl, j8, rfl⟩))
                    have hs6 := hb6.size
                    have hx6 : Below w5.heap.size w5 w6 := ((Below.refl w5.heap.size w5).drewN 1).trans hb6
                    have hx8 : Below w5.heap.size w5 (w6.drewN (j7 + j8)) := hx6.drewN (j7 + j8)
                    have HST8 := hide (HST5.out.below hx8)
                    have HB8 := hide (HB5.out.trans (hx8.mono HB5.out.size))
                    clear ho6 he6 hb6 hs6 hx6 hx8
                    go_wp2_with fail
                    go_meet
                    case rel => exact ⟨rfl, bv, ev, _, R, s, by have h9 := HTR.out; have h11 := HTs.out; show _ ≤ _; omega, HCR.out, HST8.out, HB8.out⟩
                  · go_wp2_with fail
                    go_meet
                    case rel => exact ⟨rfl, bv, ev, _, R, s, by have h9 := HTR.out; have h11 := HTs.out; show _ ≤ _; omega, HCR.out, HST2.out, HB2.out⟩
          case rest =>
            obtain ⟨rfl, bv, ev, rv, R, s, HTR, HCR, HST, HBZ⟩ := hcut
            have hz9 := HBZ.out.size
            obtain ⟨xA, xc, rfl, hxc⟩ := HST.out.hx.2.1.sl.form
            obtain ⟨m, hm⟩ : ∃ m, m = R.length := ⟨_, rfl⟩
            have HM := hide hm
            have HML : Hid (m = (R.map (·.2)).length) := by rw [Hid, List.length_map]; exact hm
            rw [← hm] at hxc
            have HX8 := hide (framesL_bytes8 (L := R.map (·.2)) (by
              intro r hr
              obtain ⟨p, hp, rfl⟩ := List.mem_map.1 hr
              exact HST.out.by8 p hp))
            have HL8 : Hid (∀ r ∈ R.map (·.2), Bytes8 r) := by
              intro r hr
              obtain ⟨p, hp, rfl⟩ := List.mem_map.1 hr
              exact HST.out.by8 p hp
            have hX := HTR.out
            have hX2 : (framesL (R.map (·.2))).length ≤ 262144 := by have h9 := totS_le S (q + 1); rw [← HTT.out] at h9; omega
            have HX2 := hide hX2
            have hRX := HST.out.hx
            have HTP := hide HST.out.tp
            have hsle := HST.out.sle
            rw [← hm] at hsle
            have HJR : Hid (RT wc w.heap.size xb (.slice xA m xc) R s cap) := by rw [hm]; exact hRX
            have c0 : wc.cell? ⟨xb, 0, none⟩ = some (.slice xA m xc) := HJR.out.1.cell 0
            have c1 : wc.cell? ⟨xb, 1, none⟩ = some (.int .i64 s) := HJR.out.1.cell 1
            have hxlt := HJR.out.1.lt
            have HFit := hide HST.out.fit
            obtain ⟨f, hf⟩ : ∃ f, f = (framesL (R.map (·.2))).length := ⟨_, rfl⟩
            have HFF := hide hf
            rw [← hf] at hX hX2
            clear hm hRX hf
            go_wp2_with fail
            trace_state
            go_region_held3 (fun w' : World => w'.cell? ⟨xb, 0, none⟩ = some (.slice xA m xc) ∧ w'.cell? ⟨xb, 1, none⟩ = some (.int .i64 s) ∧ RT w' w.heap.size xb (.slice xA m xc) R s cap) (first
                | exact HJR.out.keep
                | exact ((HJR.out.drewN 1).below hb6).keep
                | exact ((((HJR.out.drewN 1).below hb6).drewN _).below hb9).keep
                | exact ((((((HJR.out.drewN 1).below hb6).drewN _).below hb9)).below hb10).keep) (first
              | (go_at_call 17; refine (tp_records _ _ w.heap.size _ _ (R.map (·.2)) (by first | exact HTP.out.drew | exact HTP.out.drewN _ | exact HTP.out) HFit.out HL8.out (by have := HX2.out; omega)).mono ?_; rintro e w6 ⟨u6, Q6, rfl, ho6, he6, hb6⟩; obtain ⟨yA, yc, rfl, hyc⟩ := ho6.1.sl.form)
              | (go_at_call 16; refine (same18 _ _ Q6 R w6.heap.size _ ho6.read ((HJR.out.drewN 1).below hb6).2.read (fun r hr => HL8.out _ (by rw [← he6]; exact List.mem_map_of_mem hr)) (fun r hr => HST.out.by8 r hr)).mono ?_; rintro e w7 ⟨rfl, j7, rfl⟩; rw [decide_eq_true (show Q6.map (·.2) = R.map (·.2) from he6)])
              | (go_at_call 13; refine (tp_len_m ((HTP.out.drewN 1 |>.below hb6).drewN j7) HML.out).mono ?_; rintro e w8 ⟨rfl, rfl⟩)
              | (go_at_call 19; refine (tp_safe _ w.heap.size w.heap.size s cap (R.map (·.2)) ((HTP.out.drewN 1 |>.below hb6).drewN j7) (by rw [List.length_map, ← HM.out]; exact hsle) (by have := HX2.out; omega)).mono ?_; rintro e w8 ⟨rfl, j8, rfl⟩)
              | (go_at_call 12; refine (tp_bytes ((HTP.out.drewN 1 |>.below hb6).drewN _) (by have := HX2.out; omega)).mono ?_; rintro e w9 ⟨u9, rfl, ho9, hb9⟩; rw [← HFF.out] at ho9; obtain ⟨zA, zc, rfl, hzc⟩ := ho9.sl.form)
              | (go_at_call 25; refine (rbytes_any w9 w.heap.size xb _ R s cap (((HJR.out.drewN 1 |>.below hb6).drewN _).below hb9) HFit.out HST.out.by8 (by have := HX2.out; omega)).mono ?_; rintro e w10 ⟨u10, rfl, ho10, hb10⟩; rw [← HFF.out] at ho10; obtain ⟨tA, tc, rfl, htc⟩ := ho10.sl.form)
              | (go_at_call 20; refine (bsame_any _ _ (framesL (R.map (·.2))) (framesL (R.map (·.2))) f f w10.heap.size w10 (ho9.below hb10).sl ho10.sl HFF.out.symm HFF.out.symm HX8.out HX8.out).mono ?_; rintro e w11 ⟨rfl, rfl⟩; rw [decide_eq_true (rfl : framesL (R.map (·.2)) = framesL (R.map (·.2)))]))
            go_wp2_with fail
            have hs6 := hb6.size
            have hs9 := hb9.size
            have hs10 := hb10.size
            go_roundw
            case rel =>
              have hx6 : Below wc.heap.size wc w6 := ((Below.refl wc.heap.size wc).drewN 1).trans hb6
              have hx9 : Below wc.heap.size wc w9 := (hx6.drewN (j7 + j8)).trans (hb9.mono hx6.size)
              have hx11 : Below wc.heap.size wc _ := hx9.trans (hb10.mono hx9.size)
              exact ⟨q + 1, bv, ev, _, R, s, by omega, by simp, HTR.out, HCR.out, HST.out.below hx11, HBZ.out.trans (hx11.mono hz9)⟩
            case measure => simp [intOf]; omega
        · have hqk : q = k := by omega
          go_wp2_with fail
          refine (awake18 _).mono ?_
          rintro e w9 ⟨rfl, hb⟩
          go_wp2_with fail
          go_ret
          exact ⟨rfl, HBZ.out.trans (hb.mono HBZ.out.size)⟩

theorem plays_any (cap : Int) (v : Value) (S : List Op18) (n B : Nat) (w : World) (hs : Sl w B v 3 n (ops18 S)) (hS : S.length = n) (ho : OpsR w B S) (ht : totS S ≤ 100000000) (hB : B ≤ w.heap.size) (h8 : ∀ o ∈ S, ∀ r ∈ o.z.2, Bytes8 r.2) :
    Calls Try.prog 7 #[.int .i64 cap, v] w fun e w' => e = .returned (.bool true) ∧ Below w.heap.size w w' := by
  by_cases hb : cap < 0 ∨ 1073741824 < cap
  · exact plays_bad cap v w hb
  · by_cases hg : 262144 < totS S ∨ 200 < n
    · exact plays_big cap v S n B w hs hS ho ht hB (by omega) (by omega) hg
    · exact plays_ok cap v S n B w hs hS ho ht hB (by omega) (by omega) (by omega) h8

end Go.Proofs.Ytlllocfcljgacaa
