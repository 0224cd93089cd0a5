/- Append where the records fit. -/
import Derived.Test.YtlllocfcljgacaaJour6
namespace Go.Proofs.Ytlllocfcljgacaa
open Go.RowKit
set_option linter.unusedVariables false
set_option linter.unusedSimpArgs false

set_option maxRecDepth 100000 in
set_option maxHeartbeats 8000000 in
theorem append_fits (w : World) (base b : Nat) (bv ev : Value) (c sf : Int) (X E : List Int) (v : Value) (R : List Rec) (B : Nat) (h : JR w base b bv ev c X E sf) (hs : Recs w B v R) (hB : B ≤ w.heap.size) (hn : R.length ≤ 65536)
    (hl : ∀ r ∈ R, r.2.length ≤ 1048576 ∧ Bytes8 r.2) (hX : X.length ≤ 1073741824) (hfull : X.length + (frames R).length ≤ c) (hc2 : c ≤ 1073741824) (hbase : base ≤ w.heap.size) (hE : E.length ≤ 1073741824) (hfr : (frames R).length ≤ 1073741824) :
    Calls Try.prog 10 #[.pointer (some ⟨b, 0, none⟩), v] w fun e w' => ∃ bv' ev', e = .returned (.int .i64 0) ∧ JR w' base b bv' ev' c (X ++ frames R) (E ++ endsB X.length R) sf ∧ Fr (fun k => k = b ∨ bv.ownBlock = some k ∨ ev.ownBlock = some k) w w' ∧ (bv'.ownBlock = bv.ownBlock ∨ ∃ g, bv'.ownBlock = some g ∧ w.heap.size ≤ g) := by
  obtain ⟨A, rc, rfl, hrc⟩ := hs.1.form
  obtain ⟨bA, bc, rfl, hbc⟩ := h.2.1.sl.form
  obtain ⟨eA, ec, rfl, hec⟩ := h.2.2.sl.form
  have HS := hide hs
  have HL := hide hl
  have H := hide h
  clear hs hl h
  go_enter Try.func10, Try.ntmps10
  go_wp2_with fail
  go_loopw [5, 6, 11] (fun mo en i wr => ∃ (k : Nat), k ≤ R.length ∧ i = .int .i64 k ∧ (frames (R.take k)).length ≤ 1048583 * k ∧ Hid (Own wr w.heap.size bT 1 mo (frames (R.take k)).length (bys (frames (R.take k)))) ∧ Hid (Own wr w.heap.size nT 1 en k (nums (endsB X.length (R.take k)))) ∧ Hid (Below w.heap.size w wr)) (fun _ _ i _ => R.length - (intOf i).toNat)
  case atStart => exact ⟨0, Nat.zero_le _, rfl, by simp [frames], Own.nil _ _ _ _, Own.nil _ _ _ _, Below.refl _ _⟩
  case round =>
    obtain ⟨k, hk, rfl, hfl, HM, HE, HB⟩ := hrel
    by_cases hlt : k < R.length
    · have HSR := hide (HS.out.below (HB.out.mono hB))
      obtain ⟨ad, rfl, hab, h0⟩ := rec_at HSR.out.1 hlt rfl
      have hb2 : (ad.add k).block < wr.heap.size := by have := HB.out.size; omega
      have HT : Hid (endsB X.length (R.take (k + 1)) = endsB X.length (R.take k) ++ [((X.length + (frames (R.take k)).length + (frameB R[k].2).length : Nat) : Int)]) := by
        rw [Hid, List.take_succ_eq_append_getElem hlt, endsB_snoc]
      have HF := hide (frames_snoc R k hlt)
      have HRK := hide (HSR.out.2 R[k] (List.getElem_mem hlt))
      have hlk := (HL.out R[k] (List.getElem_mem hlt)).1
      have H8 := hide (HL.out R[k] (List.getElem_mem hlt)).2
      generalize R[k] = r at h0 HT HRK hlk HF H8
      obtain ⟨rv, rd⟩ := r
      simp only at h0 HT HRK hlk HF H8
      obtain ⟨rA, rc', rfl, hrc'⟩ := HRK.out.form
      have hfb := frameB_len rd hlk
      go_wp2_with fail
      refine (frame_any _ rd rd.length B wr HRK.out rfl H8.out hlk (by have := HB.out.size; omega)).mono ?_
      rintro e w2 ⟨u2, rfl, ho, hb⟩
      have HO2 := hide ho
      have HB2 := hide (HB.out.trans (hb.mono HB.out.size))
      have HM2 := hide (HM.out.below hb)
      have HE2 := hide (HE.out.below hb)
      clear ho hb h0
      obtain ⟨L, hL⟩ : ∃ L, L = frameB rd := ⟨_, rfl⟩
      rw [← hL] at HT HF HO2 hfb
      clear hL
      go_wp2_with (at_builtin; refine wpList_app rfl tyB (.tmp 18) (.tmp 20) rfl w.heap.size (n := (frames (R.take k)).length) (m := L.length) (B := w2.heap.size) (xs := bys (frames (R.take k))) (news := bys L) rfl rfl HM2.out HO2.out.sl (bys_ok _) (by omega) (by omega) HB2.out.size ?_)
      intro v3 w3 ha
      have HM3 : Hid (Own w3 w.heap.size bT 1 v3 (frames (R.take k) ++ L).length (bys (frames (R.take k) ++ L))) := by
        rw [bys_app, List.length_append]; exact ha.own
      have HE3 := hide (HE2.out.fr ha.fr (fun g hg hg' => by
        obtain ⟨cs1, t1⟩ := HE2.out.typed g hg
        obtain ⟨cs2, t2⟩ := HM2.out.typed g hg'
        exact t1.apart t2 (by decide) rfl))
      have HB3 := hide (HB2.out.trans (ha.fr.below (B := w.heap.size) HB2.out.size (fun k hk h => by have := (HM2.out.lt k h).1; omega)))
      clear ha
      have hl3 : (frames (R.take k) ++ L).length = (frames (R.take k)).length + L.length := List.length_append
      obtain ⟨N3, hN3⟩ : ∃ N3, N3 = (frames (R.take k) ++ L).length := ⟨_, rfl⟩
      rw [← hN3] at HM3 hl3
      have hN3b : N3 ≤ 68719935488 := by omega
      have HL3 := hide hl3
      clear hl3
      obtain ⟨mA, mc, rfl, hmc⟩ := HM3.out.sl.form
      obtain ⟨c0, c1, c2, c3, f1, f2, f3, hblt⟩ := (H.out.below HB3.out).open
      have HNN := hide hN3
      clear c0 c2 c3 f1 f2 f3 hN3
      have HN : Hid (Sl (w3.alloc (.cells #[.int .i64 ((X.length : Int) + N3)] nT)) (w3.heap.size + 1) (.slice (some ⟨w3.heap.size, 0, none⟩) 1 1) 1 1 (nums [(X.length : Int) + N3])) :=
        Sl.of_own (Own.new (n := 1) (sz := 1) (e := nT) (base := 0) w3 #[.int .i64 ((X.length : Int) + N3)] (by omega) (by omega) rfl) |>.mono (by simp)
      go_wp2_with (at_builtin; refine wpList_app rfl tyN (.tmp 22) (.tmp 31) rfl w.heap.size (n := k) (m := 1) (B := w3.heap.size + 1) (xs := nums (endsB X.length (R.take k))) (news := nums [(X.length : Int) + N3]) rfl rfl (HE3.out.alloc _) HN.out (nums_ok _) (by omega) (by omega) (by have := HB3.out.size; simp <;> omega) ?_)
      intro v4 w4 ha
      have HE4 : Hid (Own w4 w.heap.size nT 1 v4 (k + 1) (nums (endsB X.length (R.take (k + 1))))) := by
        have h9 : ((X.length + (frames (R.take k)).length + L.length : Nat) : Int) = (X.length : Int) + N3 := by have := HL3.out; omega
        rw [HT.out, h9]
        have h8 := ha.own
        rw [show nums (endsB X.length (R.take k)) ++ nums [(X.length : Int) + N3] = nums (endsB X.length (R.take k) ++ [(X.length : Int) + N3]) by simp [nums]] at h8
        exact h8
      have HM4 := hide ((HM3.out.alloc (.cells #[.int .i64 ((X.length : Int) + N3)] nT)).fr ha.fr (fun g hg hg' => by
        obtain ⟨cs1, t1⟩ := HM3.out.typed g hg
        obtain ⟨cs2, t2⟩ := HE3.out.typed g hg'
        exact t1.apart t2 (by decide) rfl))
      have HB4 := hide ((HB3.out.alloc HB3.out.size (.cells #[.int .i64 ((X.length : Int) + N3)] nT)).trans (ha.fr.below (B := w.heap.size) (by have := HB3.out.size; simp <;> omega) (fun k hk h => by have := (HE3.out.lt k h).1; omega)))
      clear ha c1
      go_wp2_with fail
      go_roundw
      case rel => exact ⟨k + 1, by omega, by simp, by rw [HF.out, ← HNN.out]; have := HL3.out; omega, by rw [HF.out, ← HNN.out]; exact HM4, HE4, HB4⟩
      case measure => simp [intOf]; omega
    · have hkn : k = R.length := by omega
      rw [List.take_of_length_le (by omega)] at HM hfl
      obtain ⟨N3, hN3⟩ : ∃ N3, N3 = (frames R).length := ⟨_, rfl⟩
      rw [← hN3] at HM hfr hfull hfl
      obtain ⟨mA, mc, rfl, hmc⟩ := HM.out.sl.form
      obtain ⟨c0, c1, c2, c3, f1, f2, f3, hblt⟩ := (H.out.below HB.out).open
      have HN3 := hide hN3
      clear hN3
      have HJ := hide (H.out.below HB.out)
      have HEE := HE
      rw [List.take_of_length_le (by omega), hkn] at HEE
      have hbs := HB.out.size
      obtain ⟨nA, nc, rfl, hnc⟩ := HEE.out.sl.form
      go_wp2_with fail
      go_quiet (fail)
      go_wp2_with (at_builtin; refine wpList_app rfl tyB (.tmp 51) (.tmp 52) rfl base (n := X.length) (m := N3) (B := wr.heap.size) (xs := bys X) (news := bys (frames R)) rfl rfl (HJ.out.2.1.drewN _) (HM.out.sl.drewN _) (bys_ok _) (by omega) (by omega) (by simp <;> omega) ?_)
      intro v5 w5 ha
      have HAT : Hid (_ ∨ _) := hide ha.at_
      obtain ⟨vA, vc, rfl, hvc⟩ := ha.own.sl.form
      have BJ5 : Blk w5 b jT #[.int .i64 c, .slice bA X.length bc, .slice eA E.length ec, .int .i64 sf] := ha.fr.blk (HJ.out.1.drewN _) (HJ.out.2.1.ne HJ.out.1 (by decide))
      have OE5 : Own w5 base nT 1 (.slice eA E.length ec) E.length (nums E) := (HJ.out.2.2.drewN _).fr ha.fr (fun g hg hg' => by
        obtain ⟨cs1, t1⟩ := HJ.out.2.2.typed g hg
        obtain ⟨cs2, t2⟩ := HJ.out.2.1.typed g hg'
        exact t1.apart t2 (by decide) rfl)
      have ON5 := (HEE.out.drewN _).fr ha.fr (fun g hg hg' => by
        obtain ⟨cs1, t1⟩ := HEE.out.typed g hg
        obtain ⟨cs2, t2⟩ := HJ.out.2.1.typed g hg'
        exact t1.apart t2 (by decide) rfl)
      have hz5 : w.heap.size ≤ w5.heap.size := by have := ha.fr.size; simp at this; omega
      have HW5 := hide ha
      have k1 : w5.cell? ⟨b, 1, none⟩ = some (.slice bA X.length bc) := BJ5.cell 1
      have k2 : w5.cell? ⟨b, 2, none⟩ = some (.slice eA E.length ec) := BJ5.cell 2
      have q1 := BJ5.frozen 1
      have q2 := BJ5.frozen 2
      have klt := BJ5.lt
      have HBJ5 := hide BJ5
      have HOE5 := hide (OE5.put (p := ⟨b, 1, none⟩) (OE5.ne BJ5 (by decide)) (.slice vA (X.length + N3) vc))
      have HON5 := hide (ON5.put (p := ⟨b, 1, none⟩) (ON5.ne BJ5 (by decide)) (.slice vA (X.length + N3) vc))
      have HOX5 := hide (ha.own.put (p := ⟨b, 1, none⟩) (ha.own.ne BJ5 (by decide)) (.slice vA (X.length + N3) vc))
      have HBJ6 : Hid (Blk (w5.setCell ⟨b, 1, none⟩ (.slice vA (X.length + N3) vc)) b jT #[.int .i64 c, .slice vA (X.length + N3) vc, .slice eA E.length ec, .int .i64 sf]) := by
        have h9 := BJ5.put 1 (.slice vA (X.length + N3) vc)
        exact h9
      have HSN5 : Hid (Sl (w5.setCell ⟨b, 1, none⟩ (.slice vA (X.length + N3) vc)) w5.heap.size (.slice nA R.length nc) 1 R.length (nums (endsB X.length R))) := by have h9 := HON5.out.sl; simpa [Hid] using h9
      have HF5 : Hid (Fr (fun k => k = b ∨ (Value.slice bA X.length bc).ownBlock = some k ∨ (Value.slice eA E.length ec).ownBlock = some k) w (w5.setCell ⟨b, 1, none⟩ (.slice vA (X.length + N3) vc))) :=
        Fr.put (S := fun k => k = b ∨ (Value.slice bA X.length bc).ownBlock = some k ∨ (Value.slice eA E.length ec).ownBlock = some k) (((Fr.of_below HB.out).drewN nq).trans ha.fr (fun _ _ h9 => Or.inr (Or.inl h9))) (.inl (.inl rfl)) _
      clear ha BJ5 OE5 ON5 c0 c1 c2 c3 f1 f2 f3 HW5
      go_wp2_with (at_builtin; refine wpList_app rfl tyN (.tmp 60) (.tmp 61) rfl base (n := E.length) (m := R.length) (B := w5.heap.size) (xs := nums E) (news := nums (endsB X.length R)) rfl rfl HOE5.out HSN5.out (nums_ok _) (by omega) (by omega) (by simp <;> omega) ?_)
      intro v6 w6 ha
      obtain ⟨wA, wc, rfl, hwc⟩ := ha.own.sl.form
      have BJ6 : Blk w6 b jT #[.int .i64 c, .slice vA (X.length + N3) vc, .slice eA E.length ec, .int .i64 sf] := ha.fr.blk HBJ6.out (HOE5.out.ne HBJ6.out (by decide))
      have k6 : w6.cell? ⟨b, 2, none⟩ = some (.slice eA E.length ec) := BJ6.cell 2
      have q6 := BJ6.frozen 2
      have k6lt := BJ6.lt
      have OX6 := HOX5.out.fr ha.fr (fun g hg hg' => by
        obtain ⟨cs1, t1⟩ := HOX5.out.typed g hg
        obtain ⟨cs2, t2⟩ := HOE5.out.typed g hg'
        exact t1.apart t2 (by decide) rfl)
      have HOX6 := hide (OX6.put (p := ⟨b, 2, none⟩) (OX6.ne BJ6 (by decide)) (.slice wA (E.length + R.length) wc))
      have HOE6 := hide (ha.own.put (p := ⟨b, 2, none⟩) (ha.own.ne BJ6 (by decide)) (.slice wA (E.length + R.length) wc))
      have HBJ7 : Hid (Blk (w6.setCell ⟨b, 2, none⟩ (.slice wA (E.length + R.length) wc)) b jT #[.int .i64 c, .slice vA (X.length + N3) vc, .slice wA (E.length + R.length) wc, .int .i64 sf]) := by
        have h9 := BJ6.put 2 (.slice wA (E.length + R.length) wc)
        exact h9
      have HF6 : Hid (Fr (fun k => k = b ∨ (Value.slice bA X.length bc).ownBlock = some k ∨ (Value.slice eA E.length ec).ownBlock = some k) w (w6.setCell ⟨b, 2, none⟩ (.slice wA (E.length + R.length) wc))) :=
        Fr.put (HF5.out.trans ha.fr (fun _ _ h9 => Or.inr (Or.inr h9))) (.inl (.inl rfl)) _
      clear ha BJ6 OX6
      go_wp2_with fail
      go_ret
      refine ⟨_, _, rfl, ⟨HBJ7.out, ?_, ?_⟩, HF6.out, ?_⟩
      · rw [bys_app, List.length_append, ← HN3.out]; exact HOX6.out
      · rw [show nums (E ++ endsB X.length R) = nums E ++ nums (endsB X.length R) by simp [nums], List.length_append, endsB_len]; exact HOE6.out
      · rcases HAT.out with h9 | h9
        · exact .inl h9
        · exact .inr ⟨_, h9, hbs⟩

end Go.Proofs.Ytlllocfcljgacaa
