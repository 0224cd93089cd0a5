/- Append: the walk. -/
import Derived.Test.YtlllocfcljgacaaJour5
namespace Go.Proofs.Ytlllocfcljgacaa
open Go.RowKit
set_option linter.unusedVariables false
set_option linter.unusedSimpArgs false

set_option maxRecDepth 100000 in
set_option maxHeartbeats 8000000 in
theorem append_full (w : World) (base b : Nat) (bv ev : Value) (c sf : Int) (X E : List Int) (v : Value) (R : List Rec) (B : Nat) (h : JR w base b bv ev c X E sf) (hs : Recs w B v R) (hB : B ≤ w.heap.size) (hn : R.length ≤ 65536)
    (hl : ∀ r ∈ R, r.2.length ≤ 1048576 ∧ Bytes8 r.2) (hX : X.length ≤ 1073741824) (hfull : c < X.length + (frames R).length) (hfr : (frames R).length ≤ 1073741824) :
    Calls Try.prog 10 #[.pointer (some ⟨b, 0, none⟩), v] w fun e w' => e = .returned (.int .i64 181) ∧ Below w.heap.size w w' := by
  obtain ⟨A, rc, rfl, hrc⟩ := hs.1.form
  obtain ⟨bA, bc, rfl, hbc⟩ := h.2.1.sl.form
  have HS := hide hs
  have HL := hide hl
  have H := hide h
  clear hs hl h
  go_enter Try.func10, Try.ntmps10
  go_wp2_with fail
  go_loopw [5, 6, 11] (fun mo en i wr => ∃ (k : Nat), k ≤ R.length ∧ i = .int .i64 k ∧ (frames (R.take k)).length ≤ 1048583 * k ∧ Hid (Own wr w.heap.size bT 1 mo (frames (R.take k)).length (bys (frames (R.take k)))) ∧ Hid (Own wr w.heap.size nT 1 en k (nums (endsB X.length (R.take k)))) ∧ Hid (Below w.heap.size w wr)) (fun _ _ i _ => R.length - (intOf i).toNat)
  case atStart => exact ⟨0, Nat.zero_le _, rfl, by simp [frames], Own.nil _ _ _ _, Own.nil _ _ _ _, Below.refl _ _⟩
  case round =>
    obtain ⟨k, hk, rfl, hfl, HM, HE, HB⟩ := hrel
    by_cases hlt : k < R.length
    · have HSR := hide (HS.out.below (HB.out.mono hB))
      obtain ⟨ad, rfl, hab, h0⟩ := rec_at HSR.out.1 hlt rfl
      have hb2 : (ad.add k).block < wr.heap.size := by have := HB.out.size; omega
      have HT : Hid (endsB X.length (R.take (k + 1)) = endsB X.length (R.take k) ++ [((X.length + (frames (R.take k)).length + (frameB R[k].2).length : Nat) : Int)]) := by
        rw [Hid, List.take_succ_eq_append_getElem hlt, endsB_snoc]
      have HF := hide (frames_snoc R k hlt)
      have HRK := hide (HSR.out.2 R[k] (List.getElem_mem hlt))
      have hlk := (HL.out R[k] (List.getElem_mem hlt)).1
      have H8 := hide (HL.out R[k] (List.getElem_mem hlt)).2
      generalize R[k] = r at h0 HT HRK hlk HF H8
      obtain ⟨rv, rd⟩ := r
      simp only at h0 HT HRK hlk HF H8
      obtain ⟨rA, rc', rfl, hrc'⟩ := HRK.out.form
      have hfb := frameB_len rd hlk
      go_wp2_with fail
      refine (frame_any _ rd rd.length B wr HRK.out rfl H8.out hlk (by have := HB.out.size; omega)).mono ?_
      rintro e w2 ⟨u2, rfl, ho, hb⟩
      have HO2 := hide ho
      have HB2 := hide (HB.out.trans (hb.mono HB.out.size))
      have HM2 := hide (HM.out.below hb)
      have HE2 := hide (HE.out.below hb)
      clear ho hb h0
      obtain ⟨L, hL⟩ : ∃ L, L = frameB rd := ⟨_, rfl⟩
      rw [← hL] at HT HF HO2 hfb
      clear hL
      go_wp2_with (at_builtin; refine wpList_app rfl tyB (.tmp 18) (.tmp 20) rfl w.heap.size (n := (frames (R.take k)).length) (m := L.length) (B := w2.heap.size) (xs := bys (frames (R.take k))) (news := bys L) rfl rfl HM2.out HO2.out.sl (bys_ok _) (by omega) (by omega) HB2.out.size ?_)
      intro v3 w3 ha
      have HM3 : Hid (Own w3 w.heap.size bT 1 v3 (frames (R.take k) ++ L).length (bys (frames (R.take k) ++ L))) := by
        rw [bys_app, List.length_append]; exact ha.own
      have HE3 := hide (HE2.out.fr ha.fr (fun g hg hg' => by
        obtain ⟨cs1, t1⟩ := HE2.out.typed g hg
        obtain ⟨cs2, t2⟩ := HM2.out.typed g hg'
        exact t1.apart t2 (by decide) rfl))
      have HB3 := hide (HB2.out.trans (ha.fr.below (B := w.heap.size) HB2.out.size (fun k hk h => by have := (HM2.out.lt k h).1; omega)))
      clear ha
      have hl3 : (frames (R.take k) ++ L).length = (frames (R.take k)).length + L.length := List.length_append
      obtain ⟨N3, hN3⟩ : ∃ N3, N3 = (frames (R.take k) ++ L).length := ⟨_, rfl⟩
      rw [← hN3] at HM3 hl3
      have hN3b : N3 ≤ 68719935488 := by omega
      have HL3 := hide hl3
      clear hl3
      obtain ⟨mA, mc, rfl, hmc⟩ := HM3.out.sl.form
      obtain ⟨c0, c1, c2, c3, f1, f2, f3, hblt⟩ := (H.out.below HB3.out).open
      have HNN := hide hN3
      clear c0 c2 c3 f1 f2 f3 hN3
      have HN : Hid (Sl (w3.alloc (.cells #[.int .i64 ((X.length : Int) + N3)] nT)) (w3.heap.size + 1) (.slice (some ⟨w3.heap.size, 0, none⟩) 1 1) 1 1 (nums [(X.length : Int) + N3])) :=
        Sl.of_own (Own.new (n := 1) (sz := 1) (e := nT) (base := 0) w3 #[.int .i64 ((X.length : Int) + N3)] (by omega) (by omega) rfl) |>.mono (by simp)
      go_wp2_with (at_builtin; refine wpList_app rfl tyN (.tmp 22) (.tmp 31) rfl w.heap.size (n := k) (m := 1) (B := w3.heap.size + 1) (xs := nums (endsB X.length (R.take k))) (news := nums [(X.length : Int) + N3]) rfl rfl (HE3.out.alloc _) HN.out (nums_ok _) (by omega) (by omega) (by have := HB3.out.size; simp <;> omega) ?_)
      intro v4 w4 ha
      have HE4 : Hid (Own w4 w.heap.size nT 1 v4 (k + 1) (nums (endsB X.length (R.take (k + 1))))) := by
        have h9 : ((X.length + (frames (R.take k)).length + L.length : Nat) : Int) = (X.length : Int) + N3 := by have := HL3.out; omega
        rw [HT.out, h9]
        have h8 := ha.own
        rw [show nums (endsB X.length (R.take k)) ++ nums [(X.length : Int) + N3] = nums (endsB X.length (R.take k) ++ [(X.length : Int) + N3]) by simp [nums]] at h8
        exact h8
      have HM4 := hide ((HM3.out.alloc (.cells #[.int .i64 ((X.length : Int) + N3)] nT)).fr ha.fr (fun g hg hg' => by
        obtain ⟨cs1, t1⟩ := HM3.out.typed g hg
        obtain ⟨cs2, t2⟩ := HE3.out.typed g hg'
        exact t1.apart t2 (by decide) rfl))
      have HB4 := hide ((HB3.out.alloc HB3.out.size (.cells #[.int .i64 ((X.length : Int) + N3)] nT)).trans (ha.fr.below (B := w.heap.size) (by have := HB3.out.size; simp <;> omega) (fun k hk h => by have := (HE3.out.lt k h).1; omega)))
      clear ha c1
      go_wp2_with fail
      go_roundw
      case rel => exact ⟨k + 1, by omega, by simp, by rw [HF.out, ← HNN.out]; have := HL3.out; omega, by rw [HF.out, ← HNN.out]; exact HM4, HE4, HB4⟩
      case measure => simp [intOf]; omega
    · have hkn : k = R.length := by omega
      rw [List.take_of_length_le (by omega)] at HM hfl
      obtain ⟨N3, hN3⟩ : ∃ N3, N3 = (frames R).length := ⟨_, rfl⟩
      rw [← hN3] at HM hfr hfull hfl
      obtain ⟨mA, mc, rfl, hmc⟩ := HM.out.sl.form
      obtain ⟨c0, c1, c2, c3, f1, f2, f3, hblt⟩ := (H.out.below HB.out).open
      clear hN3
      go_wp2_with fail
      go_quiet (fail)
      go_wp2_with fail
      go_ret
      exact ⟨rfl, HB.out.drewN _⟩

end Go.Proofs.Ytlllocfcljgacaa
