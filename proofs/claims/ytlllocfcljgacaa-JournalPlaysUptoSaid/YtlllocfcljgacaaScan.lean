/- journal.scan. -/
import Derived.Test.YtlllocfcljgacaaJourP
import Derived.Test.YtlllocfcljgacaaLaw18b
import Derived.Test.YtlllocfcljgacaaWhole
namespace Go.Proofs.Ytlllocfcljgacaa
open Go.RowKit
set_option linter.unusedVariables false
set_option linter.unusedSimpArgs false

def endsL (o : Nat) : List (List Int) → List Int
  | [] => []
  | r :: R => ((o + (frameB r).length : Nat) : Int) :: endsL (o + (frameB r).length) R
theorem endsL_snoc : ∀ (L : List (List Int)) (o : Nat) (r : List Int), endsL o (L ++ [r]) = endsL o L ++ [((o + (framesL L).length + (frameB r).length : Nat) : Int)]
  | [], o, r => by simp [endsL, framesL]
  | q :: L, o, r => by
    rw [List.cons_append, endsL, endsL, endsL_snoc L]
    simp [framesL]
    omega
theorem endsL_len : ∀ (L : List (List Int)) (o : Nat), (endsL o L).length = L.length
  | [], o => rfl
  | q :: L, o => by rw [endsL, List.length_cons, endsL_len L]; rfl
theorem endsB_eq : ∀ (R : List Rec) (o : Nat), endsB o R = endsL o (R.map (·.2))
  | [], o => rfl
  | r :: R, o => by rw [endsB, List.map_cons, endsL, endsB_eq R]
theorem frames_L (R : List Rec) : frames R = framesL (R.map (·.2)) := frames_map R

theorem framesL_ge : ∀ (L : List (List Int)), 5 * L.length ≤ (framesL L).length
  | [] => by simp
  | r :: L => by
    have h1 := frame_pos r
    have h2 := framesL_ge L
    rw [framesL_cons, List.length_append, List.length_cons]
    omega
theorem framesL_one (r : List Int) : framesL [r] = frameB r := by simp [framesL]

set_option maxRecDepth 100000 in
set_option maxHeartbeats 8000000 in
theorem scan_any (w : World) (base b : Nat) (bv ev : Value) (c sf : Int) (X E : List Int) (h : JR w base b bv ev c X E sf) (h8 : Bytes8 X) (hX : X.length ≤ 1073741824) (hbase : base ≤ w.heap.size) :
    Calls Try.prog 28 #[.pointer (some ⟨b, 0, none⟩)] w fun e w' => ∃ bv' ev', e = .returned (.tuple #[]) ∧ JR w' base b bv' ev' c (framesL (scanB X)) (endsL 0 (scanB X)) sf ∧ Fr (fun k => k = b) w w' ∧ bv'.ownBlock = bv.ownBlock := by
  obtain ⟨A, bc, rfl, hbc⟩ := h.2.1.sl.form
  obtain ⟨c0, c1, c2, c3, f1, f2, f3, hlt⟩ := h.open
  have H := hide h
  have H8 := hide h8
  have HX := hide hX
  clear h h8
  have HS0 := hide (scan_spec X H8.out)
  go_enter Try.func28, Try.ntmps28
  go_wp2_with fail
  have HB0 : Hid (Blk (w.setCell ⟨b, 2, none⟩ (.slice none 0 0)) b jT #[.int .i64 c, .slice A X.length bc, .slice none 0 0, .int .i64 sf]) := H.out.1.put 2 (.slice none 0 0)
  have HO0 := hide (H.out.2.1.put (p := ⟨b, 2, none⟩) (H.out.2.1.ne H.out.1 (by decide)) (.slice none 0 0))
  have HF0 : Hid (Fr (fun k => k = b) w (w.setCell ⟨b, 2, none⟩ (.slice none 0 0))) := (Fr.refl _ w).put1 2 _
  clear c0 c1 c2 c3 f1 f2 f3
  go_loopw [2] (fun i wr => ∃ (L : List (List Int)) (ev : Value), (framesL L).length ≤ X.length ∧ i = .int .i64 ((framesL L).length : Nat) ∧ Hid (scanB X = L ++ scanB (X.drop (framesL L).length)) ∧ Hid (X.take (framesL L).length = framesL L) ∧
      Hid (Blk wr b jT #[.int .i64 c, .slice A X.length bc, ev, .int .i64 sf]) ∧ Hid (Own wr base bT 1 (.slice A X.length bc) X.length (bys X)) ∧ Hid (Own wr w.heap.size nT 1 ev L.length (nums (endsL 0 L))) ∧ Hid (Fr (fun k => k = b) w wr)) (fun i _ => X.length - (intOf i).toNat)
  case atStart => exact ⟨[], .slice none 0 0, Nat.zero_le _, rfl, rfl, rfl, HB0.out, HO0.out, Own.nil _ _ _ _, HF0.out⟩
  case round =>
    obtain ⟨L, ev, hle, rfl, HSC, HTK, HB, HO, HE, HF⟩ := hrel
    obtain ⟨p, hp⟩ : ∃ p, p = (framesL L).length := ⟨_, rfl⟩
    have HP := hide hp
    rw [← hp] at hle HSC HTK ⊢
    clear hp
    have c1 : wr.cell? ⟨b, 1, none⟩ = some (.slice A X.length bc) := HB.out.cell 1
    have c2 : wr.cell? ⟨b, 2, none⟩ = some ev := HB.out.cell 2
    have f1 := HB.out.frozen 1
    have f2 := HB.out.frozen 2
    have hltr := HB.out.lt
    obtain ⟨eA, ec, rfl, hec⟩ := HE.out.sl.form
    have hLl : L.length ≤ X.length := by
      have h9 := framesL_ge L
      rw [← HP.out] at h9
      omega
    go_wp2_with fail
    refine (whole_any _ X X.length wr.heap.size p wr HO.out.sl rfl H8.out HX.out hle).mono ?_
    rintro e w2 ⟨⟨j, rfl⟩, hw⟩
    match hq : wholeB (X.drop p) with
    | none =>
      rw [hq] at hw
      obtain ⟨x, u, rfl⟩ := hw
      go_wp2_with fail
      refine bodyPost_ret (results_none rfl _ _ _) rfl ?_
      have hL : scanB X = L := by rw [HSC.out, scanB_none hq, List.append_nil]
      have hO : Own (wr.drewN j) base bT 1 (.slice A p p) (framesL L).length (bys (framesL L)) := by
        have h9 := (HO.out.drewN j).cut (k := p) (d := p) hle (Nat.le_refl _) (by omega)
        rw [Nat.mul_one, bys_map, ← List.map_take, HTK.out, ← bys_map] at h9
        rw [← HP.out]
        exact h9
      refine ⟨_, _, rfl, ⟨(HB.out.drewN j).put 1 (.slice A p p), ?_, ?_⟩, (HF.out.drewN j).put1 1 _, by cases A <;> rfl⟩
      · rw [hL]
        exact hO.put (hO.ne (HB.out.drewN j) (by decide)) _
      · rw [hL, endsL_len]
        have h9 := ((HE.out.drewN j).lower hbase)
        exact h9.put (h9.ne (HB.out.drewN j) (by decide)) _
    | some (r, m) =>
      have hspec := wholeB_some (fun c hc => H8.out c (List.mem_of_mem_drop hc)) hq
      have hml := wholeB_len hq
      rw [List.length_drop] at hml
      rw [hq] at hw
      obtain ⟨u, rfl, _⟩ := hw
      have HSP := hide hspec
      have HSC2 : Hid (scanB X = (L ++ [r]) ++ scanB (X.drop (p + m))) := by rw [Hid, HSC.out, scanB_some hq, List.drop_drop]; simp
      have HTK2 : Hid (X.take (p + m) = framesL (L ++ [r])) := by
        rw [Hid, List.take_add, HTK.out, framesL_app, framesL_one]
        congr 1
        have h9 := congrArg (List.take m) HSP.out.1
        rw [h9, HSP.out.2.1, List.take_left]
      have HPM : Hid ((framesL (L ++ [r])).length = p + m) := by rw [Hid, framesL_app, framesL_one, List.length_append, ← HP.out, HSP.out.2.1]
      have HEN : Hid (endsL 0 (L ++ [r]) = endsL 0 L ++ [((p + m : Nat) : Int)]) := by rw [Hid, endsL_snoc, ← HP.out, HSP.out.2.1]; simp
      clear hspec hq
      have HN : Hid (Sl ((wr.drewN j).alloc (.cells #[.int .i64 ((p + m : Nat) : Int)] nT)) (wr.heap.size + 1) (.slice (some ⟨wr.heap.size, 0, none⟩) 1 1) 1 1 (nums [((p + m : Nat) : Int)])) :=
        Sl.of_own (Own.new (n := 1) (sz := 1) (e := nT) (base := 0) (wr.drewN j) #[.int .i64 ((p + m : Nat) : Int)] (by omega) (by omega) rfl) |>.mono (by simp)
      obtain ⟨q, hqm⟩ : ∃ q, q = p + m := ⟨_, rfl⟩
      rw [← hqm] at HSC2 HTK2 HPM HEN HN ⊢
      have hq2 : p < q ∧ q ≤ X.length := by omega
      have HQM := hide hqm
      clear hqm
      go_wp2_with (at_builtin; refine wpList_app rfl tyN (.tmp 35) (.tmp 37) rfl w.heap.size (n := L.length) (m := 1) (B := wr.heap.size + 1) (xs := nums (endsL 0 L)) (news := nums [(q : Int)]) rfl rfl ((HE.out.drewN j).alloc _) HN.out (nums_ok _) (by omega) (by omega) (by have := HF.out.size; simp <;> omega) ?_)
      intro v3 w3 ha
      obtain ⟨vA, vc, rfl, hvc⟩ := ha.own.sl.form
      have B3 := ha.fr.blk ((HB.out.drewN j).alloc (.cells #[.int .i64 (q : Int)] nT)) ((HE.out.drewN j).ne (HB.out.drewN j) (by decide))
      have O3 := ((HO.out.drewN j).alloc (.cells #[.int .i64 (q : Int)] nT)).fr ha.fr (fun g hg hg' => by
        obtain ⟨cs1, t1⟩ := HO.out.typed g hg
        obtain ⟨cs2, t2⟩ := HE.out.typed g hg'
        exact t1.apart t2 (by decide) rfl)
      have k2 : w3.cell? ⟨b, 2, none⟩ = some (.slice eA L.length ec) := B3.cell 2
      have q2 := B3.frozen 2
      have hlt3 := B3.lt
      have HE3 : Hid (Own (w3.setCell ⟨b, 2, none⟩ (.slice vA (L.length + 1) vc)) w.heap.size nT 1 (.slice vA (L.length + 1) vc) (L ++ [r]).length (nums (endsL 0 (L ++ [r])))) := by
        have h9 := ha.own.put (p := ⟨b, 2, none⟩) (ha.own.ne B3 (by decide)) (.slice vA (L.length + 1) vc)
        rw [HEN.out, show nums (endsL 0 L ++ [(q : Int)]) = nums (endsL 0 L) ++ nums [(q : Int)] by simp [nums], List.length_append]
        exact h9
      have HB4 : Hid (Blk (w3.setCell ⟨b, 2, none⟩ (.slice vA (L.length + 1) vc)) b jT #[.int .i64 c, .slice A X.length bc, .slice vA (L.length + 1) vc, .int .i64 sf]) := B3.put 2 (.slice vA (L.length + 1) vc)
      have HO4 := hide (O3.put (p := ⟨b, 2, none⟩) (O3.ne B3 (by decide)) (.slice vA (L.length + 1) vc))
      have HF4 : Hid (Fr (fun k => k = b) w (w3.setCell ⟨b, 2, none⟩ (.slice vA (L.length + 1) vc))) :=
        Fr.put1 (((HF.out.drewN j).alloc (.cells #[.int .i64 (q : Int)] nT)).trans ha.fr (fun k hk h9 => absurd ((HE.out.lt k h9).1) (by omega))) 2 _
      clear ha B3 O3 c1 c2 f1 f2
      go_wp2_with fail
      go_roundw
      case rel => exact ⟨L ++ [r], .slice vA (L.length + 1) vc, by rw [HPM.out]; omega, by rw [HPM.out], by rw [HPM.out]; exact HSC2.out, by rw [HPM.out]; exact HTK2.out, HB4.out, HO4.out, HE3.out, HF4.out⟩
      case measure => simp [intOf]; omega

end Go.Proofs.Ytlllocfcljgacaa
