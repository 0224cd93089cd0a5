/- The reference's Tape: Append. -/
import Derived.Test.YtlllocfcljgacaaRef18d
namespace Go.Proofs.Ytlllocfcljgacaa
open Go.RowKit
set_option linter.unusedVariables false
set_option linter.unusedSimpArgs false

theorem recs_okE {w : World} {B : Nat} (R : List Rec) (h : ∀ r ∈ R, Sl w B r.1 1 r.2.length (bys r.2)) : ∀ u ∈ recs R, u.oneCell' = true := by
  intro u hu
  simp only [recs, List.mem_flatMap, List.mem_singleton] at hu
  obtain ⟨r, hr, rfl⟩ := hu
  obtain ⟨A, c, h1, _⟩ := (h r hr).form
  rw [h1]
  rfl

set_option maxRecDepth 100000 in
set_option maxHeartbeats 8000000 in
theorem rappend_any (w : World) (base b : Nat) (rv : Value) (R : List Rec) (s c : Int) (lv : Value) (Q : List Rec) (h : RT w base b rv R s c) (hq : OwnRecs w base lv Q) (hf : Fit (R.map (·.2))) (h8 : ∀ r ∈ R, Bytes8 r.2)
    (hqf : Fit (Q.map (·.2))) (hq8 : ∀ r ∈ Q, Bytes8 r.2) (hX : (framesL (R.map (·.2))).length ≤ 1073741824) (hY : (framesL (Q.map (·.2))).length ≤ 1073741824) (hbase : base ≤ w.heap.size) :
    Calls Try.prog 23 #[.pointer (some ⟨b, 0, none⟩), lv] w fun e w' =>
      if c < (framesL (R.map (·.2))).length + (framesL (Q.map (·.2))).length then e = .returned (.int .i64 181) ∧ Below w.heap.size w w'
      else ∃ rv', e = .returned (.int .i64 0) ∧ RT w' base b rv' (R ++ Q) s c ∧ Fr (fun k => k = b ∨ rv.ownBlock = some k) w w' := by
  obtain ⟨A, rc, rfl, hrc⟩ := h.2.1.sl.form
  obtain ⟨lA, lc, rfl, hlc⟩ := hq.1.sl.form
  have H := hide h
  have HF := hide hf
  have H8 := hide h8
  have HQ := hide hq
  have HQF := hide hqf
  have HQ8 := hide hq8
  obtain ⟨rn, hrn⟩ : ∃ rn, rn = R.length := ⟨_, rfl⟩
  obtain ⟨qn, hqn⟩ : ∃ qn, qn = Q.length := ⟨_, rfl⟩
  obtain ⟨x, hx⟩ : ∃ x, x = (framesL (R.map (·.2))).length := ⟨_, rfl⟩
  obtain ⟨y, hy⟩ : ∃ y, y = (framesL (Q.map (·.2))).length := ⟨_, rfl⟩
  have hgx := framesL_ge (R.map (·.2))
  have hgy := framesL_ge (Q.map (·.2))
  rw [List.length_map, ← hrn, ← hx] at hgx
  rw [List.length_map, ← hqn, ← hy] at hgy
  rw [← hx] at hX
  rw [← hy] at hY
  rw [← hx, ← hy]
  rw [← hrn] at hrc ⊢
  rw [← hqn] at hlc ⊢
  have HRN := hide hrn
  have HQN := hide hqn
  have HXX := hide hx
  have HYY := hide hy
  clear h hf h8 hq hqf hq8 hrn hqn hx hy
  go_enter Try.func23, Try.ntmps23
  go_wp2_with fail
  refine (rbytes_any w base b (.slice A rn rc) R s c (by rw [HRN.out]; exact H.out) HF.out H8.out (by rw [← HXX.out]; exact hX)).mono ?_
  rintro e w1 ⟨u1, rfl, ho, hb⟩
  rw [← HXX.out] at ho
  obtain ⟨uA, uc, rfl, huc⟩ := ho.sl.form
  have HB1 := hide hb
  clear ho hb
  go_wp2_with fail
  go_loopw [5, 6] (fun o i wr => ∃ (j : Nat), j ≤ qn ∧ i = .int .i64 j ∧ o = .int .i64 ((x : Int) + ((framesL ((Q.map (·.2)).take j)).length : Nat)) ∧ Hid (Below w.heap.size w wr)) (fun _ i _ => qn - (intOf i).toNat)
  case atStart => exact ⟨0, Nat.zero_le _, rfl, by simp [framesL], HB1.out⟩
  case round =>
    obtain ⟨j, hj, rfl, rfl, HB⟩ := hrel
    have hzr := HB.out.size
    obtain ⟨fj, hfj⟩ : ∃ fj, fj = (framesL ((Q.map (·.2)).take j)).length := ⟨_, rfl⟩
    have HFJ := hide hfj
    rw [← hfj]
    clear hfj
    by_cases hlt : j < qn
    · have HQr := hide (HQ.out.below HB.out)
      have hsl := HQr.out.1.sl
      rw [← HQN.out] at hsl
      have hjQ : j < Q.length := by rw [← HQN.out]; exact hlt
      obtain ⟨ad, rfl, hab, h0⟩ := rec_at hsl hlt HQN.out.symm
      have HRK := hide ((HQr.out.2 Q[j] (List.getElem_mem hjQ)).sl)
      have hlk := HQF.out Q[j].2 (List.mem_map_of_mem (List.getElem_mem hjQ))
      have H8K := hide (HQ8.out Q[j] (List.getElem_mem hjQ))
      have hTK : (framesL ((Q.map (·.2)).take (j + 1))).length = fj + (frameB Q[j].2).length := by
        rw [List.take_succ_eq_append_getElem (by rw [List.length_map]; exact hjQ), List.getElem_map, framesL_app, framesL_one, List.length_append, HFJ.out]
      have hle := framesL_take (Q.map (·.2)) (j + 1)
      rw [← HYY.out] at hle
      have HTK := hide hTK
      rw [hTK] at hle
      generalize Q[j] = r at h0 HRK hlk H8K HTK hle
      obtain ⟨rv, rd⟩ := r
      simp only at h0 HRK hlk H8K HTK hle
      obtain ⟨rA, rc', rfl, hrc'⟩ := HRK.out.form
      clear hsl hTK
      go_wp2_with fail
      refine (rframe_any _ rd rd.length wr.heap.size wr HRK.out rfl H8K.out hlk (Nat.le_refl _)).mono ?_
      rintro e w2 ⟨u2, rfl, ho, hb⟩
      obtain ⟨oA, oc, rfl, hoc⟩ := ho.sl.form
      have HB2 := hide (HB.out.trans (hb.mono hzr))
      clear ho hb
      go_wp2_with fail
      go_roundw
      case rel => exact ⟨j + 1, by omega, by simp, by rw [HTK.out]; first | omega | (simp <;> omega), HB2⟩
      case measure => simp [intOf]; omega
    · have hjq : j = qn := by omega
      have hfy : fj = y := by rw [HFJ.out, HYY.out, List.take_of_length_le (by rw [List.length_map, ← HQN.out]; omega)]
      subst hjq
      subst hfy
      have HR := hide (H.out.below HB.out)
      have c0 : wr.cell? ⟨b, 0, none⟩ = some (.slice A rn rc) := by rw [HRN.out]; exact HR.out.1.cell 0
      have c2 : wr.cell? ⟨b, 2, none⟩ = some (.int .i64 c) := HR.out.1.cell 2
      have q0 := HR.out.1.frozen 0
      have hbl := HR.out.1.lt
      by_cases hfull : c < (x : Int) + fj
      · go_wp2_with fail
        go_ret
        first | exact ⟨rfl, HB.out⟩ | (rw [if_pos hfull]; exact ⟨rfl, HB.out⟩)
      · have HRO : Hid (Own wr base sT 1 (.slice A rn rc) rn (recs R)) := by have h9 := HR.out.2.1; rw [← HRN.out] at h9; exact h9
        have HQO : Hid (Own wr base sT 1 (.slice lA j lc) j (recs Q)) := by have h9 := (HQ.out.below HB.out).1; rw [← HQN.out] at h9; exact h9
        have HEL := hide (HQ.out.below HB.out).2
        go_wp2_with (at_builtin; refine wpList_app rfl tyRec (.tmp 40) (.tmp 41) rfl base (n := rn) (m := j) (B := wr.heap.size) (xs := recs R) (news := recs Q) rfl rfl HRO.out HQO.out.sl (recs_okE Q (fun r hr => (HEL.out r hr).sl)) (by omega) (by omega) (by omega) ?_)
        intro v3 w3 ha
        obtain ⟨vA, vc, rfl, hvc⟩ := ha.own.sl.form
        have B3 := ha.fr.blk HR.out.1 (by have h9 := HR.out.2.1.ne HR.out.1 (by decide); rw [← HRN.out] at h9; exact h9)
        have k0 : w3.cell? ⟨b, 0, none⟩ = some (.slice A rn rc) := by rw [HRN.out]; exact B3.cell 0
        have q3 := B3.frozen 0
        have hlt3 := B3.lt
        have HRT : Hid (RT (w3.setCell ⟨b, 0, none⟩ (.slice vA (rn + j) vc)) base b (.slice vA (rn + j) vc) (R ++ Q) s c) := by
          refine ⟨B3.put 0 _, ?_, fun r hr => ?_⟩
          · rw [List.length_append, ← HRN.out, ← HQN.out, recs_app]
            exact ha.own.put (ha.own.ne B3 (by decide)) _
          · have hown : Own w3 base bT 1 r.1 r.2.length (bys r.2) := by
              rcases List.mem_append.1 hr with h9 | h9
              · refine (HR.out.2.2 r h9).fr ha.fr (fun g hg hg' => ?_)
                obtain ⟨cs1, t1⟩ := (HR.out.2.2 r h9).typed g hg
                obtain ⟨cs2, t2⟩ := HRO.out.typed g hg'
                exact t1.apart t2 (by decide) rfl
              · refine (HEL.out r h9).fr ha.fr (fun g hg hg' => ?_)
                obtain ⟨cs1, t1⟩ := (HEL.out r h9).typed g hg
                obtain ⟨cs2, t2⟩ := HRO.out.typed g hg'
                exact t1.apart t2 (by decide) rfl
            exact hown.put (hown.ne B3 (by decide)) _
        have HFR : Hid (Fr (fun k => k = b ∨ (Value.slice A rn rc).ownBlock = some k) w (w3.setCell ⟨b, 0, none⟩ (.slice vA (rn + j) vc))) :=
          Fr.put (S := fun k => k = b ∨ (Value.slice A rn rc).ownBlock = some k) ((Fr.of_below HB.out).trans ha.fr (fun _ _ h9 => Or.inr h9)) (.inl (.inl rfl)) _
        clear ha B3 c0 c2 q0
        go_wp2_with fail
        go_ret
        exact ⟨rfl, ⟨_, HRT.out⟩, HFR.out⟩

end Go.Proofs.Ytlllocfcljgacaa
