/- The reference's Tape: first, Bytes, Append. -/
import Derived.Test.YtlllocfcljgacaaRef18c
import Derived.Deep.RegionHeld3
namespace Go.Proofs.Ytlllocfcljgacaa
open Go.RowKit
set_option linter.unusedVariables false
set_option linter.unusedSimpArgs false

abbrev xT : Nat := 53
/-- At block b lies the reference's tape: its records R, s of them safe, capacity c. -/
def RT (w : World) (base b : Nat) (rv : Value) (R : List Rec) (s c : Int) : Prop := Blk w b xT #[rv, .int .i64 s, .int .i64 c] ∧ OwnRecs w base rv R
section
variable {w w' : World} {base b : Nat} {rv : Value} {R : List Rec} {s c : Int}
theorem OwnRecs.below (h : OwnRecs w base rv R) (hb : Below w.heap.size w w') : OwnRecs w' base rv R := ⟨h.1.below hb, fun r hr => (h.2 r hr).below hb⟩
theorem RT.below (h : RT w base b rv R s c) (hb : Below w.heap.size w w') : RT w' base b rv R s c := ⟨h.1.below hb h.1.lt, h.2.below hb⟩
theorem RT.alloc (h : RT w base b rv R s c) (o : Obj) : RT (w.alloc o) base b rv R s c := h.below ((Below.refl _ _).alloc (Nat.le_refl _) o)
theorem RT.drewN (h : RT w base b rv R s c) (k : Nat) : RT (w.drewN k) base b rv R s c := h
end

set_option maxRecDepth 100000 in
set_option maxHeartbeats 8000000 in
theorem rfirst_any (w : World) (base b : Nat) (rv : Value) (R : List Rec) (s c : Int) (k : Nat) (h : RT w base b rv R s c) (hk : k ≤ R.length) (hf : Fit (R.map (·.2))) (h8 : ∀ r ∈ R, Bytes8 r.2) (hX : (framesL (R.map (·.2))).length ≤ 1073741824) :
    Calls Try.prog 34 #[.pointer (some ⟨b, 0, none⟩), .int .i64 k] w fun e w' => ∃ u, e = .returned u ∧ Own w' w.heap.size bT 1 u (framesL ((R.map (·.2)).take k)).length (bys (framesL ((R.map (·.2)).take k))) ∧ Below w.heap.size w w' := by
  obtain ⟨A, rc, rfl, hrc⟩ := h.2.1.sl.form
  have H := hide h
  have HF := hide hf
  have H8 := hide h8
  have HX := hide hX
  obtain ⟨rn, hrn⟩ : ∃ rn, rn = R.length := ⟨_, rfl⟩
  rw [← hrn] at hk hrc
  have HRN := hide hrn
  have hlen : (R.map (·.2)).length = rn := by rw [List.length_map, ← hrn]
  have HLN := hide hlen
  have hge := framesL_ge (R.map (·.2))
  rw [hlen] at hge
  clear h hf h8 hrn hlen
  go_enter Try.func34, Try.ntmps34
  go_wp2_with fail
  go_loopw [5, 6] (fun o i wr => ∃ (j : Nat), j ≤ k ∧ i = .int .i64 j ∧ Hid (Own wr w.heap.size bT 1 o (framesL ((R.map (·.2)).take j)).length (bys (framesL ((R.map (·.2)).take j)))) ∧ Hid (Below w.heap.size w wr)) (fun _ i _ => k - (intOf i).toNat)
  case atStart => exact ⟨0, Nat.zero_le _, rfl, by simp [framesL, Hid]; exact Own.nil _ _ _ _, Below.refl _ _⟩
  case round =>
    obtain ⟨j, hj, rfl, HO, HB⟩ := hrel
    obtain ⟨fn, hfn⟩ : ∃ fn, fn = (framesL ((R.map (·.2)).take j)).length := ⟨_, rfl⟩
    have HFN := hide hfn
    rw [← hfn] at HO
    clear hfn
    obtain ⟨oA, oc, rfl, hoc⟩ := HO.out.sl.form
    by_cases hlt : j < k
    · have HR := hide (H.out.below HB.out)
      have hzr := HB.out.size
      have c0 : wr.cell? ⟨b, 0, none⟩ = some (.slice A rn rc) := by rw [HRN.out]; exact HR.out.1.cell 0
      have hbl := HR.out.1.lt
      have hsl := HR.out.2.1.sl
      rw [← HRN.out] at hsl
      have hjR : j < R.length := by rw [← HRN.out]; omega
      obtain ⟨ad, rfl, hab, h0⟩ := rec_at hsl (show j < rn by omega) HRN.out.symm
      have HRK := hide ((HR.out.2.2 R[j] (List.getElem_mem hjR)).sl)
      have hlk := HF.out R[j].2 (List.mem_map_of_mem (List.getElem_mem hjR))
      have H8K := hide (H8.out R[j] (List.getElem_mem hjR))
      have HTK : Hid ((R.map (·.2)).take (j + 1) = (R.map (·.2)).take j ++ [R[j].2]) := by
        rw [Hid, List.take_succ_eq_append_getElem (by rw [HLN.out]; omega), List.getElem_map]
      have hfl := framesL_take (R.map (·.2)) j
      have hfl2 := framesL_take (R.map (·.2)) (j + 1)
      rw [HTK.out, framesL_app, framesL_one, List.length_append] at hfl2
      rw [← HFN.out] at hfl hfl2
      have hXX := HX.out
      generalize R[j] = r at h0 HRK hlk H8K HTK hfl2
      obtain ⟨rv, rd⟩ := r
      simp only at h0 HRK hlk H8K HTK hfl2
      obtain ⟨rA, rc', rfl, hrc'⟩ := HRK.out.form
      clear hsl
      go_wp2_with fail
      refine (rframe_any _ rd rd.length wr.heap.size wr HRK.out rfl H8K.out hlk (Nat.le_refl _)).mono ?_
      rintro e w2 ⟨u2, rfl, ho, hb⟩
      have HO2 := hide ho
      have HOo := hide (HO.out.below hb)
      have HB2 := hide (HB.out.trans (hb.mono hzr))
      have hz2 := hb.size
      clear ho hb h0 c0
      go_wp2_with (at_builtin; refine wpList_app rfl tyB (.tmp 12) (.tmp 20) rfl w.heap.size (n := fn) (m := (frameB rd).length) (B := w2.heap.size) (xs := bys (framesL ((List.map (fun x : Rec => x.2) R).take j))) (news := bys (frameB rd)) rfl rfl HOo.out HO2.out.sl (bys_ok _) (by omega) (by omega) (by omega) ?_)
      intro v3 w3 ha
      have HO3 : Hid (Own w3 w.heap.size bT 1 v3 (framesL ((R.map (·.2)).take (j + 1))).length (bys (framesL ((R.map (·.2)).take (j + 1))))) := by
        rw [HTK.out, framesL_app, framesL_one, bys_app, List.length_append, ← HFN.out]; exact ha.own
      have HB3 := hide (HB2.out.trans (ha.fr.below (B := w.heap.size) (by omega) (fun g hg h9 => by have := (HOo.out.lt g h9).1; omega)))
      clear ha
      go_wp2_with fail
      go_roundw
      case rel => exact ⟨j + 1, by omega, by simp, HO3, HB3⟩
      case measure => simp [intOf]; omega
    · have hjk : j = k := by omega
      subst hjk
      go_wp2_with fail
      go_ret
      have h9 := HO.out
      rw [HFN.out] at h9
      refine ⟨_, rfl, ?_, HB.out⟩
      rw [HFN.out]
      exact h9

set_option maxRecDepth 100000 in
set_option maxHeartbeats 8000000 in
theorem rbytes_any (w : World) (base b : Nat) (rv : Value) (R : List Rec) (s c : Int) (h : RT w base b rv R s c) (hf : Fit (R.map (·.2))) (h8 : ∀ r ∈ R, Bytes8 r.2) (hX : (framesL (R.map (·.2))).length ≤ 1073741824) :
    Calls Try.prog 25 #[.pointer (some ⟨b, 0, none⟩)] w fun e w' => ∃ u, e = .returned u ∧ Own w' w.heap.size bT 1 u (framesL (R.map (·.2))).length (bys (framesL (R.map (·.2)))) ∧ Below w.heap.size w w' := by
  obtain ⟨A, rc, rfl, hrc⟩ := h.2.1.sl.form
  have H := hide h
  have HF := hide hf
  have H8 := hide h8
  have HX := hide hX
  obtain ⟨rn, hrn⟩ : ∃ rn, rn = R.length := ⟨_, rfl⟩
  have HRN := hide hrn
  rw [← hrn] at hrc
  have c0 : w.cell? ⟨b, 0, none⟩ = some (.slice A rn rc) := by rw [HRN.out]; exact h.1.cell 0
  have hbl := h.1.lt
  clear h hf h8 hX hrn
  go_enter Try.func25, Try.ntmps25
  go_wp2_with fail
  refine (rfirst_any w base b _ R s c rn H.out (by rw [HRN.out]; exact Nat.le_refl _) HF.out H8.out HX.out).mono ?_
  rintro e w1 ⟨u, rfl, ho, hb⟩
  rw [List.take_of_length_le (by rw [List.length_map, HRN.out]; exact Nat.le_refl _)] at ho
  have HO := hide (And.intro ho hb)
  clear ho hb
  go_wp2_with fail
  go_ret
  exact ⟨_, rfl, HO.out.1, HO.out.2⟩

end Go.Proofs.Ytlllocfcljgacaa
