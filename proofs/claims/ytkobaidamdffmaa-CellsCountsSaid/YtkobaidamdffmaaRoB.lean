/- Bytes that are only read (their block may bear a mark); []byte of a string. -/
import Derived.Test.YtkobaidamdffmaaCell2
import Derived.Lib.ConvBytes
namespace Go.Proofs.Ytkobaidamdffmaa
open Go.RowKit
set_option linter.unusedVariables false
set_option linter.unusedSimpArgs false

/-- the slice v of the bytes D lies at the head of a block of bytes, from base on -/
def RoB (w : World) (base : Nat) (v : Value) (D : List Int) : Prop :=
  ∃ A c, v = .slice A D.length c ∧ D.length ≤ c ∧ c ≤ 9223372036854775807 ∧ (0 < D.length → ∃ g cs fr, A = some ⟨g, 0, none⟩ ∧ base ≤ g ∧ w.heap[g]? = some (.cells cs bT fr) ∧ ∀ j, j < D.length → cs[j]? = (bys D)[j]?)
section
variable {w w' : World} {base b' : Nat} {v : Value} {D : List Int}
theorem RoB.form (h : RoB w base v D) : ∃ A c, v = .slice A D.length c ∧ D.length ≤ c := by
  obtain ⟨A, c, h1, h2, _⟩ := h
  exact ⟨A, c, h1, h2⟩
theorem RoB.sl (h : RoB w base v D) : Sl w w.heap.size v 1 D.length (bys D) := by
  obtain ⟨A, c, h1, h2, h3, h4⟩ := h
  refine ⟨bys_len D, A, c, h1, h2, h3, fun hn => ?_⟩
  obtain ⟨g, cs, fr, h5, h6, h7, h8⟩ := h4 hn
  refine ⟨_, h5, (Array.getElem?_eq_some_iff.1 h7).1, fun j u hu => ?_⟩
  have hj : j < D.length := by
    have := (List.getElem?_eq_some_iff.1 hu).1
    rw [bys_len] at this
    omega
  have hadd : (⟨g, 0, none⟩ : Addr).add j = ⟨g, j, none⟩ := by unfold Addr.add; split <;> simp_all
  rw [hadd]
  simp only [World.cell?, h7]
  rw [h8 j hj, hu]
  rfl
theorem RoB.fr {S : Nat → Prop} (h : RoB w base v D) (hf : Fr S w w') (hs : ∀ g cs fr, w.heap[g]? = some (.cells cs bT fr) → ¬ S g) : RoB w' base v D := by
  obtain ⟨A, c, h1, h2, h3, h4⟩ := h
  refine ⟨A, c, h1, h2, h3, fun hn => ?_⟩
  obtain ⟨g, cs, fr, h5, h6, h7, h8⟩ := h4 hn
  exact ⟨g, cs, fr, h5, h6, (hf.block g (Array.getElem?_eq_some_iff.1 h7).1 (hs g cs fr h7)).trans h7, h8⟩
theorem RoB.below (h : RoB w base v D) (hb : Below w.heap.size w w') : RoB w' base v D := h.fr (S := nob) (Fr.of_below hb) (fun _ _ _ _ => id)
theorem RoB.lower (h : RoB w base v D) (hb : b' ≤ base) : RoB w b' v D := by
  obtain ⟨A, c, h1, h2, h3, h4⟩ := h
  refine ⟨A, c, h1, h2, h3, fun hn => ?_⟩
  obtain ⟨g, cs, fr, h5, h6, h7⟩ := h4 hn
  exact ⟨g, cs, fr, h5, Nat.le_trans hb h6, h7⟩
theorem RoB.of_own (h : Own w base bT 1 v D.length (bys D)) : RoB w base v D := by
  obtain ⟨A, c, hv, hc⟩ := h.sl.form
  have hm := (show Sl w w.heap.size (.slice A D.length c) 1 D.length (bys D) by rw [← hv]; exact h.sl).inv.2.2.1
  refine ⟨A, c, hv, hc, hm, fun hn => ?_⟩
  rcases h.2 with ⟨_, h0⟩ | ⟨g, cap, cur, h1, h2, h3, h4, h5, h6, h7⟩
  · omega
  · rw [hv] at h1
    injection h1 with h1 _ _
    refine ⟨g, cur, (0, 0), h1, h2, h3, fun j hj => ?_⟩
    rw [← h7, List.getElem?_take, if_pos (by omega), Array.getElem?_toList]
end
/-- other blocks than bytes of whatever mark -/
theorem TabS.nbyte {w : World} {base tb cb : Nat} {wm fm : Option Nat} {bg : Bool} {L W : List (PK × CV)} {F : List (PK × Int)} (h : TabS w base tb cb wm fm bg L W F) : ∀ g cs fr, w.heap[g]? = some (.cells cs bT fr) → ¬ TBk tb cb wm fm bg g := by
  rintro g cs fr hg (h1 | h1 | ⟨h0, h1⟩)
  · have hb := h.blk
    unfold Blk at hb
    rw [← h1, hg] at hb
    injection hb with hb
    injection hb with _ hb
    exact absurd hb (by decide)
  · obtain ⟨es, clock, hb, _⟩ := h.map
    rw [← h1, hg] at hb
    cases hb
  · obtain ⟨wb, fb, e1, e2, h3⟩ := h.beg h0
    rcases h1 with h1 | h1
    · rw [e1] at h1
      injection h1 with h1
      obtain ⟨es, clock, hb, _⟩ := h3.wm
      rw [h1, hg] at hb
      cases hb
    · rw [e2] at h1
      injection h1 with h1
      obtain ⟨es, clock, hb, _⟩ := h3.fm
      rw [h1, hg] at hb
      cases hb

theorem strOf_size (D : List Int) : (strOfNums D).size = D.length := by
  show (strOfNums D).data.size = _
  rw [← Array.length_toList, strOfNums_data, List.length_map]
/-- []byte(s) -/
theorem conv_any (w : World) (D : List Int) (h8 : Bytes8 D) (hn : D.length ≤ 140737488355328) :
    ∃ cap w', (convert 9 23 (.string (strOfNums D))).run Try.prog w = .ok (.slice (some ⟨w.heap.size, 0, none⟩) D.length cap) w' ∧ RoB w' w.heap.size (.slice (some ⟨w.heap.size, 0, none⟩) D.length cap) D ∧ Below w.heap.size w w' := by
  have hr := Lib.run_convert_string_bytes (P := Try.prog) w 9 23 bT (strOfNums D) (u := .string) (by kernel_rfl) Try.underlying23 (by kernel_rfl)
  rw [strOf_size] at hr
  have hge := grownCap_ge w D.length 0 bT
  have hle := grownCap_le_maxLen w D.length 0 bT (by unfold maxLen; omega)
  unfold maxLen at hle
  refine ⟨_, _, hr, ⟨_, _, rfl, hge, by omega, fun _ => ⟨_, _, _, rfl, Nat.le_refl _, Lib.bytesWorld_at_new w bT (strOfNums D), fun j hj => ?_⟩⟩, ⟨rfl, rfl, rfl, ?_, fun k hk => Lib.bytesWorld_at_old w bT _ k hk⟩⟩
  · unfold Lib.bytesCells
    have hsz : (strOfNums D).data.toList = D.map (fun n => UInt8.ofNat n.toNat) := strOfNums_data D
    rw [← Array.getElem?_toList, Array.toList_append, List.getElem?_append_left (by simp only [Array.toList_map, List.length_map, hsz]; exact hj), Array.toList_map, hsz, List.map_map, bys_map, List.getElem?_map, List.getElem?_map, List.getElem?_eq_getElem hj]
    have hb := h8 _ (List.getElem_mem hj)
    simp
    omega
  · rw [Lib.bytesWorld_size]; omega

end Go.Proofs.Ytkobaidamdffmaa
