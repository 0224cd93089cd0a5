/- The laws of layer 16: Due, Next as a law calls them. -/
import Derived.Test.YtogelnljkdcajaaLaw16c
namespace Go.Proofs.Ytogelnljkdcajaa
open Go.RowKit Go.Sort
set_option linter.unusedVariables false
set_option linter.unusedSimpArgs false

/-- behind Due -/
structure DueR (w0 w w' : World) (hb tb mb : Nat) (lv lv' : Value) (L L' O : List TV) (now : Int) (A : Option Addr) (c : Nat) : Prop where
  own : Own w' w.heap.size tmT 5 (.slice A O.length c) O.length (tms O)
  hr : HR w0 w' hb tb mb lv' L'
  fr : Fr (HBk tb mb lv) w w'
  nb : NewB w lv lv'
  pm : L.Perm (O ++ L')
  so : O.Pairwise leT
  le : ∀ x ∈ O, ∀ y ∈ L', leT x y
  du : ∀ x ∈ O, x.a ≤ now
  nd : ∀ y ∈ L', now < y.a
  ky : ∀ x ∈ O, KeyO w' w0.heap.size x
  ap : ∀ g, (Value.slice A O.length c).ownBlock = some g → lv'.ownBlock ≠ some g
theorem hdue_r (w0 w : World) (hb tb mb : Nat) (lv : Value) (L : List TV) (now : Int) (h : HR w0 w hb tb mb lv L) :
    Calls Try.prog 15 #[.pointer (some ⟨hb, 0, none⟩), .int .i64 now] w fun e w' => ∃ O A c lv' L', e = .returned (.slice A O.length c) ∧ DueR w0 w w' hb tb mb lv lv' L L' O now A c := by
  refine (hdue_any w w0.heap.size hb tb mb lv L now h.hp h.bl.size).mono ?_
  rintro e w' ⟨O, v, lv', L', rfl, hi, hn⟩
  obtain ⟨A, c, rfl, _⟩ := hi.own.sl.form
  exact ⟨O, A, c, lv', L', rfl, ⟨hi.own, h.step hi.hp hi.fr, hi.fr, hi.nb, hi.pm, hi.so, hi.le, hi.du, hn, hi.ky, hi.ap⟩⟩
theorem hnext_r (w0 w : World) (hb tb mb : Nat) (lv : Value) (L : List TV) (h : HR w0 w hb tb mb lv L) :
    Calls Try.prog 16 #[.pointer (some ⟨hb, 0, none⟩)] w fun e w' => ∃ (za : Int) (zA : Option Addr) (zn zc : Nat) (zb : List Int) (zf zt zw : Int) (ok : Bool), e = .returned (.tuple #[.agg #[.int .i64 za, .slice zA zn zc, .int .i64 zf, .int .i64 zt, .int .i64 zw], .bool ok]) ∧ Aim w0 w' hb tb mb lv L ⟨za, .slice zA zn zc, zb, zf, zt, zw⟩ ∧ Below w.heap.size w w' ∧
      ((ok = false ∧ L = []) ∨ (ok = true ∧ L ≠ [] ∧ (⟨za, zb, zf, zt, zw⟩ : TD) = (gt L 0).d ∧ gt L 0 ∈ L ∧ ∀ y ∈ L, leT (gt L 0) y)) := by
  refine (hnext_any w w0.heap.size hb tb mb lv L h.hp).mono ?_
  rintro e w' ⟨hb', ⟨hL, rfl⟩ | ⟨hL, u, rfl, ho⟩⟩
  · exact ⟨0, none, 0, 0, [], 0, 0, 0, false, rfl, ⟨h.below hb', Own.nil _ _ _ _, fun c hc => (by cases hc), by simp⟩, hb', .inl ⟨rfl, hL⟩⟩
  · obtain ⟨uA, uc, rfl, _⟩ := ho.sl.form
    have h0 : 0 < L.length := by cases L with | nil => exact absurd rfl hL | cons => simp
    have hm : gt L 0 ∈ L := by rw [gt_of h0]; exact List.getElem_mem h0
    obtain ⟨M, ht, _⟩ := h.hp.hp.st
    have hk := ht.keys _ hm
    refine ⟨_, uA, _, uc, (gt L 0).kb, _, _, _, true, rfl, ⟨h.below hb', ho.lower h.bl.size, hk.2⟩, hb', .inr ⟨rfl, hL, rfl, hm, fun y hy => ?_⟩⟩
    obtain ⟨i, hi, rfl⟩ := List.getElem_of_mem hy
    rw [← gt_of hi]
    exact h.hp.hp.hp.min i hi
theorem sets_mem (D l : List TD) (y : TD) (h : y ∈ D.foldl setD l) : y ∈ l ∨ y ∈ D := by
  induction D generalizing l with
  | nil => exact .inl h
  | cons x D ih =>
    rw [List.foldl_cons] at h
    rcases ih (setD l x) h with h1 | h1
    · unfold setD at h1
      rcases List.mem_append.1 h1 with h2 | h2
      · exact .inl (List.mem_filter.1 h2).1
      · exact .inr (List.mem_cons.2 (.inl (List.mem_singleton.1 h2)))
    · exact .inr (List.mem_cons_of_mem _ h1)
/-- whether they were right or not; what is there is right -/
theorem SetR.rights {w0 w w' : World} {hb tb mb : Nat} {lv : Value} {L : List TV} {D : List TD} {e : Ending} (h : SetR w0 w hb tb mb lv L D e w') (hr : ∀ y ∈ L, y.right) :
    ∃ (z : Int) (lv' : Value) (L' : List TV), e = .returned (.int .i64 z) ∧ HR w0 w' hb tb mb lv' L' ∧ (∀ y ∈ L', y.right) ∧ L'.length ≤ L.length + D.length ∧ Fr (HBk tb mb lv) w w' ∧ NewB w lv lv' := by
  obtain ⟨lv', hf, hn, ⟨_, he, hh⟩ | ⟨hd, he, L', hh, hp⟩⟩ := h
  · exact ⟨_, lv', L, he, hh, hr, by omega, hf, hn⟩
  · refine ⟨_, lv', L', he, hh, fun y hy => ?_, ?_, hf, hn⟩
    · rcases sets_mem D _ _ (hp.mem_iff.1 (List.mem_map_of_mem (f := TV.d) hy)) with h1 | h1
      · obtain ⟨z, hz, hzd⟩ := List.mem_map.1 h1
        have := hr z hz
        rw [← TV.right_d] at this ⊢
        rw [← hzd]
        exact this
      · exact hd _ h1
    · have h1 := hp.length_eq
      have h2 := sets_len D (L.map TV.d)
      simp only [List.length_map] at h1 h2
      omega

end Go.Proofs.Ytogelnljkdcajaa
