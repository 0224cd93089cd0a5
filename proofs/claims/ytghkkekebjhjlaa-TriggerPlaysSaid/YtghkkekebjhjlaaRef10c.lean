/- The reference's machine: Pass, Close, Join; same. -/
import Derived.Test.YtghkkekebjhjlaaRef10b
namespace Go.Proofs.Ytghkkekebjhjlaa
open Go.RowKit
set_option linter.unusedVariables false
set_option linter.unusedSimpArgs false

set_option maxHeartbeats 8000000 in
theorem rpass_any (w : World) (base b : Nat) (v : Value) (D : List Inf) (s : Spc) (m : Mst) (h : RR w base b v D s m) (g : GI D m) (hs : s.ok = true) (hD : D.length ≤ 5864062014634) (hbase : base ≤ w.heap.size) :
    Calls Try.prog 26 #[.pointer (some ⟨b, 0, none⟩)] w (RPostR w base b v D s (passR s m)) := by
  obtain ⟨c0, c1, c2, c4, c5, c6, c7, f5, f6, f7, hlt, f4⟩ := h.open
  have hgn : m.n = D.length := g.n
  have H := hide h
  have HC := hide g.early
  clear h g hs
  unfold passR
  split
  · rename_i hp
    rw [hp] at c6
    clear hgn
    go_enter Try.func26, Try.ntmps26
    go_wp2_with fail
    go_ret2
    exact RPostR.none H.out rfl (Fr.refl _ _)
  · rename_i hp
    have hp' : m.ps = false := by simpa using hp
    have hc' := (HC.out hp').1
    rw [hp'] at c6
    rw [hc'] at c7
    have HCC := hide hc'
    clear hp hp' hc'
    rw [hgn]
    clear hgn
    by_cases ht : s.t = 0
    · rw [ht] at c2 ⊢
      have HT := hide ht
      clear ht
      go_enter Try.func26, Try.ntmps26
      go_wp2_with fail
      refine (rfire_any _ base b _ D s _ 1 true ((H.out.put6 true).put7 true) hD (by simp; exact hbase)).mono ?_
      rintro e w2 ⟨u2, v2, rfl, ho, hr, hf⟩
      have HM := hide (And.intro ho (And.intro hr hf))
      clear ho hr hf
      go_wp2_with fail
      go_ret2
      refine ⟨u2, v2, rfl, ?_, HM.out.2.1.as rfl rfl rfl, ?_⟩
      · simpa using HM.out.1
      · exact (((Fr.refl _ _).put (.inl (.inl rfl)) _).put (.inl (.inl rfl)) _).trans HM.out.2.2 (fun _ _ h => h)
    · have e1 : (s.t == 0) = false := by simpa using ht
      rw [e1]
      clear ht
      go_enter Try.func26, Try.ntmps26
      go_wp2_with fail
      refine (rfire_any _ base b _ D s _ 1 false (H.out.put6 true) hD (by simp; exact hbase)).mono ?_
      rintro e w2 ⟨u2, v2, rfl, ho, hr, hf⟩
      have HM := hide (And.intro ho (And.intro hr hf))
      clear ho hr hf
      go_wp2_with fail
      go_ret2
      refine ⟨u2, v2, rfl, ?_, HM.out.2.1.as rfl rfl HCC.out.symm, ?_⟩
      · simpa using HM.out.1
      · exact ((Fr.refl _ _).put (.inl (.inl rfl)) _).trans HM.out.2.2 (fun _ _ h => h)

set_option maxHeartbeats 8000000 in
theorem rclose_any (w : World) (base b : Nat) (v : Value) (D : List Inf) (s : Spc) (m : Mst) (h : RR w base b v D s m) (g : GI D m) (hs : s.ok = true) (hD : D.length ≤ 5864062014634) (hbase : base ≤ w.heap.size) :
    Calls Try.prog 27 #[.pointer (some ⟨b, 0, none⟩)] w (RPostR w base b v D s (closeR m)) := by
  obtain ⟨c0, c1, c2, c4, c5, c6, c7, f5, f6, f7, hlt, f4⟩ := h.open
  have hgn : m.n = D.length := g.n
  have hf0 := g.f0
  have H := hide h
  clear h g hs
  unfold closeR
  split
  · rename_i hp
    rw [hp] at c6
    clear hgn
    go_enter Try.func27, Try.ntmps27
    go_wp2_with fail
    go_ret2
    exact RPostR.none H.out rfl (Fr.refl _ _)
  · rename_i hp
    have hp' : m.ps = true := by simpa using hp
    rw [hp'] at c6
    have HP := hide hp'
    clear hp hp'
    split
    · rename_i hc
      rw [hc] at c7
      clear hgn
      go_enter Try.func27, Try.ntmps27
      go_wp2_with fail
      go_ret2
      exact RPostR.none H.out rfl (Fr.refl _ _)
    · rename_i hc
      have hc' : m.cl = false := by simpa using hc
      rw [hc'] at c7
      clear hc hc'
      split
      · rename_i hf
        rw [hf] at c5
        clear hgn
        have HF := hide hf
        clear hf
        go_enter Try.func27, Try.ntmps27
        go_wp2_with fail
        go_ret2
        exact RPostR.none (H.out.put7 true) rfl ((Fr.refl _ _).put (.inl (.inl rfl)) _)
      · rename_i hf
        rw [hgn]
        clear hgn
        have l1 : 0 < m.fr := by omega
        clear hf
        go_enter Try.func27, Try.ntmps27
        go_wp2_with fail
        refine (rfire_any _ base b _ D s _ 2 true (H.out.put7 true) hD (by simp; exact hbase)).mono ?_
        rintro e w2 ⟨u2, v2, rfl, ho, hr, hf⟩
        have HM := hide (And.intro ho (And.intro hr hf))
        clear ho hr hf
        go_wp2_with fail
        go_ret2
        refine ⟨u2, v2, rfl, ?_, HM.out.2.1.as rfl rfl rfl, ?_⟩
        · simpa using HM.out.1
        · exact ((Fr.refl _ _).put (.inl (.inl rfl)) _).trans HM.out.2.2 (fun _ _ h => h)

set_option maxHeartbeats 8000000 in
theorem rjoin_no (w : World) (base b base' b' : Nat) (v v' : Value) (D D' : List Inf) (s s' : Spc) (m m' : Mst) (h : RR w base b v D s m) (h' : RR w base' b' v' D' s' m') (g : GI D m) (g' : GI D' m') (hy : (yng m && yng m') = false) :
    Calls Try.prog 28 #[.pointer (some ⟨b, 0, none⟩), .pointer (some ⟨b', 0, none⟩)] w fun e w' => e = .returned (.int .i64 100) ∧ w = w' := by
  obtain ⟨A, c, rfl, hc⟩ := h.form
  obtain ⟨A', c', rfl, hc'⟩ := h'.form
  obtain ⟨c0, c1, c2, c4, c5, c6, c7, f5, f6, f7, hlt, f4⟩ := h.open
  obtain ⟨d0, d1, d2, d4, d5, d6, d7, g5, g6, g7, hlt', g4⟩ := h'.open
  have hgn := g.n
  have hgn' := g'.n
  have HH := hide (And.intro h h')
  clear h h' g g'
  cases hp : m.ps
  · rw [hp] at c6
    cases hp' : m'.ps
    · rw [hp'] at d6
      by_cases hn : 0 < D.length
      · clear hy hp hp'
        go_enter Try.func28, Try.ntmps28
        go_wp2_with fail
        go_ret
        exact ⟨rfl, rfl⟩
      · have hn' : 0 < D'.length := by
          simp [yng, hp, hp', hgn, hgn'] at hy
          by_cases h9 : D = []
          · have := hy h9
            exact List.length_pos_iff.2 this
          · exact absurd (List.length_pos_iff.2 h9) hn
        clear hy hp hp'
        go_enter Try.func28, Try.ntmps28
        go_wp2_with fail
        go_ret
        exact ⟨rfl, rfl⟩
    · rw [hp'] at d6
      clear hy hp hp'
      go_enter Try.func28, Try.ntmps28
      go_wp2_with fail
      go_ret
      exact ⟨rfl, rfl⟩
  · rw [hp] at c6
    clear hy hp
    go_enter Try.func28, Try.ntmps28
    go_wp2_with fail
    go_ret
    exact ⟨rfl, rfl⟩

set_option maxHeartbeats 8000000 in
theorem rjoin_yes (w : World) (base b base' b' : Nat) (v v' : Value) (D D' : List Inf) (s s' : Spc) (m m' : Mst) (h : RR w base b v D s m) (h' : RR w base' b' v' D' s' m') (g : GI D m) (g' : GI D' m') (hy : yng m = true) (hy' : yng m' = true)
    (h2 : m.fr ≤ 4611686018427387904) (h4 : m'.fr ≤ 1152921504606846976) (hne : b ≠ b') :
    Calls Try.prog 28 #[.pointer (some ⟨b, 0, none⟩), .pointer (some ⟨b', 0, none⟩)] w fun e w' => e = .returned (.int .i64 0) ∧ RR w' base b v D s { m with fr := m.fr + m'.fr } ∧ RFr b v w w' := by
  obtain ⟨A, c, rfl, hc⟩ := h.form
  obtain ⟨A', c', rfl, hc'⟩ := h'.form
  obtain ⟨c0, c1, c2, c4, c5, c6, c7, f5, f6, f7, hlt, f4⟩ := h.open
  obtain ⟨d0, d1, d2, d4, d5, d6, d7, g5, g6, g7, hlt', g4⟩ := h'.open
  have hgn := g.n
  have hgn' := g'.n
  have hf := g.f0
  have hf' := g'.f0
  have H := hide h
  have HH := hide h'
  clear h h' g g'
  simp only [yng, Bool.and_eq_true, Bool.not_eq_true', beq_iff_eq] at hy hy'
  obtain ⟨hp, hn⟩ := hy
  obtain ⟨hp', hn'⟩ := hy'
  rw [hp] at c6
  rw [hp'] at d6
  have z1 : D.length = 0 := by omega
  have z2 : D'.length = 0 := by omega
  clear hp hp' hn hn' hgn hgn'
  go_enter Try.func28, Try.ntmps28
  go_wp2_with fail
  go_region
  all_goals
    go_wp2_with fail
    go_ret
    refine ⟨rfl, ?_, ?_⟩
    · exact H.out.drew.put5 _
    · exact ((Fr.refl _ _).drew).put (.inl (.inl rfl)) _

end Go.Proofs.Ytghkkekebjhjlaa
