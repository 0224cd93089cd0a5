/- The reference's machine: Add, Pass, Close, Join. -/
import Derived.Test.YtghkkekebjhjlaaRef10
namespace Go.Proofs.Ytghkkekebjhjlaa
open Go.RowKit
set_option linter.unusedVariables false
set_option linter.unusedSimpArgs false

def RPostR (w : World) (base b : Nat) (v : Value) (D : List Inf) (s : Spc) (r : Res) (e : Ending) (w' : World) : Prop :=
  ∃ u v', e = .returned (.tuple #[u, .int .i64 r.er]) ∧ Own w' w.heap.size rI 3 u r.ps.length (infs r.ps) ∧ RR w' base b v' (D ++ r.ps) s r.m ∧ RFr b v w w'
theorem RPostR.none {w : World} {base b : Nat} {v : Value} {D : List Inf} {s : Spc} {er : Int} {m : Mst} {e : Ending} {w' : World} (h : RR w' base b v D s m) (h1 : e = .returned (.tuple #[.slice none 0 0, .int .i64 er])) (h2 : RFr b v w w') : RPostR w base b v D s ⟨[], er, m⟩ e w' := by
  subst h1
  exact ⟨_, v, rfl, Own.nil _ _ _ _, by rw [List.append_nil]; exact h, h2⟩

theorem ok_nonneg {s : Spc} (h : s.ok = true) : 0 ≤ s.e ∧ 0 ≤ s.l ∧ 0 ≤ s.t := by simp [Spc.ok] at h; omega

set_option maxHeartbeats 8000000 in
theorem radd_any (w : World) (base b : Nat) (v : Value) (D : List Inf) (s : Spc) (m : Mst) (x : Int) (h : RR w base b v D s m) (g : GI D m) (hs : s.ok = true) (hD : D.length ≤ 5864062014634) (hfr : m.fr ≤ 4611686018427387904) (hbase : base ≤ w.heap.size) :
    Calls Try.prog 25 #[.pointer (some ⟨b, 0, none⟩), .int .i64 x] w (RPostR w base b v D s (addR s m x)) := by
  obtain ⟨c0, c1, c2, c4, c5, c6, c7, f5, f6, f7, hlt, f4⟩ := h.open
  have hso := ok_nonneg hs
  have hf0 := g.f0
  have hgn : m.n = D.length := g.n
  have H := hide h
  clear h g hs
  unfold addR
  split
  · rename_i hv
    clear hgn
    by_cases h1 : x < 1
    · clear hv
      go_enter Try.func25, Try.ntmps25
      go_wp2_with fail
      go_ret2
      exact RPostR.none H.out rfl (Fr.refl _ _)
    · have h2 : 1000 < x := by simp [btw] at hv; omega
      clear hv
      go_enter Try.func25, Try.ntmps25
      go_wp2_with fail
      go_ret2
      exact RPostR.none H.out rfl (Fr.refl _ _)
  · rename_i hv
    have hv1 : 1 ≤ x := by simp [btw] at hv; omega
    have hv2 : x ≤ 1000 := by simp [btw] at hv; omega
    clear hv
    split
    · rename_i hc
      rw [hc] at c7
      clear hgn
      go_enter Try.func25, Try.ntmps25
      go_wp2_with fail
      go_ret2
      exact RPostR.none H.out rfl (Fr.refl _ _)
    · rename_i hc
      have hc' : m.cl = false := by simpa using hc
      rw [hc'] at c7
      have HC := hide hc'
      clear hc hc'
      have hbase2 : base ≤ (w.setCell ⟨b, 5, none⟩ (.int .i64 (m.fr + x))).heap.size := by simpa using hbase
      cases hp : m.ps
      · rw [hp] at c6
        have HP := hide hp
        split
        · rename_i hl
          rw [show lim s m = s.e by simp [lim, hp]] at hl
          rw [show tim m = 0 by simp [tim, hp], hgn]
          have l1 : 0 < s.e := by omega
          have l2 : s.e ≤ m.fr + x := hl.2
          clear hl hp hgn
          go_enter Try.func25, Try.ntmps25
          go_wp2_with fail
          go_quiet (fail)
          go_wp2_with fail
          have hbase2 : base ≤ ((w.setCell ⟨b, 5, none⟩ (.int .i64 (m.fr + x))).drewN nq).heap.size := hbase2
          refine (rfire_any _ base b _ D s _ 0 false ((H.out.put5 _).drewN _) hD (by simp; exact hbase)).mono ?_
          rintro e w2 ⟨u2, v2, rfl, ho, hr, hf⟩
          have HM := hide (And.intro ho (And.intro hr hf))
          clear ho hr hf
          go_wp2_with fail
          go_ret2
          refine ⟨u2, v2, rfl, ?_, HM.out.2.1.as rfl HP.out.symm rfl, ?_⟩
          · simpa using HM.out.1
          · exact (((Fr.refl _ _).put (.inl (.inl rfl)) _).drewN _).trans HM.out.2.2 (fun _ _ h => h)
        · rename_i hl
          rw [show lim s m = s.e by simp [lim, hp]] at hl
          clear hp hgn
          by_cases l0 : s.e = 0
          · rw [l0] at c0
            clear hl
            go_enter Try.func25, Try.ntmps25
            go_wp2_with fail
            go_quiet (fail)
            go_wp2_with fail
            go_quiet (fail)
            go_wp2_with fail
            go_ret2
            exact RPostR.none ((((H.out.put5 _).drewN _).drewN _).as rfl HP.out.symm rfl) rfl (((((Fr.refl _ _).put (.inl (.inl rfl)) _)).drewN _).drewN _)
          · have l1 : 0 < s.e := by omega
            have l2 : m.fr + x < s.e := by omega
            clear hl l0
            go_enter Try.func25, Try.ntmps25
            go_wp2_with fail
            go_quiet (fail)
            go_wp2_with fail
            go_quiet (fail)
            go_wp2_with fail
            go_ret2
            exact RPostR.none ((((H.out.put5 _).drewN _).drewN _).as rfl HP.out.symm rfl) rfl (((((Fr.refl _ _).put (.inl (.inl rfl)) _)).drewN _).drewN _)
      · rw [hp] at c6
        have HP := hide hp
        split
        · rename_i hl
          rw [show lim s m = s.l by simp [lim, hp]] at hl
          rw [show tim m = 2 by simp [tim, hp], hgn]
          have l1 : 0 < s.l := by omega
          have l2 : s.l ≤ m.fr + x := hl.2
          clear hl hp hgn
          go_enter Try.func25, Try.ntmps25
          go_wp2_with fail
          go_quiet (fail)
          go_wp2_with fail
          go_quiet (fail)
          go_wp2_with fail
          refine (rfire_any _ base b _ D s _ 2 false ((H.out.put5 _).drewN _) hD (by simp; exact hbase)).mono ?_
          rintro e w2 ⟨u2, v2, rfl, ho, hr, hf⟩
          have HM := hide (And.intro ho (And.intro hr hf))
          clear ho hr hf
          go_wp2_with fail
          go_ret2
          refine ⟨u2, v2, rfl, ?_, HM.out.2.1.as rfl HP.out.symm rfl, ?_⟩
          · simpa using HM.out.1
          · exact ((((Fr.refl _ _).put (.inl (.inl rfl)) _)).drewN _).trans HM.out.2.2 (fun _ _ h => h)
        · rename_i hl
          rw [show lim s m = s.l by simp [lim, hp]] at hl
          clear hp hgn
          by_cases l0 : s.l = 0
          · rw [l0] at c1
            clear hl
            go_enter Try.func25, Try.ntmps25
            go_wp2_with fail
            go_quiet (fail)
            go_wp2_with fail
            go_quiet (fail)
            go_wp2_with fail
            go_ret2
            exact RPostR.none ((((H.out.put5 _).drewN _).drewN _).as rfl HP.out.symm rfl) rfl (((((Fr.refl _ _).put (.inl (.inl rfl)) _)).drewN _).drewN _)
          · have l1 : 0 < s.l := by omega
            have l2 : m.fr + x < s.l := by omega
            clear hl l0
            go_enter Try.func25, Try.ntmps25
            go_wp2_with fail
            go_quiet (fail)
            go_wp2_with fail
            go_quiet (fail)
            go_wp2_with fail
            go_ret2
            exact RPostR.none ((((H.out.put5 _).drewN _).drewN _).as rfl HP.out.symm rfl) rfl (((((Fr.refl _ _).put (.inl (.inl rfl)) _)).drewN _).drewN _)

end Go.Proofs.Ytghkkekebjhjlaa
