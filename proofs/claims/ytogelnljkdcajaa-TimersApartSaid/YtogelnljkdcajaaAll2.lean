/- timers.Heap: All: the walk. -/
import Derived.Test.YtogelnljkdcajaaAll
namespace Go.Proofs.Ytogelnljkdcajaa
open Go.RowKit Go.Sort
set_option linter.unusedVariables false
set_option linter.unusedSimpArgs false

structure AllI (w wr : World) (L : List TV) (k : Nat) (O : List TV) (v : Value) : Prop where
  own : Own wr w.heap.size tmT 5 v O.length (tms O)
  ky : ∀ x ∈ O, KeyO wr w.heap.size x
  eq : O.map TV.d = (L.take k).map TV.d
  bl : Below w.heap.size w wr
theorem AllI.below {w wr wz : World} {L O : List TV} {k : Nat} {v : Value} (h : AllI w wr L k O v) (b : Below wr.heap.size wr wz) : AllI w wz L k O v :=
  ⟨h.own.below b, fun x hx => ⟨(h.ky x hx).1.below b, (h.ky x hx).2⟩, h.eq, h.bl.trans (b.mono h.bl.size)⟩
theorem AllI.app {w wr wz : World} {L O : List TV} {k : Nat} {v v' : Value} {x : TV} (h : AllI w wr L k O v) (hk : k < L.length) (hx : KeyO wr w.heap.size x) (hd : x.d = L[k].d) (ha : App wr w.heap.size tmT 5 v (O.length + 1) (tms O ++ tms [x]) v' wz) : AllI w wz L (k + 1) (O ++ [x]) v' := by
  have hT := h.own.typed
  have hbt : ∀ g cs, Blk wr g bT cs → ¬ v.ownBlock = some g := fun g cs hc e => by obtain ⟨c2, k⟩ := hT g e; exact hc.apart k (by decide) rfl
  refine ⟨?_, fun y hy => ?_, ?_, h.bl.trans (ha.fr.below h.bl.size (fun j hj e => ?_))⟩
  · rw [tms_app, List.length_append]; exact ha.own
  · rcases List.mem_append.1 hy with h9 | h9
    · exact (h.ky y h9).fr ha.fr hbt
    · rw [List.mem_singleton.1 h9]; exact hx.fr ha.fr hbt
  · rw [List.take_succ_eq_append_getElem hk, List.map_append, List.map_append, h.eq]
    simp [hd]
  · have := (h.own.lt j e).1; omega

set_option maxRecDepth 100000 in
set_option maxHeartbeats 4000000 in
theorem hall_any (w : World) (base hb tb mb : Nat) (lv : Value) (L : List TV) (h : HpS w base hb tb mb lv L) :
    Calls Try.prog 17 #[.pointer (some ⟨hb, 0, none⟩)] w fun e w' => ∃ (E : List TV) (A : Option Addr) (c : Nat), e = .returned (.slice A E.length c) ∧ Own w' w.heap.size tmT 5 (.slice A E.length c) E.length (tms E) ∧ (∀ x ∈ E, KeyO w' w.heap.size x) ∧ (E.map TV.d).Perm (L.map TV.d) ∧ E.Pairwise leT ∧ Below w.heap.size w w' := by
  obtain ⟨c0, t0, t1, hlt, htl, A, c, rfl, hc⟩ := h.open
  have hln := h.hp.ln
  have HH := hide h
  clear h
  obtain ⟨n, hn⟩ : ∃ n, n = L.length := ⟨_, rfl⟩
  rw [← hn] at t0 hc hln
  have HN := hide hn
  have HI0 : Hid (AllI w w L 0 [] (.slice none 0 0)) := ⟨Own.nil _ _ _ _, (fun x hx => by cases hx), rfl, Below.refl _ _⟩
  clear hn
  go_enter Try.func17, Try.ntmps17
  go_wp2_with fail
  go_loopw [3, 14] (fun v i wr => ∃ (k : Nat) (O : List TV), k ≤ n ∧ i = .int .i64 k ∧ O.length = k ∧ Hid (AllI w wr L k O v)) (fun _ i _ => n - (intOf i).toNat)
  case atStart => exact ⟨0, [], Nat.zero_le _, rfl, rfl, HI0.out⟩
  case round =>
    obtain ⟨k, O, hk, rfl, rfl, HI⟩ := hrel
    by_cases hlt2 : O.length < n
    · have hkL : O.length < L.length := by rw [← HN.out]; exact hlt2
      obtain ⟨M, ht, hg⟩ := (HH.out.below HI.out.bl).hp.st
      obtain ⟨ad, had, hab, a0, a1, a2, a3, a4⟩ := tm_at ht.own.sl hkL rfl
      subst had
      have hky := ht.keys _ (List.getElem_mem hkL)
      obtain ⟨oA, oc, rfl, hoc⟩ := HI.out.own.sl.form
      obtain ⟨x, hx⟩ : ∃ x, x = L[O.length] := ⟨_, rfl⟩
      have HX := hide hx
      rw [← hx] at a0 a1 a2 a3 a4 hky
      obtain ⟨xA, xc, hkx, hxc⟩ := hky.1.sl.form
      have HKY := hide hky
      clear ht hg hky hx
      obtain ⟨xa, xk, xb, xf, xt, xw⟩ := x
      simp only at hkx hxc a0 a1 a2 a3 a4
      subst hkx
      go_wp2_with fail
      have HI2 : Hid (AllI w (wr.alloc (.cells #[.int .i64 xa, .slice xA xb.length xc, .int .i64 xf, .int .i64 xt, .int .i64 xw] tmT)) L O.length O (.slice oA O.length oc)) := HI.out.below ((Below.refl _ _).alloc (Nat.le_refl _) _)
      have HK2 : Hid (KeyO (wr.alloc (.cells #[.int .i64 xa, .slice xA xb.length xc, .int .i64 xf, .int .i64 xt, .int .i64 xw] tmT)) base ⟨xa, .slice xA xb.length xc, xb, xf, xt, xw⟩) := ⟨HKY.out.1.alloc _, HKY.out.2⟩
      generalize wr.alloc (.cells #[.int .i64 xa, .slice xA xb.length xc, .int .i64 xf, .int .i64 xt, .int .i64 xw] tmT) = w2 at *
      refine (copied_any xa xf xt xw _ xb xb.length w2.heap.size w2 HK2.out.1.sl rfl (Nat.le_trans HK2.out.2.2 (by decide)) (Nat.le_refl _)).mono ?_
      rintro e w3 ⟨u, rfl, ho3, hb3⟩
      obtain ⟨uA, uc, rfl, huc⟩ := ho3.sl.form
      have HI3 := hide (HI2.out.below hb3)
      have HU3 : Hid (KeyO w3 w.heap.size ⟨xa, .slice uA xb.length uc, xb, xf, xt, xw⟩) := ⟨ho3.lower HI2.out.bl.size, HK2.out.2⟩
      have HI4 : Hid (∀ cs, AllI w (w3.alloc (.cells cs tmT)) L O.length O (.slice oA O.length oc) ∧ KeyO (w3.alloc (.cells cs tmT)) w.heap.size ⟨xa, .slice uA xb.length uc, xb, xf, xt, xw⟩) := fun cs => ⟨HI3.out.below ((Below.refl _ _).alloc (Nat.le_refl _) _), HU3.out.1.alloc _, HU3.out.2⟩
      have HSL : Hid (∀ W : World, Sl (W.alloc (.cells #[.int .i64 xa, .slice uA xb.length uc, .int .i64 xf, .int .i64 xt, .int .i64 xw] tmT)) (W.heap.size + 1) (.slice (some ⟨W.heap.size, 0, none⟩) 1 1) 5 1 (tms [⟨xa, .slice uA xb.length uc, xb, xf, xt, xw⟩])) := fun W =>
        Sl.of_own (Own.new (n := 1) (sz := 5) (e := tmT) (base := 0) W #[.int .i64 xa, .slice uA xb.length uc, .int .i64 xf, .int .i64 xt, .int .i64 xw] (by omega) (by omega) rfl) |>.mono (by simp)
      have hz3 := HI3.out.bl.size
      clear ho3 hb3 a0 a1 a2 a3 a4 HKY HI HI2 HK2
      go_wp2_with (at_builtin; refine wpList_app rfl tyT (.tmp 18) (.tmp 21) rfl w.heap.size (n := O.length) (m := 1) (B := w3.heap.size + 1) (xs := tms O) (news := tms [⟨xa, .slice uA xb.length uc, xb, xf, xt, xw⟩]) rfl rfl (by exact (HI4.out _).1.own) (by exact HSL.out w3) (tms_ok _ (by intro u hu; simp only [List.mem_singleton] at hu; subst hu; rfl)) (by omega) (by omega) (by simp; omega) ?_)
      intro v5 w5 ha5
      have HI5 : Hid (AllI w w5 L (O.length + 1) (O ++ [⟨xa, .slice uA xb.length uc, xb, xf, xt, xw⟩]) v5) := (HI4.out _).1.app hkL (HI4.out _).2 (by rw [← HX.out]; rfl) ha5
      clear ha5 HI4 HSL
      go_wp2_with fail
      go_roundw
      case rel => exact ⟨O.length + 1, _, by omega, by simp, by simp, HI5⟩
      case measure => simp [intOf]; omega
    · have HE : Hid (L.take O.length = L) := List.take_of_length_le (by rw [← HN.out]; omega)
      have HS := hide (tsort_any _ O w.heap.size wr HI.out.own HI.out.ky (by omega))
      obtain ⟨oA, oc, rfl, hoc⟩ := HI.out.own.sl.form
      go_wp2_with fail
      refine HS.out.mono ?_
      rintro e w9 ⟨rfl, E, hp, hso, ho9, hf9⟩
      have HR : Hid (∃ (E : List TV) (A : Option Addr) (c : Nat), (Value.slice oA O.length oc) = (.slice A E.length c) ∧ Own w9 w.heap.size tmT 5 (.slice A E.length c) E.length (tms E) ∧ (∀ x ∈ E, KeyO w9 w.heap.size x) ∧ (E.map TV.d).Perm (L.map TV.d) ∧ E.Pairwise leT ∧ Below w.heap.size w w9) := by
        have hl := hp.length_eq
        refine ⟨E, oA, oc, by rw [hl], by rw [hl]; exact ho9, fun x hx => ?_, ?_, hso, HI.out.bl.trans (hf9.below HI.out.bl.size (fun j hj e => ?_))⟩
        · refine (HI.out.ky x (hp.mem_iff.1 hx)).fr hf9 (fun g cs hc e => ?_)
          obtain ⟨c2, k⟩ := HI.out.own.typed g e
          exact hc.apart k (by decide) rfl
        · have h9 := hp.map TV.d
          rw [HI.out.eq, HE.out] at h9
          exact h9
        · have := (HI.out.own.lt j e).1; omega
      clear hp hso ho9 hf9 HS
      go_wp2_with fail
      go_ret
      obtain ⟨E, A9, c9, h1, h2⟩ := HR.out
      exact ⟨E, A9, c9, by rw [h1]; rfl, h2⟩

end Go.Proofs.Ytogelnljkdcajaa
