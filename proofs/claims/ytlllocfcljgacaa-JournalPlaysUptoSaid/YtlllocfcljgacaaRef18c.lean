/- The reference of layer 18: Scan. -/
import Derived.Test.YtlllocfcljgacaaRef18b
import Derived.Deep.RegionWith
namespace Go.Proofs.Ytlllocfcljgacaa
open Go.RowKit
set_option linter.unusedVariables false
set_option linter.unusedSimpArgs false

theorem lenA_bound : ∀ (D : List Int) (k acc m z : Nat), Bytes8 D → k ≤ 3 → acc < 128 ^ k → lenA k acc D = (m, z) → m < 2097152 ∧ z ≤ 3
  | [], k, acc, m, z, _, _, _, h => by
    simp only [lenA, Prod.mk.injEq] at h
    omega
  | c :: D, k, acc, m, z, h8, hk, ha, h => by
    have hc := h8 c List.mem_cons_self
    rw [lenA] at h
    split at h
    · simp only [Prod.mk.injEq] at h
      omega
    · rename_i hk2
      have hp : 128 ^ (k + 1) = 128 * 128 ^ k := by rw [Nat.pow_succ, Nat.mul_comm]
      have hp3 : 128 ^ (k + 1) ≤ 128 ^ 3 := Nat.pow_le_pow_right (by omega) (by omega)
      split at h
      · simp only [Prod.mk.injEq] at h
        have h1 : c.toNat * 128 ^ k ≤ 127 * 128 ^ k := Nat.mul_le_mul_right _ (by omega)
        omega
      · have h1 : (c.toNat - 128) * 128 ^ k ≤ 127 * 128 ^ k := Nat.mul_le_mul_right _ (by omega)
        exact lenA_bound D (k + 1) _ m z (fun x hx => h8 x (List.mem_cons_of_mem _ hx)) (by omega) (by omega) h

set_option maxRecDepth 100000 in
set_option maxHeartbeats 8000000 in
theorem rscan_any (v : Value) (X : List Int) (n B : Nat) (w : World) (hs : Sl w B v 1 n (bys X)) (hX : X.length = n) (h8 : Bytes8 X) (hn : n ≤ 1073741824) (hB : B ≤ w.heap.size) :
    Calls Try.prog 18 #[v] w fun e w' => ∃ u Q, e = .returned (.tuple #[u, .int .i64 ((framesL (scanB X)).length : Nat)]) ∧ OwnRecs w' w.heap.size u Q ∧ Q.map (·.2) = scanB X ∧ Below w.heap.size w w' := by
  obtain ⟨A, c, rfl, hc⟩ := hs.form
  have HS := hide hs
  have HX := hide hX
  have H8 := hide h8
  clear hs hX h8
  have HSP := hide (scan_spec X H8.out)
  go_enter Try.func18, Try.ntmps18
  go_wp2_with fail
  go_loopw [4, 5] (fun o i wr => ∃ (L : List (List Int)) (Q : List Rec), (framesL L).length ≤ n ∧ i = .int .i64 ((framesL L).length : Nat) ∧ Hid (scanB X = L ++ scanB (X.drop (framesL L).length)) ∧ Hid (OwnRecs wr w.heap.size o Q) ∧ Hid (Q.map (·.2) = L) ∧ Hid (Below w.heap.size w wr)) (fun _ i _ => n - (intOf i).toNat)
  case atStart => exact ⟨[], [], Nat.zero_le _, rfl, rfl, ⟨Own.nil _ _ _ _, by simp⟩, rfl, Below.refl _ _⟩
  case round =>
    obtain ⟨L, Q, hle, rfl, HSC, HQ, HE, HB⟩ := hrel
    obtain ⟨p, hp⟩ : ∃ p, p = (framesL L).length := ⟨_, rfl⟩
    have HP := hide hp
    rw [← hp] at hle HSC ⊢
    clear hp
    have hzr := HB.out.size
    have HSr := hide (HS.out.below (HB.out.mono hB))
    obtain ⟨D, hD⟩ : ∃ D, D = X.drop p := ⟨_, rfl⟩
    have hDl : D.length = n - p := by rw [hD, List.length_drop, HX.out]
    have HD8 : Hid (Bytes8 D) := by rw [hD]; exact fun x hx => H8.out x (List.mem_of_mem_drop hx)
    obtain ⟨m, z, hl⟩ : ∃ m z, lenA 0 0 D = (m, z) := ⟨_, _, rfl⟩
    have HDD := hide hD
    have HDL := hide hDl
    have HLA := hide hl
    clear hD hDl hl
    have hmz := lenA_bound D 0 0 m z HD8.out (by omega) (by simp) HLA.out
    have HNO : Hid (wholeB D = none → L = scanB X) := fun h => by rw [HSC.out, ← HDD.out, scanB_none h, List.append_nil]
    by_cases hcp : c - p = 0
    · have hz0 : m = 0 ∧ z = 0 := by
        have h9 := HLA.out
        have h10 : D = [] := List.length_eq_zero_iff.1 (by rw [HDL.out]; omega)
        rw [h10, lenA] at h9
        simp only [Prod.mk.injEq] at h9
        omega
      obtain ⟨rfl, rfl⟩ := hz0
      have HN := hide (HNO.out (ref_none HD8.out HLA.out (.inl rfl)))
      have hDnil : D = [] := List.length_eq_zero_iff.1 (by rw [HDL.out]; omega)
      have HDN := hide hDnil
      have h1 : p = n := by omega
      have h2 : c = n := by omega
      clear hDnil hcp hmz
      subst h1
      subst h2
      go_wp2_with fail
      refine (rlength_any _ [] 0 wr.heap.size 0 0 wr ⟨rfl, _, _, rfl, by omega, by omega, by omega⟩ rfl (by intro x hx; cases hx) rfl).mono ?_
      rintro e w2 ⟨rfl, rfl⟩
      go_wp2_with fail
      go_ret2
      rw [← HN.out, ← HP.out]
      first | exact ⟨_, rfl, Q, HQ.out, HE.out, HB.out⟩ | exact ⟨_, Q, rfl, HQ.out, HE.out, HB.out⟩
    · have HDS : Hid (Sl wr B (.slice (Option.map (fun x => x.add p) A) (n - p) (c - p)) 1 (n - p) (bys D)) := by
        have h9 := HSr.out.drop (k := p) hle
        simp only [Nat.mul_one] at h9
        rw [HDD.out, bys_map, List.map_drop, ← bys_map]
        exact h9
      go_wp2_with fail
      refine (rlength_any _ D _ B m z wr HDS.out HDL.out HD8.out HLA.out).mono ?_
      rintro e w2 ⟨rfl, rfl⟩
      by_cases hz : z = 0
      · subst hz
        have HN := hide (HNO.out (ref_none HD8.out HLA.out (.inl rfl)))
        go_wp2_with fail
        go_ret2
        rw [← HN.out, ← HP.out]
        first | exact ⟨_, rfl, Q, HQ.out, HE.out, HB.out⟩ | exact ⟨_, Q, rfl, HQ.out, HE.out, HB.out⟩
      · have hz2 : ((z : Int) == 0) = false := by rw [beq_eq_false_iff_ne]; omega
        by_cases hm : 1048576 < m
        · have HN := hide (HNO.out (ref_none HD8.out HLA.out (.inr (.inl hm))))
          go_wp2_with fail
          go_ret2
          rw [← HN.out, ← HP.out]
          first | exact ⟨_, rfl, Q, HQ.out, HE.out, HB.out⟩ | exact ⟨_, Q, rfl, HQ.out, HE.out, HB.out⟩
        · by_cases hs : n < p + z + 4 + m
          · have HN := hide (HNO.out (ref_none HD8.out HLA.out (.inr (.inr (.inl (by rw [HDL.out]; omega))))))
            go_wp2_with fail
            go_ret2
            rw [← HN.out, ← HP.out]
            first | exact ⟨_, rfl, Q, HQ.out, HE.out, HB.out⟩ | exact ⟨_, Q, rfl, HQ.out, HE.out, HB.out⟩
          · obtain ⟨r, hr⟩ : ∃ r, r = (D.drop (z + 4)).take m := ⟨_, rfl⟩
            have hrl : r.length = m := by rw [hr, List.length_take, List.length_drop, HDL.out]; omega
            have HR8 : Hid (Bytes8 r) := by rw [hr]; exact fun x hx => HD8.out x (List.mem_of_mem_drop (List.mem_of_mem_take hx))
            have hrX : ((bys X).drop (p + z + 3 + 1)).take m = bys r := by
              rw [hr, HDD.out, List.drop_drop, show p + (z + 4) = p + z + 3 + 1 by omega, bys_map, bys_map, List.map_take, List.map_drop]
            have HR1 : Hid (Sl wr B (.slice (Option.map (fun x => ⟨x.block, x.off + (p + z + 3 + 1), none⟩) A) m (c - (p + z + 4))) 1 m (bys r)) := by
              have h9 := (HSr.out.drop (k := p + z + 3 + 1) (by omega)).take (k := m) (by omega)
              simp only [Nat.mul_one, add_succ] at h9
              rw [hrX] at h9
              exact h9
            have HR2 : Hid (c - (p + z + 4) = 0 → Sl wr B (.slice A m 0) 1 m (bys r)) := by
              intro h9
              have hm0 : m = 0 := by omega
              have hr0 : r = [] := List.length_eq_zero_iff.1 (by omega)
              rw [hr0, hm0]
              exact ⟨rfl, A, 0, rfl, by omega, by omega, by omega⟩
            have HRN : Hid (frameB r ≠ D.take (frameB r).length → wholeB D = none) := by
              intro h9
              rw [hr] at h9
              exact ref_none HD8.out HLA.out (.inr (.inr (.inr h9)))
            have HRY : Hid (frameB r = D.take (frameB r).length → wholeB D = some (r, z + 4 + m)) := by
              intro h9
              rw [hr] at h9 ⊢
              exact ref_some HLA.out (by omega) (by rw [HDL.out]; omega) h9
            have HRL := hide hrl
            have hfb := frameB_len r (by omega)
            clear hr hrl hrX
            by_cases hcq : c = p + z + 4
            case' pos =>
              subst hcq
              have HRS : Hid (Sl wr B (.slice A m 0) 1 m (bys r)) := HR2.out (by omega)
              go_wp2_with fail
              try simp only [Nat.add_sub_cancel_left, Nat.sub_self]
              generalize Value.slice A m 0 = rv at HRS ⊢
            case' neg =>
              have hcq2 : ¬ (c - (p + z + 4) = 0) := by omega
              have HRS : Hid (Sl wr B (.slice (Option.map (fun x => x.add (p + z + 4)) A) m (c - (p + z + 4))) 1 m (bys r)) := by
                have h9 := HR1.out
                have h10 : (fun x : Addr => (⟨x.block, x.off + (p + z + 3 + 1), none⟩ : Addr)) = (fun x => x.add (p + z + 4)) := by
                  funext x
                  exact (add_succ x (p + z + 3)).symm
                rw [h10] at h9
                exact h9
              go_wp2_with fail
              try simp only [Nat.add_sub_cancel_left, Nat.sub_self]
              generalize Value.slice (Option.map (fun x => x.add (p + z + 4)) A) m (c - (p + z + 4)) = rv at HRS ⊢
            all_goals
              go_region_with (first
                | (go_at_call 32; refine (rframe_any _ r m B _ (by first | exact HRS.out.drew | exact HRS.out.drewN _ | exact HRS.out) HRL.out HR8.out (by omega) (by simp; omega)).mono ?_; rintro e w10 ⟨fu, rfl, ho, hbb⟩; obtain ⟨fA, fc, rfl, hfc⟩ := ho.sl.form)
                | (go_at_call 31; refine (rbegins_any _ _ (frameB r) D _ (n - p) w10.heap.size _ ho.sl ((HDS.out.drew.below (hbb.mono (show B ≤ wr.heap.size by omega))).mono (Nat.le_trans (show B ≤ wr.heap.size by omega) hbb.size)) rfl HDL.out).mono ?_; rintro e w11 ⟨rfl, j, rfl⟩))
              have hbw : Below wr.heap.size wr (w10.drewN j) := (((Below.refl wr.heap.size wr).drewN 1).trans hbb).drewN j
              clear ho hbb
              generalize w10.drewN j = w11 at *
              have hz11 := hbw.size
              have HRS11 := hide (HRS.out.below (hbw.mono (by omega)))
              have HQ11 : Hid (OwnRecs w11 w.heap.size _ Q) := hide ⟨HQ.out.1.below hbw, fun r hr => (HQ.out.2 r hr).below hbw⟩
              have HB11 := hide (HB.out.trans (hbw.mono hzr))
              clear hbw
              by_cases hpre : frameB r = D.take (frameB r).length
              · have HW := hide (HRY.out hpre)
                have hsp := wholeB_some HD8.out HW.out
                have HFR := hide hsp.2.1
                rw [decide_eq_true hpre]
                have HSC2 : Hid (scanB X = (L ++ [r]) ++ scanB (X.drop (p + (z + 4 + m)))) := by rw [Hid, HSC.out, ← HDD.out, scanB_some HW.out, HDD.out, List.drop_drop]; simp
                have HPM : Hid ((framesL (L ++ [r])).length = p + (z + 4 + m)) := by rw [Hid, framesL_app, framesL_one, List.length_append, ← HP.out, ← HFR.out]
                have hql : Q.length ≤ 1073741824 := by
                  have h9 := congrArg List.length HE.out
                  rw [List.length_map] at h9
                  have h10 := framesL_ge L
                  rw [← HP.out] at h10
                  omega
                clear hsp hpre
                go_wp2_with (at_builtin; refine wpList_app rfl tyB (.tmp 58) (.tmp 59) rfl w.heap.size (n := 0) (m := m) (B := B) (xs := []) (news := bys r) rfl rfl (Own.nil _ _ _ _) HRS11.out (bys_ok _) (by omega) (by omega) (by omega) ?_)
                intro v12 w12 ha
                have HO12 : Hid (Own w12 w.heap.size bT 1 v12 m (bys r)) := by simpa [Hid] using ha.own
                have hb12 : Below w11.heap.size w11 w12 := ha.fr.below (Nat.le_refl _) (fun k hk h => by cases h)
                obtain ⟨vA, vc, rfl, hvc⟩ := HO12.out.sl.form
                have HQ12 : Hid (OwnRecs w12 w.heap.size _ Q) := hide ⟨HQ11.out.1.below hb12, fun r hr => (HQ11.out.2 r hr).below hb12⟩
                have HB12 := hide (HB11.out.trans (hb12.mono (by omega)))
                have hz12 := hb12.size
                clear ha hb12
                have HN : Hid (Sl (w12.alloc (.cells #[.slice vA m vc] sT)) (w12.heap.size + 1) (.slice (some ⟨w12.heap.size, 0, none⟩) 1 1) 1 1 (recs [(.slice vA m vc, r)])) :=
                  Sl.of_own (Own.new (n := 1) (sz := 1) (e := sT) (base := 0) w12 #[.slice vA m vc] (by omega) (by omega) rfl) |>.mono (by simp)
                go_wp2_with (at_builtin; refine wpList_app rfl tyRec (.tmp 57) (.tmp 61) rfl w.heap.size (n := Q.length) (m := 1) (B := w12.heap.size + 1) (xs := recs Q) (news := recs [(.slice vA m vc, r)]) rfl rfl (HQ12.out.1.alloc _) HN.out (by intro u hu; simp [recs] at hu; subst hu; rfl) (by omega) (by omega) (by simp <;> omega) ?_)
                intro v13 w13 ha
                have HQ13 : Hid (OwnRecs w13 w.heap.size v13 (Q ++ [(.slice vA m vc, r)])) := by
                  refine ⟨by rw [recs_app, List.length_append]; exact ha.own, fun r' hr => ?_⟩
                  rcases List.mem_append.1 hr with h9 | h9
                  · refine ((HQ12.out.2 r' h9).alloc _).fr ha.fr (fun g hg hg' => ?_)
                    obtain ⟨cs1, t1⟩ := (HQ12.out.2 r' h9).typed g hg
                    obtain ⟨cs2, t2⟩ := HQ12.out.1.typed g hg'
                    exact t1.apart t2 (by decide) rfl
                  · rw [List.mem_singleton] at h9
                    subst h9
                    rw [HRL.out]
                    refine (HO12.out.alloc _).fr ha.fr (fun g hg hg' => ?_)
                    obtain ⟨cs1, t1⟩ := HO12.out.typed g hg
                    obtain ⟨cs2, t2⟩ := HQ12.out.1.typed g hg'
                    exact t1.apart t2 (by decide) rfl
                have HB13 := hide ((HB12.out.alloc (by omega) (.cells #[.slice vA m vc] sT)).trans (ha.fr.below (B := w.heap.size) (by simp <;> omega) (fun k hk h => by have := (HQ12.out.1.lt k h).1; omega)))
                clear ha
                go_wp2_with fail
                go_roundw
                case rel => exact ⟨L ++ [r], Q ++ [(.slice vA m vc, r)], by rw [HPM.out]; omega, by rw [HPM.out]; simp <;> omega, by rw [HPM.out]; exact HSC2.out, HQ13, by rw [Hid, List.map_append, HE.out]; rfl, HB13⟩
                case measure => simp [intOf]; omega
              · have HN := hide (HNO.out (HRN.out hpre))
                rw [decide_eq_false hpre]
                clear hpre
                go_wp2_with fail
                go_ret2
                rw [← HN.out, ← HP.out]
                first | exact ⟨_, rfl, Q, HQ11.out, HE.out, HB11.out⟩ | exact ⟨_, Q, rfl, HQ11.out, HE.out, HB11.out⟩

end Go.Proofs.Ytlllocfcljgacaa
