/- The reference's queue of layer 17: Oldest. -/
import Derived.Test.YtlaijnabdlidiaaRef17b
namespace Go.Proofs.Ytlaijnabdlidiaa
open Go.RowKit
set_option linter.unusedVariables false
set_option linter.unusedSimpArgs false

theorem old_snoc (D : List Itm) (k : Nat) (hk : k < D.length) : old (D.take (k + 1)) = oldf (old (D.take k)) D[k] := by
  rw [List.take_succ_eq_append_getElem hk, old, List.foldl_append]
  rfl

set_option maxHeartbeats 8000000 in
theorem xoldest_any (w : World) (base b : Nat) (G : Nat → Prop) (W Bn : List Itm) (p : Int) (h : XR w base b G W Bn p) (hn : Bn.length + W.length ≤ 8796093022207) :
    Calls Try.prog 22 #[.pointer (some ⟨b, 0, none⟩)] w fun e w' => e = .returned (.tuple #[.int .i64 (old (Bn ++ W)).1, .bool (old (Bn ++ W)).2]) ∧ Below w.heap.size w w' := by
  obtain ⟨wA, wc, bA, bc, c0, c1, c2, f0, f1, f2, hlt, hbb, H, HG⟩ := h.open
  have hbase : base ≤ w.heap.size := by omega
  clear h
  obtain ⟨D, hD⟩ : ∃ D, D = Bn ++ W := ⟨_, rfl⟩
  rw [← hD]
  have HDD := hide hD
  clear hD
  go_enter Try.func22, Try.ntmps22
  go_wp2_with fail
  go_region_law (first
    | (refine step_app rfl tyIt (.tmp 7) (.tmp 11) rfl base (n := 0) (m := Bn.length) (B := w.heap.size) (xs := its []) (news := its Bn) rfl rfl (Own.nil _ _ _ _) (by exact H.out.2.2.sl) (its_ok Bn) (by omega) (by omega) (by exact hbase) ?_
       intro v5 w5 ha5
       have hb5 : Below w.heap.size w w5 := ((Below.refl w.heap.size w).drewN 1).trans (ha5.fr.below (B := w.heap.size) (Nat.le_refl _) (fun k hk h => by have h' : (Value.slice none 0 0).ownBlock = some k := h; cases h'))
       have hk5 := H.out.1.below hb5 hlt
       have k0 : w5.cell? ⟨b, 0, none⟩ = some (.slice wA W.length wc) := hk5.cell 0
       have klt := hk5.lt)
    | (refine step_app rfl tyIt (.tmp 12) (.tmp 16) rfl base (n := 0 + Bn.length) (m := W.length) (B := w.heap.size) (xs := its [] ++ its Bn) (news := its W) rfl rfl ha5.own (by exact (H.out.2.1.sl.below hb5)) (its_ok W) (by omega) (by omega) (by have := hb5.size; omega) ?_
       intro v6 w6 ha6
       have hn5 : ∀ g, v5.ownBlock = some g → w.heap.size ≤ g := by
         intro g hg
         rcases ha5.at_ with h9 | h9
         · have h9' : v5.ownBlock = none := h9
           rw [h9'] at hg
           cases hg
         · have h9' : v5.ownBlock = some w.heap.size := h9
           rw [h9'] at hg
           injection hg with hg
           omega
       have hb6 : Below w.heap.size w w6 := hb5.trans (ha6.fr.below hb5.size (fun k hk h => by have := hn5 k h; omega))
       obtain ⟨vA, vc, rfl, hvc⟩ := ha6.own.sl.form))
  all_goals
    have HO6 : Hid (Own w6 base iT 2 (.slice vA (Bn.length + W.length) vc) (Bn.length + W.length) (its (Bn ++ W))) := by
      have h9 := ha6.own
      rw [Nat.zero_add] at h9
      rw [Hid, its_app]
      exact h9
    have HB6 := hide hb6
    clear ha5 ha6 hb5 hk5 k0 klt hn5 hb6
    have hD := HDD.out
    rw [← hD] at HO6
    obtain ⟨n, hnn⟩ : ∃ n, n = Bn.length + W.length := ⟨_, rfl⟩
    have HL : Hid (D.length = n) := by rw [Hid, hD, List.length_append, hnn]
    rw [← hnn] at HO6 hn ⊢
    clear hD hnn HDD
    by_cases hn0 : n = 0
    · subst hn0
      have HE : Hid (D = []) := List.eq_nil_of_length_eq_zero HL.out
      go_wp2_with fail
      go_ret2
      rw [HE.out]
      exact ⟨rfl, HB6.out⟩
    · have hnb : ((n : Int) == 0) = false := by simp [hn0]
      obtain ⟨ad, rfl, hab, g0, g1⟩ := itm_at HO6.out.sl (show 0 < n by omega) HL.out
      simp only [Nat.zero_mul] at hab g0 g1
      have e0 : ad.add 0 = ad := by simp [Addr.add]
      rw [e0] at hab g0 g1
      have i0 : (0 : Int) < (n : Int) := by omega
      obtain ⟨x0, hx0⟩ : ∃ x0, x0 = D[0]'(by rw [HL.out]; omega) := ⟨_, rfl⟩
      rw [← hx0] at g0
      have HX0 := hide hx0
      clear g1 hx0 e0
      go_wp2_with fail
      go_loopw [5, 6] (fun l i wr => ∃ (k : Nat) (lv : Int), k ≤ n ∧ l = .int .i64 lv ∧ i = .int .i64 k ∧ Hid ((k = 0 ∧ lv = x0.t) ∨ (0 < k ∧ old (D.take k) = (lv, true))) ∧ wr = w6) (fun _ i _ => n - (intOf i).toNat)
      case atStart => exact ⟨0, _, Nat.zero_le _, rfl, rfl, .inl ⟨rfl, rfl⟩, rfl⟩
      case round =>
        obtain ⟨k, lv, hk, rfl, rfl, HI, rfl⟩ := hrel
        by_cases hlk : k < n
        · have hkD : k < D.length := by rw [HL.out]; exact hlk
          obtain ⟨ad', had', hab', q0, q1⟩ := itm_at HO6.out.sl hlk HL.out
          injection had' with had'
          subst had'
          have HNX : Hid (∀ lv', (lv' = if D[k].t < lv then D[k].t else lv) → (0 < k + 1 ∧ old (D.take (k + 1)) = (lv', true))) := by
            rintro lv' rfl
            refine ⟨by omega, ?_⟩
            rw [old_snoc D k hkD]
            rcases HI.out with ⟨rfl, h9⟩ | ⟨h8, h9⟩
            · have e1 : D[0] = x0 := HX0.out.symm
              rw [List.take_zero]
              simp only [old, List.foldl_nil, oldf, true_or, if_true]
              rw [e1, h9]
              simp
            · rw [h9]
              unfold oldf
              simp only [Bool.true_eq_false, false_or]
              split <;> rfl
          generalize D[k] = x at q0 q1 HNX
          obtain ⟨xt, xn⟩ := x
          simp only at q0 q1 HNX
          by_cases hxl : xt < lv
          · go_wp2_with fail
            go_roundw
            case rel => exact ⟨k + 1, xt, by omega, rfl, by simp, .inr (HNX.out xt (by rw [if_pos hxl])), trivial⟩
            case measure => simp [intOf]; omega
          · have hxl' := hxl
            go_wp2_with fail
            go_roundw
            case rel => exact ⟨k + 1, lv, by omega, rfl, by simp, .inr (HNX.out lv (by rw [if_neg (by omega)])), trivial⟩
            case measure => simp [intOf]; omega
        · obtain rfl : k = n := by omega
          have HE : Hid (old D = (lv, true)) := by
            rcases HI.out with ⟨h8, _⟩ | ⟨_, h9⟩
            · exact absurd h8 hn0
            · rw [List.take_of_length_le (by rw [HL.out]; omega)] at h9
              exact h9
          go_wp2_with fail
          go_ret2
          rw [HE.out]
          exact ⟨rfl, HB6.out⟩

end Go.Proofs.Ytlaijnabdlidiaa
