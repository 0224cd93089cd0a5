/- The reference's queue of layer 17: Take where there is something; Oldest. -/
import Derived.Test.YtlaijnabdlidiaaRef17
namespace Go.Proofs.Ytlaijnabdlidiaa
open Go.RowKit
set_option linter.unusedVariables false
set_option linter.unusedSimpArgs false

def XTPost (w : World) (base b : Nat) (G : Nat → Prop) (W : List Itm) (m : Nat) (p : Int) (e : Ending) (w' : World) : Prop :=
  ∃ v G', e = .returned (.tuple #[v, .int .i64 0]) ∧ Own w' base iT 2 v m (its (W.take m)) ∧ XR w' base b G' (W.drop m) (W.take m) p ∧ Fr (fun k => k = b) w w' ∧ (∀ k, G' k → G k ∨ w.heap.size ≤ k)

set_option maxHeartbeats 8000000 in
theorem xtake_some (w : World) (base b : Nat) (G : Nat → Prop) (W : List Itm) (m : Nat) (p n : Int) (h : XR w base b G W [] p) (hm : 1 ≤ m) (hmW : m ≤ W.length) (hn : n = m ∨ (W.length < n ∧ m = W.length)) (hW : W.length ≤ 8796093022207) :
    Calls Try.prog 20 #[.pointer (some ⟨b, 0, none⟩), .int .i64 n] w (XTPost w base b G W m p) := by
  obtain ⟨wA, wc, bA, bc, c0, c1, c2, f0, f1, f2, hlt, hbb, H, HG⟩ := h.open
  have hbase : base ≤ w.heap.size := by omega
  clear h
  simp only [List.length_nil] at c1
  have hn1 : ¬ n < 1 := by omega
  have hW0 : ¬ W.length = 0 := by omega
  go_enter Try.func20, Try.ntmps20
  go_wp2_with fail
  go_loopw [6, 7, 8] (fun av bv i wr => ∃ (k : Nat), k ≤ W.length ∧ i = .int .i64 k ∧ Hid (Own wr w.heap.size iT 2 av (min k m) (its (W.take (min k m)))) ∧ Hid (Own wr w.heap.size iT 2 bv (k - m) (its ((W.take k).drop m))) ∧ Hid (∀ g, av.ownBlock = some g → bv.ownBlock ≠ some g) ∧ Hid (Below w.heap.size w wr)) (fun _ _ i _ => W.length - (intOf i).toNat)
  case atStart => exact ⟨0, Nat.zero_le _, rfl, by simpa [Hid, its] using Own.nil w w.heap.size iT 2, by simpa [Hid, its] using Own.nil w w.heap.size iT 2, (fun g hg => by cases hg), Below.refl _ _⟩
  case round =>
    obtain ⟨k, hk, rfl, HA, HBv, HNE, HB⟩ := hrel
    obtain ⟨aA, ac, rfl, hac⟩ := HA.out.sl.form
    obtain ⟨uA, uc, rfl, huc⟩ := HBv.out.sl.form
    have hzr := HB.out.size
    have HR := hide (H.out.1.below HB.out hlt)
    have d0 : wr.cell? ⟨b, 0, none⟩ = some (.slice wA W.length wc) := HR.out.cell 0
    have hlt1 := HR.out.lt
    by_cases hlk : k < W.length
    · obtain ⟨ad, rfl, hab, g0, g1⟩ := itm_at (H.out.2.1.sl.below HB.out) hlk rfl
      have HTK : Hid (W.take (k + 1) = W.take k ++ [W[k]]) := List.take_succ_eq_append_getElem hlk
      generalize W[k] = x at g0 g1 HTK
      obtain ⟨xt, xn⟩ := x
      simp only at g0 g1
      have hab2 : (ad.add (k * 2)).block < wr.heap.size := by omega
      have HN : Hid (Sl (wr.alloc (.cells #[.int .i64 xt, .int .i64 xn] iT)) (wr.heap.size + 1) (.slice (some ⟨wr.heap.size, 0, none⟩) 1 1) 2 1 (its [⟨xt, xn⟩])) :=
        Sl.of_own (Own.new (n := 1) (sz := 2) (e := iT) (base := 0) wr #[.int .i64 xt, .int .i64 xn] (by omega) (by omega) rfl) |>.mono (by simp)
      by_cases hkm : k < m
      · have hkn : (k : Int) < n := by omega
        have hmin : min k m = k := by omega
        rw [hmin] at HA HNE hac ⊢
        go_wp2_with (at_builtin; refine wpList_app rfl tyIt (.tmp 37) (.tmp 45) rfl w.heap.size (n := k) (m := 1) (B := wr.heap.size + 1) (xs := its (W.take k)) (news := its [⟨xt, xn⟩]) rfl rfl (HA.out.alloc _) HN.out (its_ok _) (by omega) (by omega) (by simp <;> omega) ?_)
        intro v1 w1 ha
        have HA1 : Hid (Own w1 w.heap.size iT 2 v1 (min (k + 1) m) (its (W.take (min (k + 1) m)))) := by
          rw [Hid, show min (k + 1) m = k + 1 by omega, HTK.out, its_app]; exact ha.own
        have HB1 := hide ((HB.out.alloc (o := .cells #[.int .i64 xt, .int .i64 xn] iT) HB.out.size).trans (ha.fr.below (B := w.heap.size) (by simp <;> omega) (fun k hk h => by have := ((HA.out.lt k h).1); omega)))
        have HU1 : Hid (Own w1 w.heap.size iT 2 (.slice uA (k - m) uc) (k + 1 - m) (its ((W.take (k + 1)).drop m))) := by
          have h9 := (HBv.out.alloc (.cells #[.int .i64 xt, .int .i64 xn] iT)).fr ha.fr (fun g hg hg' => HNE.out g hg' hg)
          have e1 : k - m = 0 := by omega
          have e2 : k + 1 - m = 0 := by omega
          have e3 : (W.take (k + 1)).drop m = [] := List.drop_eq_nil_of_le (by rw [List.length_take]; omega)
          have e4 : (W.take k).drop m = [] := List.drop_eq_nil_of_le (by rw [List.length_take]; omega)
          rw [e4, e1] at h9
          rw [Hid, e3, e2, e1]
          exact h9
        have HNE1 : Hid (∀ g, v1.ownBlock = some g → (Value.slice uA (k - m) uc).ownBlock ≠ some g) := by
          intro g hg hg'
          rcases ha.at_ with h9 | h9
          · rw [h9] at hg; exact HNE.out g hg hg'
          · rw [h9] at hg
            injection hg with hg
            have := (HBv.out.lt g hg').2
            simp at hg
            omega
        clear ha
        go_wp2_with fail
        go_roundw
        case rel => exact ⟨k + 1, by omega, by simp, HA1, HU1, HNE1, HB1⟩
        case measure => simp [intOf]; omega
      · have hkn : ¬ (k : Int) < n := by omega
        have hmin : min k m = m := by omega
        rw [hmin] at HA HNE hac ⊢
        have HLn : Hid (its ((W.take (k + 1)).drop m) = its ((W.take k).drop m) ++ its [⟨xt, xn⟩]) := by
          rw [Hid, HTK.out, List.drop_append_of_le_length (by rw [List.length_take]; omega), its_app]
        go_wp2_with (at_builtin; refine wpList_app rfl tyIt (.tmp 47) (.tmp 55) rfl w.heap.size (n := k - m) (m := 1) (B := wr.heap.size + 1) (xs := its ((W.take k).drop m)) (news := its [⟨xt, xn⟩]) rfl rfl (HBv.out.alloc _) HN.out (its_ok _) (by omega) (by omega) (by simp <;> omega) ?_)
        intro v1 w1 ha
        have HU1 : Hid (Own w1 w.heap.size iT 2 v1 (k + 1 - m) (its ((W.take (k + 1)).drop m))) := by
          rw [Hid, HLn.out, show k + 1 - m = k - m + 1 by omega]; exact ha.own
        have HB1 := hide ((HB.out.alloc (o := .cells #[.int .i64 xt, .int .i64 xn] iT) HB.out.size).trans (ha.fr.below (B := w.heap.size) (by simp <;> omega) (fun k hk h => by have := ((HBv.out.lt k h).1); omega)))
        have HA1 : Hid (Own w1 w.heap.size iT 2 (.slice aA m ac) (min (k + 1) m) (its (W.take (min (k + 1) m)))) := by
          rw [Hid, show min (k + 1) m = m by omega]
          exact (HA.out.alloc (.cells #[.int .i64 xt, .int .i64 xn] iT)).fr ha.fr (fun g hg hg' => by
            have h8 := HNE.out g hg
            exact h8 hg')
        have HNE1 : Hid (∀ g, (Value.slice aA m ac).ownBlock = some g → v1.ownBlock ≠ some g) := by
          intro g hg hg'
          rcases ha.at_ with h9 | h9
          · rw [h9] at hg'; exact HNE.out g hg hg'
          · rw [h9] at hg'
            injection hg' with hg'
            have := (HA.out.lt g hg).2
            simp at hg'
            omega
        clear ha
        go_wp2_with fail
        go_roundw
        case rel => exact ⟨k + 1, by omega, by simp, HA1, HU1, HNE1, HB1⟩
        case measure => simp [intOf]; omega
    · obtain rfl : k = W.length := by omega
      have hmin : min W.length m = m := by omega
      rw [hmin] at HA HNE hac ⊢
      have HUL : Hid (Own wr w.heap.size iT 2 (.slice uA (W.length - m) uc) (W.drop m).length (its (W.drop m))) := by
        have h9 := HBv.out
        rw [List.take_of_length_le (Nat.le_refl _)] at h9
        rw [Hid, List.length_drop]
        exact h9
      have d1 : wr.cell? ⟨b, 1, none⟩ = some (.slice bA 0 bc) := HR.out.cell 1
      have q0 := HR.out.frozen 0
      have q1 := HR.out.frozen 1
      go_wp2_with fail
      go_ret2
      have B7 := (HR.out.put 1 (.slice aA m ac)).put 0 (.slice uA (W.length - m) uc)
      have hna : (Value.slice aA m ac).ownBlock ≠ some b := HA.out.ne HR.out (by decide)
      have hnu : (Value.slice uA (W.length - m) uc).ownBlock ≠ some b := HUL.out.ne HR.out (by decide)
      have OA := (HA.out.put (p := ⟨b, 1, none⟩) hna (.slice aA m ac)).put (p := ⟨b, 0, none⟩) hna (.slice uA (W.length - m) uc)
      have OU := (HUL.out.put (p := ⟨b, 1, none⟩) hnu (.slice aA m ac)).put (p := ⟨b, 0, none⟩) hnu (.slice uA (W.length - m) uc)
      have hlen : (W.take m).length = m := by rw [List.length_take]; omega
      refine ⟨_, foot b (.slice uA (W.length - m) uc) (.slice aA m ac), rfl, OA.lower hbase, XR.make B7 (OU.lower hbase) (by rw [hlen]; exact OA.lower hbase) hbb, ?_, ?_⟩
      · exact ((Fr.of_below HB.out : Fr (fun k => k = b) w wr).put1 1 _).put1 0 _
      · rintro k (rfl | hk | hk)
        · exact .inl HG.out.1
        · exact .inr (HUL.out.lt k hk).1
        · exact .inr (HA.out.lt k hk).1

end Go.Proofs.Ytlaijnabdlidiaa
