/- What Take does to a queue. -/
import Derived.Test.YtlaijnabdlidiaaQueue
namespace Go.Proofs.Ytlaijnabdlidiaa
open Go.RowKit
set_option linter.unusedVariables false
set_option linter.unusedSimpArgs false

set_option maxHeartbeats 2000000 in
theorem take_busy (w : World) (base b : Nat) (F : Nat → Prop) (W Bn : List Itm) (p n : Int) (h : QR w base b F W Bn p) (hp : 0 < Bn.length) :
    Calls Try.prog 11 #[.pointer (some ⟨b, 0, none⟩), .int .i64 n] w fun e w' => e = .returned (.tuple #[.slice none 0 0, .int .i64 171]) ∧ w = w' := by
  obtain ⟨wA, wc, bA, bc, c0, c1, c2, c3, f1, f2, f3, hlt, hwc, H⟩ := h.open
  clear h
  go_enter Try.func11, Try.ntmps11
  go_wp2
  go_ret2
  exact ⟨rfl, rfl⟩

set_option maxHeartbeats 2000000 in
theorem take_none (w : World) (base b : Nat) (F : Nat → Prop) (W : List Itm) (p n : Int) (h : QR w base b F W [] p) (hn : n < 1 ∨ W.length = 0) :
    Calls Try.prog 11 #[.pointer (some ⟨b, 0, none⟩), .int .i64 n] w fun e w' => e = .returned (.tuple #[.slice none 0 0, .int .i64 170]) ∧ w = w' := by
  obtain ⟨wA, wc, bA, bc, c0, c1, c2, c3, f1, f2, f3, hlt, hwc, H⟩ := h.open
  clear h
  simp only [List.length_nil] at c2
  by_cases h1 : n < 1
  · clear hn
    go_enter Try.func11, Try.ntmps11
    go_wp2
    go_ret2
    exact ⟨rfl, rfl⟩
  · have h2 : W.length = 0 := by omega
    rw [h2] at c1
    clear hn
    go_enter Try.func11, Try.ntmps11
    go_wp2
    go_ret2
    exact ⟨rfl, rfl⟩

/-- the first m are the bundle, and a copy of them is handed out -/
def TPost (w : World) (base b : Nat) (F : Nat → Prop) (W : List Itm) (m : Nat) (p : Int) (e : Ending) (w' : World) : Prop :=
  ∃ v F', e = .returned (.tuple #[v, .int .i64 0]) ∧ QR w' base b F' (W.drop m) (W.take m) p ∧ Own w' base iT 2 v m (its (W.take m)) ∧ (∀ g, v.ownBlock = some g → w.heap.size ≤ g ∧ ¬ F' g) ∧ Fr F w w' ∧ (∀ k, F' k → F k ∨ w.heap.size ≤ k)

set_option maxHeartbeats 4000000 in
theorem take_some (w : World) (base b : Nat) (F : Nat → Prop) (W : List Itm) (m : Nat) (p n : Int) (h : QR w base b F W [] p) (hm : 1 ≤ m) (hmW : m ≤ W.length) (hn : n = m ∨ (W.length < n ∧ m = W.length)) (hW : W.length ≤ 8796093022207) (hbase : base ≤ w.heap.size) :
    Calls Try.prog 11 #[.pointer (some ⟨b, 0, none⟩), .int .i64 n] w (TPost w base b F W m p) := by
  obtain ⟨wA, wc, bA, bc, c0, c1, c2, c3, f1, f2, f3, hlt, hwc, H⟩ := h.open
  clear h
  simp only [List.length_nil] at c2
  obtain ⟨g, cap, he, hc1, hc2, hgb, hgl⟩ := H.out.2.1.pos (by omega)
  obtain ⟨rfl, rfl⟩ : wA = some ⟨g, 0, none⟩ ∧ wc = cap := by injection he; exact ⟨‹_›, ‹_›⟩
  clear he
  have S1 : Hid (Sl w w.heap.size (.slice (some ⟨g, 0, none⟩) m wc) 2 m (its (W.take m))) := by
    have h := H.out.2.1.sl.take (k := m) hmW
    rw [its, flat_take _ 2 Itm.cells2] at h
    exact h
  have hp0 : ((W.length : Int) == 0) = false := beq_eq_false_iff_ne.2 (by omega)
  have hm1 : (m : Int) ≤ wc := by omega
  have hm2 : (m : Int) ≤ W.length := by omega
  rcases hn with rfl | ⟨hgt, rfl⟩
  · have hm3 : ¬ ((W.length : Int) < m) := by omega
    by_cases hcm : wc = m
    · subst hcm
      have S2 : Hid (Sl w w.heap.size (.slice (some ⟨g, 0, none⟩) (0) (0)) 2 (0) (its (W.drop wc))) := by
        have h := H.out.2.1.sl.drop' (k := wc) (by omega)
        rw [its, flat_drop _ 2 Itm.cells2] at h
        have e : W.length - wc = 0 := by omega
        rw [e] at h
        simpa [Addr.add, Hid, its] using h
      go_enter Try.func11, Try.ntmps11
      go_wp2_with fail
      go_at_call 24
      refine (clone_any _ (W.take wc) wc _ _ S1.out (by omega) (Nat.le_refl _)).mono ?_
      rintro e w1 ⟨v1, rfl, ho1, hb1⟩
      obtain ⟨A1, n1, rfl, hn1⟩ := ho1.sl.form
      obtain ⟨hB, hW', hBn, hne, hFb, hFw, hFB, hF⟩ := H.out
      have B1 := hB.below hb1 hB.lt
      have e1 := B1.cell 1
      have e2 := B1.cell 2
      have i1 := B1.frozen 1
      have i2 := B1.frozen 2
      have ilt := B1.lt
      simp only [List.getElem?_toArray, List.getElem?_cons_succ, List.getElem?_cons_zero] at e1 e2
      have hdv : (Value.slice A1 wc n1).ownBlock ≠ some b := fun hg => by have := (ho1.lt b hg).1; omega
      have hgb' : g ≠ b := fun hg => (hW'.ne hB (by decide)) (by rw [← hg]; rfl)
      have hz1 := hb1.size
      have HO1 := hide (ho1.put (p := ⟨b, 2, none⟩) hdv (.slice A1 wc n1))
      have HB1 := hide (B1.put 2 (.slice A1 wc n1))
      have HS2 : Hid (Sl (w1.setCell ⟨b, 2, none⟩ (.slice A1 wc n1)) (w1.setCell ⟨b, 2, none⟩ (.slice A1 wc n1)).heap.size (.slice (some ⟨g, 0, none⟩) (0) (0)) 2 (0) (its (W.drop wc))) :=
        Sl.mono (Sl.put_far (S2.out.below hb1) (ad := ⟨g, 0, none⟩) rfl hgb' _) (by simpa using hz1)
      have HF1 := hide ((Fr.of_below (S := F) hb1).put (p := ⟨b, 2, none⟩) (.inl hFb) (.slice A1 wc n1))
      have HD := hide hdv
      clear ho1 hb1 hB hW' hBn hne hFb hFw hFB hF B1 hdv
      go_wp2_with fail
      go_at_call 24
      refine (clone_any _ (W.drop wc) _ _ _ HS2.out (by omega) (Nat.le_refl _)).mono ?_
      rintro e w2 ⟨v2, rfl, ho2, hb2⟩
      obtain ⟨A2, n2, rfl, hn2⟩ := ho2.sl.form
      have B2 := HB1.out.below hb2 HB1.out.lt
      have e1 := B2.cell 1
      have e2 := B2.cell 2
      have i1 := B2.frozen 1
      have i2 := B2.frozen 2
      have ilt := B2.lt
      simp at e1 e2
      have hz2 : w1.heap.size ≤ w2.heap.size := by simpa using hb2.size
      have hdv2 : (Value.slice A2 (0) n2).ownBlock ≠ some b := fun hg => by have := (ho2.lt b hg).1; simp at this; omega
      have HO2 := hide (ho2.put (p := ⟨b, 1, none⟩) hdv2 (.slice A2 (0) n2))
      have HO1' := hide ((HO1.out.below hb2).put (p := ⟨b, 1, none⟩) HD.out (.slice A2 (0) n2))
      have HB2 := hide (B2.put 1 (.slice A2 (0) n2))
      have HF2 := hide ((HF1.out.trans (Fr.of_below (S := F) hb2) (fun _ _ h => h)).put (p := ⟨b, 1, none⟩) (.inl H.out.2.2.2.2.1) (.slice A2 (0) n2))
      clear ho2 hb2 B2 hdv2
      go_wp2_with fail
      go_at_call 24
      refine (clone_any _ (W.take wc) wc _ _ HO1'.out.sl (by omega) (Nat.le_refl _)).mono ?_
      rintro e w3 ⟨v3, rfl, ho3, hb3⟩
      have HB3 := hide (HB2.out.below hb3 HB2.out.lt)
      have HO13 := hide (HO1'.out.below hb3)
      have HO23 := hide (HO2.out.below hb3)
      have HF3 := hide (HF2.out.trans (Fr.of_below (S := F) hb3) (fun _ _ h => h))
      have HO3 := hide ho3
      have hz3 : w2.heap.size ≤ w3.heap.size := by simpa using hb3.size
      clear ho3 hb3
      go_wp2_with fail
      go_ret2
      have hFb := H.out.2.2.2.2.1
      have hbb := H.out.2.2.2.2.2.2.2 b hFb
      have hl1 : (W.drop wc).length = 0 := by rw [List.length_drop]; omega
      have hl2 : (W.take wc).length = wc := by rw [List.length_take]; omega
      refine ⟨v3, foot b (.slice A2 (0) n2) (.slice A1 wc n1), rfl, QR.make ?_ ?_ ?_ ?_ hbb.1, ?_, ?_, HF3.out, ?_⟩
      · simpa using HB3.out
      · rw [hl1]
        exact HO23.out.lower (by simp; omega)
      · rw [hl2]
        exact HO13.out.lower hbase
      · intro q hq hq'
        have h1 := HO1.out.lt q hq'
        have h2 := HO2.out.lt q hq
        simp at h1 h2
        omega
      · exact HO3.out.lower (by simp; omega)
      · intro q hq
        have h3 := HO3.out.lt q hq
        simp at h3
        refine ⟨by omega, ?_⟩
        rintro (rfl | h9 | h9)
        · omega
        · have h2 := HO2.out.lt q h9
          simp at h2
          omega
        · have h2 := HO1.out.lt q h9
          simp at h2
          omega
      · rintro q (rfl | h9 | h9)
        · exact .inl hFb
        · have h2 := HO2.out.lt q h9
          simp at h2
          exact .inr (by omega)
        · have h2 := HO1.out.lt q h9
          simp at h2
          exact .inr (by omega)
    · skip
      have S2 : Hid (Sl w w.heap.size (.slice (some ⟨g, m * 2, none⟩) (W.length - m) (wc - m)) 2 (W.length - m) (its (W.drop m))) := by
        have h := H.out.2.1.sl.drop' (k := m) (by omega)
        rw [its, flat_drop _ 2 Itm.cells2] at h
        simp only [Addr.add, hcm, if_false, Option.map_some] at h
        rw [if_neg (by omega)] at h
        simpa [Hid, its] using h
      go_enter Try.func11, Try.ntmps11
      go_wp2_with fail
      go_at_call 24
      refine (clone_any _ (W.take m) m _ _ S1.out (by omega) (Nat.le_refl _)).mono ?_
      rintro e w1 ⟨v1, rfl, ho1, hb1⟩
      obtain ⟨A1, n1, rfl, hn1⟩ := ho1.sl.form
      obtain ⟨hB, hW', hBn, hne, hFb, hFw, hFB, hF⟩ := H.out
      have B1 := hB.below hb1 hB.lt
      have e1 := B1.cell 1
      have e2 := B1.cell 2
      have i1 := B1.frozen 1
      have i2 := B1.frozen 2
      have ilt := B1.lt
      simp only [List.getElem?_toArray, List.getElem?_cons_succ, List.getElem?_cons_zero] at e1 e2
      have hdv : (Value.slice A1 m n1).ownBlock ≠ some b := fun hg => by have := (ho1.lt b hg).1; omega
      have hgb' : g ≠ b := fun hg => (hW'.ne hB (by decide)) (by rw [← hg]; rfl)
      have hz1 := hb1.size
      have HO1 := hide (ho1.put (p := ⟨b, 2, none⟩) hdv (.slice A1 m n1))
      have HB1 := hide (B1.put 2 (.slice A1 m n1))
      have HS2 : Hid (Sl (w1.setCell ⟨b, 2, none⟩ (.slice A1 m n1)) (w1.setCell ⟨b, 2, none⟩ (.slice A1 m n1)).heap.size (.slice (some ⟨g, m * 2, none⟩) (W.length - m) (wc - m)) 2 (W.length - m) (its (W.drop m))) :=
        Sl.mono (Sl.put_far (S2.out.below hb1) (ad := ⟨g, m * 2, none⟩) rfl hgb' _) (by simpa using hz1)
      have HF1 := hide ((Fr.of_below (S := F) hb1).put (p := ⟨b, 2, none⟩) (.inl hFb) (.slice A1 m n1))
      have HD := hide hdv
      clear ho1 hb1 hB hW' hBn hne hFb hFw hFB hF B1 hdv
      go_wp2_with fail
      go_at_call 24
      refine (clone_any _ (W.drop m) _ _ _ HS2.out (by omega) (Nat.le_refl _)).mono ?_
      rintro e w2 ⟨v2, rfl, ho2, hb2⟩
      obtain ⟨A2, n2, rfl, hn2⟩ := ho2.sl.form
      have B2 := HB1.out.below hb2 HB1.out.lt
      have e1 := B2.cell 1
      have e2 := B2.cell 2
      have i1 := B2.frozen 1
      have i2 := B2.frozen 2
      have ilt := B2.lt
      simp at e1 e2
      have hz2 : w1.heap.size ≤ w2.heap.size := by simpa using hb2.size
      have hdv2 : (Value.slice A2 (W.length - m) n2).ownBlock ≠ some b := fun hg => by have := (ho2.lt b hg).1; simp at this; omega
      have HO2 := hide (ho2.put (p := ⟨b, 1, none⟩) hdv2 (.slice A2 (W.length - m) n2))
      have HO1' := hide ((HO1.out.below hb2).put (p := ⟨b, 1, none⟩) HD.out (.slice A2 (W.length - m) n2))
      have HB2 := hide (B2.put 1 (.slice A2 (W.length - m) n2))
      have HF2 := hide ((HF1.out.trans (Fr.of_below (S := F) hb2) (fun _ _ h => h)).put (p := ⟨b, 1, none⟩) (.inl H.out.2.2.2.2.1) (.slice A2 (W.length - m) n2))
      clear ho2 hb2 B2 hdv2
      go_wp2_with fail
      go_at_call 24
      refine (clone_any _ (W.take m) m _ _ HO1'.out.sl (by omega) (Nat.le_refl _)).mono ?_
      rintro e w3 ⟨v3, rfl, ho3, hb3⟩
      have HB3 := hide (HB2.out.below hb3 HB2.out.lt)
      have HO13 := hide (HO1'.out.below hb3)
      have HO23 := hide (HO2.out.below hb3)
      have HF3 := hide (HF2.out.trans (Fr.of_below (S := F) hb3) (fun _ _ h => h))
      have HO3 := hide ho3
      have hz3 : w2.heap.size ≤ w3.heap.size := by simpa using hb3.size
      clear ho3 hb3
      go_wp2_with fail
      go_ret2
      have hFb := H.out.2.2.2.2.1
      have hbb := H.out.2.2.2.2.2.2.2 b hFb
      have hl1 : (W.drop m).length = W.length - m := by rw [List.length_drop]; skip
      have hl2 : (W.take m).length = m := by rw [List.length_take]; omega
      refine ⟨v3, foot b (.slice A2 (W.length - m) n2) (.slice A1 m n1), rfl, QR.make ?_ ?_ ?_ ?_ hbb.1, ?_, ?_, HF3.out, ?_⟩
      · simpa using HB3.out
      · rw [hl1]
        exact HO23.out.lower (by simp; omega)
      · rw [hl2]
        exact HO13.out.lower hbase
      · intro q hq hq'
        have h1 := HO1.out.lt q hq'
        have h2 := HO2.out.lt q hq
        simp at h1 h2
        omega
      · exact HO3.out.lower (by simp; omega)
      · intro q hq
        have h3 := HO3.out.lt q hq
        simp at h3
        refine ⟨by omega, ?_⟩
        rintro (rfl | h9 | h9)
        · omega
        · have h2 := HO2.out.lt q h9
          simp at h2
          omega
        · have h2 := HO1.out.lt q h9
          simp at h2
          omega
      · rintro q (rfl | h9 | h9)
        · exact .inl hFb
        · have h2 := HO2.out.lt q h9
          simp at h2
          exact .inr (by omega)
        · have h2 := HO1.out.lt q h9
          simp at h2
          exact .inr (by omega)
  · by_cases hcm : wc = W.length
    · subst hcm
      have S2 : Hid (Sl w w.heap.size (.slice (some ⟨g, 0, none⟩) (0) (0)) 2 (0) (its (W.drop W.length))) := by
        have h := H.out.2.1.sl.drop' (k := W.length) (by omega)
        rw [its, flat_drop _ 2 Itm.cells2] at h
        rw [Nat.sub_self] at h
        simpa [Hid, its] using h
      go_enter Try.func11, Try.ntmps11
      go_wp2_with fail
      go_at_call 24
      refine (clone_any _ (W.take W.length) W.length _ _ S1.out (by omega) (Nat.le_refl _)).mono ?_
      rintro e w1 ⟨v1, rfl, ho1, hb1⟩
      obtain ⟨A1, n1, rfl, hn1⟩ := ho1.sl.form
      obtain ⟨hB, hW', hBn, hne, hFb, hFw, hFB, hF⟩ := H.out
      have B1 := hB.below hb1 hB.lt
      have e1 := B1.cell 1
      have e2 := B1.cell 2
      have i1 := B1.frozen 1
      have i2 := B1.frozen 2
      have ilt := B1.lt
      simp only [List.getElem?_toArray, List.getElem?_cons_succ, List.getElem?_cons_zero] at e1 e2
      have hdv : (Value.slice A1 W.length n1).ownBlock ≠ some b := fun hg => by have := (ho1.lt b hg).1; omega
      have hgb' : g ≠ b := fun hg => (hW'.ne hB (by decide)) (by rw [← hg]; rfl)
      have hz1 := hb1.size
      have HO1 := hide (ho1.put (p := ⟨b, 2, none⟩) hdv (.slice A1 W.length n1))
      have HB1 := hide (B1.put 2 (.slice A1 W.length n1))
      have HS2 : Hid (Sl (w1.setCell ⟨b, 2, none⟩ (.slice A1 W.length n1)) (w1.setCell ⟨b, 2, none⟩ (.slice A1 W.length n1)).heap.size (.slice (some ⟨g, 0, none⟩) (0) (0)) 2 (0) (its (W.drop W.length))) :=
        Sl.mono (Sl.put_far (S2.out.below hb1) (ad := ⟨g, 0, none⟩) rfl hgb' _) (by simpa using hz1)
      have HF1 := hide ((Fr.of_below (S := F) hb1).put (p := ⟨b, 2, none⟩) (.inl hFb) (.slice A1 W.length n1))
      have HD := hide hdv
      clear ho1 hb1 hB hW' hBn hne hFb hFw hFB hF B1 hdv
      go_wp2_with fail
      go_at_call 24
      refine (clone_any _ (W.drop W.length) _ _ _ HS2.out (by omega) (Nat.le_refl _)).mono ?_
      rintro e w2 ⟨v2, rfl, ho2, hb2⟩
      obtain ⟨A2, n2, rfl, hn2⟩ := ho2.sl.form
      have B2 := HB1.out.below hb2 HB1.out.lt
      have e1 := B2.cell 1
      have e2 := B2.cell 2
      have i1 := B2.frozen 1
      have i2 := B2.frozen 2
      have ilt := B2.lt
      simp at e1 e2
      have hz2 : w1.heap.size ≤ w2.heap.size := by simpa using hb2.size
      have hdv2 : (Value.slice A2 (0) n2).ownBlock ≠ some b := fun hg => by have := (ho2.lt b hg).1; simp at this; omega
      have HO2 := hide (ho2.put (p := ⟨b, 1, none⟩) hdv2 (.slice A2 (0) n2))
      have HO1' := hide ((HO1.out.below hb2).put (p := ⟨b, 1, none⟩) HD.out (.slice A2 (0) n2))
      have HB2 := hide (B2.put 1 (.slice A2 (0) n2))
      have HF2 := hide ((HF1.out.trans (Fr.of_below (S := F) hb2) (fun _ _ h => h)).put (p := ⟨b, 1, none⟩) (.inl H.out.2.2.2.2.1) (.slice A2 (0) n2))
      clear ho2 hb2 B2 hdv2
      go_wp2_with fail
      go_at_call 24
      refine (clone_any _ (W.take W.length) W.length _ _ HO1'.out.sl (by omega) (Nat.le_refl _)).mono ?_
      rintro e w3 ⟨v3, rfl, ho3, hb3⟩
      have HB3 := hide (HB2.out.below hb3 HB2.out.lt)
      have HO13 := hide (HO1'.out.below hb3)
      have HO23 := hide (HO2.out.below hb3)
      have HF3 := hide (HF2.out.trans (Fr.of_below (S := F) hb3) (fun _ _ h => h))
      have HO3 := hide ho3
      have hz3 : w2.heap.size ≤ w3.heap.size := by simpa using hb3.size
      clear ho3 hb3
      go_wp2_with fail
      go_ret2
      have hFb := H.out.2.2.2.2.1
      have hbb := H.out.2.2.2.2.2.2.2 b hFb
      have hl1 : (W.drop W.length).length = 0 := by rw [List.length_drop]; omega
      have hl2 : (W.take W.length).length = W.length := by rw [List.length_take]; omega
      refine ⟨v3, foot b (.slice A2 (0) n2) (.slice A1 W.length n1), rfl, QR.make ?_ ?_ ?_ ?_ hbb.1, ?_, ?_, HF3.out, ?_⟩
      · simpa using HB3.out
      · rw [hl1]
        exact HO23.out.lower (by simp; omega)
      · rw [hl2]
        exact HO13.out.lower hbase
      · intro q hq hq'
        have h1 := HO1.out.lt q hq'
        have h2 := HO2.out.lt q hq
        simp at h1 h2
        omega
      · exact HO3.out.lower (by simp; omega)
      · intro q hq
        have h3 := HO3.out.lt q hq
        simp at h3
        refine ⟨by omega, ?_⟩
        rintro (rfl | h9 | h9)
        · omega
        · have h2 := HO2.out.lt q h9
          simp at h2
          omega
        · have h2 := HO1.out.lt q h9
          simp at h2
          omega
      · rintro q (rfl | h9 | h9)
        · exact .inl hFb
        · have h2 := HO2.out.lt q h9
          simp at h2
          exact .inr (by omega)
        · have h2 := HO1.out.lt q h9
          simp at h2
          exact .inr (by omega)
    · skip
      have S2 : Hid (Sl w w.heap.size (.slice (some ⟨g, W.length * 2, none⟩) (0) (wc - W.length)) 2 (0) (its (W.drop W.length))) := by
        have h := H.out.2.1.sl.drop' (k := W.length) (by omega)
        rw [its, flat_drop _ 2 Itm.cells2] at h
        rw [Nat.sub_self] at h
        simp only [Addr.add, hcm, if_false, Option.map_some] at h
        rw [if_neg (by omega)] at h
        simpa [Hid, its] using h
      go_enter Try.func11, Try.ntmps11
      go_wp2_with fail
      go_at_call 24
      refine (clone_any _ (W.take W.length) W.length _ _ S1.out (by omega) (Nat.le_refl _)).mono ?_
      rintro e w1 ⟨v1, rfl, ho1, hb1⟩
      obtain ⟨A1, n1, rfl, hn1⟩ := ho1.sl.form
      obtain ⟨hB, hW', hBn, hne, hFb, hFw, hFB, hF⟩ := H.out
      have B1 := hB.below hb1 hB.lt
      have e1 := B1.cell 1
      have e2 := B1.cell 2
      have i1 := B1.frozen 1
      have i2 := B1.frozen 2
      have ilt := B1.lt
      simp only [List.getElem?_toArray, List.getElem?_cons_succ, List.getElem?_cons_zero] at e1 e2
      have hdv : (Value.slice A1 W.length n1).ownBlock ≠ some b := fun hg => by have := (ho1.lt b hg).1; omega
      have hgb' : g ≠ b := fun hg => (hW'.ne hB (by decide)) (by rw [← hg]; rfl)
      have hz1 := hb1.size
      have HO1 := hide (ho1.put (p := ⟨b, 2, none⟩) hdv (.slice A1 W.length n1))
      have HB1 := hide (B1.put 2 (.slice A1 W.length n1))
      have HS2 : Hid (Sl (w1.setCell ⟨b, 2, none⟩ (.slice A1 W.length n1)) (w1.setCell ⟨b, 2, none⟩ (.slice A1 W.length n1)).heap.size (.slice (some ⟨g, W.length * 2, none⟩) (0) (wc - W.length)) 2 (0) (its (W.drop W.length))) :=
        Sl.mono (Sl.put_far (S2.out.below hb1) (ad := ⟨g, W.length * 2, none⟩) rfl hgb' _) (by simpa using hz1)
      have HF1 := hide ((Fr.of_below (S := F) hb1).put (p := ⟨b, 2, none⟩) (.inl hFb) (.slice A1 W.length n1))
      have HD := hide hdv
      clear ho1 hb1 hB hW' hBn hne hFb hFw hFB hF B1 hdv
      go_wp2_with fail
      go_at_call 24
      refine (clone_any _ (W.drop W.length) _ _ _ HS2.out (by omega) (Nat.le_refl _)).mono ?_
      rintro e w2 ⟨v2, rfl, ho2, hb2⟩
      obtain ⟨A2, n2, rfl, hn2⟩ := ho2.sl.form
      have B2 := HB1.out.below hb2 HB1.out.lt
      have e1 := B2.cell 1
      have e2 := B2.cell 2
      have i1 := B2.frozen 1
      have i2 := B2.frozen 2
      have ilt := B2.lt
      simp at e1 e2
      have hz2 : w1.heap.size ≤ w2.heap.size := by simpa using hb2.size
      have hdv2 : (Value.slice A2 (0) n2).ownBlock ≠ some b := fun hg => by have := (ho2.lt b hg).1; simp at this; omega
      have HO2 := hide (ho2.put (p := ⟨b, 1, none⟩) hdv2 (.slice A2 (0) n2))
      have HO1' := hide ((HO1.out.below hb2).put (p := ⟨b, 1, none⟩) HD.out (.slice A2 (0) n2))
      have HB2 := hide (B2.put 1 (.slice A2 (0) n2))
      have HF2 := hide ((HF1.out.trans (Fr.of_below (S := F) hb2) (fun _ _ h => h)).put (p := ⟨b, 1, none⟩) (.inl H.out.2.2.2.2.1) (.slice A2 (0) n2))
      clear ho2 hb2 B2 hdv2
      go_wp2_with fail
      go_at_call 24
      refine (clone_any _ (W.take W.length) W.length _ _ HO1'.out.sl (by omega) (Nat.le_refl _)).mono ?_
      rintro e w3 ⟨v3, rfl, ho3, hb3⟩
      have HB3 := hide (HB2.out.below hb3 HB2.out.lt)
      have HO13 := hide (HO1'.out.below hb3)
      have HO23 := hide (HO2.out.below hb3)
      have HF3 := hide (HF2.out.trans (Fr.of_below (S := F) hb3) (fun _ _ h => h))
      have HO3 := hide ho3
      have hz3 : w2.heap.size ≤ w3.heap.size := by simpa using hb3.size
      clear ho3 hb3
      go_wp2_with fail
      go_ret2
      have hFb := H.out.2.2.2.2.1
      have hbb := H.out.2.2.2.2.2.2.2 b hFb
      have hl1 : (W.drop W.length).length = 0 := by rw [List.length_drop]; omega
      have hl2 : (W.take W.length).length = W.length := by rw [List.length_take]; omega
      refine ⟨v3, foot b (.slice A2 (0) n2) (.slice A1 W.length n1), rfl, QR.make ?_ ?_ ?_ ?_ hbb.1, ?_, ?_, HF3.out, ?_⟩
      · simpa using HB3.out
      · rw [hl1]
        exact HO23.out.lower (by simp; omega)
      · rw [hl2]
        exact HO13.out.lower hbase
      · intro q hq hq'
        have h1 := HO1.out.lt q hq'
        have h2 := HO2.out.lt q hq
        simp at h1 h2
        omega
      · exact HO3.out.lower (by simp; omega)
      · intro q hq
        have h3 := HO3.out.lt q hq
        simp at h3
        refine ⟨by omega, ?_⟩
        rintro (rfl | h9 | h9)
        · omega
        · have h2 := HO2.out.lt q h9
          simp at h2
          omega
        · have h2 := HO1.out.lt q h9
          simp at h2
          omega
      · rintro q (rfl | h9 | h9)
        · exact .inl hFb
        · have h2 := HO2.out.lt q h9
          simp at h2
          exact .inr (by omega)
        · have h2 := HO1.out.lt q h9
          simp at h2
          exact .inr (by omega)

end Go.Proofs.Ytlaijnabdlidiaa
