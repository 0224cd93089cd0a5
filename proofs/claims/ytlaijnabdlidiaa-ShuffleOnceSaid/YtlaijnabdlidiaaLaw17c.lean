/- ShuffleOnce returns true, whatever comes in. -/
import Derived.Test.YtlaijnabdlidiaaLaw17a
namespace Go.Proofs.Ytlaijnabdlidiaa
open Go.RowKit
set_option linter.unusedVariables false
set_option linter.unusedSimpArgs false

def sIt (xs : List Int) : List Value := xs.flatMap fun n => [.int .i64 n]
def sBo (xs : List Bool) : List Value := xs.flatMap fun n => [.bool n]
theorem sint_at {w : World} {B n c : Nat} {A : Option Addr} {D : List Int} (h : Sl w B (.slice A n c) 1 n (sIt D)) {k : Nat} (hk : k < n) (hD : D.length = n) :
    ∃ ad, A = some ad ∧ (ad.add k).block < B ∧ w.cell? (ad.add k) = some (.int .i64 (D[k]'(by omega))) := by
  obtain ⟨ad, rfl, hb, hh⟩ := h.at_ hk
  rw [sIt, part_of _ 1 (fun _ => rfl) D k (by omega), Nat.mul_one] at hh
  refine ⟨ad, rfl, by rw [add_blk]; exact hb, ?_⟩
  have := hh 0 _ rfl
  rwa [add_add'] at this
theorem sbool_at {w : World} {B n c : Nat} {A : Option Addr} {D : List Bool} (h : Sl w B (.slice A n c) 1 n (sBo D)) {k : Nat} (hk : k < n) (hD : D.length = n) :
    ∃ ad, A = some ad ∧ (ad.add k).block < B ∧ w.cell? (ad.add k) = some (.bool (D[k]'(by omega))) := by
  obtain ⟨ad, rfl, hb, hh⟩ := h.at_ hk
  rw [sBo, part_of _ 1 (fun _ => rfl) D k (by omega), Nat.mul_one] at hh
  refine ⟨ad, rfl, by rw [add_blk]; exact hb, ?_⟩
  have := hh 0 _ rfl
  rwa [add_add'] at this
theorem itm_one (w : World) (t n : Int) : Sl (w.alloc (.cells #[.int .i64 t, .int .i64 n] iT)) (w.heap.size + 1) (.slice (some ⟨w.heap.size, 0, none⟩) 1 1) 2 1 (its [⟨t, n⟩]) :=
  Sl.of_own (Own.new (n := 1) (sz := 2) (e := iT) (base := 0) w #[.int .i64 t, .int .i64 n] (by omega) (by omega) rfl) |>.mono (by simp)
/-- how many elements a slice has -/
def mOf : Value → Nat
  | .slice _ n _ => n
  | _ => 0

set_option maxRecDepth 100000 in
set_option maxHeartbeats 16000000 in
theorem once_walk0 (v u x : Value) (D : List Itm) (Z : List Int) (X : List Bool) (w : World) (hs : Sl w w.heap.size v 2 D.length (its D)) (hu : Sl w w.heap.size u 1 Z.length (sIt Z)) (hx : Sl w w.heap.size x 1 X.length (sBo X)) (hX : X.length ≤ 140737488351232) :
    Calls Try.prog 5 #[v, u, x] w fun e w' => e = .returned (.bool true) ∧ Below w.heap.size w w' := by
  obtain ⟨A, c, rfl, hnc⟩ := hs.form
  obtain ⟨UA, uc, rfl, huc⟩ := hu.form
  obtain ⟨XA, xc, rfl, hxc⟩ := hx.form
  have hmu := hu.max
  have HS := hide hs
  have HU := hide hu
  have HX := hide hx
  clear hs hu hx
  by_cases hbig : 500 < D.length
  · go_enter Try.func5, Try.ntmps5
    go_wp2_with fail
    refine (qnew_any _ w.heap.size (Nat.le_refl _)).mono ?_
    rintro e w1 ⟨rfl, hq, rfl⟩
    clear hq
    go_wp2_with fail
    refine (awake17 _).mono ?_
    rintro e w2 ⟨rfl, hb⟩
    have HB := hide hb
    clear hb
    go_wp2_with fail
    go_ret
    exact ⟨rfl, ((Below.refl _ _).alloc (Nat.le_refl _) _).trans (HB.out.mono (by simp))⟩
  · go_enter Try.func5, Try.ntmps5
    go_wp2_with fail
    refine (qnew_any _ w.heap.size (Nat.le_refl _)).mono ?_
    rintro e w1 ⟨rfl, hq, rfl⟩
    have HQ := hide hq
    clear hq
    go_wp2_with fail
    go_loopw [36] (fun i wr => ∃ (k : Nat) (F : Nat → Prop), k ≤ D.length ∧ i = .int .i64 k ∧ Hid (QR wr w.heap.size w.heap.size F (D.take k) [] 0) ∧ Hid (Below w.heap.size w wr)) (fun i _ => D.length - (intOf i).toNat)
    case atStart => exact ⟨0, _, Nat.zero_le _, rfl, by simpa using HQ, (Below.refl _ _).alloc (Nat.le_refl _) _⟩
    case round =>
      obtain ⟨k, F, hk, rfl, HQ, HB⟩ := hrel
      by_cases hlt : k < D.length
      · obtain ⟨ad, he, hb, h0, h1⟩ := itm_at (HS.out.below HB.out) hlt rfl
        obtain rfl := he
        have hb2 : (ad.add (k * 2)).block < wr.heap.size := Nat.lt_of_lt_of_le hb HB.out.size
        have HT : Hid (D.take (k + 1) = D.take k ++ [D[k]]) := List.take_succ_eq_append_getElem hlt
        generalize D[k] = q at h0 h1 HT
        obtain ⟨qt, qn⟩ := q
        simp only at h0 h1
        have hlk : (D.take k).length = k := by rw [List.length_take]; omega
        have HLK := hide hlk
        clear hlk
        go_wp2_with fail
        go_at_call 10
        have hone := itm_one (wr.alloc (.cells #[.int .i64 qt, .int .i64 qn] iT)) qt qn
        simp only [World.size_alloc] at hone
        refine (push_any _ [⟨qt, qn⟩] 1 _ _ w.heap.size w.heap.size F (D.take k) [] 0 ((HQ.out.alloc _).alloc _) hone rfl (by rw [HLK.out]; omega) (by have := HB.out.size; simp; omega)).mono ?_
        rintro e w2 ⟨F2, rfl, hq, hf, hsub⟩
        have HB2 := hide (((HB.out.alloc HB.out.size _).alloc (by have := HB.out.size; simp; omega) _).trans (((HQ.out.alloc _).alloc _).apart hf (by have := HB.out.size; simp; omega)))
        have HQ2 : Hid (QR w2 w.heap.size w.heap.size F2 (D.take (k + 1)) [] 0) := by rw [HT.out]; exact hq
        clear hq hf hsub hone
        go_wp2_with fail
        go_roundw
        case rel => exact ⟨k + 1, F2, by omega, by go_num, HQ2, HB2⟩
        case measure => simp [intOf]; omega
      · have HQ1 : Hid (QR wr w.heap.size w.heap.size F D [] 0) := by
          have h := HQ.out
          rwa [List.take_of_length_le (by omega)] at h
        obtain ⟨w1, rfl⟩ : ∃ w1 : World, w1 = wr := ⟨_, rfl⟩
        clear HQ
        go_wp2_with fail
        go_loopw [10, 11] (fun dv i wr => ∃ (k : Nat) (Dn W : List Itm) (F : Nat → Prop), i = .int .i64 k ∧ k ≤ X.length + Dn.length ∧ Dn.length + W.length = D.length ∧ Hid (Dn ++ W = D) ∧
          Hid (QR wr w.heap.size w.heap.size F W [] Dn.length) ∧ Hid (Own wr w.heap.size iT 2 dv Dn.length (its Dn)) ∧ Hid (∀ g, dv.ownBlock = some g → ¬ F g) ∧ Hid (Below w.heap.size w wr)) (fun dv i _ => (X.length - (intOf i).toNat) + (D.length - mOf dv))
        case atStart => exact ⟨0, [], D, F, rfl, by omega, by simp, rfl, HQ1, Own.nil _ _ _ _, by simp [Hid, Value.ownBlock], HB⟩
        case round =>
          obtain ⟨k, Dn, W, F, rfl, hkX, hDW, HD, HQ, HO, HDF, HB⟩ := hrel
          obtain ⟨DA, dc, rfl, hdc⟩ := HO.out.sl.form
          go_wp2_with fail
          go_at_call 14
          refine (qlen_any _ _ _ _ _ _ _ HQ.out).mono ?_
          rintro e w3 ⟨rfl, rfl⟩
          by_cases hW : 0 < W.length
          · skip
            by_cases hz1 : k < Z.length
            · obtain ⟨zad, ze, zb, z0⟩ := sint_at (HU.out.below HB.out) hz1 rfl
              obtain rfl := ze
              have zb2 : (zad.add k).block < wr.heap.size := Nat.lt_of_lt_of_le zb HB.out.size
              generalize Z[k] = z at z0
              by_cases hz : 1 < z
              · skip
                obtain ⟨m, hm1, hm2, hm3⟩ : ∃ m : Nat, 1 ≤ m ∧ m ≤ W.length ∧ (z = m ∨ (W.length < z ∧ m = W.length)) := by
                  by_cases h9 : (z : Int) ≤ W.length
                  · exact ⟨(z : Int).toNat, by omega, by omega, .inl (by omega)⟩
                  · exact ⟨W.length, by omega, by omega, .inr ⟨by omega, rfl⟩⟩
                have hle : (m : Int) ≤ z := by omega
                have hm0 : ((m : Int) == 0) = false := beq_eq_false_iff_ne.2 (by omega)
                have hgt : decide (z < (m : Int)) = false := decide_eq_false (by omega)
                have HM := hide hm3
                clear hm3
                have hw0 : (W.length : Int) ≤ 500 := by omega
                by_cases hf1 : k < X.length
                · obtain ⟨fad, fe, fb, f0⟩ := sbool_at (HX.out.below HB.out) hf1 rfl
                  obtain rfl := fe
                  have fb2 : (fad.add k).block < wr.heap.size := Nat.lt_of_lt_of_le fb HB.out.size
                  have fz : ∀ w2 : World, Below w.heap.size wr w2 → w2.cell? (fad.add k) = wr.cell? (fad.add k) := fun w2 hb => hb.cell fb
                  have FZ := hide fz
                  have F0 := hide f0
                  clear fz f0
                  generalize X[k] = xb at F0
                  cases xb
                  · go_wp2_with fail
                    go_at_call 11
                    refine (take_some _ _ _ _ _ m _ z HQ.out hm1 hm2 HM.out (by omega) HB.out.size).mono ?_
                    rintro e w4 ⟨v4, F4, rfl, hq, ho, hfr, hf, hsub⟩
                    obtain ⟨A4, c4, rfl, hc4⟩ := ho.sl.form
                    have HQ4 := hide hq
                    have HBW := hide (HQ.out.apart hf HB.out.size)
                    have HB4 := hide (HB.out.trans HBW.out)
                    have HO4 := hide ho
                    have HFR := hide hfr
                    have hdv4 : ∀ g, (Value.slice DA Dn.length dc).ownBlock = some g → ¬ F4 g := by
                      intro g hg hg'
                      rcases hsub g hg' with h9 | h9
                      · exact HDF.out g hg h9
                      · have := (HO.out.lt g hg).2; omega
                    have HDV4 := hide (HO.out.fr hf (fun g hg => HDF.out g hg))
                    have HDF4 := hide hdv4
                    clear hq hf hsub ho hfr hdv4
                    have hl1 : (W.take m).length = m := by rw [List.length_take]; omega
                    have hl2 : (W.drop m).length = W.length - m := by rw [List.length_drop]
                    have HL := hide (And.intro hl1 hl2)
                    clear hl1 hl2
                    have f0 : w4.cell? (fad.add k) = some (.bool false) := (FZ.out w4 (HBW.out)).trans F0.out
                    go_wp2_with fail
                    go_at_call 17
                    refine (ack_yes _ _ _ _ _ _ _ HQ4.out (by rw [HL.out.1]; omega) (by rw [HL.out.1]; omega) (by omega) (by omega)).mono ?_
                    rintro e w5 ⟨F5, rfl, hq, hf, hsub⟩
                    rw [HL.out.1] at hq
                    rw [HL.out.1]
                    have HQ5 := hide hq
                    have HB5 := hide (HB4.out.trans (HQ4.out.apart hf HB4.out.size))
                    have HO5 := hide (HO4.out.fr hf (fun g hg => (HFR.out g hg).2))
                    have HDV5 := hide (HDV4.out.fr hf (fun g hg => HDF4.out g hg))
                    have HDF5 : Hid (∀ g, (Value.slice DA Dn.length dc).ownBlock = some g → ¬ F5 g) := by
                      intro g hg hg'
                      rcases hsub g hg' with h9 | h9
                      · exact HDF4.out g hg h9
                      · have := (HDV4.out.lt g hg).2; omega
                    clear hq hf hsub
                    go_wp2_with (at_builtin; refine wpList_app rfl tyIt (.tmp 120) (.tmp 121) rfl w.heap.size (n := Dn.length) (m := m) (B := w5.heap.size) (xs := its Dn) (news := its (W.take m)) rfl rfl HDV5.out HO5.out.sl (its_ok _) (by omega) (by omega) HB5.out.size ?_)
                    intro v6 w6 ha
                    have HQ6 := hide (HQ5.out.fr ha.fr (fun k hk h => HDF5.out k h hk))
                    have HB6 := hide (HB5.out.trans (ha.fr.below HB5.out.size (fun k hk h => by have := (HDV5.out.lt k h).1; omega)))
                    have HDF6 : Hid (∀ g, v6.ownBlock = some g → ¬ F5 g) := by
                      intro g hg hg'
                      rcases ha.at_ with h9 | h9
                      · exact HDF5.out g (by rw [← h9]; exact hg) hg'
                      · rw [hg] at h9
                        injection h9 with h9
                        have := (HQ5.out.inF g hg').2
                        omega
                    have hlen : (Dn ++ W.take m).length = Dn.length + m := by rw [List.length_append, HL.out.1]
                    have HO6 : Hid (Own w6 w.heap.size iT 2 v6 (Dn ++ W.take m).length (its (Dn ++ W.take m))) := by rw [its_app, hlen]; exact ha.own
                    have HLN := hide hlen
                    obtain ⟨A6, c6, rfl, hc6⟩ := ha.own.sl.form
                    clear ha hlen
                    go_wp2_with fail
                    go_roundw
                    case rel =>
                      refine ⟨k + 1, Dn ++ W.take m, W.drop m, F5, by go_num, ?_, ?_, ?_, ?_, HO6, HDF6, HB6⟩
                      · rw [HLN.out]; omega
                      · rw [HLN.out, HL.out.2]; omega
                      · show _ = _
                        rw [List.append_assoc, List.take_append_drop]
                        exact HD.out
                      · rw [HLN.out]
                        simpa [Hid] using HQ6.out
                    case measure => simp [intOf, mOf]; omega
                  · go_wp2_with fail
                    go_at_call 11
                    refine (take_some _ _ _ _ _ m _ z HQ.out hm1 hm2 HM.out (by omega) HB.out.size).mono ?_
                    rintro e w4 ⟨v4, F4, rfl, hq, ho, hfr, hf, hsub⟩
                    obtain ⟨A4, c4, rfl, hc4⟩ := ho.sl.form
                    have HQ4 := hide hq
                    have HBW := hide (HQ.out.apart hf HB.out.size)
                    have HB4 := hide (HB.out.trans HBW.out)
                    have HO4 := hide ho
                    have HFR := hide hfr
                    have hdv4 : ∀ g, (Value.slice DA Dn.length dc).ownBlock = some g → ¬ F4 g := by
                      intro g hg hg'
                      rcases hsub g hg' with h9 | h9
                      · exact HDF.out g hg h9
                      · have := (HO.out.lt g hg).2; omega
                    have HDV4 := hide (HO.out.fr hf (fun g hg => HDF.out g hg))
                    have HDF4 := hide hdv4
                    clear hq hf hsub ho hfr hdv4
                    have hl1 : (W.take m).length = m := by rw [List.length_take]; omega
                    have hl2 : (W.drop m).length = W.length - m := by rw [List.length_drop]
                    have HL := hide (And.intro hl1 hl2)
                    clear hl1 hl2
                    have f0 : w4.cell? (fad.add k) = some (.bool true) := (FZ.out w4 (HBW.out)).trans F0.out
                    go_wp2_with fail
                    go_at_call 16
                    refine (nack_yes _ _ _ _ _ _ _ HQ4.out (by rw [HL.out.1]; omega) (by rw [HL.out.1, HL.out.2]; omega) HB4.out.size).mono ?_
                    rintro e w5 ⟨F5, rfl, hq, hf, hsub⟩
                    rw [List.take_append_drop] at hq
                    rw [HL.out.1]
                    have HQ5 := hide hq
                    have HB5 := hide (HB4.out.trans (HQ4.out.apart hf HB4.out.size))
                    have HDV5 := hide (HDV4.out.fr hf (fun g hg => HDF4.out g hg))
                    have HDF5 : Hid (∀ g, (Value.slice DA Dn.length dc).ownBlock = some g → ¬ F5 g) := by
                      intro g hg hg'
                      rcases hsub g hg' with h9 | h9
                      · exact HDF4.out g hg h9
                      · have := (HDV4.out.lt g hg).2; omega
                    clear hq hf hsub
                    go_wp2_with fail
                    go_roundw
                    case rel => exact ⟨k + 1, Dn, W, F5, by go_num, by omega, by omega, HD, HQ5, HDV5, HDF5, HB5⟩
                    case measure => simp [intOf, mOf]; omega
                · go_wp2_with fail
                  go_at_call 11
                  refine (take_some _ _ _ _ _ m _ z HQ.out hm1 hm2 HM.out (by omega) HB.out.size).mono ?_
                  rintro e w4 ⟨v4, F4, rfl, hq, ho, hfr, hf, hsub⟩
                  obtain ⟨A4, c4, rfl, hc4⟩ := ho.sl.form
                  have HQ4 := hide hq
                  have HB4 := hide (HB.out.trans (HQ.out.apart hf HB.out.size))
                  have HO4 := hide ho
                  have HFR := hide hfr
                  have hdv4 : ∀ g, (Value.slice DA Dn.length dc).ownBlock = some g → ¬ F4 g := by
                    intro g hg hg'
                    rcases hsub g hg' with h9 | h9
                    · exact HDF.out g hg h9
                    · have := (HO.out.lt g hg).2; omega
                  have HDV4 := hide (HO.out.fr hf (fun g hg => HDF.out g hg))
                  have HDF4 := hide hdv4
                  clear hq hf hsub ho hfr hdv4
                  have hl1 : (W.take m).length = m := by rw [List.length_take]; omega
                  have hl2 : (W.drop m).length = W.length - m := by rw [List.length_drop]
                  have HL := hide (And.intro hl1 hl2)
                  clear hl1 hl2
                  go_wp2_with fail
                  go_at_call 17
                  refine (ack_yes _ _ _ _ _ _ _ HQ4.out (by rw [HL.out.1]; omega) (by rw [HL.out.1]; omega) (by omega) (by omega)).mono ?_
                  rintro e w5 ⟨F5, rfl, hq, hf, hsub⟩
                  rw [HL.out.1] at hq
                  rw [HL.out.1]
                  have HQ5 := hide hq
                  have HB5 := hide (HB4.out.trans (HQ4.out.apart hf HB4.out.size))
                  have HO5 := hide (HO4.out.fr hf (fun g hg => (HFR.out g hg).2))
                  have HDV5 := hide (HDV4.out.fr hf (fun g hg => HDF4.out g hg))
                  have HDF5 : Hid (∀ g, (Value.slice DA Dn.length dc).ownBlock = some g → ¬ F5 g) := by
                    intro g hg hg'
                    rcases hsub g hg' with h9 | h9
                    · exact HDF4.out g hg h9
                    · have := (HDV4.out.lt g hg).2; omega
                  clear hq hf hsub
                  go_wp2_with (at_builtin; refine wpList_app rfl tyIt (.tmp 120) (.tmp 121) rfl w.heap.size (n := Dn.length) (m := m) (B := w5.heap.size) (xs := its Dn) (news := its (W.take m)) rfl rfl HDV5.out HO5.out.sl (its_ok _) (by omega) (by omega) HB5.out.size ?_)
                  intro v6 w6 ha
                  have HQ6 := hide (HQ5.out.fr ha.fr (fun k hk h => HDF5.out k h hk))
                  have HB6 := hide (HB5.out.trans (ha.fr.below HB5.out.size (fun k hk h => by have := (HDV5.out.lt k h).1; omega)))
                  have HDF6 : Hid (∀ g, v6.ownBlock = some g → ¬ F5 g) := by
                    intro g hg hg'
                    rcases ha.at_ with h9 | h9
                    · exact HDF5.out g (by rw [← h9]; exact hg) hg'
                    · rw [hg] at h9
                      injection h9 with h9
                      have := (HQ5.out.inF g hg').2
                      omega
                  have hlen : (Dn ++ W.take m).length = Dn.length + m := by rw [List.length_append, HL.out.1]
                  have HO6 : Hid (Own w6 w.heap.size iT 2 v6 (Dn ++ W.take m).length (its (Dn ++ W.take m))) := by rw [its_app, hlen]; exact ha.own
                  have HLN := hide hlen
                  obtain ⟨A6, c6, rfl, hc6⟩ := ha.own.sl.form
                  clear ha hlen
                  go_wp2_with fail
                  go_roundw
                  case rel =>
                    refine ⟨k + 1, Dn ++ W.take m, W.drop m, F5, by go_num, ?_, ?_, ?_, ?_, HO6, HDF6, HB6⟩
                    · rw [HLN.out]; omega
                    · rw [HLN.out, HL.out.2]; omega
                    · show _ = _
                      rw [List.append_assoc, List.take_append_drop]
                      exact HD.out
                    · rw [HLN.out]
                      simpa [Hid] using HQ6.out
                  case measure => simp [intOf, mOf]; omega
              · skip
                obtain ⟨m, hm1, hm2, hm3⟩ : ∃ m : Nat, 1 ≤ m ∧ m ≤ W.length ∧ ((1 : Int) = m ∨ (W.length < (1 : Int) ∧ m = W.length)) := by
                  by_cases h9 : ((1 : Int) : Int) ≤ W.length
                  · exact ⟨((1 : Int) : Int).toNat, by omega, by omega, .inl (by omega)⟩
                  · exact ⟨W.length, by omega, by omega, .inr ⟨by omega, rfl⟩⟩
                have hle : (m : Int) ≤ (1 : Int) := by omega
                have hm0 : ((m : Int) == 0) = false := beq_eq_false_iff_ne.2 (by omega)
                have hgt : decide ((1 : Int) < (m : Int)) = false := decide_eq_false (by omega)
                have HM := hide hm3
                clear hm3
                have hw0 : (W.length : Int) ≤ 500 := by omega
                have hle2 : m ≤ 1 := by omega
                have hgt2 : decide (1 < m) = false := decide_eq_false (by omega)
                by_cases hf1 : k < X.length
                · obtain ⟨fad, fe, fb, f0⟩ := sbool_at (HX.out.below HB.out) hf1 rfl
                  obtain rfl := fe
                  have fb2 : (fad.add k).block < wr.heap.size := Nat.lt_of_lt_of_le fb HB.out.size
                  have fz : ∀ w2 : World, Below w.heap.size wr w2 → w2.cell? (fad.add k) = wr.cell? (fad.add k) := fun w2 hb => hb.cell fb
                  have FZ := hide fz
                  have F0 := hide f0
                  clear fz f0
                  generalize X[k] = xb at F0
                  cases xb
                  · go_wp2_with fail
                    go_at_call 11
                    refine (take_some _ _ _ _ _ m _ (1 : Int) HQ.out hm1 hm2 HM.out (by omega) HB.out.size).mono ?_
                    rintro e w4 ⟨v4, F4, rfl, hq, ho, hfr, hf, hsub⟩
                    obtain ⟨A4, c4, rfl, hc4⟩ := ho.sl.form
                    have HQ4 := hide hq
                    have HBW := hide (HQ.out.apart hf HB.out.size)
                    have HB4 := hide (HB.out.trans HBW.out)
                    have HO4 := hide ho
                    have HFR := hide hfr
                    have hdv4 : ∀ g, (Value.slice DA Dn.length dc).ownBlock = some g → ¬ F4 g := by
                      intro g hg hg'
                      rcases hsub g hg' with h9 | h9
                      · exact HDF.out g hg h9
                      · have := (HO.out.lt g hg).2; omega
                    have HDV4 := hide (HO.out.fr hf (fun g hg => HDF.out g hg))
                    have HDF4 := hide hdv4
                    clear hq hf hsub ho hfr hdv4
                    have hl1 : (W.take m).length = m := by rw [List.length_take]; omega
                    have hl2 : (W.drop m).length = W.length - m := by rw [List.length_drop]
                    have HL := hide (And.intro hl1 hl2)
                    clear hl1 hl2
                    have f0 : w4.cell? (fad.add k) = some (.bool false) := (FZ.out w4 (HBW.out)).trans F0.out
                    go_wp2_with fail
                    go_at_call 17
                    refine (ack_yes _ _ _ _ _ _ _ HQ4.out (by rw [HL.out.1]; omega) (by rw [HL.out.1]; omega) (by omega) (by omega)).mono ?_
                    rintro e w5 ⟨F5, rfl, hq, hf, hsub⟩
                    rw [HL.out.1] at hq
                    rw [HL.out.1]
                    have HQ5 := hide hq
                    have HB5 := hide (HB4.out.trans (HQ4.out.apart hf HB4.out.size))
                    have HO5 := hide (HO4.out.fr hf (fun g hg => (HFR.out g hg).2))
                    have HDV5 := hide (HDV4.out.fr hf (fun g hg => HDF4.out g hg))
                    have HDF5 : Hid (∀ g, (Value.slice DA Dn.length dc).ownBlock = some g → ¬ F5 g) := by
                      intro g hg hg'
                      rcases hsub g hg' with h9 | h9
                      · exact HDF4.out g hg h9
                      · have := (HDV4.out.lt g hg).2; omega
                    clear hq hf hsub
                    go_wp2_with (at_builtin; refine wpList_app rfl tyIt (.tmp 120) (.tmp 121) rfl w.heap.size (n := Dn.length) (m := m) (B := w5.heap.size) (xs := its Dn) (news := its (W.take m)) rfl rfl HDV5.out HO5.out.sl (its_ok _) (by omega) (by omega) HB5.out.size ?_)
                    intro v6 w6 ha
                    have HQ6 := hide (HQ5.out.fr ha.fr (fun k hk h => HDF5.out k h hk))
                    have HB6 := hide (HB5.out.trans (ha.fr.below HB5.out.size (fun k hk h => by have := (HDV5.out.lt k h).1; omega)))
                    have HDF6 : Hid (∀ g, v6.ownBlock = some g → ¬ F5 g) := by
                      intro g hg hg'
                      rcases ha.at_ with h9 | h9
                      · exact HDF5.out g (by rw [← h9]; exact hg) hg'
                      · rw [hg] at h9
                        injection h9 with h9
                        have := (HQ5.out.inF g hg').2
                        omega
                    have hlen : (Dn ++ W.take m).length = Dn.length + m := by rw [List.length_append, HL.out.1]
                    have HO6 : Hid (Own w6 w.heap.size iT 2 v6 (Dn ++ W.take m).length (its (Dn ++ W.take m))) := by rw [its_app, hlen]; exact ha.own
                    have HLN := hide hlen
                    obtain ⟨A6, c6, rfl, hc6⟩ := ha.own.sl.form
                    clear ha hlen
                    go_wp2_with fail
                    go_roundw
                    case rel =>
                      refine ⟨k + 1, Dn ++ W.take m, W.drop m, F5, by go_num, ?_, ?_, ?_, ?_, HO6, HDF6, HB6⟩
                      · rw [HLN.out]; omega
                      · rw [HLN.out, HL.out.2]; omega
                      · show _ = _
                        rw [List.append_assoc, List.take_append_drop]
                        exact HD.out
                      · rw [HLN.out]
                        simpa [Hid] using HQ6.out
                    case measure => simp [intOf, mOf]; omega
                  · go_wp2_with fail
                    go_at_call 11
                    refine (take_some _ _ _ _ _ m _ (1 : Int) HQ.out hm1 hm2 HM.out (by omega) HB.out.size).mono ?_
                    rintro e w4 ⟨v4, F4, rfl, hq, ho, hfr, hf, hsub⟩
                    obtain ⟨A4, c4, rfl, hc4⟩ := ho.sl.form
                    have HQ4 := hide hq
                    have HBW := hide (HQ.out.apart hf HB.out.size)
                    have HB4 := hide (HB.out.trans HBW.out)
                    have HO4 := hide ho
                    have HFR := hide hfr
                    have hdv4 : ∀ g, (Value.slice DA Dn.length dc).ownBlock = some g → ¬ F4 g := by
                      intro g hg hg'
                      rcases hsub g hg' with h9 | h9
                      · exact HDF.out g hg h9
                      · have := (HO.out.lt g hg).2; omega
                    have HDV4 := hide (HO.out.fr hf (fun g hg => HDF.out g hg))
                    have HDF4 := hide hdv4
                    clear hq hf hsub ho hfr hdv4
                    have hl1 : (W.take m).length = m := by rw [List.length_take]; omega
                    have hl2 : (W.drop m).length = W.length - m := by rw [List.length_drop]
                    have HL := hide (And.intro hl1 hl2)
                    clear hl1 hl2
                    have f0 : w4.cell? (fad.add k) = some (.bool true) := (FZ.out w4 (HBW.out)).trans F0.out
                    go_wp2_with fail
                    go_at_call 16
                    refine (nack_yes _ _ _ _ _ _ _ HQ4.out (by rw [HL.out.1]; omega) (by rw [HL.out.1, HL.out.2]; omega) HB4.out.size).mono ?_
                    rintro e w5 ⟨F5, rfl, hq, hf, hsub⟩
                    rw [List.take_append_drop] at hq
                    rw [HL.out.1]
                    have HQ5 := hide hq
                    have HB5 := hide (HB4.out.trans (HQ4.out.apart hf HB4.out.size))
                    have HDV5 := hide (HDV4.out.fr hf (fun g hg => HDF4.out g hg))
                    have HDF5 : Hid (∀ g, (Value.slice DA Dn.length dc).ownBlock = some g → ¬ F5 g) := by
                      intro g hg hg'
                      rcases hsub g hg' with h9 | h9
                      · exact HDF4.out g hg h9
                      · have := (HDV4.out.lt g hg).2; omega
                    clear hq hf hsub
                    go_wp2_with fail
                    go_roundw
                    case rel => exact ⟨k + 1, Dn, W, F5, by go_num, by omega, by omega, HD, HQ5, HDV5, HDF5, HB5⟩
                    case measure => simp [intOf, mOf]; omega
                · go_wp2_with fail
                  go_at_call 11
                  refine (take_some _ _ _ _ _ m _ (1 : Int) HQ.out hm1 hm2 HM.out (by omega) HB.out.size).mono ?_
                  rintro e w4 ⟨v4, F4, rfl, hq, ho, hfr, hf, hsub⟩
                  obtain ⟨A4, c4, rfl, hc4⟩ := ho.sl.form
                  have HQ4 := hide hq
                  have HB4 := hide (HB.out.trans (HQ.out.apart hf HB.out.size))
                  have HO4 := hide ho
                  have HFR := hide hfr
                  have hdv4 : ∀ g, (Value.slice DA Dn.length dc).ownBlock = some g → ¬ F4 g := by
                    intro g hg hg'
                    rcases hsub g hg' with h9 | h9
                    · exact HDF.out g hg h9
                    · have := (HO.out.lt g hg).2; omega
                  have HDV4 := hide (HO.out.fr hf (fun g hg => HDF.out g hg))
                  have HDF4 := hide hdv4
                  clear hq hf hsub ho hfr hdv4
                  have hl1 : (W.take m).length = m := by rw [List.length_take]; omega
                  have hl2 : (W.drop m).length = W.length - m := by rw [List.length_drop]
                  have HL := hide (And.intro hl1 hl2)
                  clear hl1 hl2
                  go_wp2_with fail
                  go_at_call 17
                  refine (ack_yes _ _ _ _ _ _ _ HQ4.out (by rw [HL.out.1]; omega) (by rw [HL.out.1]; omega) (by omega) (by omega)).mono ?_
                  rintro e w5 ⟨F5, rfl, hq, hf, hsub⟩
                  rw [HL.out.1] at hq
                  rw [HL.out.1]
                  have HQ5 := hide hq
                  have HB5 := hide (HB4.out.trans (HQ4.out.apart hf HB4.out.size))
                  have HO5 := hide (HO4.out.fr hf (fun g hg => (HFR.out g hg).2))
                  have HDV5 := hide (HDV4.out.fr hf (fun g hg => HDF4.out g hg))
                  have HDF5 : Hid (∀ g, (Value.slice DA Dn.length dc).ownBlock = some g → ¬ F5 g) := by
                    intro g hg hg'
                    rcases hsub g hg' with h9 | h9
                    · exact HDF4.out g hg h9
                    · have := (HDV4.out.lt g hg).2; omega
                  clear hq hf hsub
                  go_wp2_with (at_builtin; refine wpList_app rfl tyIt (.tmp 120) (.tmp 121) rfl w.heap.size (n := Dn.length) (m := m) (B := w5.heap.size) (xs := its Dn) (news := its (W.take m)) rfl rfl HDV5.out HO5.out.sl (its_ok _) (by omega) (by omega) HB5.out.size ?_)
                  intro v6 w6 ha
                  have HQ6 := hide (HQ5.out.fr ha.fr (fun k hk h => HDF5.out k h hk))
                  have HB6 := hide (HB5.out.trans (ha.fr.below HB5.out.size (fun k hk h => by have := (HDV5.out.lt k h).1; omega)))
                  have HDF6 : Hid (∀ g, v6.ownBlock = some g → ¬ F5 g) := by
                    intro g hg hg'
                    rcases ha.at_ with h9 | h9
                    · exact HDF5.out g (by rw [← h9]; exact hg) hg'
                    · rw [hg] at h9
                      injection h9 with h9
                      have := (HQ5.out.inF g hg').2
                      omega
                  have hlen : (Dn ++ W.take m).length = Dn.length + m := by rw [List.length_append, HL.out.1]
                  have HO6 : Hid (Own w6 w.heap.size iT 2 v6 (Dn ++ W.take m).length (its (Dn ++ W.take m))) := by rw [its_app, hlen]; exact ha.own
                  have HLN := hide hlen
                  obtain ⟨A6, c6, rfl, hc6⟩ := ha.own.sl.form
                  clear ha hlen
                  go_wp2_with fail
                  go_roundw
                  case rel =>
                    refine ⟨k + 1, Dn ++ W.take m, W.drop m, F5, by go_num, ?_, ?_, ?_, ?_, HO6, HDF6, HB6⟩
                    · rw [HLN.out]; omega
                    · rw [HLN.out, HL.out.2]; omega
                    · show _ = _
                      rw [List.append_assoc, List.take_append_drop]
                      exact HD.out
                    · rw [HLN.out]
                      simpa [Hid] using HQ6.out
                  case measure => simp [intOf, mOf]; omega
            · skip
              obtain ⟨m, hm1, hm2, hm3⟩ : ∃ m : Nat, 1 ≤ m ∧ m ≤ W.length ∧ ((1 : Int) = m ∨ (W.length < (1 : Int) ∧ m = W.length)) := by
                by_cases h9 : ((1 : Int) : Int) ≤ W.length
                · exact ⟨((1 : Int) : Int).toNat, by omega, by omega, .inl (by omega)⟩
                · exact ⟨W.length, by omega, by omega, .inr ⟨by omega, rfl⟩⟩
              have hle : (m : Int) ≤ (1 : Int) := by omega
              have hm0 : ((m : Int) == 0) = false := beq_eq_false_iff_ne.2 (by omega)
              have hgt : decide ((1 : Int) < (m : Int)) = false := decide_eq_false (by omega)
              have HM := hide hm3
              clear hm3
              have hw0 : (W.length : Int) ≤ 500 := by omega
              have hle2 : m ≤ 1 := by omega
              have hgt2 : decide (1 < m) = false := decide_eq_false (by omega)
              by_cases hf1 : k < X.length
              · obtain ⟨fad, fe, fb, f0⟩ := sbool_at (HX.out.below HB.out) hf1 rfl
                obtain rfl := fe
                have fb2 : (fad.add k).block < wr.heap.size := Nat.lt_of_lt_of_le fb HB.out.size
                have fz : ∀ w2 : World, Below w.heap.size wr w2 → w2.cell? (fad.add k) = wr.cell? (fad.add k) := fun w2 hb => hb.cell fb
                have FZ := hide fz
                have F0 := hide f0
                clear fz f0
                generalize X[k] = xb at F0
                cases xb
                · go_wp2_with fail
                  go_at_call 11
                  refine (take_some _ _ _ _ _ m _ (1 : Int) HQ.out hm1 hm2 HM.out (by omega) HB.out.size).mono ?_
                  rintro e w4 ⟨v4, F4, rfl, hq, ho, hfr, hf, hsub⟩
                  obtain ⟨A4, c4, rfl, hc4⟩ := ho.sl.form
                  have HQ4 := hide hq
                  have HBW := hide (HQ.out.apart hf HB.out.size)
                  have HB4 := hide (HB.out.trans HBW.out)
                  have HO4 := hide ho
                  have HFR := hide hfr
                  have hdv4 : ∀ g, (Value.slice DA Dn.length dc).ownBlock = some g → ¬ F4 g := by
                    intro g hg hg'
                    rcases hsub g hg' with h9 | h9
                    · exact HDF.out g hg h9
                    · have := (HO.out.lt g hg).2; omega
                  have HDV4 := hide (HO.out.fr hf (fun g hg => HDF.out g hg))
                  have HDF4 := hide hdv4
                  clear hq hf hsub ho hfr hdv4
                  have hl1 : (W.take m).length = m := by rw [List.length_take]; omega
                  have hl2 : (W.drop m).length = W.length - m := by rw [List.length_drop]
                  have HL := hide (And.intro hl1 hl2)
                  clear hl1 hl2
                  have f0 : w4.cell? (fad.add k) = some (.bool false) := (FZ.out w4 (HBW.out)).trans F0.out
                  go_wp2_with fail
                  go_at_call 17
                  refine (ack_yes _ _ _ _ _ _ _ HQ4.out (by rw [HL.out.1]; omega) (by rw [HL.out.1]; omega) (by omega) (by omega)).mono ?_
                  rintro e w5 ⟨F5, rfl, hq, hf, hsub⟩
                  rw [HL.out.1] at hq
                  rw [HL.out.1]
                  have HQ5 := hide hq
                  have HB5 := hide (HB4.out.trans (HQ4.out.apart hf HB4.out.size))
                  have HO5 := hide (HO4.out.fr hf (fun g hg => (HFR.out g hg).2))
                  have HDV5 := hide (HDV4.out.fr hf (fun g hg => HDF4.out g hg))
                  have HDF5 : Hid (∀ g, (Value.slice DA Dn.length dc).ownBlock = some g → ¬ F5 g) := by
                    intro g hg hg'
                    rcases hsub g hg' with h9 | h9
                    · exact HDF4.out g hg h9
                    · have := (HDV4.out.lt g hg).2; omega
                  clear hq hf hsub
                  go_wp2_with (at_builtin; refine wpList_app rfl tyIt (.tmp 120) (.tmp 121) rfl w.heap.size (n := Dn.length) (m := m) (B := w5.heap.size) (xs := its Dn) (news := its (W.take m)) rfl rfl HDV5.out HO5.out.sl (its_ok _) (by omega) (by omega) HB5.out.size ?_)
                  intro v6 w6 ha
                  have HQ6 := hide (HQ5.out.fr ha.fr (fun k hk h => HDF5.out k h hk))
                  have HB6 := hide (HB5.out.trans (ha.fr.below HB5.out.size (fun k hk h => by have := (HDV5.out.lt k h).1; omega)))
                  have HDF6 : Hid (∀ g, v6.ownBlock = some g → ¬ F5 g) := by
                    intro g hg hg'
                    rcases ha.at_ with h9 | h9
                    · exact HDF5.out g (by rw [← h9]; exact hg) hg'
                    · rw [hg] at h9
                      injection h9 with h9
                      have := (HQ5.out.inF g hg').2
                      omega
                  have hlen : (Dn ++ W.take m).length = Dn.length + m := by rw [List.length_append, HL.out.1]
                  have HO6 : Hid (Own w6 w.heap.size iT 2 v6 (Dn ++ W.take m).length (its (Dn ++ W.take m))) := by rw [its_app, hlen]; exact ha.own
                  have HLN := hide hlen
                  obtain ⟨A6, c6, rfl, hc6⟩ := ha.own.sl.form
                  clear ha hlen
                  go_wp2_with fail
                  go_roundw
                  case rel =>
                    refine ⟨k + 1, Dn ++ W.take m, W.drop m, F5, by go_num, ?_, ?_, ?_, ?_, HO6, HDF6, HB6⟩
                    · rw [HLN.out]; omega
                    · rw [HLN.out, HL.out.2]; omega
                    · show _ = _
                      rw [List.append_assoc, List.take_append_drop]
                      exact HD.out
                    · rw [HLN.out]
                      simpa [Hid] using HQ6.out
                  case measure => simp [intOf, mOf]; omega
                · go_wp2_with fail
                  go_at_call 11
                  refine (take_some _ _ _ _ _ m _ (1 : Int) HQ.out hm1 hm2 HM.out (by omega) HB.out.size).mono ?_
                  rintro e w4 ⟨v4, F4, rfl, hq, ho, hfr, hf, hsub⟩
                  obtain ⟨A4, c4, rfl, hc4⟩ := ho.sl.form
                  have HQ4 := hide hq
                  have HBW := hide (HQ.out.apart hf HB.out.size)
                  have HB4 := hide (HB.out.trans HBW.out)
                  have HO4 := hide ho
                  have HFR := hide hfr
                  have hdv4 : ∀ g, (Value.slice DA Dn.length dc).ownBlock = some g → ¬ F4 g := by
                    intro g hg hg'
                    rcases hsub g hg' with h9 | h9
                    · exact HDF.out g hg h9
                    · have := (HO.out.lt g hg).2; omega
                  have HDV4 := hide (HO.out.fr hf (fun g hg => HDF.out g hg))
                  have HDF4 := hide hdv4
                  clear hq hf hsub ho hfr hdv4
                  have hl1 : (W.take m).length = m := by rw [List.length_take]; omega
                  have hl2 : (W.drop m).length = W.length - m := by rw [List.length_drop]
                  have HL := hide (And.intro hl1 hl2)
                  clear hl1 hl2
                  have f0 : w4.cell? (fad.add k) = some (.bool true) := (FZ.out w4 (HBW.out)).trans F0.out
                  go_wp2_with fail
                  go_at_call 16
                  refine (nack_yes _ _ _ _ _ _ _ HQ4.out (by rw [HL.out.1]; omega) (by rw [HL.out.1, HL.out.2]; omega) HB4.out.size).mono ?_
                  rintro e w5 ⟨F5, rfl, hq, hf, hsub⟩
                  rw [List.take_append_drop] at hq
                  rw [HL.out.1]
                  have HQ5 := hide hq
                  have HB5 := hide (HB4.out.trans (HQ4.out.apart hf HB4.out.size))
                  have HDV5 := hide (HDV4.out.fr hf (fun g hg => HDF4.out g hg))
                  have HDF5 : Hid (∀ g, (Value.slice DA Dn.length dc).ownBlock = some g → ¬ F5 g) := by
                    intro g hg hg'
                    rcases hsub g hg' with h9 | h9
                    · exact HDF4.out g hg h9
                    · have := (HDV4.out.lt g hg).2; omega
                  clear hq hf hsub
                  go_wp2_with fail
                  go_roundw
                  case rel => exact ⟨k + 1, Dn, W, F5, by go_num, by omega, by omega, HD, HQ5, HDV5, HDF5, HB5⟩
                  case measure => simp [intOf, mOf]; omega
              · go_wp2_with fail
                go_at_call 11
                refine (take_some _ _ _ _ _ m _ (1 : Int) HQ.out hm1 hm2 HM.out (by omega) HB.out.size).mono ?_
                rintro e w4 ⟨v4, F4, rfl, hq, ho, hfr, hf, hsub⟩
                obtain ⟨A4, c4, rfl, hc4⟩ := ho.sl.form
                have HQ4 := hide hq
                have HB4 := hide (HB.out.trans (HQ.out.apart hf HB.out.size))
                have HO4 := hide ho
                have HFR := hide hfr
                have hdv4 : ∀ g, (Value.slice DA Dn.length dc).ownBlock = some g → ¬ F4 g := by
                  intro g hg hg'
                  rcases hsub g hg' with h9 | h9
                  · exact HDF.out g hg h9
                  · have := (HO.out.lt g hg).2; omega
                have HDV4 := hide (HO.out.fr hf (fun g hg => HDF.out g hg))
                have HDF4 := hide hdv4
                clear hq hf hsub ho hfr hdv4
                have hl1 : (W.take m).length = m := by rw [List.length_take]; omega
                have hl2 : (W.drop m).length = W.length - m := by rw [List.length_drop]
                have HL := hide (And.intro hl1 hl2)
                clear hl1 hl2
                go_wp2_with fail
                go_at_call 17
                refine (ack_yes _ _ _ _ _ _ _ HQ4.out (by rw [HL.out.1]; omega) (by rw [HL.out.1]; omega) (by omega) (by omega)).mono ?_
                rintro e w5 ⟨F5, rfl, hq, hf, hsub⟩
                rw [HL.out.1] at hq
                rw [HL.out.1]
                have HQ5 := hide hq
                have HB5 := hide (HB4.out.trans (HQ4.out.apart hf HB4.out.size))
                have HO5 := hide (HO4.out.fr hf (fun g hg => (HFR.out g hg).2))
                have HDV5 := hide (HDV4.out.fr hf (fun g hg => HDF4.out g hg))
                have HDF5 : Hid (∀ g, (Value.slice DA Dn.length dc).ownBlock = some g → ¬ F5 g) := by
                  intro g hg hg'
                  rcases hsub g hg' with h9 | h9
                  · exact HDF4.out g hg h9
                  · have := (HDV4.out.lt g hg).2; omega
                clear hq hf hsub
                go_wp2_with (at_builtin; refine wpList_app rfl tyIt (.tmp 120) (.tmp 121) rfl w.heap.size (n := Dn.length) (m := m) (B := w5.heap.size) (xs := its Dn) (news := its (W.take m)) rfl rfl HDV5.out HO5.out.sl (its_ok _) (by omega) (by omega) HB5.out.size ?_)
                intro v6 w6 ha
                have HQ6 := hide (HQ5.out.fr ha.fr (fun k hk h => HDF5.out k h hk))
                have HB6 := hide (HB5.out.trans (ha.fr.below HB5.out.size (fun k hk h => by have := (HDV5.out.lt k h).1; omega)))
                have HDF6 : Hid (∀ g, v6.ownBlock = some g → ¬ F5 g) := by
                  intro g hg hg'
                  rcases ha.at_ with h9 | h9
                  · exact HDF5.out g (by rw [← h9]; exact hg) hg'
                  · rw [hg] at h9
                    injection h9 with h9
                    have := (HQ5.out.inF g hg').2
                    omega
                have hlen : (Dn ++ W.take m).length = Dn.length + m := by rw [List.length_append, HL.out.1]
                have HO6 : Hid (Own w6 w.heap.size iT 2 v6 (Dn ++ W.take m).length (its (Dn ++ W.take m))) := by rw [its_app, hlen]; exact ha.own
                have HLN := hide hlen
                obtain ⟨A6, c6, rfl, hc6⟩ := ha.own.sl.form
                clear ha hlen
                go_wp2_with fail
                go_roundw
                case rel =>
                  refine ⟨k + 1, Dn ++ W.take m, W.drop m, F5, by go_num, ?_, ?_, ?_, ?_, HO6, HDF6, HB6⟩
                  · rw [HLN.out]; omega
                  · rw [HLN.out, HL.out.2]; omega
                  · show _ = _
                    rw [List.append_assoc, List.take_append_drop]
                    exact HD.out
                  · rw [HLN.out]
                    simpa [Hid] using HQ6.out
                case measure => simp [intOf, mOf]; omega
          · have hW0 : W = [] := List.length_eq_zero_iff.1 (by omega)
            subst hW0
            have HDD : Hid (Dn = D) := by have h := HD.out; rwa [List.append_nil] at h
            have hpos : Dn.length = D.length := by simpa using hDW
            have HP := hide hpos
            clear hpos
            go_wp2_with fail
            go_at_call 15
            refine (oldest_any _ _ _ _ _ _ _ HQ.out (by simp) (by simp)).mono ?_
            rintro e w4 ⟨rfl, hb⟩
            have HQ4 := hide (HQ.out.below hb)
            have HB4 := hide (HB.out.trans (hb.mono HB.out.size))
            have HO4 := hide (HO.out.below hb)
            clear hb
            go_wp2_with fail
            go_at_call 18
            refine (same17 _ _ Dn D Dn.length D.length w4.heap.size _ HO4.out.sl ((HS.out.below HB4.out).mono HB4.out.size) rfl rfl (Nat.le_refl _) (by have := HP.out; omega)).mono ?_
            rintro e w5 ⟨rfl, hb⟩
            have e1 : decide (Dn = D) = true := by simp [HDD.out]
            rw [e1]
            have HQ5 := hide (HQ4.out.below hb)
            have HB5 := hide (HB4.out.trans (hb.mono HB4.out.size))
            clear hb e1
            have e2 : old [] = (0, false) := rfl
            rw [e2]
            clear e2
            go_wp2_with fail
            go_at_call 13
            refine (qpassed_any _ _ _ _ _ _ _ HQ5.out).mono ?_
            rintro e w6 ⟨rfl, rfl⟩
            rw [HP.out]
            go_wp2_with fail
            refine (awake17 _).mono ?_
            rintro e w7 ⟨rfl, hb⟩
            have HB7 := hide hb
            clear hb
            go_wp2_with fail
            go_ret
            exact ⟨rfl, HB5.out.trans (HB7.out.mono HB5.out.size)⟩

theorem once_walk (z : Value × List Itm) (z1 : Value × List Int) (z2 : Value × List Bool) (w : World) (h : Sl w w.heap.size z.1 2 z.2.length (its z.2) ∧ z.2.length * 16 ≤ 140737488351232 ∧ ∀ a ∈ z.2, True)
    (h1 : Sl w w.heap.size z1.1 1 z1.2.length (sIt z1.2) ∧ z1.2.length * 8 ≤ 140737488351232 ∧ ∀ a ∈ z1.2, (Lit.int .i64 a).wf = true) (h2 : Sl w w.heap.size z2.1 1 z2.2.length (sBo z2.2) ∧ z2.2.length * 1 ≤ 140737488351232 ∧ ∀ a ∈ z2.2, True) :
    Calls Try.prog 5 #[z.1, z1.1, z2.1] w fun e w' => e = .returned (.bool true) ∧ Below w.heap.size w w' := once_walk0 z.1 z1.1 z2.1 z.2 z1.2 z2.2 w h.1 h1.1 h2.1 (by omega)

end Go.Proofs.Ytlaijnabdlidiaa
