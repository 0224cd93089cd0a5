/- What Oldest computes. -/
import Derived.Test.YtlaijnabdlidiaaQueue
import Derived.Deep.QuietTactic
import Derived.BigQuiet
import Derived.Deep.RegionWith
namespace Go.Proofs.Ytlaijnabdlidiaa
open Go.RowKit
set_option linter.unusedVariables false
set_option linter.unusedSimpArgs false

def oldf (a : Int × Bool) (x : Itm) : Int × Bool := if a.2 = false ∨ x.t < a.1 then (x.t, true) else a
def old (D : List Itm) : Int × Bool := D.foldl oldf (0, false)

theorem time_any (t n : Int) (w : World) : Calls Try.prog 8 #[.agg #[.int .i64 t, .int .i64 n]] w fun e w' => e = .returned (.int .i64 t) ∧ w.alloc (.cells #[.int .i64 t, .int .i64 n] iT) = w' := by
  go_enter Try.func8, Try.ntmps8
  go_wp2
  go_ret
  exact ⟨rfl, rfl⟩

theorem itm_at {w : World} {B n c : Nat} {A : Option Addr} {D : List Itm} (h : Sl w B (.slice A n c) 2 n (its D)) {k : Nat} (hk : k < n) (hD : D.length = n) :
    ∃ ad, A = some ad ∧ (ad.add (k * 2)).block < B ∧ w.cell? (ad.add (k * 2)) = some (.int .i64 (D[k]'(by omega)).t) ∧
      w.cell? ⟨(ad.add (k * 2)).block, (ad.add (k * 2)).off + 1, none⟩ = some (.int .i64 (D[k]'(by omega)).n) := by
  obtain ⟨ad, rfl, hb, hh⟩ := h.at_ hk
  rw [its, part_of _ 2 Itm.cells2 D k (by omega)] at hh
  refine ⟨ad, rfl, by rw [add_blk]; exact hb, ?_, ?_⟩
  · have := hh 0 _ rfl
    rwa [add_add'] at this
  · have := hh 1 _ rfl
    rwa [add_fld _ _ 1 (by omega)] at this

set_option maxHeartbeats 4000000 in
theorem oldest_any (w : World) (base b : Nat) (F : Nat → Prop) (W Bn : List Itm) (p : Int) (h : QR w base b F W Bn p) (hW : W.length ≤ 8796093022207) (hBn : Bn.length ≤ 8796093022207) :
    Calls Try.prog 15 #[.pointer (some ⟨b, 0, none⟩)] w fun e w' => e = .returned (.tuple #[.int .i64 (old (Bn ++ W)).1, .bool (old (Bn ++ W)).2]) ∧ Below w.heap.size w w' := by
  obtain ⟨wA, wc, bA, bc, c0, c1, c2, c3, f1, f2, f3, hlt, hwc, H⟩ := h.open
  have SW := hide H.out.2.1.sl
  have SB := hide H.out.2.2.1.sl
  have HB0 := hide H.out.1
  clear h H
  go_enter Try.func15, Try.ntmps15
  go_wp2_with fail
  go_quiet (fail)
  go_wp2_with fail
  go_loopw [4, 5, 20] (fun l o j wr => ∃ (jn : Int) (lv : Int) (ov : Bool), 0 ≤ jn ∧ jn ≤ 2 ∧ j = .int .i64 jn ∧ l = .int .i64 lv ∧ o = .bool ov ∧ Hid ((lv, ov) = old (if jn = 0 then [] else if jn = 1 then Bn else Bn ++ W)) ∧ Hid (Below w.heap.size w wr)) (fun _ _ j _ => 2 - (intOf j).toNat)
  case atStart => exact ⟨0, 0, false, by omega, by omega, rfl, rfl, rfl, by simp [Hid, old], (Below.refl _ _).drewN _⟩
  case round =>
    obtain ⟨jn, lv, ov, hj0, hj, rfl, rfl, rfl, HO, HB⟩ := hrel
    obtain ⟨wo, rfl⟩ : ∃ wo : World, wo = wr := ⟨_, rfl⟩
    have h3 : jn = 0 ∨ jn = 1 ∨ jn = 2 := by omega
    have i0 : ∀ V : World, (Instr.index 59 (.agg #[.slice bA Bn.length bc, .slice wA W.length wc]) (.int .i64 0)).run Try.prog V = .ok (.slice bA Bn.length bc) V := fun _ => by rfl
    have i1 : ∀ V : World, (Instr.index 59 (.agg #[.slice bA Bn.length bc, .slice wA W.length wc]) (.int .i64 1)).run Try.prog V = .ok (.slice wA W.length wc) V := fun _ => by rfl
    rcases h3 with rfl | rfl | rfl
    · skip
      have HBi := HB
      go_wp2_with fail
      go_loopw [4, 5, 25] (fun l o i wi => ∃ (k : Nat) (lv : Int) (ov : Bool), k ≤ Bn.length ∧ i = .int .i64 k ∧ l = .int .i64 lv ∧ o = .bool ov ∧ Hid ((lv, ov) = old (([] : List Itm) ++ Bn.take k)) ∧ Hid (Below w.heap.size w wi)) (fun _ _ i _ => Bn.length - (intOf i).toNat)
      case atStart => exact ⟨0, _, _, Nat.zero_le _, rfl, rfl, rfl, by simpa [Hid] using HO.out, HB⟩
      case round =>
        obtain ⟨k, lv, ov, hk, rfl, rfl, rfl, HM, HI⟩ := hrel
        by_cases hlt2 : k < Bn.length
        · obtain ⟨ad, he, hb, h0, h1⟩ := itm_at (SB.out.below HI.out) hlt2 rfl
          obtain rfl := he
          have hb2 : (ad.add (k * 2)).block < wr.heap.size := Nat.lt_of_lt_of_le hb HI.out.size
          have hu : Hid (old (([] : List Itm) ++ Bn.take (k + 1)) = oldf (old (([] : List Itm) ++ Bn.take k)) Bn[k]) := by
            show _ = _
            rw [List.take_succ_eq_append_getElem hlt2, ← List.append_assoc, old, List.foldl_append]
            rfl
          generalize Bn[k] = q at h0 h1 hu
          obtain ⟨qt, qn⟩ := q
          simp only at h0 h1
          have d0 : wr.cell? ⟨b, 0, none⟩ = some FV := (HI.out.cell (p := ⟨b, 0, none⟩) hlt).trans c0
          have hlt3 : b < wr.heap.size := Nat.lt_of_lt_of_le hlt HI.out.size
          unfold FV at d0
          cases ov
          · skip
            go_wp2_with fail
            go_region_with (go_at_call 8; refine (time_any _ _ _).mono ?_; rintro e w' ⟨rfl, rfl⟩)
            all_goals
              go_wp2_with fail
              go_roundw
              case rel =>
                refine ⟨k + 1, _, _, by omega, by go_num, rfl, rfl, ?_, ((HI.out.alloc HI.out.size _).drew.alloc (by have := HI.out.size; simp; omega) _)⟩
                show _ = _
                rw [hu.out, ← HM.out]
                first | (simp [oldf, *]; done) | (simp [oldf, *]; omega)
              case measure => simp [intOf]; omega
          · by_cases hq : qt < lv
            · skip
              go_wp2_with fail
              go_region_with (go_at_call 8; refine (time_any _ _ _).mono ?_; rintro e w' ⟨rfl, rfl⟩)
              all_goals
                go_wp2_with fail
                go_roundw
                case rel =>
                  refine ⟨k + 1, _, _, by omega, by go_num, rfl, rfl, ?_, ((HI.out.alloc HI.out.size _).drew.alloc (by have := HI.out.size; simp; omega) _)⟩
                  show _ = _
                  rw [hu.out, ← HM.out]
                  first | (simp [oldf, *]; done) | (simp [oldf, *]; omega)
                case measure => simp [intOf]; omega
            · skip
              go_wp2_with fail
              go_region_with (go_at_call 8; refine (time_any _ _ _).mono ?_; rintro e w' ⟨rfl, rfl⟩)
              all_goals
                go_wp2_with fail
                go_roundw
                case rel =>
                  refine ⟨k + 1, _, _, by omega, by go_num, rfl, rfl, ?_, ((HI.out.alloc HI.out.size _).drew.alloc (by have := HI.out.size; simp; omega) _)⟩
                  show _ = _
                  rw [hu.out, ← HM.out]
                  first | (simp [oldf, *]; done) | (simp [oldf, *]; omega)
                case measure => simp [intOf]; omega
        · go_wp2_with fail
          go_roundw
          case rel =>
            refine ⟨1, lv, ov, by omega, by omega, by go_num, rfl, rfl, ?_, HI⟩
            have h := HM.out
            rw [List.take_of_length_le (by omega)] at h
            simpa [Hid] using h
          case measure => simp [intOf]
    · skip
      have HBi := HB
      go_wp2_with fail
      go_loopw [4, 5, 25] (fun l o i wi => ∃ (k : Nat) (lv : Int) (ov : Bool), k ≤ W.length ∧ i = .int .i64 k ∧ l = .int .i64 lv ∧ o = .bool ov ∧ Hid ((lv, ov) = old (Bn ++ W.take k)) ∧ Hid (Below w.heap.size w wi)) (fun _ _ i _ => W.length - (intOf i).toNat)
      case atStart => exact ⟨0, _, _, Nat.zero_le _, rfl, rfl, rfl, by simpa [Hid] using HO.out, HB⟩
      case round =>
        obtain ⟨k, lv, ov, hk, rfl, rfl, rfl, HM, HI⟩ := hrel
        by_cases hlt2 : k < W.length
        · obtain ⟨ad, he, hb, h0, h1⟩ := itm_at (SW.out.below HI.out) hlt2 rfl
          obtain rfl := he
          have hb2 : (ad.add (k * 2)).block < wr.heap.size := Nat.lt_of_lt_of_le hb HI.out.size
          have hu : Hid (old (Bn ++ W.take (k + 1)) = oldf (old (Bn ++ W.take k)) W[k]) := by
            show _ = _
            rw [List.take_succ_eq_append_getElem hlt2, ← List.append_assoc, old, List.foldl_append]
            rfl
          generalize W[k] = q at h0 h1 hu
          obtain ⟨qt, qn⟩ := q
          simp only at h0 h1
          have d0 : wr.cell? ⟨b, 0, none⟩ = some FV := (HI.out.cell (p := ⟨b, 0, none⟩) hlt).trans c0
          have hlt3 : b < wr.heap.size := Nat.lt_of_lt_of_le hlt HI.out.size
          unfold FV at d0
          cases ov
          · skip
            go_wp2_with fail
            go_region_with (go_at_call 8; refine (time_any _ _ _).mono ?_; rintro e w' ⟨rfl, rfl⟩)
            all_goals
              go_wp2_with fail
              go_roundw
              case rel =>
                refine ⟨k + 1, _, _, by omega, by go_num, rfl, rfl, ?_, ((HI.out.alloc HI.out.size _).drew.alloc (by have := HI.out.size; simp; omega) _)⟩
                show _ = _
                rw [hu.out, ← HM.out]
                first | (simp [oldf, *]; done) | (simp [oldf, *]; omega)
              case measure => simp [intOf]; omega
          · by_cases hq : qt < lv
            · skip
              go_wp2_with fail
              go_region_with (go_at_call 8; refine (time_any _ _ _).mono ?_; rintro e w' ⟨rfl, rfl⟩)
              all_goals
                go_wp2_with fail
                go_roundw
                case rel =>
                  refine ⟨k + 1, _, _, by omega, by go_num, rfl, rfl, ?_, ((HI.out.alloc HI.out.size _).drew.alloc (by have := HI.out.size; simp; omega) _)⟩
                  show _ = _
                  rw [hu.out, ← HM.out]
                  first | (simp [oldf, *]; done) | (simp [oldf, *]; omega)
                case measure => simp [intOf]; omega
            · skip
              go_wp2_with fail
              go_region_with (go_at_call 8; refine (time_any _ _ _).mono ?_; rintro e w' ⟨rfl, rfl⟩)
              all_goals
                go_wp2_with fail
                go_roundw
                case rel =>
                  refine ⟨k + 1, _, _, by omega, by go_num, rfl, rfl, ?_, ((HI.out.alloc HI.out.size _).drew.alloc (by have := HI.out.size; simp; omega) _)⟩
                  show _ = _
                  rw [hu.out, ← HM.out]
                  first | (simp [oldf, *]; done) | (simp [oldf, *]; omega)
                case measure => simp [intOf]; omega
        · go_wp2_with fail
          go_roundw
          case rel =>
            refine ⟨2, lv, ov, by omega, by omega, by go_num, rfl, rfl, ?_, HI⟩
            have h := HM.out
            rw [List.take_of_length_le (by omega)] at h
            simpa [Hid] using h
          case measure => simp [intOf]
    · go_wp2_with fail
      go_ret2
      have h := HO.out
      simp at h
      exact ⟨by rw [← h]; rfl, HB.out⟩

end Go.Proofs.Ytlaijnabdlidiaa
