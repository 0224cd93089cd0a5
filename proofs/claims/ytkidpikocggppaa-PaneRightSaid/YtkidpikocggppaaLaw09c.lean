/- PaneChecks returns true, whatever comes in. -/
import Derived.Test.YtkidpikocggppaaLaw09b
import Derived.Test.YtkidpikocggppaaCheck
namespace Go.Proofs.Ytkidpikocggppaa
open Go.RowKit
set_option linter.unusedVariables false
set_option linter.unusedSimpArgs false

theorem tyPI : SlTy Try.prog 39 31 3 24 (.agg #[.int .i64 0, .int .i64 0, .bool false]) := ⟨Try.underlying39, info_parts (by kernel_rfl), rfl, by omega⟩
theorem tyRI : SlTy Try.prog 26 30 3 24 (.agg #[.int .i64 0, .int .i64 0, .bool false]) := ⟨Try.underlying26, info_parts (by kernel_rfl), rfl, by omega⟩

/-- the one new element of an append, laid in a block of its own -/
theorem inf_one (w : World) (t : Nat) (i tt : Int) (l : Bool) : Sl (w.alloc (.cells #[.int .i64 i, .int .i64 tt, .bool l] t)) (w.heap.size + 1) (.slice (some ⟨w.heap.size, 0, none⟩) 1 1) 3 1 (infs [⟨i, tt, l⟩]) :=
  Sl.of_own (Own.new (n := 1) (sz := 3) (e := t) (base := 0) w #[.int .i64 i, .int .i64 tt, .bool l] (by omega) (by omega) rfl) |>.mono (by simp)

set_option maxHeartbeats 4000000 in
theorem checks_any (v : Value) (D : List Inf) (n : Nat) (w : World) (hs : Sl w w.heap.size v 3 n (infs D)) (hD : D.length = n) :
    Calls Try.prog 5 #[v] w fun e w' => e = .returned (.bool true) ∧ Below w.heap.size w w' := by
  obtain ⟨A, c, rfl, hnc⟩ := hs.form
  have hmax := hs.max
  have HS := hide hs
  have HD := hide hD
  clear hs hD
  by_cases hbig : 500 < n
  · go_enter Try.func5, Try.ntmps5
    go_wp2_with fail
    refine (awake09 _).mono ?_
    rintro e w2 ⟨rfl, hb⟩
    have HB := hide hb
    clear hb
    go_wp2_with fail
    go_ret
    exact ⟨rfl, HB.out⟩
  · go_enter Try.func5, Try.ntmps5
    go_wp2_with (at_builtin; refine wpList_app rfl tyPI (.tmp 13) (.tmp 14) rfl w.heap.size (n := 0) (m := n) (B := w.heap.size) (xs := []) (news := infs D) rfl rfl ?c1 ?c2 (infs_ok D) (by omega) (by omega) (by simp) ?_)
    case c1 => exact Own.new w w.heap.size #[] (Nat.le_refl _) (by omega) rfl
    case c2 => exact HS.out.alloc (Nat.le_refl _) _
    intro v1 w1 ha
    have HB1 := hide (((Below.refl w.heap.size w).alloc (Nat.le_refl _) _).trans (ha.fr.below (by simp) (fun k hk h => by simp [Value.ownBlock] at h; omega)))
    have HS1 := hide ha.own.sl
    clear ha
    go_wp2_with fail
    go_at_call 14
    refine (check_any v1 D n _ (by simpa using HS1.out) HD.out (by omega)).mono ?_
    rintro e w2 ⟨rfl, hb⟩
    have HB2 := hide (HB1.out.trans (hb.mono HB1.out.size))
    clear hb HB1 HS1
    obtain ⟨G, hG⟩ : ∃ G : Nat, G = pgood 0 0 D := ⟨_, rfl⟩
    obtain ⟨C, hC⟩ : ∃ C : Int, C = chkErr D := ⟨_, rfl⟩
    rw [← hG, ← hC]
    have HG := hide hG
    have HC := hide hC
    clear hG hC
    go_wp2_with fail
    go_loopw [5, 21] (fun dv i wr => ∃ (k : Nat) (st : Int), k ≤ n ∧ i = .int .i64 k ∧ Hid (prun 0 0 (D.take k) = some ((k : Int), st)) ∧ Hid (PInv (D.take k) st) ∧ Hid (Own wr w.heap.size 30 3 dv k (infs (D.take k))) ∧ Hid (Below w.heap.size w wr)) (fun _ i _ => n - (intOf i).toNat)
    case atStart => exact ⟨0, 0, Nat.zero_le _, rfl, by simp [Hid, prun], by simpa [Hid] using PInv.nil, by simpa [Hid, infs] using Own.nil _ _ _ _, HB2⟩
    case round =>
      obtain ⟨k, st, hk, rfl, HM, HI, HO, HB⟩ := hrel
      by_cases hlt : k < n
      · obtain ⟨ad, rfl, hb, h0, h1, h2⟩ := inf_at (HS.out.below HB.out) hlt HD.out
        have hb2 : (ad.add (k * 3)).block < wr.heap.size := Nat.lt_of_lt_of_le hb HB.out.size
        have hkD : k < D.length := by rw [HD.out]; exact hlt
        have hlen : (D.take k).length = k := by rw [List.length_take, Nat.min_eq_left (by omega)]
        have HL := hide hlen
        have HGA := hide (pgood_app (D.take k) 0 0 _ _ (D.drop k) HM.out)
        have HT := hide (prun_snoc (D.take k) 0 0 _ _ D[k] HM.out)
        have HK : Hid (D.drop k = D[k] :: D.drop (k + 1)) := List.drop_eq_getElem_cons hkD
        have HU : Hid (D.take (k + 1) = D.take k ++ [D[k]]) := List.take_succ_eq_append_getElem hkD
        have hfol : D[k].i = k → fol (D.take k) D[k] = fok st D[k].t := fun h => fol_fok HI.out D[k] (by rw [h, hlen])
        have hfol2 : D[k].i ≠ k → fol (D.take k) D[k] = false := fun h => fol_bad (D.take k) D[k] (by rw [hlen]; exact h)
        have HF1 := hide hfol
        have HF2 := hide hfol2
        clear hfol hfol2 hlen
        generalize D[k] = p at h0 h1 h2 HT HK HU HF1 HF2
        obtain ⟨pi, pt, pl⟩ := p
        simp only at h0 h1 h2
        cases hfo : fol (D.take k) ⟨pi, pt, pl⟩
        · have HX : k = G ∧ 90 = C := by
            have h := HGA.out
            rw [List.take_append_drop, HK.out, HL.out] at h
            have h90 : pgood 0 0 D = k := by
              rw [h, pgood, if_neg]
              · omega
              · simp
                intro h7 h8
                have := HF1.out h8
                rw [hfo] at this
                simp only at this
                rw [← this] at h7
                cases h7
            exact ⟨by rw [HG.out, h90], by rw [HC.out, chkErr, h90, if_neg (by omega)]⟩
          obtain ⟨rfl, rfl⟩ := HX
          go_wp2_with fail
          go_at_call 10
          refine (refFollows _ (D.take k) ⟨pi, pt, pl⟩ k _ ((HO.out.alloc _).sl) HL.out).mono ?_
          rintro e w3 ⟨rfl, hb3⟩
          rw [hfo]
          have HB3 := hide ((HB.out.alloc HB.out.size _).trans (hb3.mono (by have := HB.out.size; simp; omega)))
          clear hb3
          go_wp2_with fail
          refine (awake09 _).mono ?_
          rintro e w4 ⟨rfl, hb4⟩
          have HB4 := hide hb4
          clear hb4
          go_wp2_with fail
          go_ret
          exact ⟨rfl, HB3.out.trans (HB4.out.mono HB3.out.size)⟩
        · go_wp2_with fail
          go_at_call 10
          refine (refFollows _ (D.take k) ⟨pi, pt, pl⟩ k _ ((HO.out.alloc _).sl) HL.out).mono ?_
          rintro e w3 ⟨rfl, hb3⟩
          rw [hfo]
          have HB3 := hide ((HB.out.alloc HB.out.size _).trans (hb3.mono (by have := HB.out.size; simp; omega)))
          have HO3 := hide ((HO.out.alloc _).below hb3)
          have B3 : Blk w3 wr.heap.size 31 #[.int .i64 pi, .int .i64 pt, .bool pl] := (Blk.new _ _ _).below hb3 (by simp)
          obtain ⟨c0, c1, c2, c3⟩ := B3.three
          have HX : pi = k ∧ fok st pt = true := by
            by_cases h8 : pi = (k : Int)
            · have := HF1.out h8
              rw [hfo] at this
              exact ⟨h8, this.symm⟩
            · have := HF2.out h8
              rw [hfo] at this
              cases this
          obtain ⟨rfl, hok⟩ := HX
          have HOK := hide hok
          clear hb3 B3 hok
          go_wp2_with (at_builtin; refine wpList_app rfl tyRI (.tmp 40) (.tmp 42) rfl w.heap.size (n := k) (m := 1) (B := w3.heap.size + 1) (xs := infs (D.take k)) (news := infs [⟨(k : Int), pt, pl⟩]) rfl rfl (HO3.out.alloc _) (inf_one _ _ _ _ _) (infs_ok _) (by omega) (by omega) (by have := HB3.out.size; simp; omega) ?_)
          intro v4 w4 ha
          have HB4 := hide ((HB3.out.alloc HB3.out.size _).trans (ha.fr.below (by have := HB3.out.size; simp; omega) (fun g hg h => by have := HO3.out.lt g h; omega)))
          have HO4 := hide ha.own
          clear ha
          go_wp2_with fail
          go_roundw
          case rel =>
            refine ⟨k + 1, fnext pt pl, by omega, by go_num, ?_, ?_, ?_, HB4⟩
            · have h := HT.out
              simp only [HOK.out, Bool.true_and, decide_true, if_true] at h
              rw [← HU.out] at h
              exact h
            · rw [HU.out]
              exact HI.out.snoc ⟨(k : Int), pt, pl⟩ HOK.out
            · rw [HU.out, infs, List.flatMap_append]
              exact HO4.out
          case measure => simp [intOf]; omega
      · have HX : n = G ∧ 0 = C := by
          have h := HM.out
          rw [List.take_of_length_le (by rw [HD.out]; omega)] at h
          have h2 := pgood_all _ _ _ _ _ h
          exact ⟨by rw [HG.out, h2, HD.out], by rw [HC.out, chkErr, h2, if_pos rfl]⟩
        obtain ⟨rfl, rfl⟩ := HX
        go_wp2_with fail
        refine (awake09 _).mono ?_
        rintro e w4 ⟨rfl, hb4⟩
        have HB4 := hide hb4
        clear hb4
        go_wp2_with fail
        go_ret
        exact ⟨rfl, HB.out.trans (HB4.out.mono HB.out.size)⟩

end Go.Proofs.Ytkidpikocggppaa
