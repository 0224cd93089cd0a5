/- What pane.Check computes. -/
import Derived.Test.YtghkkekebjhjlaaPure09
import Derived.Test.YtghkkekebjhjlaaApp
namespace Go.Proofs.Ytghkkekebjhjlaa
open Go.RowKit
set_option linter.unusedVariables false
set_option linter.unusedSimpArgs false

def chkErr (D : List Inf) : Int := if pgood 0 0 D = D.length then 0 else 90
theorem Inf.ok3 (p : Inf) : ∀ u ∈ p.cells, u.oneCell' = true := by simp [Inf.cells, Value.oneCell']
theorem infs_ok (D : List Inf) : ∀ u ∈ infs D, u.oneCell' = true := by
  intro u hu
  simp only [infs, List.mem_flatMap] at hu
  obtain ⟨p, _, hp⟩ := hu
  exact p.ok3 u hp

set_option maxHeartbeats 4000000 in
theorem check_any (v : Value) (D : List Inf) (n : Nat) (w : World) (hs : Sl w w.heap.size v 3 n (infs D)) (hD : D.length = n) (hbig : n ≤ 4611686018427387904) :
    Calls Try.prog 18 #[v] w fun e w' => e = .returned (.tuple #[.int .i64 (pgood 0 0 D), .int .i64 (chkErr D)]) ∧ Below w.heap.size w w' := by
  obtain ⟨A, c, rfl, hnc⟩ := hs.form
  have hmax := hs.max
  have HS := hide hs
  have HD := hide hD
  clear hs hD
  go_enter Try.func18, Try.ntmps18
  go_wp2_with fail
  refine (new_any _).mono ?_
  rintro e w1 ⟨rfl, hl, rfl⟩
  have HL := hide hl
  clear hl
  go_wp2_with fail
  go_loopw [12] (fun i wr => ∃ (k : Nat) (st : Int), k ≤ n ∧ i = .int .i64 k ∧ Hid (prun 0 0 (D.take k) = some ((k : Int), st)) ∧ Hid (lineB wr w.heap.size k st) ∧ Hid (Below w.heap.size w wr)) (fun i _ => n - (intOf i).toNat)
  case atStart => exact ⟨0, 0, Nat.zero_le _, rfl, by simp [Hid, prun], HL, (Below.refl _ _).alloc (Nat.le_refl _) _⟩
  case round =>
    obtain ⟨k, st, hk, rfl, HM, HL, HB⟩ := hrel
    by_cases hlt : k < n
    · obtain ⟨ad, rfl, hb, h0, h1, h2⟩ := inf_at (HS.out.below HB.out) hlt HD.out
      have hb2 : (ad.add (k * 3)).block < wr.heap.size := Nat.lt_of_lt_of_le hb HB.out.size
      have hkD : k < D.length := by rw [HD.out]; exact hlt
      have HG := hide (pgood_app (D.take k) 0 0 _ _ (D.drop k) HM.out)
      have HT := hide (prun_snoc (D.take k) 0 0 _ _ D[k] HM.out)
      have HK : Hid (D.drop k = D[k] :: D.drop (k + 1)) := List.drop_eq_getElem_cons hkD
      have HU : Hid (D.take (k + 1) = D.take k ++ [D[k]]) := List.take_succ_eq_append_getElem hkD
      generalize D[k] = p at h0 h1 h2 HT HK HU
      obtain ⟨pi, pt, pl⟩ := p
      simp only at h0 h1 h2
      cases hok : fok st pt
      · have HX : Hid (pgood 0 0 D = k ∧ chkErr D = 90) := by
          have h := HG.out
          rw [List.take_append_drop, HK.out, List.length_take, Nat.min_eq_left (by omega)] at h
          simp [pgood, hok] at h
          refine ⟨h, ?_⟩
          rw [chkErr, h, if_neg (by omega)]
        go_wp2_with fail
        go_at_call 31
        refine (fire_no _ _ st pt pl _ (by with_reducible repeat (first | exact HL.out | apply lineB.alloc)) hok).mono ?_
        rintro e w2 ⟨rfl, hf, hl⟩
        have HB2 := hide ((HB.out.alloc HB.out.size _).trans (hf.below (by have := HB.out.size; simp; omega) (fun k hk (h : _ = _) => by omega)))
        clear hf hl
        go_wp2_with fail
        go_ret2
        exact ⟨by rw [HX.out.1, HX.out.2]; rfl, HB2.out.alloc HB2.out.size _⟩
      · go_wp2_with fail
        go_at_call 31
        refine (fire_yes _ _ st pt pl _ (by with_reducible repeat (first | exact HL.out | apply lineB.alloc)) hok (by omega) (by omega)).mono ?_
        rintro e w2 ⟨rfl, hf, hl⟩
        have hz2 : wr.heap.size + 1 ≤ w2.heap.size := by simpa using hf.size
        have B3 : Blk w2 wr.heap.size 34 #[.int .i64 pi, .int .i64 pt, .bool pl] := hf.blk (Blk.new _ _ _) (fun (h : _ = _) => by have := HL.out.lt; omega)
        obtain ⟨c0, c1, c2, c3⟩ := B3.three
        have HB2 := hide ((HB.out.alloc HB.out.size _).trans (hf.below (by have := HB.out.size; simp; omega) (fun k hk (h : _ = _) => by omega)))
        have HL2 := hide hl
        clear hf hl B3
        by_cases hi : pi = (k : Int)
        · subst hi
          have HX : Hid (prun 0 0 (D.take (k + 1)) = some (((k + 1 : Nat) : Int), fnext pt pl)) := by
            have h := HT.out
            simp only [hok, Bool.true_and, decide_true, if_true] at h
            rw [← HU.out] at h
            exact h
          go_wp2_with fail
          go_roundw
          case rel =>
            refine ⟨k + 1, fnext pt pl, by omega, by go_num, HX, ?_, ?_⟩
            · exact HL2.out.alloc _
            · exact HB2.out.alloc HB2.out.size _
          case measure => simp [intOf]; omega
        · have HX : Hid (pgood 0 0 D = k ∧ chkErr D = 90) := by
            have h := HG.out
            rw [List.take_append_drop, HK.out, List.length_take, Nat.min_eq_left (by omega)] at h
            simp [pgood, hi] at h
            refine ⟨h, ?_⟩
            rw [chkErr, h, if_neg (by omega)]
          have hi1 : ((k : Int) != pi) = true := by simpa using fun h => hi h.symm
          have hi2 : ((k : Int) == pi) = false := by simpa using fun h => hi h.symm
          clear hi
          go_wp2_with fail
          go_ret2
          exact ⟨by rw [HX.out.1, HX.out.2]; rfl, HB2.out.alloc HB2.out.size _⟩
    · have HX : Hid (pgood 0 0 D = n ∧ chkErr D = 0) := by
        have h := HM.out
        rw [List.take_of_length_le (by rw [HD.out]; omega)] at h
        have h2 := pgood_all _ _ _ _ _ h
        exact ⟨by rw [h2, HD.out], by rw [chkErr, h2, if_pos rfl]⟩
      go_wp2_with fail
      go_ret2
      exact ⟨by rw [HX.out.1, HX.out.2]; rfl, HB.out⟩

end Go.Proofs.Ytghkkekebjhjlaa
