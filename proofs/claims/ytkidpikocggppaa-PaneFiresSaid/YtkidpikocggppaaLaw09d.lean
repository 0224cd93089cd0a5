/- PaneFires returns true, whatever comes in. -/
import Derived.Test.YtkidpikocggppaaLaw09c
namespace Go.Proofs.Ytkidpikocggppaa
open Go.RowKit
set_option linter.unusedVariables false
set_option linter.unusedSimpArgs false

set_option maxHeartbeats 8000000 in
theorem fires_any (v : Value) (T : List Tr) (n : Nat) (w : World) (hs : Sl w w.heap.size v 2 n (trs T)) (hT : T.length = n) :
    Calls Try.prog 3 #[v] w fun e w' => e = .returned (.bool true) ∧ Below w.heap.size w w' := by
  obtain ⟨A, c, rfl, hnc⟩ := hs.form
  have hmax := hs.max
  have HS := hide hs
  have HT := hide hT
  clear hs hT
  by_cases hbig : 500 < n
  · go_enter Try.func3, Try.ntmps3
    go_wp2_with fail
    refine (new_any _).mono ?_
    rintro e w1 ⟨rfl, hl, rfl⟩
    clear hl
    go_wp2_with fail
    refine (awake09 _).mono ?_
    rintro e w2 ⟨rfl, hb⟩
    have HB := hide hb
    clear hb
    go_wp2_with fail
    go_ret
    exact ⟨rfl, ((Below.refl _ _).alloc (Nat.le_refl _) _).trans (HB.out.mono (by simp))⟩
  · go_enter Try.func3, Try.ntmps3
    go_wp2_with fail
    refine (new_any _).mono ?_
    rintro e w1 ⟨rfl, hl, rfl⟩
    have HL := hide hl
    clear hl
    go_wp2_with fail
    go_loopw [4, 25] (fun dv i wr => ∃ (k m : Nat) (D : List Inf) (st : Int), k ≤ n ∧ i = .int .i64 k ∧ m ≤ k ∧ Hid (D.length = m) ∧ Hid (PInv D st) ∧ Hid (stg D = st) ∧ Hid (lineB wr w.heap.size m st) ∧
      Hid (Own wr w.heap.size 30 3 dv m (infs D)) ∧ Hid (Below w.heap.size w wr)) (fun _ i _ => n - (intOf i).toNat)
    case atStart => exact ⟨0, 0, [], 0, Nat.zero_le _, rfl, Nat.le_refl _, rfl, PInv.nil, rfl, HL, Own.nil _ _ _ _, (Below.refl _ _).alloc (Nat.le_refl _) _⟩
    case round =>
      obtain ⟨k, m, D, st, hk, rfl, hm, HD, HI, HG, HL, HO, HB⟩ := hrel
      obtain ⟨DA, dc, rfl, hdc⟩ := HO.out.sl.form
      by_cases hlt : k < n
      · obtain ⟨ad, t, l, rfl, hb, hTk, h0, h1⟩ := tr_at (HS.out.below HB.out) hlt HT.out
        clear hTk
        have hb2 : (ad.add (k * 2)).block < wr.heap.size := Nat.lt_of_lt_of_le hb HB.out.size
        have HF := hide (fol_fok HI.out ⟨(m : Int), t, l⟩ (by rw [HD.out]))
        cases hok : fok st t
        · go_wp2_with fail
          go_at_call 9
          refine (fire_no _ m st t l _ (by with_reducible repeat (first | exact HL.out | apply lineB.alloc)) hok).mono ?_
          rintro e w2 ⟨rfl, hf, hl⟩
          have hz2 : wr.heap.size + 2 ≤ w2.heap.size := by simpa using hf.size
          have hne : wr.heap.size ≠ w.heap.size := by have := HL.out.lt; omega
          have hne2 : wr.heap.size + 1 ≠ w.heap.size := by have := HL.out.lt; omega
          have B4 : Blk w2 (wr.heap.size + 1) 30 #[.int .i64 m, .int .i64 t, .bool l] := hf.blk (by simpa using Blk.new (wr.alloc _) _ _) hne2
          obtain ⟨c0, c1, c2, c3⟩ := B4.three
          have HB2 := hide ((((HB.out.alloc HB.out.size _).alloc (by have := HB.out.size; simp; omega) _).trans (hf.below (by have := HB.out.size; simp; omega) (fun k hk (h : _ = _) => by omega))))
          have HO2 := hide (((HO.out.alloc _).alloc _).fr hf (fun g hg (h : _ = _) => by subst h; exact (HO.out.ne HL.out (by decide)) hg))
          have HL2 := hide hl
          clear hf hl B4
          go_wp2_with fail
          go_at_call 10
          refine (refFollows _ D ⟨(m : Int), t, l⟩ m _ ((HO2.out.alloc _).sl) HD.out).mono ?_
          rintro e w3 ⟨rfl, hb3⟩
          rw [HF.out, hok]
          have B3 : Blk w3 w2.heap.size 31 #[.int .i64 0, .int .i64 0, .bool false] := (Blk.new _ _ _).below hb3 (by simp)
          obtain ⟨d0, d1, d2, d3⟩ := B3.three
          have HB3 := hide ((HB2.out.alloc HB2.out.size _).trans (hb3.mono (by have := HB2.out.size; simp; omega)))
          have HO3 := hide ((HO2.out.alloc _).below hb3)
          have HL3 := hide (Blk.below (HL2.out.alloc _) hb3 (by have := HL2.out.lt; simp; omega))
          clear hb3 B3
          go_wp2_with fail
          go_roundw
          case rel => exact ⟨k + 1, m, D, st, by omega, by go_num, by omega, HD, HI, HG, HL3, HO3, HB3⟩
          case measure => simp [intOf]; omega
        · go_wp2_with fail
          go_at_call 9
          refine (fire_yes _ m st t l _ (by with_reducible repeat (first | exact HL.out | apply lineB.alloc)) hok (by omega) (by omega)).mono ?_
          rintro e w2 ⟨rfl, hf, hl⟩
          have hz2 : wr.heap.size + 2 ≤ w2.heap.size := by simpa using hf.size
          have hne : wr.heap.size ≠ w.heap.size := by have := HL.out.lt; omega
          have hne2 : wr.heap.size + 1 ≠ w.heap.size := by have := HL.out.lt; omega
          have B4 : Blk w2 (wr.heap.size + 1) 30 #[.int .i64 m, .int .i64 t, .bool l] := hf.blk (by simpa using Blk.new (wr.alloc _) _ _) hne2
          obtain ⟨c0, c1, c2, c3⟩ := B4.three
          have HB2 := hide ((((HB.out.alloc HB.out.size _).alloc (by have := HB.out.size; simp; omega) _).trans (hf.below (by have := HB.out.size; simp; omega) (fun k hk (h : _ = _) => by omega))))
          have HO2 := hide (((HO.out.alloc _).alloc _).fr hf (fun g hg (h : _ = _) => by subst h; exact (HO.out.ne HL.out (by decide)) hg))
          have HL2 := hide hl
          clear hf hl
          go_wp2_with fail
          go_at_call 10
          refine (refFollows _ D ⟨(m : Int), t, l⟩ m _ ((HO2.out.alloc _).sl) HD.out).mono ?_
          rintro e w3 ⟨rfl, hb3⟩
          rw [HF.out, hok]
          have B3 : Blk w3 w2.heap.size 31 #[.int .i64 m, .int .i64 t, .bool l] := (Blk.new _ _ _).below hb3 (by simp)
          have B5 : Blk w3 (wr.heap.size + 1) 30 #[.int .i64 m, .int .i64 t, .bool l] := (B4.alloc _).below hb3 (by simp; omega)
          obtain ⟨d0, d1, d2, d3⟩ := B3.three
          obtain ⟨e0, e1, e2, e3⟩ := B5.three
          have HB3 := hide ((HB2.out.alloc HB2.out.size _).trans (hb3.mono (by have := HB2.out.size; simp; omega)))
          have HO3 := hide ((HO2.out.alloc _).below hb3)
          have HL3 := hide (Blk.below (HL2.out.alloc _) hb3 (by have := HL2.out.lt; simp; omega))
          have HOK := hide hok
          clear hb3 B3 B5 B4 hok
          go_wp2_with (at_builtin; refine wpList_app rfl tyRI (.tmp 63) (.tmp 65) rfl w.heap.size (n := m) (m := 1) (B := w3.heap.size + 1) (xs := infs D) (news := infs [⟨(m : Int), t, l⟩]) rfl rfl (HO3.out.alloc _) (inf_one _ _ _ _ _) (infs_ok _) (by omega) (by omega) (by have := HB3.out.size; simp; omega) ?_)
          intro v4 w4 ha
          have HB4 := hide ((HB3.out.alloc HB3.out.size _).trans (ha.fr.below (by have := HB3.out.size; simp; omega) (fun g hg h => by have := HO3.out.lt g h; omega)))
          have HL4 := hide (ha.fr.blk (Blk.alloc HL3.out _) (fun h => HO3.out.ne HL3.out (by decide) h))
          have HO4 : Hid (Own w4 w.heap.size 30 3 v4 (m + 1) (infs (D ++ [⟨(m : Int), t, l⟩]))) := by rw [infs, List.flatMap_append]; exact ha.own
          clear ha
          obtain ⟨DA4, dc4, rfl, hdc4⟩ := HO4.out.sl.form
          have HD4 : Hid ((D ++ [(⟨(m : Int), t, l⟩ : Inf)]).length = m + 1) := by simp [Hid, HD.out]
          have HI4 := hide (HI.out.snoc ⟨(m : Int), t, l⟩ HOK.out)
          have HG4 : Hid (stg (D ++ [⟨(m : Int), t, l⟩]) = fnext t l) := by
            rw [stg_snoc, HG.out]
            exact stg_step HI.out.lo HI.out.hi ⟨(m : Int), t, l⟩ HOK.out
          go_wp2_with fail
          go_at_call 11
          refine (next_any _ _ _ _ HL4.out).mono ?_
          rintro e w5 ⟨rfl, rfl⟩
          go_wp2_with fail
          go_at_call 12
          refine (stage_any _ _ _ _ HL4.out).mono ?_
          rintro e w5 ⟨rfl, rfl⟩
          go_wp2_with fail
          go_at_call 13
          refine (refStage _ _ _ _ _ HO4.out.sl HD4.out).mono ?_
          rintro e w5 ⟨rfl, rfl⟩
          rw [HG4.out]
          go_wp2_with fail
          go_roundw
          case rel => exact ⟨k + 1, m + 1, D ++ [⟨(m : Int), t, l⟩], fnext t l, by omega, by go_num, by omega, HD4, HI4, HG4, HL4, HO4, HB4⟩
          case measure => simp [intOf]; omega
      · go_wp2_with fail
        go_at_call 11
        refine (next_any _ _ _ _ HL.out).mono ?_
        rintro e w2 ⟨rfl, rfl⟩
        go_wp2_with fail
        refine (awake09 _).mono ?_
        rintro e w2 ⟨rfl, hb⟩
        have HB2 := hide hb
        clear hb
        go_wp2_with fail
        go_ret
        exact ⟨rfl, HB.out.trans (HB2.out.mono HB.out.size)⟩

theorem fires_walk (z : Value × List Tr) (w : World) (h : Sl w w.heap.size z.1 2 z.2.length (trs z.2)) :
    Calls Try.prog 3 #[z.1] w fun e w' => e = .returned (.bool true) ∧ Below w.heap.size w w' := fires_any z.1 z.2 _ w h rfl

end Go.Proofs.Ytkidpikocggppaa
