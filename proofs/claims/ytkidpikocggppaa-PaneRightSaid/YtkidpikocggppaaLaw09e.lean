/- PaneRight returns true, whatever comes in. -/
import Derived.Test.YtkidpikocggppaaLaw09c
import Derived.Test.YtkidpikocggppaaCut
namespace Go.Proofs.Ytkidpikocggppaa
open Go.RowKit
set_option linter.unusedVariables false
set_option linter.unusedSimpArgs false

set_option maxHeartbeats 8000000 in
theorem right_any (v : Value) (T : List Tr) (n : Nat) (out : Int) (w : World) (hs : Sl w w.heap.size v 2 n (trs T)) (hT : T.length = n) :
    Calls Try.prog 6 #[v, .int .i64 out] w fun e w' => e = .returned (.bool true) ∧ Below w.heap.size w w' := by
  obtain ⟨A, c, rfl, hnc⟩ := hs.form
  have hmax := hs.max
  have HS := hide hs
  have HT := hide hT
  clear hs hT
  by_cases hbig : 500 < n
  · go_enter Try.func6, Try.ntmps6
    go_wp2_with fail
    refine (new_any _).mono ?_
    rintro e w1 ⟨rfl, hl, rfl⟩
    clear hl
    go_wp2_with fail
    refine (awake09 _).mono ?_
    rintro e w2 ⟨rfl, hb⟩
    have HB := hide hb
    clear hb
    go_wp2_with fail
    go_ret
    exact ⟨rfl, ((Below.refl _ _).alloc (Nat.le_refl _) _).trans (HB.out.mono (by simp))⟩
  · go_enter Try.func6, Try.ntmps6
    go_wp2_with fail
    refine (new_any _).mono ?_
    rintro e w1 ⟨rfl, hl, rfl⟩
    have HL := hide hl
    clear hl
    go_wp2_with fail
    go_loopw [6, 31] (fun dv i wr => ∃ (k m : Nat) (D : List Inf) (st : Int), k ≤ n ∧ i = .int .i64 k ∧ m ≤ k ∧ Hid (D.length = m) ∧ Hid (0 ≤ st ∧ st ≤ 3) ∧ Hid (prun 0 0 D = some ((m : Int), st)) ∧ Hid (lineB wr w.heap.size m st) ∧
      Hid (Own wr w.heap.size 31 3 dv m (infs D)) ∧ Hid (Below w.heap.size w wr)) (fun _ i _ => n - (intOf i).toNat)
    case atStart => exact ⟨0, 0, [], 0, Nat.zero_le _, rfl, Nat.le_refl _, rfl, by simp [Hid], rfl, HL, Own.nil _ _ _ _, (Below.refl _ _).alloc (Nat.le_refl _) _⟩
    case round =>
      obtain ⟨k, m, D, st, hk, rfl, hm, HD, HI, HG, HL, HO, HB⟩ := hrel
      obtain ⟨DA, dc, rfl, hdc⟩ := HO.out.sl.form
      by_cases hlt : k < n
      · obtain ⟨ad, t, l, rfl, hb, hTk, h0, h1⟩ := tr_at (HS.out.below HB.out) hlt HT.out
        clear hTk
        have hb2 : (ad.add (k * 2)).block < wr.heap.size := Nat.lt_of_lt_of_le hb HB.out.size
        cases hok : fok st t
        · go_wp2_with fail
          go_at_call 9
          refine (fire_no _ m st t l _ (by with_reducible repeat (first | exact HL.out | apply lineB.alloc)) hok).mono ?_
          rintro e w2 ⟨rfl, hf, hl⟩
          have HB2 := hide ((HB.out.alloc HB.out.size _).trans (hf.below (by have := HB.out.size; simp; omega) (fun k hk (h : _ = _) => by omega)))
          have HO2 := hide ((HO.out.alloc _).fr hf (fun g hg (h : _ = _) => by subst h; exact (HO.out.ne HL.out (by decide)) hg))
          have HL2 := hide hl
          clear hf hl
          go_wp2_with fail
          go_roundw
          case rel => exact ⟨k + 1, m, D, st, by omega, by go_num, by omega, HD, HI, HG, Blk.alloc HL2.out _, HO2.out.alloc _, HB2.out.alloc HB2.out.size _⟩
          case measure => simp [intOf]; omega
        · go_wp2_with fail
          go_at_call 9
          refine (fire_yes _ m st t l _ (by with_reducible repeat (first | exact HL.out | apply lineB.alloc)) hok (by omega) (by omega)).mono ?_
          rintro e w2 ⟨rfl, hf, hl⟩
          have HB2 := hide ((HB.out.alloc HB.out.size _).trans (hf.below (by have := HB.out.size; simp; omega) (fun k hk (h : _ = _) => by omega)))
          have HO2 := hide ((HO.out.alloc _).fr hf (fun g hg (h : _ = _) => by subst h; exact (HO.out.ne HL.out (by decide)) hg))
          have HL2 := hide hl
          have HOK := hide hok
          clear hf hl hok
          go_wp2_with (at_builtin; refine wpList_app rfl tyPI (.tmp 46) (.tmp 48) rfl w.heap.size (n := m) (m := 1) (B := w2.heap.size + 2) (xs := infs D) (news := infs [⟨(m : Int), t, l⟩]) rfl rfl ((HO2.out.alloc _).alloc _) ?c1 (infs_ok _) (by omega) (by omega) (by have := HB2.out.size; simp; omega) ?_)
          case c1 =>
            have h := inf_one (w2.alloc (.cells #[.int .i64 m, .int .i64 t, .bool l] 31)) 31 m t l
            simp only [World.size_alloc] at h
            exact h.mono (by omega)
          intro v4 w4 ha
          have HB4 := hide ((((HB2.out.alloc HB2.out.size _).alloc (by have := HB2.out.size; simp; omega) _).trans (ha.fr.below (by have := HB2.out.size; simp; omega) (fun g hg h => by have := HO2.out.lt g h; omega))))
          have HL4 := hide (ha.fr.blk ((Blk.alloc HL2.out _).alloc _) (fun h => HO2.out.ne HL2.out (by decide) h))
          have HO4 : Hid (Own w4 w.heap.size 31 3 v4 (m + 1) (infs (D ++ [⟨(m : Int), t, l⟩]))) := by rw [infs, List.flatMap_append]; exact ha.own
          clear ha
          have HD4 : Hid ((D ++ [(⟨(m : Int), t, l⟩ : Inf)]).length = m + 1) := by simp [Hid, HD.out]
          have HG4 : Hid (prun 0 0 (D ++ [⟨(m : Int), t, l⟩]) = some (((m + 1 : Nat) : Int), fnext t l)) := by
            have h := prun_snoc D 0 0 _ _ ⟨(m : Int), t, l⟩ HG.out
            simp only [HOK.out, Bool.true_and, decide_true, if_true] at h
            exact h
          have HI4 : Hid (0 ≤ fnext t l ∧ fnext t l ≤ 3) := by
            have h1 := HOK.out
            have h2 := HI.out
            simp [fok] at h1
            cases l <;> simp [fnext, Hid] <;> omega
          go_wp2_with fail
          go_roundw
          case rel => exact ⟨k + 1, m + 1, D ++ [⟨(m : Int), t, l⟩], fnext t l, by omega, by go_num, by omega, HD4, HI4, HG4, HL4, HO4, HB4⟩
          case measure => simp [intOf]; omega
      · go_wp2_with fail
        go_at_call 14
        refine (check_any _ D m _ HO.out.sl HD.out (by omega)).mono ?_
        rintro e w2 ⟨rfl, hb⟩
        have hgd := pgood_all _ _ _ _ _ HG.out
        rw [chkErr, hgd, if_pos rfl, HD.out]
        have HB2 := hide (HB.out.trans (hb.mono HB.out.size))
        have HO2 := hide (HO.out.below hb)
        clear hb hgd
        by_cases hneg : out < 0
        · go_wp2_with fail
          refine (awake09 _).mono ?_
          rintro e w3 ⟨rfl, hb⟩
          have HB3 := hide hb
          clear hb
          go_wp2_with fail
          go_ret
          exact ⟨rfl, HB2.out.trans (HB3.out.mono HB2.out.size)⟩
        · by_cases hout : (m : Int) - 1 ≤ out
          · go_wp2_with fail
            refine (awake09 _).mono ?_
            rintro e w3 ⟨rfl, hb⟩
            have HB3 := hide hb
            clear hb
            go_wp2_with fail
            go_ret
            exact ⟨rfl, HB2.out.trans (HB3.out.mono HB2.out.size)⟩
          · obtain ⟨o, rfl⟩ : ∃ o : Nat, out = o := ⟨out.toNat, by omega⟩
            have hom : o + 1 < m := by omega
            obtain ⟨g, cap, he, hc1, hc2, hgb, hgl⟩ := HO2.out.pos (by omega)
            obtain ⟨rfl, rfl⟩ : DA = some ⟨g, 0, none⟩ ∧ dc = cap := by injection he; exact ⟨‹_›, ‹_›⟩
            clear he
            have ho2 : (o : Int) ≤ dc := by omega
            have ho3 : (o : Int) + 1 ≤ m := by omega
            have ho4 : (o : Int) ≤ m := by omega
            go_wp2_with fail
            have S1 : Hid (Sl w2 w2.heap.size (.slice (some ⟨g, 0, none⟩) o dc) 3 o (infs (D.take o))) := by
              have h := HO2.out.sl.take (k := o) (by omega)
              rw [infs, flat_take _ 3 Inf.cells3] at h
              exact h
            have S2 : Hid (Sl w2 w2.heap.size (.slice (some ⟨g, (o + 1) * 3, none⟩) (m - (o + 1)) (dc - (o + 1))) 3 (m - (o + 1)) (infs (D.drop (o + 1)))) := by
              have h := HO2.out.sl.drop (k := o + 1) (by omega)
              rw [infs, flat_drop _ 3 Inf.cells3] at h
              simp [Addr.add] at h
              exact h
            have N1 : Hid (Own (w2.alloc (.cells #[] 31)) w.heap.size 31 3 (.slice (some ⟨w2.heap.size, 0, none⟩) 0 0) 0 []) := Own.new w2 w.heap.size #[] HB2.out.size (by omega) rfl
            have HX : Hid (pgood 0 0 (D.take o ++ D.drop (o + 1)) = o ∧ chkErr (D.take o ++ D.drop (o + 1)) = 90) := by
              have h := pgood_less D _ _ o HG.out (by rw [HD.out]; omega)
              refine ⟨h, ?_⟩
              rw [chkErr, h, if_neg]
              rw [List.length_append, List.length_take, List.length_drop, HD.out]
              omega
            have HL3 : Hid ((D.take o ++ D.drop (o + 1)).length = o + (m - (o + 1))) := by
              show _ = _
              rw [List.length_append, List.length_take, List.length_drop, HD.out]
              omega
            have hm500 : m ≤ 500 := by omega
            have w1 : IntKind.i64.wrap ((o : Int) + 1) = (o : Int) + 1 := Go.IntWalk.i64_in _ (by omega)
            have w2' : 0 ≤ (o : Int) + 1 := by omega
            have w3 : ((o : Int) + 1).toNat = o + 1 := by omega
            have w4 : ¬ (dc = o + 1) := by omega
            have hsz2 : w.heap.size ≤ w2.heap.size := HB2.out.size
            have hgl2 : g < w2.heap.size := hgl
            go_region_law (first
              | (refine step_app rfl tyPI (.tmp 74) (.tmp 77) rfl w.heap.size (n := 0) (m := o) (B := w2.heap.size) (xs := []) (news := infs (D.take o)) rfl rfl (Own.drew N1.out) (Sl.alloc S1.out (Nat.le_refl _) _) (infs_ok _) (by omega) (by omega) (by simp; omega) ?_; intro v5 w5 ha5)
              | (have hb5 : Below w2.heap.size (w2.alloc (.cells #[] 31)).drew w5 := ha5.fr.below (by simp) (fun k hk h => by have := own_eq h; omega)
                 have ho5 : Own w5 w.heap.size 31 3 v5 o (infs (D.take o)) := by simpa using ha5.own
                 have hs5 : Sl w5 w2.heap.size (.slice (some ⟨g, (o + 1) * 3, none⟩) (m - (o + 1)) (dc - (o + 1))) 3 (m - (o + 1)) (infs (D.drop (o + 1))) := Sl.below (Sl.drew (Sl.alloc S2.out (Nat.le_refl _) (.cells #[] 31))) hb5
                 have hz5 : w2.heap.size + 1 ≤ w5.heap.size := by simpa using ha5.fr.size
                 refine step_app rfl tyPI (.tmp 78) (.tmp 82) rfl w.heap.size (n := o) (m := m - (o + 1)) (B := w2.heap.size) (xs := infs (D.take o)) (news := infs (D.drop (o + 1))) rfl rfl ho5 hs5 (infs_ok _) (by omega) (by omega) (by omega) ?_
                 intro v6 w6 ha6))
            all_goals
              clear w1 w3
              have HB6 : Hid (Below w.heap.size w w6) := by
                have h1 : Below w2.heap.size (w2.alloc (.cells #[] 31)).drew w5 := ha5.fr.below (by simp) (fun k hk h => by have := own_eq h; omega)
                have h2 : Below w.heap.size w5 w6 := ha6.fr.below (by have := ha5.fr.size; simp at this; omega) (fun k' hk' (h : v5.ownBlock = some k') => by
                  have h9 := ha5.at_
                  rw [h] at h9
                  rcases h9 with h9 | h9
                  · have := own_eq h9.symm
                    omega
                  · simp at h9
                    omega)
                exact ((HB2.out.alloc HB2.out.size _).drew.trans (h1.mono HB2.out.size)).trans h2
              have HO6 : Hid (Own w6 w.heap.size 31 3 v6 (o + (m - (o + 1))) (infs (D.take o ++ D.drop (o + 1)))) := by rw [infs, List.flatMap_append]; exact ha6.own
              clear ha5 ha6
              go_wp2_with fail
              go_at_call 14
              refine (check_any _ _ _ _ HO6.out.sl HL3.out (by omega)).mono ?_
              rintro e w7 ⟨rfl, hb⟩
              rw [HX.out.1, HX.out.2]
              have HB7 := hide (HB6.out.trans (hb.mono HB6.out.size))
              clear hb
              go_wp2_with fail
              refine (awake09 _).mono ?_
              rintro e w8 ⟨rfl, hb⟩
              have HB8 := hide hb
              clear hb
              go_wp2_with fail
              go_ret
              exact ⟨rfl, HB7.out.trans (HB8.out.mono HB7.out.size)⟩

theorem right_walk (z : Value × List Tr) (out : Int) (w : World) (h : Sl w w.heap.size z.1 2 z.2.length (trs z.2)) (_ : (Lit.int .i64 out).wf = true) :
    Calls Try.prog 6 #[z.1, .int .i64 out] w fun e w' => e = .returned (.bool true) ∧ Below w.heap.size w w' := right_any z.1 z.2 _ out w h rfl

end Go.Proofs.Ytkidpikocggppaa
