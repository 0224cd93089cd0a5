/- ShuffleOldest returns true, whatever comes in. -/
import Derived.Test.YtlaijnabdlidiaaLaw17a
namespace Go.Proofs.Ytlaijnabdlidiaa
open Go.RowKit
set_option linter.unusedVariables false
set_option linter.unusedSimpArgs false

theorem oldf_spec : ∀ (D : List Itm) (a : Int × Bool), (a.2 = true ∨ a = (0, false)) →
    ((D.foldl oldf a).2 = (a.2 || !D.isEmpty)) ∧ (a.2 = true → (D.foldl oldf a).1 ≤ a.1) ∧ (∀ x ∈ D, (D.foldl oldf a).1 ≤ x.t) ∧ ((a.2 = true ∧ (D.foldl oldf a).1 = a.1) ∨ (∃ x ∈ D, x.t = (D.foldl oldf a).1) ∨ (D = [] ∧ a = (0, false)))
  | [], a, ha => by
    rcases ha with ha | rfl
    · simp [ha]
    · simp
  | x :: r, a, ha => by
    simp only [List.foldl_cons]
    have h1 : (oldf a x).2 = true := by
      unfold oldf
      split
      · rfl
      · rename_i h; simp at h; rcases ha with ha | rfl <;> simp_all
    obtain ⟨i1, i2, i3, i4⟩ := oldf_spec r (oldf a x) (.inl h1)
    have i2' := i2 h1
    have hx : (oldf a x).1 ≤ x.t := by
      unfold oldf
      split
      · exact Int.le_refl _
      · rename_i h; simp at h; omega
    have hx2 : a.2 = true → (oldf a x).1 ≤ a.1 := by
      intro h
      unfold oldf
      split
      · rename_i h5; simp [h] at h5; simp; omega
      · exact Int.le_refl _
    have hx3 : (oldf a x).1 = x.t ∨ oldf a x = a := by
      unfold oldf
      split
      · left; rfl
      · right; rfl
    refine ⟨by rw [i1, h1]; simp, fun h => Int.le_trans i2' (hx2 h), ?_, ?_⟩
    · intro y hy
      rcases List.mem_cons.1 hy with rfl | hy
      · exact Int.le_trans i2' hx
      · exact i3 y hy
    · rcases i4 with ⟨_, h⟩ | ⟨y, hy, hyt⟩ | ⟨_, h⟩
      · rcases hx3 with h3 | h3
        · right; left
          exact ⟨x, by simp, by rw [h, h3]⟩
        · left
          rw [h3] at h1
          exact ⟨h1, by rw [h, h3]⟩
      · right; left
        exact ⟨y, by simp [hy], hyt⟩
      · rw [h] at h1; simp at h1

theorem old_ok (D : List Itm) : (old D).2 = !D.isEmpty := by simpa [old] using (oldf_spec D (0, false) (.inr rfl)).1
theorem old_le (D : List Itm) : ∀ x ∈ D, (old D).1 ≤ x.t := (oldf_spec D (0, false) (.inr rfl)).2.2.1
theorem old_in (D : List Itm) : (old D).2 = D.any (fun x => x.t == (old D).1) := by
  rcases (oldf_spec D (0, false) (.inr rfl)).2.2.2 with ⟨h, _⟩ | ⟨x, hx, h⟩ | ⟨h, _⟩
  · simp at h
  · have h1 : D.any (fun x => x.t == (old D).1) = true := by
      rw [List.any_eq_true]
      exact ⟨x, hx, by rw [h]; simp [old]⟩
    rw [h1, old_ok]
    cases D
    · simp at hx
    · rfl
  · subst h; rfl

set_option maxHeartbeats 8000000 in
theorem oldest_walk0 (v : Value) (D : List Itm) (n : Int) (w : World) (hs : Sl w w.heap.size v 2 D.length (its D)) :
    Calls Try.prog 4 #[v, .int .i64 n] w fun e w' => e = .returned (.bool true) ∧ Below w.heap.size w w' := by
  obtain ⟨A, c, rfl, hnc⟩ := hs.form
  have hmax := hs.max
  have HS := hide hs
  clear hs
  by_cases hbig : 500 < D.length
  · go_enter Try.func4, Try.ntmps4
    go_wp2_with fail
    refine (qnew_any _ w.heap.size (Nat.le_refl _)).mono ?_
    rintro e w1 ⟨rfl, hq, rfl⟩
    clear hq
    go_wp2_with fail
    refine (awake17 _).mono ?_
    rintro e w2 ⟨rfl, hb⟩
    have HB := hide hb
    clear hb
    go_wp2_with fail
    go_ret
    exact ⟨rfl, ((Below.refl _ _).alloc (Nat.le_refl _) _).trans (HB.out.mono (by simp))⟩
  · go_enter Try.func4, Try.ntmps4
    go_wp2_with fail
    refine (qnew_any _ w.heap.size (Nat.le_refl _)).mono ?_
    rintro e w1 ⟨rfl, hq, rfl⟩
    have HQ := hide hq
    clear hq
    go_wp2_with fail
    go_at_call 10
    refine (push_any _ D D.length w.heap.size _ w.heap.size w.heap.size _ [] [] 0 HQ.out (HS.out.alloc (Nat.le_refl _) _) rfl (by simp; omega) (by simp)).mono ?_
    rintro e w2 ⟨F2, rfl, hq, hf, hsub⟩
    have HB2 := hide (((Below.refl w.heap.size w).alloc (Nat.le_refl _) _).trans (HQ.out.apart hf (by simp)))
    have HQ2 : Hid (QR w2 w.heap.size w.heap.size F2 D [] 0) := hide (by simpa using hq)
    clear hq hf hsub HQ
    go_wp2_with fail
    go_at_call 15
    refine (oldest_any _ _ _ _ _ _ _ HQ2.out (by omega) (by simp)).mono ?_
    rintro e w3 ⟨rfl, hb⟩
    have HQ3 := hide (HQ2.out.below hb)
    have HB3 := hide (HB2.out.trans (hb.mono HB2.out.size))
    clear hb HQ2 HB2
    simp only [List.nil_append]
    obtain ⟨t, ht⟩ : ∃ t : Int, t = (old D).1 := ⟨_, rfl⟩
    obtain ⟨ok, hok⟩ : ∃ ok : Bool, ok = (old D).2 := ⟨_, rfl⟩
    rw [← ht, ← hok]
    have HT := hide ht
    have HOK := hide hok
    clear ht hok
    go_wp2_with fail
    go_loopw [8, 38] (fun th i wr => ∃ k : Nat, k ≤ D.length ∧ i = .int .i64 k ∧ th = .bool ((D.take k).any fun x => x.t == t) ∧ Hid (QR wr w.heap.size w.heap.size F2 D [] 0) ∧ Hid (Below w.heap.size w wr)) (fun _ i _ => D.length - (intOf i).toNat)
    case atStart => exact ⟨0, Nat.zero_le _, rfl, rfl, HQ3, HB3⟩
    case round =>
      obtain ⟨k, hk, rfl, rfl, HQ, HB⟩ := hrel
      by_cases hlt : k < D.length
      · obtain ⟨ad, he, hb, h0, h1⟩ := itm_at (HS.out.below HB.out) hlt rfl
        obtain rfl := he
        have hb2 : (ad.add (k * 2)).block < wr.heap.size := Nat.lt_of_lt_of_le hb HB.out.size
        have hge : ¬ (D[k].t < t) := by
          have := old_le D D[k] (List.getElem_mem hlt)
          rw [HT.out]
          omega
        have HU : Hid (((D.take (k + 1)).any fun x => x.t == t) = (((D.take k).any fun x => x.t == t) || (D[k].t == t))) := by
          show _ = _
          rw [List.take_succ_eq_append_getElem hlt, List.any_append]
          simp
        generalize D[k] = q at h0 h1 hge HU
        obtain ⟨qt, qn⟩ := q
        simp only at h0 h1 hge
        generalize ((D.take k).any fun x => x.t == t) = th at HU
        by_cases hqt : qt = t
        · subst hqt
          cases th
          all_goals
            go_wp2_with fail
            go_roundw
            case rel => exact ⟨k + 1, by omega, by go_num, by rw [HU.out]; simp, HQ.out.alloc _, HB.out.alloc HB.out.size _⟩
            case measure => simp [intOf]; omega
        · have hq1 : (qt == t) = false := by simpa using hqt
          clear hqt
          cases th
          all_goals
            go_wp2_with fail
            go_roundw
            case rel => exact ⟨k + 1, by omega, by go_num, by rw [HU.out]; simp [hq1], HQ.out.alloc _, HB.out.alloc HB.out.size _⟩
            case measure => simp [intOf]; omega
      · have HX : Hid (((D.take k).any fun x => x.t == t) = ok) := by
          show _ = _
          rw [List.take_of_length_le (by omega), HOK.out, HT.out]
          exact (old_in D).symm
        generalize ((D.take k).any fun x => x.t == t) = th at HX
        obtain rfl := HX.out
        clear HX
        by_cases hno : n < 1 ∨ D.length = 0
        · go_wp2_with fail
          go_at_call 11
          refine (take_none _ _ _ _ _ _ n HQ.out hno).mono ?_
          rintro e w4 ⟨rfl, rfl⟩
          clear hno
          go_wp2_with fail
          go_at_call 15
          refine (oldest_any _ _ _ _ _ _ _ HQ.out (by omega) (by simp)).mono ?_
          rintro e w4 ⟨rfl, hb⟩
          simp only [List.nil_append]
          rw [← HT.out, ← HOK.out]
          have HQ4 := hide (HQ.out.below hb)
          have HB4 := hide (HB.out.trans (hb.mono HB.out.size))
          clear hb
          go_wp2_with fail
          go_at_call 16
          refine (nack_no _ _ _ _ _ _ HQ4.out (by omega) HB4.out.size).mono ?_
          rintro e w5 ⟨F5, rfl, hq, hf, hsub⟩
          have HQ5 := hide hq
          have HB5 := hide (HB4.out.trans (HQ4.out.apart hf HB4.out.size))
          clear hq hf hsub
          go_wp2_with fail
          go_at_call 15
          refine (oldest_any _ _ _ _ _ _ _ HQ5.out (by omega) (by simp)).mono ?_
          rintro e w6 ⟨rfl, hb⟩
          simp only [List.nil_append]
          rw [← HT.out, ← HOK.out]
          have HB6 := hide (HB5.out.trans (hb.mono HB5.out.size))
          clear hb
          cases th
          all_goals
            go_wp2_with fail
            refine (awake17 _).mono ?_
            rintro e w7 ⟨rfl, hb⟩
            have HB7 := hide hb
            clear hb
            go_wp2_with fail
            go_ret
            exact ⟨rfl, HB6.out.trans (HB7.out.mono HB6.out.size)⟩
        · obtain ⟨m, hm1, hm2, hm3⟩ : ∃ m : Nat, 1 ≤ m ∧ m ≤ D.length ∧ (n = m ∨ (D.length < n ∧ m = D.length)) := by
            by_cases h9 : n ≤ D.length
            · exact ⟨n.toNat, by omega, by omega, .inl (by omega)⟩
            · exact ⟨D.length, by omega, by omega, .inr ⟨by omega, rfl⟩⟩
          have HM := hide hm3
          clear hno hm3
          go_wp2_with fail
          go_at_call 11
          refine (take_some _ _ _ _ _ m _ n HQ.out hm1 hm2 HM.out (by omega) HB.out.size).mono ?_
          rintro e w4 ⟨v4, F4, rfl, hq, ho, hfr, hf, hsub⟩
          have HQ4 := hide hq
          have HB4 := hide (HB.out.trans (HQ.out.apart hf HB.out.size))
          clear hq hf hsub ho hfr
          have hl1 : (D.take m).length = m := by rw [List.length_take]; omega
          have hl2 : (D.drop m).length = D.length - m := by rw [List.length_drop]
          have HL := hide (And.intro hl1 hl2)
          clear hl1 hl2
          go_wp2_with fail
          go_at_call 15
          refine (oldest_any _ _ _ _ _ _ _ HQ4.out (by rw [HL.out.2]; omega) (by rw [HL.out.1]; omega)).mono ?_
          rintro e w5 ⟨rfl, hb⟩
          rw [List.take_append_drop, ← HT.out, ← HOK.out]
          have HQ5 := hide (HQ4.out.below hb)
          have HB5 := hide (HB4.out.trans (hb.mono HB4.out.size))
          clear hb
          go_wp2_with fail
          go_at_call 16
          refine (nack_yes _ _ _ _ _ _ _ HQ5.out (by rw [HL.out.1]; omega) (by rw [HL.out.1, HL.out.2]; omega) HB5.out.size).mono ?_
          rintro e w6 ⟨F6, rfl, hq, hf, hsub⟩
          rw [List.take_append_drop] at hq
          have HQ6 := hide hq
          have HB6 := hide (HB5.out.trans (HQ5.out.apart hf HB5.out.size))
          clear hq hf hsub
          go_wp2_with fail
          go_at_call 15
          refine (oldest_any _ _ _ _ _ _ _ HQ6.out (by omega) (by simp)).mono ?_
          rintro e w7 ⟨rfl, hb⟩
          simp only [List.nil_append]
          rw [← HT.out, ← HOK.out]
          have HB7 := hide (HB6.out.trans (hb.mono HB6.out.size))
          clear hb
          cases th
          all_goals
            go_wp2_with fail
            refine (awake17 _).mono ?_
            rintro e w8 ⟨rfl, hb⟩
            have HB8 := hide hb
            clear hb
            go_wp2_with fail
            go_ret
            exact ⟨rfl, HB7.out.trans (HB8.out.mono HB7.out.size)⟩

theorem oldest_walk (z : Value × List Itm) (n : Int) (w : World) (h : Sl w w.heap.size z.1 2 z.2.length (its z.2)) (_ : (Lit.int .i64 n).wf = true) :
    Calls Try.prog 4 #[z.1, .int .i64 n] w fun e w' => e = .returned (.bool true) ∧ Below w.heap.size w w' := oldest_walk0 z.1 z.2 n w h

end Go.Proofs.Ytlaijnabdlidiaa
