/- What New, Join and State do to a machine. -/
import Derived.Test.YtghkkekebjhjlaaTrig
import Derived.StillTailTactics
import Derived.LaidEqlPtr
namespace Go.Proofs.Ytghkkekebjhjlaa
open Go.RowKit
set_option linter.unusedVariables false
set_option linter.unusedSimpArgs false

/-- a machine is made -/
def NewPost (w : World) (s : Spc) (e : Ending) (w' : World) : Prop :=
  ∃ b l, e = .returned (.tuple #[.pointer (some ⟨b, 0, none⟩), .int .i64 0]) ∧ MR w' b l s ⟨0, 0, 0, false, false⟩ ∧ Below w.heap.size w w' ∧ w.heap.size ≤ b ∧ w.heap.size ≤ l

set_option maxHeartbeats 4000000 in
theorem tnew_bad (w : World) (s : Spc) (h : s.ok = false) : Calls Try.prog 9 #[s.val] w fun e w' => e = .returned (.tuple #[.pointer none, .int .i64 100]) ∧ Below w.heap.size w w' := by
  have HE : Hid (sokE s = 100) := by simp [Hid, sokE, h]
  clear h
  obtain ⟨se, sl, st, sa⟩ := s
  simp only [Spc.val]
  go_enter Try.func9, Try.ntmps9
  go_wp2_with fail
  refine (scheck_any _ ⟨se, sl, st, sa⟩).mono ?_
  rintro e w1 ⟨rfl, hb⟩
  rw [HE.out]
  have HB := hide hb
  clear hb
  go_wp2_with fail
  go_ret2
  exact ⟨rfl, ((Below.refl _ _).alloc (Nat.le_refl _) _).trans (HB.out.mono (by simp))⟩

set_option maxHeartbeats 4000000 in
theorem tnew_ok (w : World) (s : Spc) (h : s.ok = true) : Calls Try.prog 9 #[s.val] w (NewPost w s) := by
  have HE : Hid (sokE s = 0) := by simp [Hid, sokE, h]
  clear h
  obtain ⟨se, sl, st, sa⟩ := s
  simp only [Spc.val]
  go_enter Try.func9, Try.ntmps9
  go_wp2_with fail
  refine (scheck_any _ ⟨se, sl, st, sa⟩).mono ?_
  rintro e w1 ⟨rfl, hb⟩
  rw [HE.out]
  have B1 : Blk w1 w.heap.size 28 #[.int .i64 se, .int .i64 sl, .int .i64 st, .bool sa] := (Blk.new _ _ _).below hb (by simp)
  have c0 := B1.cell 0
  have c1 := B1.cell 1
  have c2 := B1.cell 2
  have c3 := B1.cell 3
  have clt := B1.lt
  simp only [List.getElem?_toArray, List.getElem?_cons_succ, List.getElem?_cons_zero] at c0 c1 c2 c3
  have HB := hide (((Below.refl w.heap.size w).alloc (Nat.le_refl _) (.cells #[.int .i64 se, .int .i64 sl, .int .i64 st, .bool sa] 28)).trans (hb.mono (by simp)))
  clear hb B1
  go_wp2_with fail
  go_region_with (go_at_call 19; refine (new_any _).mono ?_; rintro e w' ⟨rfl, hl, rfl⟩)
  all_goals
    go_wp2_with fail
    go_ret2
    refine ⟨w1.heap.size + 1, w1.heap.size, rfl, ⟨?_, ?_⟩, ?_, ?_, ?_⟩
    · have h := Blk.new (w1.drew.alloc (.cells #[.int .i64 0, .int .i64 0] 72)) mT #[.int .i64 se, .int .i64 sl, .int .i64 st, .bool sa, .pointer (some ⟨w1.heap.size, 0, none⟩), .int .i64 0, .bool false, .bool false]
      simp only [World.size_alloc, World.size_drew] at h
      exact h
    · exact Blk.alloc (Blk.new w1.drew _ _) _
    · exact ((HB.out.drew.alloc (by have := HB.out.size; simp; omega) _).alloc (by have := HB.out.size; simp; omega) _)
    · have := HB.out.size; omega
    · have := HB.out.size; omega

/-- what State gives -/
def stVal (m : Mst) : Value := .agg #[.int .i64 m.n, .int .i64 m.st, .int .i64 m.fr, .bool m.ps, .bool m.cl]
set_option maxHeartbeats 4000000 in
theorem state_any (w : World) (b l : Nat) (s : Spc) (m : Mst) (h : MR w b l s m) :
    Calls Try.prog 13 #[.pointer (some ⟨b, 0, none⟩)] w fun e w' => e = .returned (stVal m) ∧ Below w.heap.size w w' := by
  obtain ⟨c0, c1, c2, c4, c5, c6, c7, f5, f6, f7, hlt⟩ := h.open
  have H := hide h
  clear h
  obtain ⟨mn, mst, mfr, mps, mcl⟩ := m
  simp only at c5 c6 c7
  go_enter Try.func13, Try.ntmps13
  go_wp2_with fail
  refine wp_region_still_tail 23 (by kernel_rfl) (by kernel_rfl) ?_
  simp only [List.take_succ_cons, List.take_zero, List.drop_succ_cons, List.drop_zero]
  change wpStill _ _ (World.drew _) _ _ _
  generalize hW : World.drew _ = W2
  have h2 : MR W2 b l s ⟨mn, mst, mfr, mps, mcl⟩ := by rw [← hW]; exact (H.out.alloc _).drew
  have B2 : Blk W2 w.heap.size 39 #[.int .i64 0, .int .i64 0, .int .i64 0, .bool false, .bool false] := by rw [← hW]; exact (Blk.new _ _ _).drew
  have HB := hide (show Below w.heap.size w W2 by rw [← hW]; exact ((Below.refl _ _).alloc (Nat.le_refl _) _).drew)
  have HW := hide hW
  clear hW
  obtain ⟨d0, d1, d2, d4, d5, d6, d7, g5, g6, g7, hlt2⟩ := h2.open
  have HL := hide h2.2
  simp only at d5 d6 d7
  have e0 := B2.cell 0
  have e1 := B2.cell 1
  have e2 := B2.cell 2
  have e3 := B2.cell 3
  have e4 := B2.cell 4
  have i0 := B2.frozen 0
  have i1 := B2.frozen 1
  have i2 := B2.frozen 2
  have i3 := B2.frozen 3
  have i4 := B2.frozen 4
  have ilt := B2.lt
  simp only [List.getElem?_toArray, List.getElem?_cons_succ, List.getElem?_cons_zero] at e0 e1 e2 e3 e4
  have HB2 := hide B2
  clear h2 B2
  repeat (first
    | still_step
    | (refine wpStill_step (fun K hK => ?_); go_simp; refine ⟨_, (next_any l mn mst _ HL.out).mono (fun _ _ hh => ⟨hh.1, hh.2.symm⟩), hK _ ?_⟩; clear hK K)
    | (refine wpStill_step (fun K hK => ?_); go_simp; refine ⟨_, (stage_any l mn mst _ HL.out).mono (fun _ _ hh => ⟨hh.1, hh.2.symm⟩), hK _ ?_⟩; clear hK K))
  refine wpStill_nil ?_
  change wpList _ _ _ _ _ (World.drew _)
  rw [HW.out]
  go_wp2_with fail
  generalize hW3 : World.setCell (World.setCell (World.setCell (World.setCell (World.setCell W2 _ _) _ _) _ _) _ _) _ _ = W3
  have B3 : Blk W3 w.heap.size 39 #[.int .i64 mn, .int .i64 mst, .int .i64 mfr, .bool mps, .bool mcl] := by
    rw [← hW3]
    simpa using ((((HB2.out.put 0 (.int .i64 mn)).put 1 (.int .i64 mst)).put 2 (.int .i64 mfr)).put 3 (.bool mps)).put 4 (.bool mcl)
  have HB3 := hide (show Below w.heap.size w W3 by rw [← hW3]; exact ((((HB.out.setCell (Nat.le_refl _) _).setCell (Nat.le_refl _) _).setCell (Nat.le_refl _) _).setCell (Nat.le_refl _) _).setCell (Nat.le_refl _) _)
  clear hW3
  have k0 := B3.cell 0
  have k1 := B3.cell 1
  have k2 := B3.cell 2
  have k3 := B3.cell 3
  have k4 := B3.cell 4
  simp only [List.getElem?_toArray, List.getElem?_cons_succ, List.getElem?_cons_zero] at k0 k1 k2 k3 k4
  exact bodyPost_ret (v := stVal ⟨mn, mst, mfr, mps, mcl⟩) (by simp [results, Try.results13, go_sem, stVal, k0, k1, k2, k3, k4]) rfl ⟨rfl, HB3.out⟩

theorem ptr_ne (w : World) {b l b' l' : Nat} {s s' : Spc} {m m' : Mst} (h : MR w b l s m) (h' : MR w b' l' s' m') (hne : b ≠ b') :
    (binOp .eql 23 (.pointer (some ⟨b', 0, none⟩)) (.pointer (some ⟨b, 0, none⟩))).run Try.prog w = .ok (.bool false) w := by
  obtain ⟨j, hj, _, hz, _⟩ := info_parts (P := Try.prog) (e := mT) (z := .agg #[.int .i64 0, .int .i64 0, .int .i64 0, .bool false, .pointer none, .int .i64 0, .bool false, .bool false]) (size := 8) (bytes := 56) (by kernel_rfl)
  exact run_eql_ptr_other w Try.underlying23 hj (by omega) (fun e => hne (by injection e with e; exact e.symm)) h'.1 h.1

set_option maxHeartbeats 4000000 in
theorem join_no (w : World) (b l b' l' : Nat) (s s' : Spc) (m m' : Mst) (h : MR w b l s m) (h' : MR w b' l' s' m') (hne : b ≠ b') (hy : (yng m && yng m') = false) :
    Calls Try.prog 12 #[.pointer (some ⟨b, 0, none⟩), .pointer (some ⟨b', 0, none⟩)] w fun e w' => e = .returned (.int .i64 100) ∧ w = w' := by
  have hpt := ptr_ne w h h' hne
  have H := hide h
  have H' := hide h'
  clear h h'
  go_enter Try.func12, Try.ntmps12
  go_wp2_with fail
  refine (young_any _ _ _ _ _ H.out).mono ?_
  rintro e w1 ⟨rfl, rfl⟩
  cases h1 : yng m
  · clear hy
    have H1 := hide h1
    clear h1
    go_wp2_with fail
    go_ret
    exact ⟨rfl, rfl⟩
  · have h2 : yng m' = false := by rw [h1] at hy; simpa using hy
    clear hy
    have H1 := hide h1
    clear h1
    have H2 := hide h2
    clear h2
    go_wp2_with fail
    refine (young_any _ _ _ _ _ H'.out).mono ?_
    rintro e w1 ⟨rfl, rfl⟩
    rw [H2.out]
    go_wp2_with fail
    go_ret
    exact ⟨rfl, rfl⟩

/-- the other's fresh values are this one's -/
def JPost (w : World) (b l : Nat) (s : Spc) (m : Mst) (e : Ending) (w' : World) : Prop :=
  e = .returned (.int .i64 0) ∧ MR w' b l s m ∧ Fr (fun k => k = b) w w'
set_option maxHeartbeats 4000000 in
theorem join_yes (w : World) (b l b' l' : Nat) (s s' : Spc) (m m' : Mst) (h : MR w b l s m) (h' : MR w b' l' s' m') (hne : b ≠ b') (hy : yng m = true) (hy' : yng m' = true)
    (h1 : 0 ≤ m.fr) (h2 : m.fr ≤ 4611686018427387904) (h3 : 0 ≤ m'.fr) (h4 : m'.fr ≤ 1152921504606846976) :
    Calls Try.prog 12 #[.pointer (some ⟨b, 0, none⟩), .pointer (some ⟨b', 0, none⟩)] w (JPost w b l s { m with fr := m.fr + m'.fr }) := by
  have hpt := ptr_ne w h h' hne
  have H := hide h
  have H' := hide h'
  have HY := hide hy
  have HY' := hide hy'
  clear h h' hy hy'
  go_enter Try.func12, Try.ntmps12
  go_wp2_with fail
  refine (young_any _ _ _ _ _ H.out).mono ?_
  rintro e w1 ⟨rfl, rfl⟩
  rw [HY.out]
  go_wp2_with fail
  refine (young_any _ _ _ _ _ H'.out).mono ?_
  rintro e w1 ⟨rfl, rfl⟩
  rw [HY'.out]
  go_wp2_with fail
  refine wp_region_still_tail 11 (by kernel_rfl) (by kernel_rfl) ?_
  simp only [List.take_succ_cons, List.take_zero, List.drop_succ_cons, List.drop_zero]
  change wpStill _ _ (World.drew _) _ _ _
  generalize hW : World.drew _ = W2
  have k2 : MR W2 b l s m := by rw [← hW]; exact H.out.drew
  have k2' : MR W2 b' l' s' m' := by rw [← hW]; exact H'.out.drew
  have HF := hide (show Fr (fun k => k = b) w W2 by rw [← hW]; exact (Fr.refl _ _).drew)
  have HW := hide hW
  clear hW
  obtain ⟨d0, d1, d2, d4, d5, d6, d7, g5, g6, g7, hlt2⟩ := k2.open
  obtain ⟨e0, e1, e2, e4, e5, e6, e7, i5, i6, i7, jlt2⟩ := k2'.open
  have HK := hide k2
  clear k2 k2' hpt
  have hwr : IntKind.i64.wrap (m.fr + m'.fr) = m.fr + m'.fr := Go.IntWalk.i64_in _ (by omega)
  repeat still_step
  refine wpStill_nil ?_
  change wpList _ _ _ _ _ (World.drew _)
  rw [HW.out]
  clear hwr
  go_wp2_with fail
  go_ret
  exact ⟨rfl, HK.out.put5 _, HF.out.put (.inl rfl) _⟩

end Go.Proofs.Ytghkkekebjhjlaa
