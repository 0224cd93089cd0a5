/- The reference of layer 18: Sum, Length, Frame, begins, length. -/
import Derived.Test.YtlllocfcljgacaaBin
namespace Go.Proofs.Ytlllocfcljgacaa
open Go.RowKit
set_option linter.unusedVariables false
set_option linter.unusedSimpArgs false

def lenA (k acc : Nat) : List Int → Nat × Nat
  | [] => (0, 0)
  | c :: D => if 2 < k then (0, 0) else if c < 128 then (acc + c.toNat * 128 ^ k, k + 1) else lenA (k + 1) (acc + (c.toNat - 128) * 128 ^ k) D
theorem grp_lenA : ∀ (D : List Int) (k acc m j : Nat), grp k acc D = some (m, j) → lenA k acc D = (m, j)
  | [], k, acc, m, j, h => by simp [grp] at h
  | c :: D, k, acc, m, j, h => by
    rw [grp] at h
    rw [lenA]
    split at h
    · cases h
    · rename_i hk
      rw [if_neg hk]
      split at h
      · rename_i hc
        rw [if_pos hc]
        split at h
        · cases h
        · simp only [Option.some.injEq, Prod.mk.injEq] at h
          rw [h.1, h.2]
      · rename_i hc
        rw [if_neg hc]
        exact grp_lenA D _ _ m j h
theorem lenA_frame (r Y : List Int) (h : r.length ≤ 1048576) : lenA 0 0 (frameB r ++ Y) = (r.length, (cntB r.length).length) := by
  have hc := cntB_len r.length (by omega)
  apply grp_lenA
  rw [frameB, List.append_assoc, List.append_assoc, cnt_grp r.length 0 0 _ (by omega) (by omega)]
  simp
theorem frame_cut (q Y : List Int) : ((frameB q ++ Y).drop ((cntB q.length).length + 4)).take q.length = q := by
  rw [frameB, List.append_assoc, List.append_assoc, ← List.drop_drop, List.drop_left, ← tailB_len q, List.drop_left, List.take_left]
/-- what the reference looks at, no record -/
theorem ref_none {D : List Int} {m z : Nat} (h8 : Bytes8 D) (hl : lenA 0 0 D = (m, z)) (h : z = 0 ∨ 1048576 < m ∨ D.length < z + 4 + m ∨ frameB ((D.drop (z + 4)).take m) ≠ D.take (frameB ((D.drop (z + 4)).take m)).length) : wholeB D = none := by
  match hw : wholeB D with
  | none => rfl
  | some (q, M) =>
    exfalso
    obtain ⟨h1, h2, h3⟩ := wholeB_some h8 hw
    have h4 := lenA_frame q (D.drop M) h3
    rw [← h1, hl] at h4
    simp only [Prod.mk.injEq] at h4
    obtain ⟨rfl, rfl⟩ := h4
    have h5 := frame_cut q (D.drop M)
    rw [← h1] at h5
    have h6 := frame_pos q
    have h7 := frameB_eq q
    have h9 := congrArg List.length h1
    rw [List.length_append] at h9
    have h10 : 1 ≤ (cntB q.length).length := by rw [cntB]; split <;> simp
    rw [h5] at h
    rcases h with h | h | h | h
    · omega
    · omega
    · omega
    · apply h
      conv => rhs; rw [h1]
      rw [List.take_left]
/-- what the reference looks at, a record -/
theorem ref_some {D : List Int} {m z : Nat} (hl : lenA 0 0 D = (m, z)) (h1 : m ≤ 1048576) (h2 : z + 4 + m ≤ D.length) (h3 : frameB ((D.drop (z + 4)).take m) = D.take (frameB ((D.drop (z + 4)).take m)).length) : wholeB D = some ((D.drop (z + 4)).take m, z + 4 + m) := by
  have hr : ((D.drop (z + 4)).take m).length = m := by rw [List.length_take, List.length_drop]; omega
  generalize (D.drop (z + 4)).take m = r at *
  have h4 : D = frameB r ++ D.drop (frameB r).length := by
    conv => lhs; rw [← List.take_append_drop (frameB r).length D, ← h3]
  have h5 := lenA_frame r (D.drop (frameB r).length) (by omega)
  rw [← h4, hl] at h5
  simp only [Prod.mk.injEq] at h5
  have h6 := wholeB_frame r (D.drop (frameB r).length) (by omega)
  rw [← h4] at h6
  rw [h6, frameB_eq]
  congr 2
  omega

set_option maxRecDepth 100000 in
set_option maxHeartbeats 4000000 in
theorem rsum_any (v : Value) (D : List Int) (n B : Nat) (w : World) (hs : Sl w B v 1 n (bys D)) (hD : D.length = n) (h8 : Bytes8 D) :
    Calls Try.prog 36 #[v] w fun e w' => e = .returned (.int .i64 (sumB D)) ∧ w = w' := by
  obtain ⟨A, c, rfl, hnc⟩ := hs.form
  have hmax := hs.max
  have HS := hide hs
  have HD := hide hD
  have H8 := hide h8
  clear hs hD h8
  go_enter Try.func36, Try.ntmps36
  go_wp2_with fail
  go_loop [3, 4] (fun s i => ∃ k : Nat, k ≤ n ∧ i = .int .i64 k ∧ s = .int .i64 (sumB (D.take k))) (fun _ i => n - (intOf i).toNat)
  case atStart => exact ⟨0, Nat.zero_le _, rfl, rfl⟩
  case round =>
    obtain ⟨k, hk, rfl, rfl⟩ := hrel
    by_cases hlt : k < n
    · obtain ⟨ad, rfl, hb, h0⟩ := by_at HS.out hlt HD.out
      have hkD : k < D.length := by rw [HD.out]; exact hlt
      have HU := hide (sumB_snoc D k hkD)
      have hin := sumB_in (D.take k)
      have hc := H8.out D[k] (List.getElem_mem hkD)
      generalize D[k] = x at h0 HU hc
      generalize sumB (D.take k) = s at hin HU
      obtain ⟨hi1, hi2⟩ := hin
      obtain ⟨hc1, hc2⟩ := hc
      obtain ⟨y, hy⟩ : ∃ y, y = s * 257 + x + 1 := ⟨_, rfl⟩
      have hyb : 0 ≤ y ∧ y < 4398046505984 := by omega
      have hq : y - y.tdiv 4294967291 * 4294967291 = sum1 s x := by
        rw [Int.tdiv_eq_ediv_of_nonneg hyb.1]
        unfold sum1
        rw [← hy]
        omega
      have hyd : 0 ≤ y.tdiv 4294967291 ∧ y.tdiv 4294967291 ≤ 1025 := by
        rw [Int.tdiv_eq_ediv_of_nonneg hyb.1]
        omega
      go_wp2_with fail
      rw [← hy]
      have HY := hide hy
      clear hy hi1 hi2 hc1 hc2 h0
      go_loop [3] (fun t => t = .int .i64 y) (fun _ => 0)
      case atStart => rfl
      case round =>
        subst hrel
        go_wp2_with fail
        go_round
        case rel => exact ⟨k + 1, by omega, by simp, by rw [HU.out]⟩
        case measure => simp [intOf]; omega
    · have hkn : k = n := by omega
      have HT : Hid (D.take k = D) := List.take_of_length_le (by rw [HD.out]; omega)
      subst hkn
      go_wp2_with fail
      go_ret
      exact ⟨by rw [HT.out]; rfl, rfl⟩

set_option maxRecDepth 100000 in
set_option maxHeartbeats 4000000 in
theorem rlen_any (n : Nat) : ∀ (w : World), n ≤ 1048576 → Calls Try.prog 37 #[.int .i64 n] w fun e w' => ∃ u, e = .returned u ∧ Own w' w.heap.size bT 1 u (cntB n).length (bys (cntB n)) ∧ Below w.heap.size w w' := by
  induction n using Nat.strongRecOn with
  | _ n ih =>
    intro w hn
    by_cases h : n < 128
    · have HC : Hid (cntB n = [(n : Int)]) := by rw [Hid, cntB, if_pos h]
      go_enter Try.func37, Try.ntmps37
      go_wp2_with fail
      go_ret
      rw [HC.out]
      exact ⟨_, rfl, Own.new (n := 1) (sz := 1) (e := bT) w w.heap.size #[.int .u8 n] (Nat.le_refl _) (by omega) rfl, (Below.refl _ _).alloc (Nat.le_refl _) _⟩
    · have HC : Hid (cntB n = ((n % 128 + 128 : Nat) : Int) :: cntB (n / 128)) := by rw [Hid, cntB, if_neg h]
      obtain ⟨m, hm⟩ : ∃ m, m = n / 128 := ⟨_, rfl⟩
      obtain ⟨x, hx⟩ : ∃ x, x = n % 128 := ⟨_, rfl⟩
      have hr : (n : Int).tmod 128 = (x : Int) := by rw [Int.tmod_eq_emod_of_nonneg (by omega)]; omega
      have hd : (n : Int).tdiv 128 = (m : Int) := by rw [Int.tdiv_eq_ediv_of_nonneg (by omega)]; omega
      have hb : x < 128 ∧ m ≤ 8192 := by omega
      have IH := hide (ih m (by omega))
      have hml := cntB_len m (by omega)
      rw [← hm, ← hx] at HC
      clear hm hx ih
      go_enter Try.func37, Try.ntmps37
      go_wp2_with fail
      have HN : Hid (Own (w.alloc (.cells #[.int .u8 ((x : Int) + 128)] bT)) w.heap.size bT 1 (.slice (some ⟨w.heap.size, 0, none⟩) 1 1) 1 (bys [(x : Int) + 128])) := Own.new (n := 1) (sz := 1) (e := bT) w w.heap.size #[.int .u8 ((x : Int) + 128)] (Nat.le_refl _) (by omega) rfl
      refine (IH.out (w.alloc (.cells #[.int .u8 ((x : Int) + 128)] bT)) (by omega)).mono ?_
      rintro e w2 ⟨u2, rfl, ho, hbl⟩
      have HO2 := hide ho
      have HN2 := hide (HN.out.below hbl)
      have HB2 := hide (((Below.refl w.heap.size w).alloc (Nat.le_refl _) (.cells #[.int .u8 ((x : Int) + 128)] bT)).trans (hbl.mono (by simp)))
      have hz2 : w.heap.size + 1 ≤ w2.heap.size := by simpa using hbl.size
      clear ho hbl
      go_wp2_with (at_builtin; refine wpList_app rfl tyB (.tmp 12) (.tmp 15) rfl w.heap.size (n := 1) (m := (cntB m).length) (B := w2.heap.size) (xs := bys [(x : Int) + 128]) (news := bys (cntB m)) rfl rfl HN2.out HO2.out.sl (bys_ok _) (by omega) (by omega) (by omega) ?_)
      intro v3 w3 ha
      have HO3 : Hid (Own w3 w.heap.size bT 1 v3 (cntB n).length (bys (cntB n))) := by
        rw [HC.out, List.length_cons, show (((x + 128 : Nat) : Int) :: cntB m) = [(x : Int) + 128] ++ cntB m by simp, bys_app, Nat.add_comm]
        exact ha.own
      have HB3 := hide (HB2.out.trans (ha.fr.below (B := w.heap.size) (by omega) (fun g hg h9 => by have := (HN2.out.lt g h9).1; omega)))
      clear ha
      go_wp2_with fail
      go_ret
      exact ⟨_, rfl, HO3.out, HB3.out⟩

set_option maxRecDepth 100000 in
set_option maxHeartbeats 4000000 in
theorem rframe_any (v : Value) (D : List Int) (n B : Nat) (w : World) (hs : Sl w B v 1 n (bys D)) (hD : D.length = n) (h8 : Bytes8 D) (hn : n ≤ 1048576) (hB : B ≤ w.heap.size) :
    Calls Try.prog 32 #[v] w fun e w' => ∃ u, e = .returned u ∧ Own w' w.heap.size bT 1 u (frameB D).length (bys (frameB D)) ∧ Below w.heap.size w w' := by
  obtain ⟨A, c, rfl, hnc⟩ := hs.form
  have HS := hide hs
  have HD := hide hD
  have H8 := hide h8
  clear hs hD h8
  go_enter Try.func32, Try.ntmps32
  go_wp2_with fail
  refine (rsum_any _ D n B w HS.out HD.out H8.out).mono ?_
  rintro e w1 ⟨rfl, rfl⟩
  obtain ⟨s, hs⟩ : ∃ s, s = sumB D := ⟨_, rfl⟩
  have hin := sumB_in D
  rw [← hs] at hin ⊢
  have HSS := hide hs
  clear hs
  go_wp2_with fail
  refine (rlen_any n w hn).mono ?_
  rintro e w2 ⟨u2, rfl, ho, hbl⟩
  have HO2 := hide ho
  have HB2 := hide hbl
  have hz2 := hbl.size
  have hcl := cntB_len n (by omega)
  clear ho hbl
  have q1 : s.tdiv 16777216 = s / 16777216 := Int.tdiv_eq_ediv_of_nonneg hin.1
  have q2 : s.tdiv 65536 = s / 65536 := Int.tdiv_eq_ediv_of_nonneg hin.1
  have q3 : s.tdiv 256 = s / 256 := Int.tdiv_eq_ediv_of_nonneg hin.1
  have q4 : (s / 65536).tmod 256 = s / 65536 % 256 := Int.tmod_eq_emod_of_nonneg (by omega)
  have q5 : (s / 256).tmod 256 = s / 256 % 256 := Int.tmod_eq_emod_of_nonneg (by omega)
  have q6 : s.tmod 256 = s % 256 := Int.tmod_eq_emod_of_nonneg (by omega)
  have HQ : Hid (tailB D = [s / 16777216, s / 65536 % 256, s / 256 % 256, s % 256]) := by
    rw [Hid, HSS.out]
    have h9 := sumB_in D
    simp only [tailB, List.cons.injEq, and_true]
    omega
  have HN : Hid (Sl (w2.alloc (.cells #[.int .u8 (s / 16777216), .int .u8 (s / 65536 % 256), .int .u8 (s / 256 % 256), .int .u8 (s % 256)] bT)) (w2.heap.size + 1) (.slice (some ⟨w2.heap.size, 0, none⟩) 4 4) 1 4 (bys (tailB D))) := by
    rw [HQ.out]
    exact Sl.of_own (Own.new (n := 4) (sz := 1) (e := bT) (base := 0) w2 #[.int .u8 (s / 16777216), .int .u8 (s / 65536 % 256), .int .u8 (s / 256 % 256), .int .u8 (s % 256)] (by omega) (by omega) rfl) |>.mono (by simp)
  go_wp2_with (at_builtin; refine wpList_app rfl tyB (.tmp 9) (.tmp 24) rfl w.heap.size (n := (cntB n).length) (m := 4) (B := w2.heap.size + 1) (xs := bys (cntB n)) (news := bys (tailB D)) rfl rfl (HO2.out.alloc _) HN.out (bys_ok _) (by omega) (by omega) (by simp; omega) ?_)
  intro v3 w3 ha
  have HO3 : Hid (Own w3 w.heap.size bT 1 v3 ((cntB n).length + 4) (bys (cntB n ++ tailB D))) := by
    rw [bys_app]
    exact ha.own
  have HB3 := hide ((HB2.out.alloc (by omega) (.cells #[.int .u8 (s / 16777216), .int .u8 (s / 65536 % 256), .int .u8 (s / 256 % 256), .int .u8 (s % 256)] bT)).trans (ha.fr.below (B := w.heap.size) (by simp; omega) (fun g hg h9 => by have := (HO2.out.lt g h9).1; omega)))
  have hz3 : w2.heap.size + 1 ≤ w3.heap.size := by simpa using ha.fr.size
  clear ha q1 q2 q3 q4 q5 q6
  go_wp2_with (at_builtin; refine wpList_app rfl tyB (.tmp 26) (.tmp 27) rfl w.heap.size (n := (cntB n).length + 4) (m := n) (B := B) (xs := bys (cntB n ++ tailB D)) (news := bys D) rfl rfl HO3.out (HS.out.below (HB3.out.mono hB)) (bys_ok _) (by omega) (by omega) (by omega) ?_)
  intro v4 w4 ha
  have HO4 : Hid (Own w4 w.heap.size bT 1 v4 (frameB D).length (bys (frameB D))) := by
    rw [frameB_eq, frameB, bys_app, HD.out]
    exact ha.own
  have HB4 := hide (HB3.out.trans (ha.fr.below (B := w.heap.size) (by omega) (fun g hg h9 => by have := (HO3.out.lt g h9).1; omega)))
  clear ha
  go_wp2_with fail
  go_ret
  exact ⟨_, rfl, HO4.out, HB4.out⟩

end Go.Proofs.Ytlllocfcljgacaa
