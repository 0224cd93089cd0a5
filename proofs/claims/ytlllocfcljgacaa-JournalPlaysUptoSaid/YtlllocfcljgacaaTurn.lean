/- A tape whose last byte is another one; a slice's own cell turned. -/
import Derived.Test.YtlllocfcljgacaaSame
import Derived.Laws.BitsAllLaws
namespace Go.Proofs.Ytlllocfcljgacaa
open Go.RowKit
set_option linter.unusedVariables false
set_option linter.unusedSimpArgs false

theorem whole_form (n : Nat) (T R : List Int) (hT : T.length = 4) (hR : R.length = n) (hn : n ≤ 1048576) : wholeB (cntB n ++ (T ++ R)) = if T = tailB R then some (R, (cntB n).length + 4 + n) else none := by
  have hc := cntB_len n (by omega)
  have hg : grp 0 0 (cntB n ++ (T ++ R)) = some (n, (cntB n).length) := by
    rw [cnt_grp n 0 0 _ (by omega) (by omega)]
    simp
  have hd : (cntB n ++ (T ++ R)).drop (cntB n).length = T ++ R := by rw [List.drop_left]
  have hd2 : (cntB n ++ (T ++ R)).drop ((cntB n).length + 4) = R := by
    rw [← List.drop_drop, hd, ← hT, List.drop_left]
  rw [whole_on hg (by simp only [List.length_append]; omega), hd, hd2, List.take_of_length_le (by omega : R.length ≤ n), ← hT, List.take_left, hT]
theorem sumB_push (q : List Int) (x : Int) : sumB (q ++ [x]) = sum1 (sumB q) x := by simp [sumB, List.foldl_append]
theorem tail_sum {a b : List Int} (h : tailB a = tailB b) : sumB a = sumB b := by
  have h1 := sumB_in a
  have h2 := sumB_in b
  simp only [tailB, List.cons.injEq, and_true] at h
  omega
/-- a frame whose last byte is another one is not whole -/
theorem whole_turn (r : List Int) (y : Int) (h8 : Bytes8 r) (hl : r.length ≤ 1048576) (hy : 0 ≤ y ∧ y ≤ 255) (hne : (frameB r)[(frameB r).length - 1]? ≠ some y) : wholeB ((frameB r).set ((frameB r).length - 1) y) = none := by
  by_cases h : r = []
  · subst h
    have h1 : frameB [] = [0, 0, 0, 0, 7] := by
      rw [frameB, show cntB ([] : List Int).length = [0] by rw [cntB]; rfl]
      decide
    rw [h1] at hne ⊢
    have h2 : y ≠ 7 := by
      rintro rfl
      exact hne rfl
    have h3 := whole_form 0 [0, 0, 0, y] [] rfl rfl (by omega)
    rw [show cntB 0 = [0] by rw [cntB]; rfl, if_neg (by
      intro h9
      have h10 : tailB [] = [0, 0, 0, 7] := by decide
      rw [h10] at h9
      simp at h9
      exact h2 h9)] at h3
    exact h3
  · obtain ⟨q, x, rfl⟩ : ∃ q x, r = q ++ [x] := ⟨r.dropLast, r.getLast h, (List.dropLast_concat_getLast h).symm⟩
    have hxb := h8 x (by simp)
    have hx : frameB (q ++ [x]) = (cntB (q ++ [x]).length ++ tailB (q ++ [x]) ++ q) ++ [x] := by rw [frameB, List.append_assoc _ q [x]]
    have hn : (frameB (q ++ [x])).length - 1 = (cntB (q ++ [x]).length ++ tailB (q ++ [x]) ++ q).length := by rw [hx, List.length_append]; simp
    have hxy : x ≠ y := by
      rintro rfl
      apply hne
      rw [hn, hx, List.getElem?_append_right (Nat.le_refl _)]
      simp
    have hset : (frameB (q ++ [x])).set ((frameB (q ++ [x])).length - 1) y = cntB (q ++ [x]).length ++ (tailB (q ++ [x]) ++ (q ++ [y])) := by
      rw [hn, hx, List.set_append_right _ _ (Nat.le_refl _)]
      simp
    rw [hset, whole_form _ _ _ (tailB_len _) (by simp) hl, if_neg]
    intro h9
    have h10 := tail_sum h9
    rw [sumB_push, sumB_push] at h10
    unfold sum1 at h10
    omega
theorem scan_turn (L : List (List Int)) (r : List Int) (y : Int) (hf : Fit (L ++ [r])) (h8 : Bytes8 r) (hy : 0 ≤ y ∧ y ≤ 255) (hne : (framesL (L ++ [r]))[(framesL (L ++ [r])).length - 1]? ≠ some y) :
    scanB ((framesL (L ++ [r])).set ((framesL (L ++ [r])).length - 1) y) = L := by
  have hp := frame_pos r
  have h1 : framesL (L ++ [r]) = framesL L ++ frameB r := by rw [framesL_app, framesL_one]
  have h2 : (framesL L ++ frameB r).length - 1 = (framesL L).length + ((frameB r).length - 1) := by rw [List.length_append]; omega
  rw [h1] at hne ⊢
  rw [h2, List.getElem?_append_right (by omega), Nat.add_sub_cancel_left] at hne
  rw [h2, List.set_append_right _ _ (by omega), Nat.add_sub_cancel_left, scan_frames L _ (fun q hq => hf q (List.mem_append_left _ hq)),
    scanB_none (whole_turn r y h8 (hf r (by simp)) hy hne), List.append_nil]

/-- a cell of one's own slice turned -/
theorem Own.set {w : World} {base e n c k : Nat} {ad : Addr} {xs : List Value} (h : Own w base e 1 (.slice (some ad) n c) n xs) (hk : k < n) (u : Value) : Own (w.setCell (ad.add k) u) base e 1 (.slice (some ad) n c) n (xs.set k u) := by
  refine ⟨by rw [List.length_set]; exact h.1, ?_⟩
  rcases h.2 with ⟨h1, _⟩ | ⟨g, cap, cur, h1, h2, h3, h4, h5, h6, h7⟩
  · cases h1
  · injection h1 with h1 _ h8
    injection h1 with h1
    subst h1
    subst h8
    have hadd : (⟨g, 0, none⟩ : Addr).add k = ⟨g, k, none⟩ := by
      unfold Addr.add
      split <;> simp_all
    rw [hadd]
    refine .inr ⟨g, c, cur.setIfInBounds k u, rfl, h2, Blk.put h3 k u, h4, h5, by simpa using h6, ?_⟩
    rw [← h7, Array.toList_setIfInBounds, List.take_set]
theorem u8_turn (x z : Int) (hx : 0 ≤ x ∧ x ≤ 255) (hz : 1 ≤ z ∧ z ≤ 255) : (0 ≤ bits .xor .u8 x z ∧ bits .xor .u8 x z ≤ 255) ∧ bits .xor .u8 x z ≠ x := by
  obtain ⟨a, rfl⟩ := Int.eq_ofNat_of_zero_le hx.1
  obtain ⟨b, rfl⟩ := Int.eq_ofNat_of_zero_le (show 0 ≤ z by omega)
  rw [u8_xor_nat a b (by omega) (by omega)]
  have h1 : a ^^^ b < 2 ^ 8 := Nat.xor_lt_two_pow (by omega) (by omega)
  refine ⟨by omega, fun h => ?_⟩
  have h2 : a ^^^ b = a := by omega
  have h3 : a ^^^ (a ^^^ b) = b := by rw [← Nat.xor_assoc, Nat.xor_self, Nat.zero_xor]
  rw [h2, Nat.xor_self] at h3
  omega
theorem bys_set (X : List Int) (k : Nat) (y : Int) : bys (X.set k y) = (bys X).set k (.int .u8 y) := by rw [bys_map, bys_map, List.map_set]

end Go.Proofs.Ytlllocfcljgacaa
