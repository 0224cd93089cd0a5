/- What package journal does: New, sum; and the reference's Copy. -/
import Derived.Test.YtlllocfcljgacaaProg
import Derived.Test.YtlllocfcljgacaaApp
import Derived.Test.YtlllocfcljgacaaCut
namespace Go.Proofs.Ytlllocfcljgacaa
open Go.RowKit
set_option linter.unusedVariables false
set_option linter.unusedSimpArgs false

abbrev jT : Nat := 58
abbrev bT : Nat := 5
/-- bytes as cells -/
def bys (D : List Int) : List Value := D.flatMap fun c => [.int .u8 c]
theorem bys_len (D : List Int) : (bys D).length = D.length * 1 := flat_len (fun c : Int => [Value.int .u8 c]) 1 (fun _ => rfl) D
theorem bys_app (C D : List Int) : bys (C ++ D) = bys C ++ bys D := List.flatMap_append ..
theorem bys_ok (D : List Int) : ∀ u ∈ bys D, u.oneCell' = true := by
  intro u hu
  simp only [bys, List.mem_flatMap, List.mem_singleton] at hu
  obtain ⟨c, _, rfl⟩ := hu
  rfl
/-- are they bytes? -/
def Bytes8 (D : List Int) : Prop := ∀ c ∈ D, 0 ≤ c ∧ c ≤ 255
theorem by_at {w : World} {B n c : Nat} {A : Option Addr} {D : List Int} (h : Sl w B (.slice A n c) 1 n (bys D)) {k : Nat} (hk : k < n) (hD : D.length = n) :
    ∃ ad, A = some ad ∧ (ad.add k).block < B ∧ w.cell? (ad.add k) = some (.int .u8 (D[k]'(by omega))) := by
  obtain ⟨ad, rfl, hb, hh⟩ := h.at_ hk
  rw [bys, part_of (fun c : Int => [Value.int .u8 c]) 1 (fun _ => rfl) D k (by omega), Nat.mul_one] at hh
  refine ⟨ad, rfl, by rw [add_blk]; exact hb, ?_⟩
  have := hh 0 _ rfl
  rwa [add_add'] at this
theorem tyB : SlTy Try.prog 23 bT 1 1 (.int .u8 0) := ⟨Try.underlying23, info_parts (by kernel_rfl), rfl, by omega⟩

theorem jnew_bad (w : World) (c : Int) (h : c < 0 ∨ 1073741824 < c) : Calls Try.prog 9 #[.int .i64 c] w fun e w' => e = .returned (.tuple #[.pointer none, .int .i64 180]) ∧ w = w' := by
  by_cases h1 : c < 0
  · clear h
    go_enter Try.func9, Try.ntmps9
    go_wp2_with fail
    go_ret2
    exact ⟨rfl, rfl⟩
  · have h2 : 1073741824 < c := by omega
    clear h
    go_enter Try.func9, Try.ntmps9
    go_wp2_with fail
    go_ret2
    exact ⟨rfl, rfl⟩
theorem jnew_ok (w : World) (c : Int) (h1 : 0 ≤ c) (h2 : c ≤ 1073741824) : Calls Try.prog 9 #[.int .i64 c] w fun e w' => e = .returned (.tuple #[.pointer (some ⟨w.heap.size, 0, none⟩), .int .i64 0]) ∧
    w' = w.alloc (.cells #[.int .i64 c, .slice none 0 0, .slice none 0 0, .int .i64 0] jT) := by
  go_enter Try.func9, Try.ntmps9
  go_wp2_with fail
  go_ret2
  exact ⟨rfl, rfl⟩

/-- the sum of bytes -/
def sum1 (s c : Int) : Int := (s * 257 + c + 1) % 4294967291
def sumB (D : List Int) : Int := D.foldl sum1 7
theorem sum1_in (s c : Int) : 0 ≤ sum1 s c ∧ sum1 s c < 4294967291 := by unfold sum1; omega
theorem sumB_in (D : List Int) : 0 ≤ sumB D ∧ sumB D < 4294967291 := by
  unfold sumB
  suffices h : ∀ (D : List Int) (s : Int), 0 ≤ s → s < 4294967291 → 0 ≤ D.foldl sum1 s ∧ D.foldl sum1 s < 4294967291 by exact h D 7 (by omega) (by omega)
  intro D
  induction D with
  | nil => intro s h1 h2; exact ⟨h1, h2⟩
  | cons c D ih => intro s _ _; exact ih _ (sum1_in s c).1 (sum1_in s c).2
theorem sumB_snoc (D : List Int) (k : Nat) (hk : k < D.length) : sumB (D.take (k + 1)) = sum1 (sumB (D.take k)) D[k] := by
  rw [List.take_succ_eq_append_getElem hk, sumB, List.foldl_append]
  rfl

set_option maxHeartbeats 2000000 in
theorem jsum_any (v : Value) (D : List Int) (n B : Nat) (w : World) (hs : Sl w B v 1 n (bys D)) (hD : D.length = n) (h8 : Bytes8 D) :
    Calls Try.prog 35 #[v] w fun e w' => e = .returned (.int .i64 (sumB D)) ∧ w = w' := by
  obtain ⟨A, c, rfl, hnc⟩ := hs.form
  have hmax := hs.max
  have HS := hide hs
  have HD := hide hD
  have H8 := hide h8
  clear hs hD h8
  go_enter Try.func35, Try.ntmps35
  go_wp2_with fail
  go_loop [3, 8] (fun s i => ∃ k : Nat, k ≤ n ∧ i = .int .i64 k ∧ s = .int .i64 (sumB (D.take k))) (fun _ i => n - (intOf i).toNat)
  case atStart => exact ⟨0, Nat.zero_le _, rfl, rfl⟩
  case round =>
    obtain ⟨k, hk, rfl, rfl⟩ := hrel
    by_cases hlt : k < n
    · obtain ⟨ad, rfl, hb, h0⟩ := by_at HS.out hlt HD.out
      have hkD : k < D.length := by rw [HD.out]; exact hlt
      have HU := hide (sumB_snoc D k hkD)
      have hin := sumB_in (D.take k)
      have hc := H8.out D[k] (List.getElem_mem hkD)
      generalize D[k] = x at h0 HU hc
      generalize sumB (D.take k) = s at hin HU
      obtain ⟨hi1, hi2⟩ := hin
      obtain ⟨hc1, hc2⟩ := hc
      have hmod : (s * 257 + x + 1).tmod 4294967291 = sum1 s x := by
        rw [Int.tmod_eq_emod_of_nonneg (by omega)]; rfl
      go_wp2_with fail
      go_round
      case rel => exact ⟨k + 1, by omega, by simp, by rw [HU.out]⟩
      case measure => simp [intOf]; omega
    · have hkn : k = n := by omega
      have HT : Hid (D.take k = D) := List.take_of_length_le (by rw [HD.out]; omega)
      subst hkn
      go_wp2_with fail
      go_ret
      exact ⟨by rw [HT.out]; rfl, rfl⟩

set_option maxHeartbeats 2000000 in
theorem copy8_any (v : Value) (D : List Int) (n B : Nat) (w : World) (hs : Sl w B v 1 n (bys D)) (hD : D.length = n) (hn : n ≤ 140737488355328) :
    Calls Try.prog 14 #[v] w fun e w' => ∃ u, e = .returned u ∧ Own w' w.heap.size bT 1 u n (bys D) ∧ Below w.heap.size w w' := by
  have HS := hide hs
  clear hs
  go_enter Try.func14, Try.ntmps14
  go_wp2_with (at_builtin; refine wpList_app rfl tyB (.tmp 4) (.tmp 5) rfl w.heap.size (n := 0) (m := n) (B := B) (xs := []) (news := bys D) rfl rfl (Own.nil _ _ _ _) HS.out (bys_ok D) (by omega) (by omega) (Nat.le_refl _) ?_)
  intro v1 w1 ha
  have HO : Hid (Own w1 w.heap.size bT 1 v1 n (bys D)) := by simpa [Hid] using ha.own
  have HB1 := hide (ha.fr.below (Nat.le_refl _) (fun k hk h => by simp [Value.ownBlock] at h))
  clear ha
  go_wp2_with fail
  go_ret
  exact ⟨_, rfl, HO.out, HB1.out⟩

end Go.Proofs.Ytlllocfcljgacaa
