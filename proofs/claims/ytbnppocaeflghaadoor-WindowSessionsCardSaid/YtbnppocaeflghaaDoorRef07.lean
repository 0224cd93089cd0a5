/- The reference of layer 7: Right, Time, Same; the law's fn and of. -/
import Derived.Test.YtbnppocaeflghaaDoorAny07
import Derived.BigQuiet
namespace Go.Proofs.YtbnppocaeflghaaDoor
open Go.RowKit
set_option linter.unusedVariables false
set_option linter.unusedSimpArgs false

abbrev rT : Nat := 36
theorem tyR : SlTy Tryd.prog 43 rT 2 16 (.agg #[.int .i64 0, .int .i64 0]) := ⟨Tryd.underlying43, info_parts (by kernel_rfl), rfl, by omega⟩

theorem fn_any (k s p o : Int) (w : World) : Calls Tryd.prog 28 #[.agg #[.int .i64 k, .int .i64 s, .int .i64 p, .int .i64 o]] w fun e w' => e = .returned (.agg #[.int .i64 k, .int .i64 s, .int .i64 p, .int .i64 o]) ∧ Below w.heap.size w w' := by
  go_enter Tryd.func28, Tryd.ntmps28
  go_wp2_with fail
  have hB : Below w.heap.size w ((w.alloc (.cells #[.int .i64 k, .int .i64 s, .int .i64 p, .int .i64 o] 24)).alloc (.cells #[.int .i64 k, .int .i64 s, .int .i64 p, .int .i64 o] 48)) := ((Below.refl w.heap.size w).alloc (Nat.le_refl _) _).alloc (by simp) _
  have hK : Blk ((w.alloc (.cells #[.int .i64 k, .int .i64 s, .int .i64 p, .int .i64 o] 24)).alloc (.cells #[.int .i64 k, .int .i64 s, .int .i64 p, .int .i64 o] 48)) (w.heap.size + 1) 48 #[.int .i64 k, .int .i64 s, .int .i64 p, .int .i64 o] := by
    have h9 := Blk.new (w.alloc (.cells #[.int .i64 k, .int .i64 s, .int .i64 p, .int .i64 o] 24)) 48 #[.int .i64 k, .int .i64 s, .int .i64 p, .int .i64 o]
    simpa using h9
  generalize ((w.alloc (.cells #[.int .i64 k, .int .i64 s, .int .i64 p, .int .i64 o] 24)).alloc (.cells #[.int .i64 k, .int .i64 s, .int .i64 p, .int .i64 o] 48)) = w5 at *
  have c0 : w5.cell? ⟨w.heap.size + 1, 0, none⟩ = some (.int .i64 k) := hK.cell 0
  have c1 : w5.cell? ⟨w.heap.size + 1, 1, none⟩ = some (.int .i64 s) := hK.cell 1
  have c2 : w5.cell? ⟨w.heap.size + 1, 2, none⟩ = some (.int .i64 p) := hK.cell 2
  have c3 : w5.cell? ⟨w.heap.size + 1, 3, none⟩ = some (.int .i64 o) := hK.cell 3
  have hres : Tryd.f28.results = #[.cell 2 48] := by kernel_rfl
  refine bodyPost_ret (v := .agg #[.int .i64 k, .int .i64 s, .int .i64 p, .int .i64 o]) ?_ rfl ⟨rfl, hB⟩
  simp [results, hres, go_sem, c0, c1, c2, c3]

theorem in_any (n lo hi : Int) (w : World) : Calls Tryd.prog 47 #[.int .i64 n, .int .i64 lo, .int .i64 hi] w fun e w' => e = .returned (.bool (decide (lo ≤ n) && decide (n ≤ hi))) ∧ w' = w := by
  by_cases h1 : lo ≤ n
  · by_cases h2 : n ≤ hi
    · go_enter Tryd.func47, Tryd.ntmps47
      go_wp2_with fail
      go_ret
      simp [h1, h2]
    · go_enter Tryd.func47, Tryd.ntmps47
      go_wp2_with fail
      go_ret
      simp [h1, h2]
  · go_enter Tryd.func47, Tryd.ntmps47
    go_wp2_with fail
    go_ret
    simp
    intro h9
    omega
theorem time_any (t : Int) (w : World) : Calls Tryd.prog 29 #[.int .i64 t] w fun e w' => e = .returned (.bool (decide (0 ≤ t) && decide (t ≤ 1048576))) ∧ w' = w := by
  go_enter Tryd.func29, Tryd.ntmps29
  go_wp2_with (go_at_call 47; refine (in_any _ _ _ _).mono ?_; rintro e w' ⟨rfl, rfl⟩)
  go_ret
  exact ⟨rfl, rfl⟩

set_option maxHeartbeats 8000000 in
theorem right_any (f : Wfn) (w : World) : Calls Tryd.prog 27 #[f.v] w fun e w' => e = .returned (.bool (decide f.right)) ∧ Below w.heap.size w w' := by
  obtain ⟨r, hr⟩ : ∃ r : Bool, r = decide f.right := ⟨_, rfl⟩
  rw [← hr]
  have HR := hide hr
  clear hr
  obtain ⟨k, s, p, o⟩ := f
  unfold Wfn.v
  have hc : k = 0 ∨ k = 1 ∨ k = 2 ∨ k = 3 ∨ (k ≠ 0 ∧ k ≠ 1 ∧ k ≠ 2 ∧ k ≠ 3) := by omega
  rcases hc with rfl | rfl | rfl | rfl | ⟨n0, n1, n2, n3⟩
  all_goals
    go_enter Tryd.func27, Tryd.ntmps27
    go_wp2_with (go_at_call 47; refine (in_any _ _ _ _).mono ?_; rintro e w' ⟨rfl, rfl⟩)
    all_goals
      go_ret
      refine ⟨?_, (Below.refl _ _).alloc (Nat.le_refl _) _⟩
      refine congrArg (fun b => Ending.returned (Value.bool b)) (?_ : _ = r)
      rw [HR.out]
      first
        | (rw [Bool.eq_iff_iff]; unfold Wfn.right; simp; omega)
        | (rw [eq_comm, decide_eq_false_iff_not]; unfold Wfn.right; simp at *; omega)
        | (rw [eq_comm, decide_eq_true_iff]; unfold Wfn.right; simp at *; omega)
        | (rw [Bool.eq_iff_iff]; unfold Wfn.right; simp at *; omega)
        | trace_state

set_option maxHeartbeats 8000000 in
theorem of_any (v : Value) (D : List Win) (n B : Nat) (w : World) (hs : Sl w B v 2 n (wins D)) (hD : D.length = n) (hn : n ≤ 1048577) (hB : B ≤ w.heap.size) :
    Calls Tryd.prog 24 #[v] w fun e w' => ∃ u, e = .returned u ∧ Own w' w.heap.size rT 2 u n (wins D) ∧ Below w.heap.size w w' := by
  obtain ⟨A, c, rfl, hc⟩ := hs.form
  have HS := hide hs
  have HD := hide hD
  clear hs hD
  go_enter Tryd.func24, Tryd.ntmps24
  go_wp2_with fail
  go_loopw [3, 8] (fun o i wr => ∃ (k : Nat), k ≤ n ∧ i = .int .i64 k ∧ Hid (Own wr w.heap.size rT 2 o k (wins (D.take k))) ∧ Hid (Below w.heap.size w wr)) (fun _ i _ => n - (intOf i).toNat)
  case atStart => exact ⟨0, Nat.zero_le _, rfl, Own.nil _ _ _ _, Below.refl _ _⟩
  case round =>
    obtain ⟨k, hk, rfl, HO, HB⟩ := hrel
    obtain ⟨oA, oc, rfl, hoc⟩ := HO.out.sl.form
    by_cases hlt : k < n
    · have hkD : k < D.length := by rw [HD.out]; exact hlt
      obtain ⟨ad, rfl, hab, g0, g1⟩ := win_at (HS.out.below (HB.out.mono hB)) hlt HD.out
      have hzr := HB.out.size
      have hTK : D.take (k + 1) = D.take k ++ [D[k]] := List.take_succ_eq_append_getElem hkD
      generalize D[k] = x at g0 g1 hTK
      obtain ⟨xf, xt⟩ := x
      simp only at g0 g1
      have HTK := hide hTK
      have hab2 : (ad.add (k * 2)).block < wr.heap.size := by omega
      clear hTK
      have HN : Hid (Sl ((wr.alloc (.cells #[.int .i64 xf, .int .i64 xt] wT)).alloc (.cells #[.int .i64 xf, .int .i64 xt] rT)) (wr.heap.size + 2) (.slice (some ⟨wr.heap.size + 1, 0, none⟩) 1 1) 2 1 (wins [⟨xf, xt⟩])) := by
        have h9 := Sl.of_own (Own.new (n := 1) (sz := 2) (e := rT) (base := 0) (wr.alloc (.cells #[.int .i64 xf, .int .i64 xt] wT)) #[.int .i64 xf, .int .i64 xt] (by omega) (by omega) rfl)
        simp at h9
        exact h9.mono (by omega)
      go_wp2_with (at_builtin; refine wpList_app rfl tyR (.tmp 12) (.tmp 14) rfl w.heap.size (n := k) (m := 1) (B := wr.heap.size + 2) (xs := wins (D.take k)) (news := wins [⟨xf, xt⟩]) rfl rfl ((HO.out.alloc _).alloc _) (by first | exact HN.out | (simpa using HN.out)) (wins_ok _) (by omega) (by omega) (by simp <;> omega) ?_)
      intro v1 w1 ha
      have HO1 : Hid (Own w1 w.heap.size rT 2 v1 (k + 1) (wins (D.take (k + 1)))) := by
        rw [HTK.out, wins_app]; exact ha.own
      have HB1 := hide (((HB.out.alloc (o := .cells #[.int .i64 xf, .int .i64 xt] wT) HB.out.size).alloc (by simp <;> omega) (.cells #[.int .i64 xf, .int .i64 xt] rT)).trans (ha.fr.below (B := w.heap.size) (by simp <;> omega) (fun k hk h => by have := ((HO.out.lt k h).1); omega)))
      clear ha
      go_wp2_with fail
      go_roundw
      case rel => exact ⟨k + 1, by omega, by simp, HO1, HB1⟩
      case measure => simp [intOf]; omega
    · obtain rfl : k = n := by omega
      have HT : Hid (D.take k = D) := by rw [Hid, List.take_of_length_le (by rw [HD.out]; omega)]
      go_wp2_with fail
      go_ret
      have h9 := HO.out
      rw [HT.out] at h9
      exact ⟨_, rfl, h9, HB.out⟩

set_option maxHeartbeats 8000000 in
theorem rsame_eq (v u : Value) (D : List Win) (n B : Nat) (w : World) (hs : Sl w B v 2 n (wins D)) (hu : Sl w B u 2 n (wins D)) (hD : D.length = n) (hB : B ≤ w.heap.size) :
    Calls Tryd.prog 23 #[v, u] w fun e w' => e = .returned (.bool true) ∧ ∃ j, w' = w.drewN j := by
  obtain ⟨A, c, rfl, hc⟩ := hs.form
  obtain ⟨A', c', rfl, hc'⟩ := hu.form
  have hmax := hs.max
  have HS := hide hs
  have HU := hide hu
  have HD := hide hD
  clear hs hu hD
  go_enter Tryd.func23, Tryd.ntmps23
  go_wp2_with fail
  go_loopw [5] (fun i wr => ∃ (k j : Nat), k ≤ n ∧ i = .int .i64 k ∧ wr = w.drewN j) (fun i _ => n - (intOf i).toNat)
  case atStart => exact ⟨0, 0, Nat.zero_le _, rfl, rfl⟩
  case round =>
    obtain ⟨k, j, hk, rfl, rfl⟩ := hrel
    by_cases hlt : k < n
    · obtain ⟨ad, rfl, hab, g0, g1⟩ := win_at (HS.out.drewN j) hlt HD.out
      obtain ⟨ad', rfl, hab', q0, q1⟩ := win_at (HU.out.drewN j) hlt HD.out
      generalize D[k]'(by rw [HD.out]; exact hlt) = x at g0 g1 q0 q1
      obtain ⟨xf, xt⟩ := x
      simp only at g0 g1 q0 q1
      have hl1 : (ad.add (k * 2)).block < (w.drewN j).heap.size := by show _ < w.heap.size; omega
      have hl2 : (ad'.add (k * 2)).block < (w.drewN j).heap.size := by show _ < w.heap.size; omega
      have i1 : (0 : Int) ≤ (k : Int) := by omega
      have i2 : (k : Int) < (n : Int) := by omega
      have e1 : (xf != xf) = false := by simp
      have e2 : (xt != xt) = false := by simp
      have e3 : (xf == xf) = true := by simp
      have e4 : (xt == xt) = true := by simp
      generalize hW : w.drewN j = w5 at *
      have HW := hide hW
      clear hW
      go_wp2_with fail
      go_quiet (fail)
      go_wp2_with fail
      go_roundw
      case rel => exact ⟨k + 1, j + nq, by omega, by simp, by rw [← HW.out]; simp⟩
      case measure => simp [intOf]; omega
    · go_wp2_with fail
      go_ret
      exact ⟨rfl, j, rfl⟩

end Go.Proofs.YtbnppocaeflghaaDoor
