/- The fixed answer of layer 7's laws. -/
import Derived.Test.YtbnppocaeflghaaDoorAsg
namespace Go.Proofs.YtbnppocaeflghaaDoor
open Go.RowKit
set_option linter.unusedVariables false
set_option linter.unusedSimpArgs false

set_option maxRecDepth 100000 in
theorem itoa3 (w : World) : Calls Tryd.prog 48 #[.int .i64 3] w fun e w' => e = .returned (.string ⟨#[51]⟩) ∧ w' = w := by
  go_enter Tryd.func48, Tryd.ntmps48
  go_wp2
  go_ret
  exact ⟨rfl, rfl⟩
set_option maxRecDepth 100000 in
theorem itoa13 (w : World) : Calls Tryd.prog 48 #[.int .i64 13] w fun e w' => e = .returned (.string ⟨#[49, 51]⟩) ∧ w' = w := by
  go_enter Tryd.func48, Tryd.ntmps48
  go_wp2
  go_ret
  exact ⟨rfl, rfl⟩
set_option maxRecDepth 100000 in
theorem text313 (w : World) : Calls Tryd.prog 31 #[.agg #[.int .i64 3, .int .i64 13]] w fun e w' => e = .returned (.string ⟨#[51, 46, 46, 49, 51]⟩) ∧ Below w.heap.size w w' := by
  go_enter Tryd.func31, Tryd.ntmps31
  go_wp2_with fail
  go_quiet (first | ((go_at_call 48; refine Calls.quiet_of_same (itoa3 _))) | ((go_at_call 48; refine Calls.quiet_of_same (itoa13 _))))
  go_wp2_with fail
  go_ret
  exact ⟨rfl, ((Below.refl w.heap.size w).alloc (Nat.le_refl _) _).drewN _⟩
theorem add_zero' (ad : Addr) : ad.add 0 = ad := by simp [Addr.add]
set_option maxRecDepth 100000 in
theorem awake07 (w : World) : Calls Tryd.prog 13 #[] w fun e w' => e = .returned (.bool true) ∧ Below w.heap.size w w' := by
  have ha : (Wfn.asg ⟨1, 10, 0, 3⟩ 3) = [⟨3, 13⟩] := by decide +kernel
  have hr : (Wfn.right ⟨1, 10, 0, 3⟩) := by decide +kernel
  have HR := hide hr
  have HA := hide ha
  clear ha hr
  go_enter Tryd.func13, Tryd.ntmps13
  go_wp2_with fail
  refine (assign_ok ⟨1, 10, 0, 3⟩ 3 w HR.out (by omega) (by omega)).mono ?_
  rw [HA.out]
  rintro e w2 ⟨v, rfl, ho, hb⟩
  obtain ⟨A, c, rfl, hc⟩ := ho.sl.form
  simp only [List.length_singleton] at hc ho ⊢
  obtain ⟨ad, rfl, h1, h2, h3⟩ := win_at ho.sl (k := 0) (by omega) rfl
  have HB := hide hb
  clear ho hb
  simp only [Nat.zero_mul, List.getElem_cons_zero, add_zero'] at h1 h2 h3
  go_wp2_with fail
  refine (text313 _).mono ?_
  rintro e w3 ⟨rfl, hb⟩
  go_wp2_with fail
  go_ret
  exact ⟨rfl, HB.out.trans (hb.mono HB.out.size)⟩

end Go.Proofs.YtbnppocaeflghaaDoor
