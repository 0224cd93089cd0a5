/- The law's own 'awake' of layer 9. -/
import Derived.Test.YtkidpikocggppaaPane
namespace Go.Proofs.Ytkidpikocggppaa
open Go.RowKit
set_option linter.unusedVariables false
set_option linter.unusedSimpArgs false

set_option maxHeartbeats 1000000 in
theorem awake09 (w : World) : Calls Try.prog 8 #[] w fun e w' => e = .returned (.bool true) ∧ Below w.heap.size w w' := by
  go_enter Try.func8, Try.ntmps8
  go_wp2_with fail
  refine (new_any _).mono ?_
  rintro e w1 ⟨rfl, hl, rfl⟩
  have HL := hide hl
  clear hl
  go_wp2_with fail
  go_at_call 9
  refine (fire_yes _ 0 0 1 true _ HL.out rfl (by omega) (by omega)).mono ?_
  rintro e w2 ⟨rfl, hf, hl⟩
  have HF := hide hf
  have HL2 : Hid (lineB w2 w.heap.size 1 3) := hide hl
  clear hf hl HL
  go_wp2_with fail
  go_at_call 9
  refine (fire_no _ 1 3 2 false _ (by with_reducible repeat (first | exact HL2.out | apply lineB.alloc)) rfl).mono ?_
  rintro e w3 ⟨rfl, hf, hl⟩
  have hsz : w.heap.size + 1 ≤ w2.heap.size := by have := HF.out.size; simpa using this
  have B3 : Blk w3 w2.heap.size 31 #[.int .i64 0, .int .i64 1, .bool true] := hf.blk (Blk.new _ _ _) (fun (h : _ = _) => by omega)
  obtain ⟨c0, c1, c2, c3⟩ := B3.three
  have HF3 := hide hf
  clear hf hl B3
  go_wp2_with fail
  go_ret
  refine ⟨rfl, ?_⟩
  refine Below.alloc ?_ (by have := HF3.out.size; simp at this; omega) _
  refine Below.trans ?_ (HF3.out.below (by simp; omega) (fun k hk (h : _ = _) => by omega))
  refine Below.alloc ?_ (by omega) _
  refine Below.trans ?_ (HF.out.below (by simp) (fun k hk (h : _ = _) => by omega))
  exact (Below.refl _ _).alloc (Nat.le_refl _) _

end Go.Proofs.Ytkidpikocggppaa
