/- The law's own 'awake' of layer 10, and TriggerEarly. -/
import Derived.Test.YtghkkekebjhjlaaTrig2
namespace Go.Proofs.Ytghkkekebjhjlaa
open Go.RowKit
set_option linter.unusedVariables false
set_option linter.unusedSimpArgs false

/-- the one pane of a row -/
theorem one_at {w : World} {base : Nat} {v : Value} {p : Inf} (h : Own w base pT 3 v 1 (infs [p])) : ∃ g cap, v = .slice (some ⟨g, 0, none⟩) 1 cap ∧ base ≤ g ∧ g < w.heap.size ∧
    w.cell? ⟨g, 0, none⟩ = some (.int .i64 p.i) ∧ w.cell? ⟨g, 1, none⟩ = some (.int .i64 p.t) ∧ w.cell? ⟨g, 2, none⟩ = some (.bool p.l) ∧ 1 ≤ cap := by
  obtain ⟨g, cap, rfl, hc, _, hb, hg⟩ := h.pos (by omega)
  obtain ⟨ad, had, _, h0, h1, h2⟩ := inf_at (D := [p]) h.sl (k := 0) (by omega) rfl
  have had' : ad = ⟨g, 0, none⟩ := by injection had with had; exact had.symm
  subst had'
  exact ⟨g, cap, rfl, hb, hg, by simpa [Addr.add] using h0, by simpa [Addr.add] using h1, by simpa [Addr.add] using h2, hc⟩

theorem MFr.away {w w' : World} {b l : Nat} (h : MFr b l w w') {B : Nat} (h1 : B ≤ b) (h2 : B ≤ l) (hB : B ≤ w.heap.size) : Below B w w' :=
  h.below hB (fun k hk hS => by rcases hS with rfl | rfl <;> omega)

set_option maxHeartbeats 1000000 in
theorem awake10 (w : World) : Calls Try.prog 8 #[] w fun e w' => e = .returned (.bool true) ∧ Below w.heap.size w w' := by
  go_enter Try.func8, Try.ntmps8
  go_wp2_with fail
  refine (tnew_ok _ ⟨2, 0, 0, false⟩ rfl).mono ?_
  rintro e w1 ⟨b, l, rfl, hm, hbel, hb, hl⟩
  have HM := hide hm
  have HB := hide hbel
  clear hm hbel
  go_wp2_with fail
  refine (add_not_false _ b l _ _ 1 HM.out rfl rfl rfl (by simp) (by simp) (.inr (by decide))).mono ?_
  rintro e w2 ⟨rfl, hm, hf⟩
  have HM2 := hide hm
  have HF2 := hide hf
  clear hm hf
  go_wp2_with fail
  refine (add_fires_false _ b l _ _ 1 HM2.out rfl rfl rfl (by simp) (by simp) (by simp) (by simp) rfl (by simp) (by simp)).mono ?_
  rintro e w3 ⟨v, rfl, ho, hm, hf⟩
  obtain ⟨g, cap, rfl, hg1, hg2, c0, c1, c2, hcap⟩ := one_at ho
  have HF3 := hide hf
  clear hm hf ho
  go_wp2_with fail
  go_ret
  have h1 := HB.out.size
  have h2 := HF2.out.size
  exact ⟨rfl, (HB.out.trans ((HF2.out.below (by omega) (fun k hk hS => by rcases hS with rfl | rfl <;> omega)))).trans (HF3.out.below (by omega) (fun k hk hS => by rcases hS with rfl | rfl <;> omega))⟩

end Go.Proofs.Ytghkkekebjhjlaa
