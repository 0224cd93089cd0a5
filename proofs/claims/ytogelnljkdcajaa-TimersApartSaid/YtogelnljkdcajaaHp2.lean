/- slices.ContainsFunc at timers. -/
import Derived.Test.YtogelnljkdcajaaHp1
namespace Go.Proofs.Ytogelnljkdcajaa
open Go.RowKit Go.Sort
set_option linter.unusedVariables false
set_option linter.unusedSimpArgs false

/-- all of them are right -/
def AllRight (D : List TV) : Prop := ∀ x ∈ D, x.right
instance (D : List TV) : Decidable (AllRight D) := by unfold AllRight; exact inferInstance

theorem index_any (v : Value) (D : List TV) (n B : Nat) (w : World) (hs : Sl w B v 5 n (tms D)) (hD : D.length = n) (hB : B ≤ w.heap.size) (hK : ∀ x ∈ D, KeyIn w B x) (hn : n ≤ 8796093022207) :
    Calls Try.prog 42 #[v, .func (.func 26) #[] #[]] w fun e w' => (∃ r : Int, e = .returned (.int .i64 r) ∧ (decide (0 ≤ r) = !decide (AllRight D))) ∧ Below w.heap.size w w' := by
  obtain ⟨A, c, rfl, hc⟩ := hs.form
  have HS := hide hs
  have HD := hide hD
  have HK := hide hK
  clear hs hD hK
  go_enter Try.func42, Try.ntmps42
  go_wp2_with fail
  go_loopw [8] (fun i wr => ∃ k : Nat, k ≤ n ∧ i = .int .i64 k ∧ Hid (AllRight (D.take k)) ∧ Hid (Below w.heap.size w wr)) (fun i _ => n - (intOf i).toNat)
  case atStart => exact ⟨0, Nat.zero_le _, rfl, (fun x hx => by simp at hx), Below.refl _ _⟩
  case round =>
    obtain ⟨k, hk, rfl, HG, HB⟩ := hrel
    by_cases hlt : k < n
    · have hkD : k < D.length := by rw [HD.out]; exact hlt
      obtain ⟨ad, rfl, hab, g0, g1, g2, g3, g4⟩ := tm_at (HS.out.below (HB.out.mono hB)) hlt HD.out
      have hzr := HB.out.size
      have hab2 : (ad.add (k * 5)).block < wr.heap.size := by omega
      have HX : Hid (∀ x ∈ D.take (k + 1), x ∈ D.take k ∨ x = D[k]) := by
        intro x hx
        rw [List.take_succ_eq_append_getElem hkD] at hx
        rcases List.mem_append.1 hx with h9 | h9
        · exact .inl h9
        · exact .inr (List.mem_singleton.1 h9)
      have HM := hide (List.getElem_mem hkD)
      generalize D[k] = x at g0 g1 g2 g3 g4 HX HM
      have HS1 := hide (set1_any x B wr ((HK.out x HM.out).below (HB.out.mono hB)) (by omega))
      have hbool : decide x.right = true ∨ decide x.right = false := by cases decide x.right <;> simp
      obtain ⟨bb, hbb⟩ : ∃ b, b = decide x.right := ⟨_, rfl⟩
      have HBB := hide hbb
      have HRT : Hid (x.right → bb = true → True) := fun _ _ => trivial
      rw [← hbb] at HS1 hbool
      clear hbb
      have HRX : Hid (bb = true → x.right) := fun h9 => of_decide_eq_true (by rw [← HBB.out]; exact h9)
      have HRN : Hid (bb = false → ¬ x.right) := fun h9 => of_decide_eq_false (by rw [← HBB.out]; exact h9)
      clear HBB HRT
      obtain ⟨xa, xk, xb, xf, xt, xw⟩ := x
      unfold TV.cells at HS1
      simp only at g0 g1 g2 g3 g4 HS1
      go_wp2_with fail
      refine HS1.out.mono ?_
      rintro e w2 ⟨rfl, hb⟩
      have HB2 := hide (HB.out.trans (hb.mono HB.out.size))
      clear hb
      rcases hbool with h | h
      · rw [h]
        have hg := HRX.out h
        have HG2 : Hid (AllRight (D.take (k + 1))) := by
          intro y hy
          rcases HX.out y hy with h9 | rfl
          · exact HG.out y h9
          · exact hg
        clear h hg
        go_wp2_with fail
        go_roundw
        case rel => exact ⟨k + 1, by omega, by simp, HG2, HB2⟩
        case measure => simp [intOf]; omega
      · rw [h]
        have hg := HRN.out h
        have HG2 : Hid (¬ AllRight D) := fun h9 => hg (h9 _ HM.out)
        clear h hg
        go_wp2_with fail
        go_ret
        refine ⟨⟨k, rfl, ?_⟩, HB2.out⟩
        rw [decide_eq_false HG2.out]
        simp
    · have HG2 : Hid (AllRight D) := by
        have h9 := HG.out
        rw [List.take_of_length_le (by rw [HD.out]; omega)] at h9
        exact h9
      go_wp2_with fail
      go_ret
      refine ⟨⟨-1, rfl, ?_⟩, HB.out⟩
      rw [decide_eq_true HG2.out]
      simp

theorem contains_any (v : Value) (D : List TV) (n B : Nat) (w : World) (hs : Sl w B v 5 n (tms D)) (hD : D.length = n) (hB : B ≤ w.heap.size) (hK : ∀ x ∈ D, KeyIn w B x) (hn : n ≤ 8796093022207) :
    Calls Try.prog 25 #[v, .func (.func 26) #[] #[]] w fun e w' => e = .returned (.bool (!decide (AllRight D))) ∧ Below w.heap.size w w' := by
  have HI := hide (index_any v D n B w hs hD hB hK hn)
  clear hs hD hB hK hn
  obtain ⟨b, hb⟩ : ∃ b, b = !decide (AllRight D) := ⟨_, rfl⟩
  have HBB := hide hb
  rw [← hb]
  clear hb
  go_enter Try.func25, Try.ntmps25
  go_wp2_with fail
  refine HI.out.mono ?_
  rintro e w2 ⟨⟨r, rfl, hr⟩, hb⟩
  rw [← HBB.out] at hr
  have HR := hide hr
  have HB := hide hb
  clear hr hb
  go_wp2_with fail
  go_ret
  rw [← HR.out]
  exact ⟨rfl, HB.out⟩

end Go.Proofs.Ytogelnljkdcajaa
