/- Sort of package window. -/
import Derived.Test.YtbnppocaeflghaaDoorSort
import Derived.Test.YtbnppocaeflghaaDoorWin2
namespace Go.Proofs.YtbnppocaeflghaaDoor
open Go.RowKit Go.Sort
set_option linter.unusedVariables false
set_option linter.unusedSimpArgs false

theorem bad7 (f t : Int) (w : World) : Calls Tryd.prog 43 #[.agg #[.int .i64 f, .int .i64 t]] w fun e w' => e = .returned (.bool (!decide (Win.mk f t).good)) ∧ Below w.heap.size w w' := by
  obtain ⟨r, hr⟩ : ∃ r : Int, r = if (Win.mk f t).good then 0 else 70 := ⟨_, rfl⟩
  have hb : (!decide (Win.mk f t).good) = (r != 0) := by
    rw [hr]
    by_cases h : (Win.mk f t).good
    · rw [if_pos h, decide_eq_true h]; rfl
    · rw [if_neg h, decide_eq_false h]; rfl
  rw [hb]
  have HR := hide hr
  clear hr hb
  go_enter Tryd.func43, Tryd.ntmps43
  go_wp2_with fail
  refine (wcheck_any f t _).mono ?_
  rw [← HR.out]
  rintro e w2 ⟨rfl, hb⟩
  have HB := hide (((Below.refl w.heap.size w).alloc (Nat.le_refl _) (.cells #[.int .i64 f, .int .i64 t] wT)).trans (hb.mono (by simp)))
  clear hb
  go_wp2_with fail
  go_ret
  exact ⟨rfl, HB.out⟩

/-- all of them are right -/
def AllGood (D : List Win) : Prop := ∀ x ∈ D, x.good
instance (D : List Win) : Decidable (AllGood D) := by unfold AllGood; exact inferInstance

theorem index7 (v : Value) (D : List Win) (n B : Nat) (w : World) (hs : Sl w B v 2 n (wins D)) (hD : D.length = n) (hB : B ≤ w.heap.size) (hn : n ≤ 8796093022207) :
    Calls Tryd.prog 52 #[v, .func (.func 43) #[] #[]] w fun e w' => (∃ r : Int, e = .returned (.int .i64 r) ∧ (decide (0 ≤ r) = !decide (AllGood D))) ∧ Below w.heap.size w w' := by
  obtain ⟨A, c, rfl, hc⟩ := hs.form
  have HS := hide hs
  have HD := hide hD
  clear hs hD
  go_enter Tryd.func52, Tryd.ntmps52
  go_wp2_with fail
  go_loopw [8] (fun i wr => ∃ k : Nat, k ≤ n ∧ i = .int .i64 k ∧ Hid (AllGood (D.take k)) ∧ Hid (Below w.heap.size w wr)) (fun i _ => n - (intOf i).toNat)
  case atStart => exact ⟨0, Nat.zero_le _, rfl, (fun x hx => by simp at hx), Below.refl _ _⟩
  case round =>
    obtain ⟨k, hk, rfl, HG, HB⟩ := hrel
    by_cases hlt : k < n
    · have hkD : k < D.length := by rw [HD.out]; exact hlt
      obtain ⟨ad, rfl, hab, g0, g1⟩ := win_at (HS.out.below (HB.out.mono hB)) hlt HD.out
      have hzr := HB.out.size
      have hab2 : (ad.add (k * 2)).block < wr.heap.size := by omega
      have HX : Hid (∀ x ∈ D.take (k + 1), x ∈ D.take k ∨ x = D[k]) := by
        intro x hx
        rw [List.take_succ_eq_append_getElem hkD] at hx
        rcases List.mem_append.1 hx with h9 | h9
        · exact .inl h9
        · exact .inr (List.mem_singleton.1 h9)
      have HM := hide (List.getElem_mem hkD)
      generalize D[k] = x at g0 g1 HX HM
      obtain ⟨xf, xt⟩ := x
      simp only at g0 g1
      have hbool : decide (Win.mk xf xt).good = true ∨ decide (Win.mk xf xt).good = false := by cases decide (Win.mk xf xt).good <;> simp
      go_wp2_with fail
      refine (bad7 xf xt _).mono ?_
      rintro e w2 ⟨rfl, hb⟩
      have HB2 := hide (HB.out.trans (hb.mono HB.out.size))
      clear hb
      rcases hbool with h | h
      · rw [h]
        have hg := of_decide_eq_true h
        have HG2 : Hid (AllGood (D.take (k + 1))) := by
          intro y hy
          rcases HX.out y hy with h9 | rfl
          · exact HG.out y h9
          · exact hg
        clear h hg
        go_wp2_with fail
        go_roundw
        case rel => exact ⟨k + 1, by omega, by simp, HG2, HB2⟩
        case measure => simp [intOf]; omega
      · rw [h]
        have hg := of_decide_eq_false h
        have HG2 : Hid (¬ AllGood D) := fun h9 => hg (h9 _ HM.out)
        clear h hg
        go_wp2_with fail
        go_ret
        refine ⟨⟨k, rfl, ?_⟩, HB2.out⟩
        rw [decide_eq_false HG2.out]
        simp
    · have HG2 : Hid (AllGood D) := by
        have h9 := HG.out
        rw [List.take_of_length_le (by rw [HD.out]; omega)] at h9
        exact h9
      go_wp2_with fail
      go_ret
      refine ⟨⟨-1, rfl, ?_⟩, HB.out⟩
      rw [decide_eq_true HG2.out]
      simp

theorem contains7 (v : Value) (D : List Win) (n B : Nat) (w : World) (hs : Sl w B v 2 n (wins D)) (hD : D.length = n) (hB : B ≤ w.heap.size) (hn : n ≤ 8796093022207) :
    Calls Tryd.prog 42 #[v, .func (.func 43) #[] #[]] w fun e w' => e = .returned (.bool (!decide (AllGood D))) ∧ Below w.heap.size w w' := by
  have HI := hide (index7 v D n B w hs hD hB hn)
  clear hs hD hB hn
  obtain ⟨b, hb⟩ : ∃ b, b = !decide (AllGood D) := ⟨_, rfl⟩
  have HBB := hide hb
  rw [← hb]
  clear hb
  go_enter Tryd.func42, Tryd.ntmps42
  go_wp2_with fail
  refine HI.out.mono ?_
  rintro e w2 ⟨⟨r, rfl, hr⟩, hb⟩
  rw [← HBB.out] at hr
  have HR := hide hr
  have HB := hide hb
  clear hr hb
  go_wp2_with fail
  go_ret
  rw [← HR.out]
  exact ⟨rfl, HB.out⟩

def wltb (a b : Win) : Bool := ltOf ordI a b
set_option maxHeartbeats 4000000 in
theorem wsort_bad (v : Value) (D : List Win) (n B : Nat) (w : World) (hs : Sl w B v 2 n (wins D)) (hD : D.length = n) (hB : B ≤ w.heap.size) (hn : n ≤ 8796093022207) (hg : ¬ AllGood D) :
    Calls Tryd.prog 16 #[v] w fun e w' => e = .returned (.tuple #[.slice none 0 0, .int .i64 70]) ∧ Below w.heap.size w w' := by
  obtain ⟨A, c, rfl, hc⟩ := hs.form
  have HC := hide (contains7 _ D n B w hs hD hB hn)
  have HG := hide hg
  clear hs hD hB hn hg
  go_enter Tryd.func16, Tryd.ntmps16
  go_wp2_with fail
  refine HC.out.mono ?_
  rw [decide_eq_false HG.out]
  rintro e w2 ⟨rfl, hb⟩
  have HB := hide hb
  clear hb
  go_wp2_with fail
  go_ret2
  exact ⟨rfl, HB.out⟩

set_option maxHeartbeats 4000000 in
theorem wsort_good (v : Value) (D : List Win) (n B : Nat) (w : World) (hs : Sl w B v 2 n (wins D)) (hD : D.length = n) (hB : B ≤ w.heap.size) (hn : n ≤ 8796093022207) (hg : AllGood D) :
    Calls Tryd.prog 16 #[v] w fun e w' => ∃ v' E, e = .returned (.tuple #[v', .int .i64 0]) ∧ E.Perm D ∧ E.Pairwise (fun a b => ¬ wlt b a) ∧ Own w' w.heap.size wT 2 v' n (wins E) ∧ Below w.heap.size w w' := by
  obtain ⟨A, c, rfl, hc⟩ := hs.form
  have HC := hide (contains7 _ D n B w hs hD hB hn)
  have HG := hide hg
  have HS := hide hs
  have HD := hide hD
  clear hs hD hg
  go_enter Tryd.func16, Tryd.ntmps16
  go_wp2_with fail
  refine HC.out.mono ?_
  rw [decide_eq_true HG.out]
  rintro e w2 ⟨rfl, hb⟩
  have HB := hide hb
  have HS2 := hide (HS.out.below (hb.mono hB))
  have hz2 := hb.size
  clear hb
  go_wp2_with fail
  refine (clone7 _ D n B w2 HS2.out hn (by omega)).mono ?_
  rintro e w3 ⟨v3, rfl, ho, hb⟩
  have HO : Hid (Own w3 w.heap.size wT 2 v3 D.length (wins D)) := by rw [Hid, HD.out]; exact ho.lower hz2
  have HB3 := hide (HB.out.trans (hb.mono hz2))
  clear ho hb
  obtain ⟨vA, vc, rfl, hvc⟩ := HO.out.sl.form
  go_wp2_with fail
  refine (sortf_any _ D w.heap.size 45 ordI w3 HO.out (by rw [HD.out]; omega) swo_ord (enters_of Tryd.func45 (by kernel_rfl) rfl) (fun x y W => order_any7 x.f x.t y.f y.t W)).mono ?_
  rintro e w4 ⟨rfl, E, hp, hsrt, ho, hf⟩
  have HO4 := hide ho
  have HP := hide (And.intro hp hsrt)
  have HB4 := hide (HB3.out.trans (hf.below (B := w.heap.size) HB3.out.size (fun k hk h => by have := (HO.out.lt k h).1; omega)))
  clear ho hp hsrt hf
  go_wp2_with fail
  go_ret2
  refine ⟨_, E, rfl, HP.out.1, HP.out.2.imp (fun {a b} h9 => ?_), ?_, HB4.out⟩
  · rw [lt_ord] at h9
    exact of_decide_eq_false h9
  · have h9 := HO4.out
    rw [HD.out] at h9 ⊢
    exact h9

end Go.Proofs.YtbnppocaeflghaaDoor
