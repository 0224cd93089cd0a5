/- Less of package window, where the ends differ. -/
import Derived.Test.YtbnppocaeflghaaDoorWin2
import Derived.Deep.RegionHeld3
namespace Go.Proofs.YtbnppocaeflghaaDoor
open Go.RowKit
set_option linter.unusedVariables false
set_option linter.unusedSimpArgs false

theorem nan7 (w : World) (x : Int) : Calls Tryd.prog 51 #[.int .i64 x] w fun e w' => e = .returned (.bool false) ∧ w' = w := by
  go_enter Tryd.func51, Tryd.ntmps51
  go_wp2_with fail
  go_ret
  exact ⟨rfl, rfl⟩
def cmpI (x y : Int) : Int := if x < y then -1 else if y < x then 1 else 0
theorem cmp7 (x y : Int) (w : World) : Calls Tryd.prog 41 #[.int .i64 x, .int .i64 y] w fun e w' => e = .returned (.int .i64 (cmpI x y)) ∧ w' = w := by
  have h : (x < y ∧ cmpI x y = -1) ∨ (¬ x < y ∧ y < x ∧ cmpI x y = 1) ∨ (¬ x < y ∧ ¬ y < x ∧ cmpI x y = 0) := by
    unfold cmpI
    by_cases h1 : x < y
    · rw [if_pos h1]; exact .inl ⟨h1, rfl⟩
    · by_cases h2 : y < x
      · rw [if_neg h1, if_pos h2]; exact .inr (.inl ⟨h1, h2, rfl⟩)
      · rw [if_neg h1, if_neg h2]; exact .inr (.inr ⟨h1, h2, rfl⟩)
  rcases h with ⟨h1, e⟩ | ⟨h1, h2, e⟩ | ⟨h1, h2, e⟩
  all_goals
    rw [e]
    clear e
    go_enter Tryd.func41, Tryd.ntmps41
    go_wp2_with (go_at_call 51; refine (nan7 _ _).mono ?_; rintro e w' ⟨rfl, rfl⟩)
    go_ret
    exact ⟨rfl, rfl⟩
abbrev nT7 : Nat := 3
theorem or7 (v : Value) (a b : Int) (B : Nat) (w : World) (hs : Sl w B v 1 2 [.int .i64 a, .int .i64 b]) (hB : B ≤ w.heap.size) (ha : a ≠ 0) : Calls Tryd.prog 53 #[v] w fun e w' => e = .returned (.int .i64 a) ∧ w' = w := by
  obtain ⟨A, c, rfl, hc⟩ := hs.form
  obtain ⟨ad, rfl, hb, hh⟩ := hs.at_ (k := 0) (by omega)
  have g0 := hh 0 (.int .i64 a) rfl
  simp only [Nat.zero_mul, add_add', Nat.add_zero] at g0
  have g1 : w.cell? ad = some (.int .i64 a) := by
    have e : ad.add 0 = ad := by simp [Addr.add]
    rw [e] at g0
    exact g0
  have hlt : ad.block < w.heap.size := by omega
  have hab : (a == 0) = false := by simp [ha]
  clear hs hh g0
  go_enter Tryd.func53, Tryd.ntmps53
  go_wp2_with fail
  go_loopw [8] (fun i wr => i = .int .i64 0 ∧ wr = w) (fun _ _ => 0)
  case atStart => exact ⟨rfl, rfl⟩
  case round =>
    obtain ⟨rfl, rfl⟩ := hrel
    go_wp2_with fail
    go_ret
    exact ⟨rfl, rfl⟩

set_option maxHeartbeats 4000000 in
theorem order7 (af at_ bf bt : Int) (w : World) (h : at_ < bt) : Calls Tryd.prog 45 #[.agg #[.int .i64 af, .int .i64 at_], .agg #[.int .i64 bf, .int .i64 bt]] w fun e w' => e = .returned (.int .i64 (-1)) ∧ Below w.heap.size w w' := by
  have hc : cmpI at_ bt = -1 := by unfold cmpI; rw [if_pos h]
  have HC := hide hc
  clear hc h
  go_enter Tryd.func45, Tryd.ntmps45
  go_wp2_with fail
  have HF1 : Hid (Blk ((w.alloc (.cells #[.int .i64 af, .int .i64 at_] wT)).alloc (.cells #[.int .i64 bf, .int .i64 bt] wT)) w.heap.size wT #[.int .i64 af, .int .i64 at_]) := (Blk.new w _ _).alloc _
  have HP1 : Hid (Blk ((w.alloc (.cells #[.int .i64 af, .int .i64 at_] wT)).alloc (.cells #[.int .i64 bf, .int .i64 bt] wT)) (w.heap.size + 1) wT #[.int .i64 bf, .int .i64 bt]) := by
    have h9 := Blk.new (w.alloc (.cells #[.int .i64 af, .int .i64 at_] wT)) wT #[.int .i64 bf, .int .i64 bt]
    simpa [Hid] using h9
  have HB1 : Hid (Below w.heap.size w ((w.alloc (.cells #[.int .i64 af, .int .i64 at_] wT)).alloc (.cells #[.int .i64 bf, .int .i64 bt] wT))) := ((Below.refl w.heap.size w).alloc (Nat.le_refl _) _).alloc (by simp) _
  generalize (w.alloc (.cells #[.int .i64 af, .int .i64 at_] wT)).alloc (.cells #[.int .i64 bf, .int .i64 bt] wT) = w1 at *
  generalize hpb : w.heap.size + 1 = pb at *
  clear hpb
  have a0 : w1.cell? ⟨w.heap.size, 0, none⟩ = some (.int .i64 af) := HF1.out.cell 0
  have a1 : w1.cell? ⟨w.heap.size, 1, none⟩ = some (.int .i64 at_) := HF1.out.cell 1
  have b0 : w1.cell? ⟨pb, 0, none⟩ = some (.int .i64 bf) := HP1.out.cell 0
  have b1 : w1.cell? ⟨pb, 1, none⟩ = some (.int .i64 bt) := HP1.out.cell 1
  have hl1 := HF1.out.lt
  have hl2 := HP1.out.lt
  have hz1 := HB1.out.size
  go_region_held3 (fun w' : World => w'.cell? ⟨w.heap.size, 0, none⟩ = some (.int .i64 af) ∧ w'.cell? ⟨w.heap.size, 1, none⟩ = some (.int .i64 at_) ∧ w'.cell? ⟨pb, 0, none⟩ = some (.int .i64 bf) ∧ w'.cell? ⟨pb, 1, none⟩ = some (.int .i64 bt)) (first | exact ⟨a0, a1, b0, b1⟩ | exact ⟨(HF1.out.alloc _).cell 0, (HF1.out.alloc _).cell 1, (HP1.out.alloc _).cell 0, (HP1.out.alloc _).cell 1⟩) (first
    | (go_at_call 41; refine (cmp7 _ _ _).mono ?_; rintro e w7 ⟨rfl, rfl⟩)
    | (go_at_call 53; rw [HC.out]; refine (or7 _ (-1) (cmpI af bf) (w1.heap.size + 1) _ (by have h9 := Sl.of_own (Own.new (n := 2) (sz := 1) (e := nT7) (base := 0) w1.drew #[.int .i64 (-1), .int .i64 (cmpI af bf)] (by omega) (by omega) rfl); simp at h9; exact h9) (by simp) (by first | omega | (simp <;> omega))).mono ?_; rintro e w8 ⟨rfl, rfl⟩))
  go_wp2_with fail
  go_ret
  exact ⟨rfl, (HB1.out.drewN 1).alloc hz1 _⟩

set_option maxHeartbeats 4000000 in
theorem less7 (af at_ bf bt : Int) (w : World) (h : at_ < bt) : Calls Tryd.prog 21 #[.agg #[.int .i64 af, .int .i64 at_], .agg #[.int .i64 bf, .int .i64 bt]] w fun e w' => e = .returned (.bool true) ∧ Below w.heap.size w w' := by
  have HH := hide h
  clear h
  go_enter Tryd.func21, Tryd.ntmps21
  go_wp2_with fail
  have HB1 : Hid (Below w.heap.size w ((w.alloc (.cells #[.int .i64 af, .int .i64 at_] wT)).alloc (.cells #[.int .i64 bf, .int .i64 bt] wT))) := ((Below.refl w.heap.size w).alloc (Nat.le_refl _) _).alloc (by simp) _
  refine (order7 af at_ bf bt _ HH.out).mono ?_
  rintro e w2 ⟨rfl, hb⟩
  have HB2 := hide (HB1.out.trans (hb.mono HB1.out.size))
  clear hb HB1
  go_wp2_with fail
  go_ret
  exact ⟨rfl, HB2.out⟩

end Go.Proofs.YtbnppocaeflghaaDoor
