/- Windows and their order; cmp.Compare, cmp.Or at ints. -/
import Derived.Test.YtkobaidamdffmaaProg
import Derived.Test.YtkobaidamdffmaaApp
import Derived.Test.YtkobaidamdffmaaCut
import Derived.Test.YtkobaidamdffmaaAft
import Derived.Deep.RegionHeld3
import Derived.Sort.Grow
namespace Go.Proofs.Ytkobaidamdffmaa
open Go.RowKit Go.Sort
set_option linter.unusedVariables false
set_option linter.unusedSimpArgs false

/-- a window -/
structure Win where
  f : Int
  t : Int
deriving DecidableEq
def Win.cells (p : Win) : List Value := [.int .i64 p.f, .int .i64 p.t]
theorem Win.cells2 (p : Win) : p.cells.length = 2 := rfl
def wins (D : List Win) : List Value := D.flatMap Win.cells
theorem wins_app (C D : List Win) : wins (C ++ D) = wins C ++ wins D := List.flatMap_append ..
theorem wins_len (D : List Win) : (wins D).length = D.length * 2 := flat_len _ 2 Win.cells2 D
theorem wins_ok (D : List Win) : ∀ u ∈ wins D, u.oneCell' = true := by
  intro u hu
  simp only [wins, List.mem_flatMap] at hu
  obtain ⟨p, _, hp⟩ := hu
  simp only [Win.cells, List.mem_cons, List.not_mem_nil, or_false] at hp
  rcases hp with rfl | rfl <;> rfl
abbrev wT : Nat := 37
theorem nan7 (w : World) (x : Int) : Calls Try.prog 97 #[.int .i64 x] w fun e w' => e = .returned (.bool false) ∧ w' = w := by
  go_enter Try.func97, Try.ntmps97
  go_wp2_with fail
  go_ret
  exact ⟨rfl, rfl⟩
def cmpI (x y : Int) : Int := if x < y then -1 else if y < x then 1 else 0
theorem cmp7 (x y : Int) (w : World) : Calls Try.prog 86 #[.int .i64 x, .int .i64 y] w fun e w' => e = .returned (.int .i64 (cmpI x y)) ∧ w' = w := by
  have h : (x < y ∧ cmpI x y = -1) ∨ (¬ x < y ∧ y < x ∧ cmpI x y = 1) ∨ (¬ x < y ∧ ¬ y < x ∧ cmpI x y = 0) := by
    unfold cmpI
    by_cases h1 : x < y
    · rw [if_pos h1]; exact .inl ⟨h1, rfl⟩
    · by_cases h2 : y < x
      · rw [if_neg h1, if_pos h2]; exact .inr (.inl ⟨h1, h2, rfl⟩)
      · rw [if_neg h1, if_neg h2]; exact .inr (.inr ⟨h1, h2, rfl⟩)
  rcases h with ⟨h1, e⟩ | ⟨h1, h2, e⟩ | ⟨h1, h2, e⟩
  all_goals
    rw [e]
    clear e
    go_enter Try.func86, Try.ntmps86
    go_wp2_with (go_at_call 97; refine (nan7 _ _).mono ?_; rintro e w' ⟨rfl, rfl⟩)
    go_ret
    exact ⟨rfl, rfl⟩
abbrev nT7 : Nat := 3
def orI (a b : Int) : Int := if a = 0 then b else a
theorem or_any7 (v : Value) (a b : Int) (B : Nat) (w : World) (hs : Sl w B v 1 2 [.int .i64 a, .int .i64 b]) (hB : B ≤ w.heap.size) : Calls Try.prog 85 #[v] w fun e w' => e = .returned (.int .i64 (orI a b)) ∧ w' = w := by
  obtain ⟨A, c, rfl, hc⟩ := hs.form
  obtain ⟨ad, rfl, hb, hh⟩ := hs.at_ (k := 0) (by omega)
  obtain ⟨ad2, he2, hb2, hh2⟩ := hs.at_ (k := 1) (by omega)
  injection he2 with he2
  subst he2
  have g0 := hh 0 (.int .i64 a) rfl
  simp only [add_add', Nat.add_zero] at g0
  have k0 := hh2 0 (.int .i64 b) rfl
  simp only [add_add', Nat.add_zero, Nat.one_mul] at k0
  have hlt : (ad.add (0 * 1)).block < w.heap.size := by rw [add_blk]; omega
  have hlt2 : (ad.add 1).block < w.heap.size := by rw [add_blk]; omega
  obtain ⟨r, hr⟩ : ∃ r, r = orI a b := ⟨_, rfl⟩
  rw [← hr]
  have HR : Hid (r = if a = 0 then b else a) := hr
  clear hs hh hh2 hr
  rw [Nat.zero_mul] at g0 hlt
  have e0 : ad.add 0 = ad := by simp [Addr.add]
  have e1 : ad.add 1 = ⟨ad.block, ad.off + 1, none⟩ := by
    have h9 := add_fld ad 0 1 (by omega)
    rw [e0, Nat.zero_add] at h9
    exact h9
  rw [e0] at g0 hlt
  rw [e1] at k0 hlt2
  clear e0 e1
  go_enter Try.func85, Try.ntmps85
  go_wp2_with fail
  go_loopw [8] (fun i wr => ∃ k : Nat, k ≤ 2 ∧ i = .int .i64 k ∧ (1 ≤ k → a = 0) ∧ (2 ≤ k → b = 0) ∧ wr = w) (fun i _ => 2 - (intOf i).toNat)
  case atStart => exact ⟨0, by omega, rfl, by omega, by omega, rfl⟩
  case round =>
    obtain ⟨k, hk, rfl, h1, h2, rfl⟩ := hrel
    have h3 : k = 0 ∨ k = 1 ∨ k = 2 := by omega
    rcases h3 with rfl | rfl | rfl
    · by_cases ha : a = 0
      · subst ha
        go_wp2_with fail
        go_roundw
        case rel => exact ⟨1, by omega, by simp, by simp, by omega, trivial⟩
        case measure => simp [intOf]
      · have hab : (a != 0) = true := by simp [ha]
        have HRb : Hid (r = a) := by have h9 := HR.out; rw [if_neg ha] at h9; exact h9
        go_wp2_with fail
        go_ret
        rw [HRb.out]
        exact ⟨rfl, rfl⟩
    · have ha : a = 0 := h1 (by omega)
      have HRb : Hid (r = b) := by have h9 := HR.out; rw [if_pos ha] at h9; exact h9
      subst ha
      by_cases hb0 : b = 0
      · subst hb0
        go_wp2_with fail
        go_roundw
        case rel => exact ⟨2, by omega, by simp, by simp, by simp, trivial⟩
        case measure => simp [intOf]
      · have hab : (b != 0) = true := by simp [hb0]
        go_wp2_with fail
        go_ret
        rw [HRb.out]
        exact ⟨rfl, rfl⟩
    · have ha : a = 0 := h1 (by omega)
      have hb0 : b = 0 := h2 (by omega)
      go_wp2_with fail
      go_ret
      rw [HR.out, ha, hb0]
      exact ⟨rfl, rfl⟩

def ordI (x y : Win) : Int := orI (cmpI x.t y.t) (cmpI x.f y.f)

set_option maxHeartbeats 4000000 in
theorem order_any7 (af at_ bf bt : Int) (w : World) : Calls Try.prog 80 #[.agg #[.int .i64 af, .int .i64 at_], .agg #[.int .i64 bf, .int .i64 bt]] w fun e w' => e = .returned (.int .i64 (ordI ⟨af, at_⟩ ⟨bf, bt⟩)) ∧ ∃ q os, w' = grow (w.drewN q) os := by
  obtain ⟨r, hr⟩ : ∃ r, r = ordI ⟨af, at_⟩ ⟨bf, bt⟩ := ⟨_, rfl⟩
  rw [← hr]
  have HR : Hid (r = orI (cmpI at_ bt) (cmpI af bf)) := hr
  clear hr
  go_enter Try.func80, Try.ntmps80
  go_wp2_with fail
  have HF1 : Hid (Blk ((w.alloc (.cells #[.int .i64 af, .int .i64 at_] wT)).alloc (.cells #[.int .i64 bf, .int .i64 bt] wT)) w.heap.size wT #[.int .i64 af, .int .i64 at_]) := (Blk.new w _ _).alloc _
  have HP1 : Hid (Blk ((w.alloc (.cells #[.int .i64 af, .int .i64 at_] wT)).alloc (.cells #[.int .i64 bf, .int .i64 bt] wT)) (w.heap.size + 1) wT #[.int .i64 bf, .int .i64 bt]) := by
    have h9 := Blk.new (w.alloc (.cells #[.int .i64 af, .int .i64 at_] wT)) wT #[.int .i64 bf, .int .i64 bt]
    simpa [Hid] using h9
  have HE1 : Hid (∃ os, (w.alloc (.cells #[.int .i64 af, .int .i64 at_] wT)).alloc (.cells #[.int .i64 bf, .int .i64 bt] wT) = grow w os) := ⟨_, by rw [alloc_eq_grow, alloc_eq_grow, grow_grow]⟩
  generalize (w.alloc (.cells #[.int .i64 af, .int .i64 at_] wT)).alloc (.cells #[.int .i64 bf, .int .i64 bt] wT) = w1 at *
  generalize hpb : w.heap.size + 1 = pb at *
  clear hpb
  have a0 : w1.cell? ⟨w.heap.size, 0, none⟩ = some (.int .i64 af) := HF1.out.cell 0
  have a1 : w1.cell? ⟨w.heap.size, 1, none⟩ = some (.int .i64 at_) := HF1.out.cell 1
  have b0 : w1.cell? ⟨pb, 0, none⟩ = some (.int .i64 bf) := HP1.out.cell 0
  have b1 : w1.cell? ⟨pb, 1, none⟩ = some (.int .i64 bt) := HP1.out.cell 1
  have hl1 := HF1.out.lt
  have hl2 := HP1.out.lt
  go_region_held3 (fun w' : World => w'.cell? ⟨w.heap.size, 0, none⟩ = some (.int .i64 af) ∧ w'.cell? ⟨w.heap.size, 1, none⟩ = some (.int .i64 at_) ∧ w'.cell? ⟨pb, 0, none⟩ = some (.int .i64 bf) ∧ w'.cell? ⟨pb, 1, none⟩ = some (.int .i64 bt)) (first | exact ⟨a0, a1, b0, b1⟩ | exact ⟨(HF1.out.alloc _).cell 0, (HF1.out.alloc _).cell 1, (HP1.out.alloc _).cell 0, (HP1.out.alloc _).cell 1⟩) (first
    | (go_at_call 86; refine (cmp7 _ _ _).mono ?_; rintro e w7 ⟨rfl, rfl⟩)
    | (go_at_call 85; refine (or_any7 _ (cmpI at_ bt) (cmpI af bf) (w1.heap.size + 1) _ (by have h9 := Sl.of_own (Own.new (n := 2) (sz := 1) (e := nT7) (base := 0) w1.drew #[.int .i64 (cmpI at_ bt), .int .i64 (cmpI af bf)] (by omega) (by omega) rfl); simp at h9; exact h9) (by simp)).mono ?_; rintro e w8 ⟨rfl, rfl⟩))
  rw [← HR.out]
  go_wp2_with fail
  go_ret
  obtain ⟨os, hos⟩ := HE1.out
  refine ⟨rfl, 1, os ++ #[.cells #[.int .i64 (cmpI at_ bt), .int .i64 (cmpI af bf)] nT7], ?_⟩
  rw [alloc_eq_grow, hos]
  show grow (grow (w.drewN 1) os) _ = _
  rw [grow_grow]

theorem cmpI_neg (x y : Int) : cmpI x y < 0 ↔ x < y := by
  unfold cmpI
  split
  · simp; omega
  · split
    · simp; omega
    · simp; omega
theorem cmpI_zero (x y : Int) : cmpI x y = 0 ↔ x = y := by
  unfold cmpI
  split
  · simp; omega
  · split
    · simp; omega
    · simp; omega
/-- the order of windows -/
def wlt (x y : Win) : Prop := x.t < y.t ∨ (x.t = y.t ∧ x.f < y.f)
instance (x y : Win) : Decidable (wlt x y) := by unfold wlt; exact inferInstance
theorem ordI_neg (x y : Win) : ordI x y < 0 ↔ wlt x y := by
  unfold ordI orI wlt
  have h1 := cmpI_zero x.t y.t
  have h2 := cmpI_neg x.t y.t
  have h3 := cmpI_neg x.f y.f
  split
  · rename_i h9
    have := h1.1 h9
    constructor
    · intro h; right; exact ⟨this, h3.1 h⟩
    · rintro (h | ⟨_, h⟩)
      · omega
      · exact h3.2 h
  · rename_i h9
    have h8 : ¬ x.t = y.t := fun h => h9 (h1.2 h)
    constructor
    · intro h; left; exact h2.1 h
    · rintro (h | ⟨h, _⟩)
      · exact h2.2 h
      · exact absurd h h8
theorem grow_below {w : World} (q : Nat) (os : Array Obj) : Below w.heap.size w (grow (w.drewN q) os) := by
  refine ⟨rfl, rfl, rfl, ?_, fun k hk => ?_⟩
  · show w.heap.size ≤ (w.heap ++ os).size
    simp
  · show (w.heap ++ os)[k]? = w.heap[k]?
    rw [Array.getElem?_append_left hk]

/-- Less of package window -/
theorem less_any7 (af at_ bf bt : Int) (w : World) : Calls Try.prog 69 #[.agg #[.int .i64 af, .int .i64 at_], .agg #[.int .i64 bf, .int .i64 bt]] w fun e w' => e = .returned (.bool (decide (wlt ⟨af, at_⟩ ⟨bf, bt⟩))) ∧ Below w.heap.size w w' := by
  obtain ⟨r, hr⟩ : ∃ r : Bool, r = decide (wlt ⟨af, at_⟩ ⟨bf, bt⟩) := ⟨_, rfl⟩
  rw [← hr]
  have HR : Hid (r = decide (ordI ⟨af, at_⟩ ⟨bf, bt⟩ < 0)) := by show _ = _; rw [hr]; exact decide_eq_decide.2 (ordI_neg _ _).symm
  clear hr
  go_enter Try.func69, Try.ntmps69
  go_wp2_with fail
  have HB1 : Hid (Below w.heap.size w ((w.alloc (.cells #[.int .i64 af, .int .i64 at_] wT)).alloc (.cells #[.int .i64 bf, .int .i64 bt] wT))) := ((Below.refl w.heap.size w).alloc (Nat.le_refl _) _).alloc (by simp) _
  refine (order_any7 af at_ bf bt _).mono ?_
  rintro e w2 ⟨rfl, q, os, rfl⟩
  have HB2 := hide (HB1.out.trans ((grow_below (w := ((w.alloc (.cells #[.int .i64 af, .int .i64 at_] wT)).alloc (.cells #[.int .i64 bf, .int .i64 bt] wT))) q os).mono HB1.out.size))
  clear HB1
  generalize grow (World.drewN _ q) os = w3 at *
  generalize ordI ⟨af, at_⟩ ⟨bf, bt⟩ = x at *
  go_wp2_with fail
  go_ret
  rw [HR.out]
  exact ⟨rfl, HB2.out⟩

end Go.Proofs.Ytkobaidamdffmaa
