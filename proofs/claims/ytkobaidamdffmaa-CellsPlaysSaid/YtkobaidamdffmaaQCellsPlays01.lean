/- Windows and their order; cmp.Compare, cmp.Or at ints. / window.Check. / Bytes: as cells, cloned, as a string, equal, compared. / The reference of layer 15: Bytes, Order, KeyRight; of layer 7: Good, Less. / The reference of layer 15: Order, KeyRight. -/
import Derived.Test.YtkobaidamdffmaaProg
import Derived.Test.YtkobaidamdffmaaQCellsPlays00
import Derived.Deep.RegionHeld3
import Derived.Sort.Grow
import Derived.Laws.BytesArg
import Derived.Lib.Bytealg
import Derived.BigQuiet
import Derived.Deep.CutRange

namespace Go.Proofs.Ytkobaidamdffmaa
open Go.RowKit Go.Sort
set_option linter.unusedVariables false
set_option linter.unusedSimpArgs false

/-- a window -/
structure Win where
  f : Int
  t : Int
deriving DecidableEq
def Win.cells (p : Win) : List Value := [.int .i64 p.f, .int .i64 p.t]
theorem Win.cells2 (p : Win) : p.cells.length = 2 := rfl
def wins (D : List Win) : List Value := D.flatMap Win.cells
theorem wins_app (C D : List Win) : wins (C ++ D) = wins C ++ wins D := List.flatMap_append ..
theorem wins_len (D : List Win) : (wins D).length = D.length * 2 := flat_len _ 2 Win.cells2 D
theorem wins_ok (D : List Win) : ∀ u ∈ wins D, u.oneCell' = true := by
  intro u hu
  simp only [wins, List.mem_flatMap] at hu
  obtain ⟨p, _, hp⟩ := hu
  simp only [Win.cells, List.mem_cons, List.not_mem_nil, or_false] at hp
  rcases hp with rfl | rfl <;> rfl
abbrev wT : Nat := 37
theorem nan7 (w : World) (x : Int) : Calls Try.prog 97 #[.int .i64 x] w fun e w' => e = .returned (.bool false) ∧ w' = w := by
  go_enter Try.func97, Try.ntmps97
  go_wp2_with fail
  go_ret
  exact ⟨rfl, rfl⟩
def cmpI (x y : Int) : Int := if x < y then -1 else if y < x then 1 else 0
theorem cmp7 (x y : Int) (w : World) : Calls Try.prog 86 #[.int .i64 x, .int .i64 y] w fun e w' => e = .returned (.int .i64 (cmpI x y)) ∧ w' = w := by
  have h : (x < y ∧ cmpI x y = -1) ∨ (¬ x < y ∧ y < x ∧ cmpI x y = 1) ∨ (¬ x < y ∧ ¬ y < x ∧ cmpI x y = 0) := by
    unfold cmpI
    by_cases h1 : x < y
    · rw [if_pos h1]; exact .inl ⟨h1, rfl⟩
    · by_cases h2 : y < x
      · rw [if_neg h1, if_pos h2]; exact .inr (.inl ⟨h1, h2, rfl⟩)
      · rw [if_neg h1, if_neg h2]; exact .inr (.inr ⟨h1, h2, rfl⟩)
  rcases h with ⟨h1, e⟩ | ⟨h1, h2, e⟩ | ⟨h1, h2, e⟩
  all_goals
    rw [e]
    clear e
    go_enter Try.func86, Try.ntmps86
    go_wp2_with (go_at_call 97; refine (nan7 _ _).mono ?_; rintro e w' ⟨rfl, rfl⟩)
    go_ret
    exact ⟨rfl, rfl⟩
abbrev nT7 : Nat := 3
def orI (a b : Int) : Int := if a = 0 then b else a
theorem or_any7 (v : Value) (a b : Int) (B : Nat) (w : World) (hs : Sl w B v 1 2 [.int .i64 a, .int .i64 b]) (hB : B ≤ w.heap.size) : Calls Try.prog 85 #[v] w fun e w' => e = .returned (.int .i64 (orI a b)) ∧ w' = w := by
  obtain ⟨A, c, rfl, hc⟩ := hs.form
  obtain ⟨ad, rfl, hb, hh⟩ := hs.at_ (k := 0) (by omega)
  obtain ⟨ad2, he2, hb2, hh2⟩ := hs.at_ (k := 1) (by omega)
  injection he2 with he2
  subst he2
  have g0 := hh 0 (.int .i64 a) rfl
  simp only [add_add', Nat.add_zero] at g0
  have k0 := hh2 0 (.int .i64 b) rfl
  simp only [add_add', Nat.add_zero, Nat.one_mul] at k0
  have hlt : (ad.add (0 * 1)).block < w.heap.size := by rw [add_blk]; omega
  have hlt2 : (ad.add 1).block < w.heap.size := by rw [add_blk]; omega
  obtain ⟨r, hr⟩ : ∃ r, r = orI a b := ⟨_, rfl⟩
  rw [← hr]
  have HR : Hid (r = if a = 0 then b else a) := hr
  clear hs hh hh2 hr
  rw [Nat.zero_mul] at g0 hlt
  have e0 : ad.add 0 = ad := by simp [Addr.add]
  have e1 : ad.add 1 = ⟨ad.block, ad.off + 1, none⟩ := by
    have h9 := add_fld ad 0 1 (by omega)
    rw [e0, Nat.zero_add] at h9
    exact h9
  rw [e0] at g0 hlt
  rw [e1] at k0 hlt2
  clear e0 e1
  go_enter Try.func85, Try.ntmps85
  go_wp2_with fail
  go_loopw [8] (fun i wr => ∃ k : Nat, k ≤ 2 ∧ i = .int .i64 k ∧ (1 ≤ k → a = 0) ∧ (2 ≤ k → b = 0) ∧ wr = w) (fun i _ => 2 - (intOf i).toNat)
  case atStart => exact ⟨0, by omega, rfl, by omega, by omega, rfl⟩
  case round =>
    obtain ⟨k, hk, rfl, h1, h2, rfl⟩ := hrel
    have h3 : k = 0 ∨ k = 1 ∨ k = 2 := by omega
    rcases h3 with rfl | rfl | rfl
    · by_cases ha : a = 0
      · subst ha
        go_wp2_with fail
        go_roundw
        case rel => exact ⟨1, by omega, by simp, by simp, by omega, trivial⟩
        case measure => simp [intOf]
      · have hab : (a != 0) = true := by simp [ha]
        have HRb : Hid (r = a) := by have h9 := HR.out; rw [if_neg ha] at h9; exact h9
        go_wp2_with fail
        go_ret
        rw [HRb.out]
        exact ⟨rfl, rfl⟩
    · have ha : a = 0 := h1 (by omega)
      have HRb : Hid (r = b) := by have h9 := HR.out; rw [if_pos ha] at h9; exact h9
      subst ha
      by_cases hb0 : b = 0
      · subst hb0
        go_wp2_with fail
        go_roundw
        case rel => exact ⟨2, by omega, by simp, by simp, by simp, trivial⟩
        case measure => simp [intOf]
      · have hab : (b != 0) = true := by simp [hb0]
        go_wp2_with fail
        go_ret
        rw [HRb.out]
        exact ⟨rfl, rfl⟩
    · have ha : a = 0 := h1 (by omega)
      have hb0 : b = 0 := h2 (by omega)
      go_wp2_with fail
      go_ret
      rw [HR.out, ha, hb0]
      exact ⟨rfl, rfl⟩

def ordI (x y : Win) : Int := orI (cmpI x.t y.t) (cmpI x.f y.f)

set_option maxHeartbeats 4000000 in
theorem order_any7 (af at_ bf bt : Int) (w : World) : Calls Try.prog 80 #[.agg #[.int .i64 af, .int .i64 at_], .agg #[.int .i64 bf, .int .i64 bt]] w fun e w' => e = .returned (.int .i64 (ordI ⟨af, at_⟩ ⟨bf, bt⟩)) ∧ ∃ q os, w' = grow (w.drewN q) os := by
  obtain ⟨r, hr⟩ : ∃ r, r = ordI ⟨af, at_⟩ ⟨bf, bt⟩ := ⟨_, rfl⟩
  rw [← hr]
  have HR : Hid (r = orI (cmpI at_ bt) (cmpI af bf)) := hr
  clear hr
  go_enter Try.func80, Try.ntmps80
  go_wp2_with fail
  have HF1 : Hid (Blk ((w.alloc (.cells #[.int .i64 af, .int .i64 at_] wT)).alloc (.cells #[.int .i64 bf, .int .i64 bt] wT)) w.heap.size wT #[.int .i64 af, .int .i64 at_]) := (Blk.new w _ _).alloc _
  have HP1 : Hid (Blk ((w.alloc (.cells #[.int .i64 af, .int .i64 at_] wT)).alloc (.cells #[.int .i64 bf, .int .i64 bt] wT)) (w.heap.size + 1) wT #[.int .i64 bf, .int .i64 bt]) := by
    have h9 := Blk.new (w.alloc (.cells #[.int .i64 af, .int .i64 at_] wT)) wT #[.int .i64 bf, .int .i64 bt]
    simpa [Hid] using h9
  have HE1 : Hid (∃ os, (w.alloc (.cells #[.int .i64 af, .int .i64 at_] wT)).alloc (.cells #[.int .i64 bf, .int .i64 bt] wT) = grow w os) := ⟨_, by rw [alloc_eq_grow, alloc_eq_grow, grow_grow]⟩
  generalize (w.alloc (.cells #[.int .i64 af, .int .i64 at_] wT)).alloc (.cells #[.int .i64 bf, .int .i64 bt] wT) = w1 at *
  generalize hpb : w.heap.size + 1 = pb at *
  clear hpb
  have a0 : w1.cell? ⟨w.heap.size, 0, none⟩ = some (.int .i64 af) := HF1.out.cell 0
  have a1 : w1.cell? ⟨w.heap.size, 1, none⟩ = some (.int .i64 at_) := HF1.out.cell 1
  have b0 : w1.cell? ⟨pb, 0, none⟩ = some (.int .i64 bf) := HP1.out.cell 0
  have b1 : w1.cell? ⟨pb, 1, none⟩ = some (.int .i64 bt) := HP1.out.cell 1
  have hl1 := HF1.out.lt
  have hl2 := HP1.out.lt
  go_region_held3 (fun w' : World => w'.cell? ⟨w.heap.size, 0, none⟩ = some (.int .i64 af) ∧ w'.cell? ⟨w.heap.size, 1, none⟩ = some (.int .i64 at_) ∧ w'.cell? ⟨pb, 0, none⟩ = some (.int .i64 bf) ∧ w'.cell? ⟨pb, 1, none⟩ = some (.int .i64 bt)) (first | exact ⟨a0, a1, b0, b1⟩ | exact ⟨(HF1.out.alloc _).cell 0, (HF1.out.alloc _).cell 1, (HP1.out.alloc _).cell 0, (HP1.out.alloc _).cell 1⟩) (first
    | (go_at_call 86; refine (cmp7 _ _ _).mono ?_; rintro e w7 ⟨rfl, rfl⟩)
    | (go_at_call 85; refine (or_any7 _ (cmpI at_ bt) (cmpI af bf) (w1.heap.size + 1) _ (by have h9 := Sl.of_own (Own.new (n := 2) (sz := 1) (e := nT7) (base := 0) w1.drew #[.int .i64 (cmpI at_ bt), .int .i64 (cmpI af bf)] (by omega) (by omega) rfl); simp at h9; exact h9) (by simp)).mono ?_; rintro e w8 ⟨rfl, rfl⟩))
  rw [← HR.out]
  go_wp2_with fail
  go_ret
  obtain ⟨os, hos⟩ := HE1.out
  refine ⟨rfl, 1, os ++ #[.cells #[.int .i64 (cmpI at_ bt), .int .i64 (cmpI af bf)] nT7], ?_⟩
  rw [alloc_eq_grow, hos]
  show grow (grow (w.drewN 1) os) _ = _
  rw [grow_grow]

theorem cmpI_neg (x y : Int) : cmpI x y < 0 ↔ x < y := by
  unfold cmpI
  split
  · simp; omega
  · split
    · simp; omega
    · simp; omega
theorem cmpI_zero (x y : Int) : cmpI x y = 0 ↔ x = y := by
  unfold cmpI
  split
  · simp; omega
  · split
    · simp; omega
    · simp; omega
/-- the order of windows -/
def wlt (x y : Win) : Prop := x.t < y.t ∨ (x.t = y.t ∧ x.f < y.f)
instance (x y : Win) : Decidable (wlt x y) := by unfold wlt; exact inferInstance
theorem ordI_neg (x y : Win) : ordI x y < 0 ↔ wlt x y := by
  unfold ordI orI wlt
  have h1 := cmpI_zero x.t y.t
  have h2 := cmpI_neg x.t y.t
  have h3 := cmpI_neg x.f y.f
  split
  · rename_i h9
    have := h1.1 h9
    constructor
    · intro h; right; exact ⟨this, h3.1 h⟩
    · rintro (h | ⟨_, h⟩)
      · omega
      · exact h3.2 h
  · rename_i h9
    have h8 : ¬ x.t = y.t := fun h => h9 (h1.2 h)
    constructor
    · intro h; left; exact h2.1 h
    · rintro (h | ⟨h, _⟩)
      · exact h2.2 h
      · exact absurd h h8
theorem grow_below {w : World} (q : Nat) (os : Array Obj) : Below w.heap.size w (grow (w.drewN q) os) := by
  refine ⟨rfl, rfl, rfl, ?_, fun k hk => ?_⟩
  · show w.heap.size ≤ (w.heap ++ os).size
    simp
  · show (w.heap ++ os)[k]? = w.heap[k]?
    rw [Array.getElem?_append_left hk]

/-- Less of package window -/
theorem less_any7 (af at_ bf bt : Int) (w : World) : Calls Try.prog 69 #[.agg #[.int .i64 af, .int .i64 at_], .agg #[.int .i64 bf, .int .i64 bt]] w fun e w' => e = .returned (.bool (decide (wlt ⟨af, at_⟩ ⟨bf, bt⟩))) ∧ Below w.heap.size w w' := by
  obtain ⟨r, hr⟩ : ∃ r : Bool, r = decide (wlt ⟨af, at_⟩ ⟨bf, bt⟩) := ⟨_, rfl⟩
  rw [← hr]
  have HR : Hid (r = decide (ordI ⟨af, at_⟩ ⟨bf, bt⟩ < 0)) := by show _ = _; rw [hr]; exact decide_eq_decide.2 (ordI_neg _ _).symm
  clear hr
  go_enter Try.func69, Try.ntmps69
  go_wp2_with fail
  have HB1 : Hid (Below w.heap.size w ((w.alloc (.cells #[.int .i64 af, .int .i64 at_] wT)).alloc (.cells #[.int .i64 bf, .int .i64 bt] wT))) := ((Below.refl w.heap.size w).alloc (Nat.le_refl _) _).alloc (by simp) _
  refine (order_any7 af at_ bf bt _).mono ?_
  rintro e w2 ⟨rfl, q, os, rfl⟩
  have HB2 := hide (HB1.out.trans ((grow_below (w := ((w.alloc (.cells #[.int .i64 af, .int .i64 at_] wT)).alloc (.cells #[.int .i64 bf, .int .i64 bt] wT))) q os).mono HB1.out.size))
  clear HB1
  generalize grow (World.drewN _ q) os = w3 at *
  generalize ordI ⟨af, at_⟩ ⟨bf, bt⟩ = x at *
  go_wp2_with fail
  go_ret
  rw [HR.out]
  exact ⟨rfl, HB2.out⟩

end Go.Proofs.Ytkobaidamdffmaa

namespace Go.Proofs.Ytkobaidamdffmaa
open Go.RowKit Go.Sort
set_option linter.unusedVariables false
set_option linter.unusedSimpArgs false

def Win.good (p : Win) : Prop := -1048576 ≤ p.f ∧ p.f < p.t ∧ p.t ≤ 2097153
instance (p : Win) : Decidable p.good := by unfold Win.good; exact inferInstance
def Win.stamp (p : Win) : Int := if p.t - 1 > 1048576 then 1048576 else p.t - 1

set_option maxHeartbeats 4000000 in
theorem wcheck_any (f t : Int) (w : World) : Calls Try.prog 61 #[.agg #[.int .i64 f, .int .i64 t]] w fun e w' => e = .returned (.int .i64 (if (Win.mk f t).good then 0 else 70)) ∧ Below w.heap.size w w' := by
  obtain ⟨r, hr⟩ : ∃ r : Int, r = if (Win.mk f t).good then 0 else 70 := ⟨_, rfl⟩
  rw [← hr]
  have HR := hide hr
  clear hr
  have hc : f < -1048576 ∨ (¬ f < -1048576 ∧ t ≤ f) ∨ (¬ f < -1048576 ∧ ¬ t ≤ f ∧ 2097153 < t) ∨ (¬ f < -1048576 ∧ ¬ t ≤ f ∧ ¬ 2097153 < t) := by omega
  rcases hc with h1 | ⟨h1, h2⟩ | ⟨h1, h2, h3⟩ | ⟨h1, h2, h3⟩
  all_goals
    go_enter Try.func61, Try.ntmps61
    go_wp2_with fail
    go_ret
    refine ⟨?_, (Below.refl _ _).alloc (Nat.le_refl _) _⟩
    refine congrArg (fun b => Ending.returned (Value.int .i64 b)) (?_ : _ = r)
    rw [HR.out]
    first
      | (rw [if_neg (by unfold Win.good; simp only; omega)])
      | (rw [if_pos (by unfold Win.good; simp only; omega)])

end Go.Proofs.Ytkobaidamdffmaa

namespace Go.Proofs.Ytkobaidamdffmaa
open Go.RowKit
set_option linter.unusedVariables false
set_option linter.unusedSimpArgs false

abbrev bT : Nat := 5
/-- bytes as cells -/
def bys (D : List Int) : List Value := D.flatMap fun c => [.int .u8 c]
theorem bys_len (D : List Int) : (bys D).length = D.length * 1 := flat_len (fun c : Int => [Value.int .u8 c]) 1 (fun _ => rfl) D
theorem bys_app (C D : List Int) : bys (C ++ D) = bys C ++ bys D := List.flatMap_append ..
theorem bys_ok (D : List Int) : ∀ u ∈ bys D, u.oneCell' = true := by
  intro u hu
  simp only [bys, List.mem_flatMap, List.mem_singleton] at hu
  obtain ⟨c, _, rfl⟩ := hu
  rfl
/-- are they bytes? -/
def Bytes8 (D : List Int) : Prop := ∀ c ∈ D, 0 ≤ c ∧ c ≤ 255
theorem by_at {w : World} {B n c : Nat} {A : Option Addr} {D : List Int} (h : Sl w B (.slice A n c) 1 n (bys D)) {k : Nat} (hk : k < n) (hD : D.length = n) :
    ∃ ad, A = some ad ∧ (ad.add k).block < B ∧ w.cell? (ad.add k) = some (.int .u8 (D[k]'(by omega))) := by
  obtain ⟨ad, rfl, hb, hh⟩ := h.at_ hk
  rw [bys, part_of (fun c : Int => [Value.int .u8 c]) 1 (fun _ => rfl) D k (by omega), Nat.mul_one] at hh
  refine ⟨ad, rfl, by rw [add_blk]; exact hb, ?_⟩
  have := hh 0 _ rfl
  rwa [add_add'] at this
theorem tyB : SlTy Try.prog 23 bT 1 1 (.int .u8 0) := ⟨Try.underlying23, info_parts (by kernel_rfl), rfl, by omega⟩

theorem bys_map : ∀ (D : List Int), bys D = D.map (Value.int .u8)
  | [] => rfl
  | c :: D => by
    have h := bys_map D
    rw [bys] at h
    rw [bys, List.flatMap_cons, h]
    rfl
theorem bys_str (v : Value) (D : List Int) (n B : Nat) (w : World) (hs : Sl w B v 1 n (bys D)) (hD : D.length = n) :
    (convert 23 9 v).run Try.prog w = .ok (.string (strOfNums D)) w := by
  obtain ⟨A, c, rfl, hnc⟩ := hs.form
  have hA : Try.prog.underlying 23 = some (.slice bT) := Try.underlying23
  have hE : Try.prog.underlying bT = some (.int .u8) := by kernel_rfl
  have hS : Try.prog.underlying 9 = some .string := by kernel_rfl
  cases n with
  | zero =>
    have hD0 : D = [] := List.length_eq_zero_iff.1 hD
    subst hD0
    rw [run_convert_bytes_string w _ _ _ _ 0 c hA hE hS]
    cases A with
    | none => simp [Conv.bytesToString]; rfl
    | some ad =>
      rw [run_bytesToString w ad 0 c [] (by simpa using run_loadCells_list (P := Try.prog) w ad [] (by simp))]
      rfl
  | succ m =>
    obtain ⟨ad, rfl, hb, hh⟩ := hs.inv.2.2.2 (by omega)
    rw [run_convert_bytes_string w _ _ _ _ _ c hA hE hS, run_bytesToString w ad (m + 1) c D, foldl_push_bytes]
    · simp [strOfNums, ByteArray.empty, ByteArray.emptyWithCapacity]
      rfl
    · have h := run_loadCells_list (P := Try.prog) w ad (D.map (Value.int .u8)) (fun j v hj => hh j v (by rw [bys_map]; exact hj))
      simpa [hD] using h


set_option maxHeartbeats 2000000 in
theorem bclone_any (v : Value) (D : List Int) (n B : Nat) (w : World) (hs : Sl w B v 1 n (bys D)) (hD : D.length = n) (hn : n ≤ 140737488355328) (hB : B ≤ w.heap.size) :
    Calls Try.prog 36 #[v] w fun e w' => ∃ u, e = .returned u ∧ Own w' w.heap.size bT 1 u n (bys D) ∧ Below w.heap.size w w' := by
  obtain ⟨A, c, rfl, hnc⟩ := hs.form
  have HS := hide hs
  have HD := hide hD
  clear hs hD
  cases A with
  | none =>
    have hn0 : n = 0 := by
      have h := HS.out.inv
      by_cases h9 : 0 < n
      · obtain ⟨ad, h7, _⟩ := h.2.2.2 h9
        cases h7
      · omega
    subst hn0
    have HD0 : Hid (D = []) := List.length_eq_zero_iff.1 HD.out
    have hnil : ∀ W : World, (binOp .eql 23 (.slice none 0 c) (.slice none 0 0)).run Try.prog W = .ok (.bool true) W := fun W => by kernel_rfl
    go_enter Try.func36, Try.ntmps36
    go_wp2_with fail
    go_ret
    exact ⟨_, rfl, by rw [HD0.out]; exact Own.nil _ _ _ _, Below.refl _ _⟩
  | some ad =>
    have hnil : ∀ W : World, (binOp .eql 23 (.slice (some ad) n c) (.slice none 0 0)).run Try.prog W = .ok (.bool false) W := fun W => by kernel_rfl
    go_enter Try.func36, Try.ntmps36
    go_wp2_with (at_builtin; refine wpList_app rfl tyB (.tmp 5) (.tmp 6) rfl w.heap.size (n := 0) (m := n) (B := B) (xs := []) (news := bys D) rfl rfl ?c1 ?c2 (bys_ok D) (by omega) (by omega) (by simp) ?_)
    case c1 => exact Own.new w w.heap.size #[] (Nat.le_refl _) (by omega) rfl
    case c2 => exact HS.out.alloc hB _
    intro v1 w1 ha
    have HO : Hid (Own w1 w.heap.size bT 1 v1 n (bys D)) := by simpa [Hid] using ha.own
    have HB1 := hide (((Below.refl w.heap.size w).alloc (Nat.le_refl _) _).trans (ha.fr.below (by simp) (fun k hk h => by have := own_eq h; omega)))
    clear ha
    go_wp2_with fail
    go_ret
    exact ⟨_, rfl, HO.out, HB1.out⟩

theorem u8map_inj : ∀ (D E : List Int), Bytes8 D → Bytes8 E → D.map (fun n => UInt8.ofNat n.toNat) = E.map (fun n => UInt8.ofNat n.toNat) → D = E
  | [], [], _, _, _ => rfl
  | [], e :: E, _, _, h => by simp at h
  | d :: D, [], _, _, h => by simp at h
  | d :: D, e :: E, h1, h2, h => by
    simp only [List.map_cons, List.cons.injEq] at h
    have hd := h1 d List.mem_cons_self
    have he := h2 e List.mem_cons_self
    have h3 := congrArg UInt8.toNat h.1
    simp only [UInt8.toNat_ofNat'] at h3
    rw [u8map_inj D E (fun c hc => h1 c (List.mem_cons_of_mem _ hc)) (fun c hc => h2 c (List.mem_cons_of_mem _ hc)) h.2]
    congr 1
    omega
theorem str_eq (D E : List Int) (h1 : Bytes8 D) (h2 : Bytes8 E) : ((strOfNums D).toList == (strOfNums E).toList) = decide (D = E) := by
  rw [ByteArray.toList_eq, ByteArray.toList_eq, strOfNums_data, strOfNums_data]
  by_cases h : D = E
  · subst h
    simp
  · rw [decide_eq_false h, beq_eq_false_iff_ne]
    exact fun h9 => h (u8map_inj D E h1 h2 h9)

set_option maxHeartbeats 2000000 in
theorem bequal_any (v u : Value) (D E : List Int) (m n B : Nat) (w : World) (hs : Sl w B v 1 m (bys D)) (hu : Sl w B u 1 n (bys E)) (hD : D.length = m) (hE : E.length = n) (h1 : Bytes8 D) (h2 : Bytes8 E) :
    Calls Try.prog 58 #[v, u] w fun e w' => e = .returned (.bool (decide (D = E))) ∧ w' = w := by
  obtain ⟨A, c, rfl, hc⟩ := hs.form
  obtain ⟨A', c', rfl, hc'⟩ := hu.form
  have k1 := bys_str _ D m B w hs hD
  have k2 := bys_str _ E n B w hu hE
  have HSE := hide (str_eq D E h1 h2)
  clear hs hu h1 h2 hD hE
  go_enter Try.func58, Try.ntmps58
  go_wp2_with fail
  go_ret
  rw [HSE.out]
  exact ⟨rfl, rfl⟩

/-- which bytes are less? -/
def cmpB : List Int → List Int → Int
  | [], [] => 0
  | [], _ :: _ => -1
  | _ :: _, [] => 1
  | a :: A, b :: B => if a < b then -1 else if b < a then 1 else cmpB A B
theorem cmpB_zero : ∀ (A B : List Int), cmpB A B = 0 ↔ A = B
  | [], [] => by simp [cmpB]
  | [], _ :: _ => by simp [cmpB]
  | _ :: _, [] => by simp [cmpB]
  | a :: A, b :: B => by
    unfold cmpB
    have ih := cmpB_zero A B
    split
    · rename_i h; simp; omega
    · split
      · rename_i h1 h2; simp; omega
      · rename_i h1 h2
        have : a = b := by omega
        subst this
        simp [ih]
theorem cmpB_anti : ∀ (A B : List Int), cmpB B A = - cmpB A B
  | [], [] => by simp [cmpB]
  | [], _ :: _ => by simp [cmpB]
  | _ :: _, [] => by simp [cmpB]
  | a :: A, b :: B => by
    unfold cmpB
    have ih := cmpB_anti A B
    split <;> split <;> (try split) <;> first | rfl | omega | exact ih
theorem cmpB_trans : ∀ (A B C : List Int), cmpB A B < 0 → cmpB B C < 0 → cmpB A C < 0
  | [], [], _, h, _ => by simp [cmpB] at h
  | [], _ :: _, [], _, h => by simp [cmpB] at h
  | [], _ :: _, _ :: _, _, _ => by simp [cmpB]
  | _ :: _, [], _, h, _ => by simp [cmpB] at h
  | _ :: _, _ :: _, [], _, h => by simp [cmpB] at h
  | a :: A, b :: B, c :: C, h1, h2 => by
    unfold cmpB at h1 h2 ⊢
    have ih := cmpB_trans A B C
    split at h1
    · split at h2
      · rw [if_pos (by omega)]; omega
      · split at h2
        · omega
        · rw [if_pos (by omega)]; omega
    · split at h1
      · omega
      · split at h2
        · rw [if_pos (by omega)]; omega
        · split at h2
          · omega
          · rw [if_neg (by omega), if_neg (by omega)]
            exact ih h1 h2

end Go.Proofs.Ytkobaidamdffmaa

namespace Go.Proofs.Ytkobaidamdffmaa
open Go.RowKit Go.Sort
set_option linter.unusedVariables false
set_option linter.unusedSimpArgs false

/-- which bytes are less? by the difference -/
def bytesR : List Int → List Int → Int
  | a :: A, b :: B => if a = b then bytesR A B else a - b
  | A, B => (A.length : Int) - B.length
theorem bytesR_sign : ∀ (A B : List Int), (bytesR A B < 0 ↔ cmpB A B < 0) ∧ (bytesR A B = 0 ↔ cmpB A B = 0)
  | [], [] => by simp [bytesR, cmpB]
  | [], _ :: B => by simp [bytesR, cmpB]; omega
  | _ :: A, [] => by simp [bytesR, cmpB]; omega
  | a :: A, b :: B => by
    have ih := bytesR_sign A B
    unfold bytesR cmpB
    by_cases h : a = b
    · subst h
      rw [if_pos rfl, if_neg (by omega), if_neg (by omega)]
      exact ih
    · rw [if_neg h]
      by_cases h1 : a < b
      · rw [if_pos h1]; omega
      · rw [if_neg h1, if_pos (by omega)]; omega
theorem bytesR_zero (A B : List Int) : bytesR A B = 0 ↔ A = B := (bytesR_sign A B).2.trans (cmpB_zero A B)
theorem bytesR_step {D E : List Int} {k : Nat} (h1 : k < D.length) (h2 : k < E.length) : bytesR (D.drop k) (E.drop k) = if D[k] = E[k] then bytesR (D.drop (k + 1)) (E.drop (k + 1)) else D[k] - E[k] := by
  rw [List.drop_eq_getElem_cons h1, List.drop_eq_getElem_cons h2]
  rfl
theorem bytesR_end {D E : List Int} {k : Nat} (h1 : k ≤ D.length) (h2 : k ≤ E.length) (h : k = D.length ∨ k = E.length) : bytesR (D.drop k) (E.drop k) = (D.length : Int) - E.length := by
  have e1 : ∀ X : List Int, bytesR [] X = - (X.length : Int) := fun X => by cases X <;> simp [bytesR]
  have e2 : ∀ X : List Int, bytesR X [] = (X.length : Int) := fun X => by cases X <;> simp [bytesR]
  rcases h with h | h
  · rw [List.drop_eq_nil_of_le (show D.length ≤ k by omega), e1, List.length_drop]
    omega
  · rw [List.drop_eq_nil_of_le (show E.length ≤ k by omega), e2, List.length_drop]
    omega

set_option maxHeartbeats 4000000 in
theorem rbytes_any (v u : Value) (D E : List Int) (m n B C : Nat) (w : World) (hs : Sl w B v 1 m (bys D)) (hu : Sl w C u 1 n (bys E)) (hD : D.length = m) (hE : E.length = n) (h1 : Bytes8 D) (h2 : Bytes8 E) :
    Calls Try.prog 22 #[v, u] w fun e w' => e = .returned (.int .i64 (bytesR D E)) ∧ ∃ j, w' = w.drewN j := by
  obtain ⟨A, c, rfl, hc⟩ := hs.form
  obtain ⟨A', c', rfl, hc'⟩ := hu.form
  have hm := hs.max
  have hn := hu.max
  have HS := hide hs
  have HU := hide hu
  have HD := hide hD
  have HE := hide hE
  have H1 := hide h1
  have H2 := hide h2
  obtain ⟨r, hr⟩ : ∃ r, r = bytesR D E := ⟨_, rfl⟩
  rw [← hr]
  have HR := hide hr
  clear hs hu hD hE h1 h2 hr
  go_enter Try.func22, Try.ntmps22
  go_wp2_with fail
  go_loopw [5] (fun i wr => ∃ k : Nat, k ≤ m ∧ k ≤ n ∧ i = .int .i64 k ∧ Hid (r = bytesR (D.drop k) (E.drop k)) ∧ Hid (∃ j, wr = w.drewN j)) (fun i _ => m - (intOf i).toNat)
  case atStart => exact ⟨0, Nat.zero_le _, Nat.zero_le _, rfl, by simpa [Hid] using HR.out, ⟨0, rfl⟩⟩
  case round =>
    obtain ⟨k, hk1, hk2, rfl, HK, HJ⟩ := hrel
    have HD9 : Hid (∀ m, ∃ j, wr.drewN m = w.drewN j) := by obtain ⟨j, rfl⟩ := HJ.out; exact fun m => ⟨j + m, World.drewN_drewN w j m⟩
    have HD8 : Hid (∀ m m', ∃ j, (wr.drewN m).drewN m' = w.drewN j) := by obtain ⟨j, rfl⟩ := HJ.out; exact fun m m' => ⟨j + m + m', by rw [World.drewN_drewN, World.drewN_drewN, Nat.add_assoc]⟩
    by_cases hkm : k < m
    · by_cases hkn : k < n
      · have hkD : k < D.length := by rw [HD.out]; exact hkm
        have hkE : k < E.length := by rw [HE.out]; exact hkn
        have HSr : Hid (Sl wr B (.slice A m c) 1 m (bys D)) := by obtain ⟨j, rfl⟩ := HJ.out; exact HS.out.drewN j
        have HUr : Hid (Sl wr C (.slice A' n c') 1 n (bys E)) := by obtain ⟨j, rfl⟩ := HJ.out; exact HU.out.drewN j
        obtain ⟨ad, rfl, hb, g0⟩ := by_at HSr.out hkm HD.out
        obtain ⟨ad', rfl, hb', g1⟩ := by_at HUr.out hkn HE.out
        have b0 : (0 : Int) ≤ (k : Int) := by omega
        have b1 : (k : Int) < (m : Int) := by omega
        have b2 : (k : Int) < (n : Int) := by omega
        have HST := hide (bytesR_step hkD hkE)
        have d8 := H1.out _ (List.getElem_mem hkD)
        have e8 := H2.out _ (List.getElem_mem hkE)
        generalize D[k] = d at g0 HST d8
        generalize E[k] = e at g1 HST e8
        obtain ⟨d0, d1⟩ := d8
        obtain ⟨e0, e1⟩ := e8
        clear hkD hkE
        by_cases hde : d = e
        · subst hde
          have hne : (d != d) = false := by simp
          have HK2 : Hid (r = bytesR (D.drop (k + 1)) (E.drop (k + 1))) := by show _ = _; rw [HK.out, HST.out, if_pos rfl]
          go_wp2_with fail
          go_quiet (fail)
          go_wp2_with fail
          go_roundw
          case rel => exact ⟨k + 1, by omega, by omega, by simp, HK2, HD9.out _⟩
          case measure => simp [intOf]; omega
        · have hne : (d != e) = true := by simp [hde]
          have HK2 : Hid (r = d - e) := by show _ = _; rw [HK.out, HST.out, if_neg hde]
          go_wp2_with fail
          go_quiet (fail)
          go_wp2_with fail
          go_quiet (fail)
          go_wp2_with fail
          go_ret
          rw [HK2.out]
          exact ⟨by first | rfl | go_num, HD8.out _ _⟩
      · have HK2 : Hid (r = (m : Int) - n) := by
          show _ = _
          rw [HK.out, bytesR_end (by rw [HD.out]; omega) (by rw [HE.out]; omega) (.inr (by rw [HE.out]; omega)), HD.out, HE.out]
        go_wp2_with fail
        go_ret
        rw [HK2.out]
        exact ⟨by first | rfl | go_num, HJ.out⟩
    · have HK2 : Hid (r = (m : Int) - n) := by
        show _ = _
        rw [HK.out, bytesR_end (by rw [HD.out]; omega) (by rw [HE.out]; omega) (.inl (by rw [HD.out]; omega)), HD.out, HE.out]
      go_wp2_with fail
      go_ret
      rw [HK2.out]
      exact ⟨by first | rfl | go_num, HJ.out⟩

abbrev rT7 : Nat := 25
set_option maxHeartbeats 4000000 in
theorem rless_any (af at_ bf bt : Int) (w : World) : Calls Try.prog 38 #[.agg #[.int .i64 af, .int .i64 at_], .agg #[.int .i64 bf, .int .i64 bt]] w fun e w' => e = .returned (.bool (decide (wlt ⟨af, at_⟩ ⟨bf, bt⟩))) ∧ Below w.heap.size w w' := by
  obtain ⟨r, hr⟩ : ∃ r : Bool, r = decide (wlt ⟨af, at_⟩ ⟨bf, bt⟩) := ⟨_, rfl⟩
  rw [← hr]
  have HR := hide hr
  clear hr
  have hc : at_ < bt ∨ (¬ at_ < bt ∧ at_ ≠ bt) ∨ at_ = bt := by omega
  have HB : Hid (Below w.heap.size w ((w.alloc (.cells #[.int .i64 af, .int .i64 at_] rT7)).alloc (.cells #[.int .i64 bf, .int .i64 bt] rT7))) := ((Below.refl w.heap.size w).alloc (Nat.le_refl _) _).alloc (by simp) _
  rcases hc with h1 | ⟨h1, h2⟩ | rfl
  · have HT : Hid (r = true) := by show _ = _; rw [HR.out]; exact decide_eq_true (.inl h1)
    go_enter Try.func38, Try.ntmps38
    go_wp2_with fail
    go_ret
    rw [HT.out]
    exact ⟨rfl, HB.out⟩
  · have HT : Hid (r = false) := by show _ = _; rw [HR.out]; exact decide_eq_false (by unfold wlt; simp only; omega)
    have h3 : (at_ == bt) = false := by simp [h2]
    go_enter Try.func38, Try.ntmps38
    go_wp2_with fail
    go_ret
    rw [HT.out]
    exact ⟨rfl, HB.out⟩
  · have HT : Hid (r = decide (af < bf)) := by show _ = _; rw [HR.out]; exact decide_eq_decide.2 (by unfold wlt; simp)
    have h1 : ¬ at_ < at_ := by omega
    have h3 : (at_ == at_) = true := by simp
    go_enter Try.func38, Try.ntmps38
    go_wp2_with fail
    go_ret
    rw [HT.out]
    exact ⟨rfl, HB.out⟩

set_option maxHeartbeats 4000000 in
theorem rgood_any (f t : Int) (w : World) : Calls Try.prog 65 #[.agg #[.int .i64 f, .int .i64 t]] w fun e w' => e = .returned (.bool (decide (Win.mk f t).good)) ∧ Below w.heap.size w w' := by
  obtain ⟨r, hr⟩ : ∃ r : Bool, r = decide (Win.mk f t).good := ⟨_, rfl⟩
  rw [← hr]
  have HR := hide hr
  clear hr
  have hc : ¬ -1048576 ≤ f ∨ (-1048576 ≤ f ∧ ¬ f < t) ∨ (-1048576 ≤ f ∧ f < t ∧ ¬ t ≤ 2097153) ∨ (-1048576 ≤ f ∧ f < t ∧ t ≤ 2097153) := by omega
  rcases hc with h1 | ⟨h1, h2⟩ | ⟨h1, h2, h3⟩ | ⟨h1, h2, h3⟩
  all_goals
    go_enter Try.func65, Try.ntmps65
    go_wp2_with fail
    go_ret
    refine ⟨?_, (Below.refl _ _).alloc (Nat.le_refl _) _⟩
    refine congrArg (fun b => Ending.returned (Value.bool b)) (?_ : _ = r)
    rw [HR.out]
    first
      | (rw [decide_eq_false (show ¬ (Win.mk f t).good by unfold Win.good; simp only; omega)]; done)
      | (rw [decide_eq_true (show (Win.mk f t).good by unfold Win.good; simp only; omega)]; done)
      | (simp [Win.good]; omega)
      | simp [Win.good, h1, h2, h3]

end Go.Proofs.Ytkobaidamdffmaa

namespace Go.Proofs.Ytkobaidamdffmaa
open Go.RowKit Go.Sort
set_option linter.unusedVariables false
set_option linter.unusedSimpArgs false

theorem win_ne (f t f' t' : Int) (h : ¬ (f = f' ∧ t = t')) (W : World) : (binOp .neq rT7 (.agg #[.int .i64 f, .int .i64 t]) (.agg #[.int .i64 f', .int .i64 t'])).run Try.prog W = .ok (.bool true) W := by
  by_cases h1 : f = f'
  · have h2 : ¬ t = t' := fun h9 => h ⟨h1, h9⟩
    go_simp
  · go_simp
theorem win_nq (f t f' t' : Int) (h : ¬ (f = f' ∧ t = t')) (W : World) : (binOp .eql rT7 (.agg #[.int .i64 f, .int .i64 t]) (.agg #[.int .i64 f', .int .i64 t'])).run Try.prog W = .ok (.bool false) W := by
  by_cases h1 : f = f'
  · have h2 : ¬ t = t' := fun h9 => h ⟨h1, h9⟩
    go_simp
  · go_simp
theorem win_nn (f t : Int) (W : World) : (binOp .neq rT7 (.agg #[.int .i64 f, .int .i64 t]) (.agg #[.int .i64 f, .int .i64 t])).run Try.prog W = .ok (.bool false) W := by
  go_simp
/-- a cell of the reference, as a value -/
def rcV (k : Value) (f t : Int) (a : Value) (s n g h : Int) (p c : Bool) : Value := .agg #[k, .int .i64 f, .int .i64 t, a, .int .i64 s, .int .i64 n, .int .i64 g, .int .i64 h, .bool p, .bool c]
abbrev rcT : Nat := 29
/-- the order of cells -/
def ordC (x y : Win) (D E : List Int) : Int := if x = y then bytesR D E else if wlt x y then -1 else 1

set_option maxHeartbeats 600000 in
theorem rorder_any (A A' Q Q' : Option Addr) (c c' m m' q q' : Nat) (D E : List Int) (f t f' t' s n g h s' n' g' h' : Int) (p b p' b' : Bool) (B C : Nat) (w : World) (hs : Sl w B (.slice A D.length c) 1 D.length (bys D)) (hu : Sl w C (.slice A' E.length c') 1 E.length (bys E)) (h1 : Bytes8 D) (h2 : Bytes8 E) (hB : B ≤ w.heap.size) (hC : C ≤ w.heap.size) :
    Calls Try.prog 16 #[rcV (.slice A D.length c) f t (.slice Q m q) s n g h p b, rcV (.slice A' E.length c') f' t' (.slice Q' m' q') s' n' g' h' p' b'] w fun e w' => e = .returned (.int .i64 (ordC ⟨f, t⟩ ⟨f', t'⟩ D E)) ∧ Below w.heap.size w w' := by
  obtain ⟨r, hr⟩ : ∃ r, r = ordC ⟨f, t⟩ ⟨f', t'⟩ D E := ⟨_, rfl⟩
  rw [← hr]
  have HR := hide hr
  have HS := hide hs
  have HU := hide hu
  have H1 := hide h1
  have H2 := hide h2
  obtain ⟨k, hk⟩ : ∃ k, k = D.length := ⟨_, rfl⟩
  obtain ⟨l, hl⟩ : ∃ l, l = E.length := ⟨_, rfl⟩
  rw [← hk] at HS ⊢
  rw [← hl] at HU ⊢
  have HK := hide hk
  have HL := hide hl
  clear hr hs hu h1 h2 hk hl
  unfold rcV
  have HB : Hid (Below w.heap.size w ((w.alloc (.cells #[.slice A k c, .int .i64 f, .int .i64 t, .slice Q m q, .int .i64 s, .int .i64 n, .int .i64 g, .int .i64 h, .bool p, .bool b] rcT)).alloc (.cells #[.slice A' l c', .int .i64 f', .int .i64 t', .slice Q' m' q', .int .i64 s', .int .i64 n', .int .i64 g', .int .i64 h', .bool p', .bool b'] rcT))) := ((Below.refl w.heap.size w).alloc (Nat.le_refl _) _).alloc (by simp) _
  have HP : Hid (Blk ((w.alloc (.cells #[.slice A k c, .int .i64 f, .int .i64 t, .slice Q m q, .int .i64 s, .int .i64 n, .int .i64 g, .int .i64 h, .bool p, .bool b] rcT)).alloc (.cells #[.slice A' l c', .int .i64 f', .int .i64 t', .slice Q' m' q', .int .i64 s', .int .i64 n', .int .i64 g', .int .i64 h', .bool p', .bool b'] rcT)) w.heap.size rcT #[.slice A k c, .int .i64 f, .int .i64 t, .slice Q m q, .int .i64 s, .int .i64 n, .int .i64 g, .int .i64 h, .bool p, .bool b]) := (Blk.new w _ _).alloc _
  have HQ : Hid (Blk ((w.alloc (.cells #[.slice A k c, .int .i64 f, .int .i64 t, .slice Q m q, .int .i64 s, .int .i64 n, .int .i64 g, .int .i64 h, .bool p, .bool b] rcT)).alloc (.cells #[.slice A' l c', .int .i64 f', .int .i64 t', .slice Q' m' q', .int .i64 s', .int .i64 n', .int .i64 g', .int .i64 h', .bool p', .bool b'] rcT)) (w.heap.size + 1) rcT #[.slice A' l c', .int .i64 f', .int .i64 t', .slice Q' m' q', .int .i64 s', .int .i64 n', .int .i64 g', .int .i64 h', .bool p', .bool b']) := by
    have h9 := Blk.new (w.alloc (.cells #[.slice A k c, .int .i64 f, .int .i64 t, .slice Q m q, .int .i64 s, .int .i64 n, .int .i64 g, .int .i64 h, .bool p, .bool b] rcT)) rcT #[.slice A' l c', .int .i64 f', .int .i64 t', .slice Q' m' q', .int .i64 s', .int .i64 n', .int .i64 g', .int .i64 h', .bool p', .bool b']
    simpa [Hid] using h9
  go_enter Try.func16, Try.ntmps16
  go_upto_region 1 with fail
  generalize (w.alloc (.cells #[.slice A k c, .int .i64 f, .int .i64 t, .slice Q m q, .int .i64 s, .int .i64 n, .int .i64 g, .int .i64 h, .bool p, .bool b] rcT)).alloc (.cells #[.slice A' l c', .int .i64 f', .int .i64 t', .slice Q' m' q', .int .i64 s', .int .i64 n', .int .i64 g', .int .i64 h', .bool p', .bool b'] rcT) = w1 at *
  obtain ⟨pb, hpb⟩ : ∃ pb, pb = w.heap.size := ⟨_, rfl⟩
  obtain ⟨qb, hqb⟩ : ∃ qb, qb = w.heap.size + 1 := ⟨_, rfl⟩
  rw [← hqb] at HQ ⊢
  rw [← hpb] at HP ⊢
  have HS1 := hide (HS.out.below (HB.out.mono hB))
  have HU1 := hide (HU.out.below (HB.out.mono hC))
  clear hpb hqb HS HU
  have hp := HP.out.lt
  have hq := HQ.out.lt
  have p0 : w1.cell? ⟨pb, 0, none⟩ = some (.slice A k c) := HP.out.cell 0
  have p1 : w1.cell? ⟨pb, 1, none⟩ = some (.int .i64 f) := HP.out.cell 1
  have p2 : w1.cell? ⟨pb, 2, none⟩ = some (.int .i64 t) := HP.out.cell 2
  have q0 : w1.cell? ⟨qb, 0, none⟩ = some (.slice A' l c') := HQ.out.cell 0
  have q1 : w1.cell? ⟨qb, 1, none⟩ = some (.int .i64 f') := HQ.out.cell 1
  have q2 : w1.cell? ⟨qb, 2, none⟩ = some (.int .i64 t') := HQ.out.cell 2
  by_cases he : f = f' ∧ t = t'
  · obtain ⟨rfl, rfl⟩ := he
    have HF : Hid (r = bytesR D E) := by show _ = _; rw [HR.out]; unfold ordC; rw [if_pos rfl]
    go_wp2_with fail
    refine (rbytes_any _ _ D E k l B C _ HS1.out HU1.out HK.out.symm HL.out.symm H1.out H2.out).mono ?_
    rw [← HF.out]
    rintro e w2 ⟨rfl, j, rfl⟩
    go_wp2_with fail
    go_ret
    exact ⟨rfl, HB.out.drewN j⟩
  · have HF : Hid (r = if wlt ⟨f, t⟩ ⟨f', t'⟩ then -1 else 1) := by
      show _ = _
      rw [HR.out]
      unfold ordC
      rw [if_neg (fun h9 => he (by injection h9 with h8 h7; exact ⟨h8, h7⟩))]
    have hne := win_ne f t f' t' he
    go_wp2_with fail
    refine (rless_any f t f' t' _).mono ?_
    by_cases h9 : wlt ⟨f, t⟩ ⟨f', t'⟩
    · have HG : Hid (r = -1) := by show _ = _; rw [HF.out, if_pos h9]
      rw [decide_eq_true h9]
      rintro e w2 ⟨rfl, hb2⟩
      have HB2 := hide (HB.out.trans (hb2.mono HB.out.size))
      clear hb2
      go_wp2_with fail
      go_ret
      rw [HG.out]
      exact ⟨rfl, HB2.out⟩
    · have HG : Hid (r = 1) := by show _ = _; rw [HF.out, if_neg h9]
      rw [decide_eq_false h9]
      rintro e w2 ⟨rfl, hb2⟩
      have HB2 := hide (HB.out.trans (hb2.mono HB.out.size))
      clear hb2
      go_wp2_with fail
      go_ret
      rw [HG.out]
      exact ⟨rfl, HB2.out⟩

set_option maxHeartbeats 600000 in
theorem rkey_any (A Q : Option Addr) (c m q l : Nat) (f t s n g h : Int) (p b : Bool) (w : World) (hl : l ≤ 9223372036854775807) :
    Calls Try.prog 42 #[rcV (.slice A l c) f t (.slice Q m q) s n g h p b] w fun e w' => e = .returned (.bool (decide (l ≤ 1048576 ∧ (Win.mk f t).good))) ∧ Below w.heap.size w w' := by
  obtain ⟨r, hr⟩ : ∃ r : Bool, r = decide (l ≤ 1048576 ∧ (Win.mk f t).good) := ⟨_, rfl⟩
  rw [← hr]
  have HR := hide hr
  clear hr
  unfold rcV
  have HB : Hid (Below w.heap.size w (w.alloc (.cells #[.slice A l c, .int .i64 f, .int .i64 t, .slice Q m q, .int .i64 s, .int .i64 n, .int .i64 g, .int .i64 h, .bool p, .bool b] rcT))) := (Below.refl w.heap.size w).alloc (Nat.le_refl _) _
  by_cases h1 : l ≤ 1048576
  · have HG : Hid (r = decide (Win.mk f t).good) := by show _ = _; rw [HR.out]; simp [h1]
    go_enter Try.func42, Try.ntmps42
    go_wp2_with fail
    refine (rgood_any f t _).mono ?_
    rw [← HG.out]
    rintro e w2 ⟨rfl, hb2⟩
    have HB2 := hide (HB.out.trans (hb2.mono HB.out.size))
    clear hb2
    go_wp2_with fail
    go_ret
    exact ⟨rfl, HB2.out⟩
  · have HG : Hid (r = false) := by show _ = _; rw [HR.out]; simp [h1]
    go_enter Try.func42, Try.ntmps42
    go_wp2_with fail
    go_ret
    rw [HG.out]
    exact ⟨rfl, HB.out⟩

end Go.Proofs.Ytkobaidamdffmaa
