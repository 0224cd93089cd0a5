/- Sort of package window: ContainsFunc, Clone, SortFunc; the two orders. -/
import Derived.Test.YtbnppocaeflghaaDoorLess
import Derived.Test.YtbnppocaeflghaaDoorRev
import Derived.Shelf.SlSortCmp.NoneTotal
import Derived.Ground.SlsfProg
namespace Go.Proofs
open Go.Shelf Go.Lib
def Tryd.sortW_ren : Go.Shelf.Ren := ⟨fun | 6 => 39 | 15 => 50 | 14 => 49 | 28 => 63 | 29 => 64 | 20 => 55 | 21 => 56 | 22 => 57 | 23 => 58 | 24 => 59 | 25 => 60 | 26 => 61 | 27 => 62 | 46 => 66 | 47 => 67 | 48 => 68 | 49 => 69 | 50 => 70 | 57 => 75 | n => n, fun | 22 => 28 | 24 => 33 | 25 => 69 | 3 => 3 | 39 => 76 | 0 => 0 | 53 => 88 | 55 => 90 | 4 => 4 | 46 => 81 | 45 => 80 | 50 => 85 | 5 => 5 | 9 => 9 | 66 => 92 | 70 => 96 | 76 => 103 | 77 => 104 | n => n, fun | n => n⟩
theorem Tryd.sortW : Go.Proofs.SlLaysF0.n6 Tryd.prog Tryd.sortW_ren := {
  mixed := by kernel_rfl
  f6 := ⟨Tryd.f39.name, by decide, Tryd.func39.trans (congrArg some (by kernel_rfl))⟩
  f14 := ⟨Tryd.f49.name, by decide, Tryd.func49.trans (congrArg some (by kernel_rfl))⟩
  f15 := Tryd.func50.trans (congrArg some (by kernel_rfl))
  f20 := ⟨Tryd.f55.name, by decide, Tryd.func55.trans (congrArg some (by kernel_rfl))⟩
  f21 := ⟨Tryd.f56.name, by decide, Tryd.func56.trans (congrArg some (by kernel_rfl))⟩
  f22 := ⟨Tryd.f57.name, by decide, Tryd.func57.trans (congrArg some (by kernel_rfl))⟩
  f23 := ⟨Tryd.f58.name, by decide, Tryd.func58.trans (congrArg some (by kernel_rfl))⟩
  f24 := ⟨Tryd.f59.name, by decide, Tryd.func59.trans (congrArg some (by kernel_rfl))⟩
  f25 := ⟨Tryd.f60.name, by decide, Tryd.func60.trans (congrArg some (by kernel_rfl))⟩
  f26 := ⟨Tryd.f61.name, by decide, Tryd.func61.trans (congrArg some (by kernel_rfl))⟩
  f27 := ⟨Tryd.f62.name, by decide, Tryd.func62.trans (congrArg some (by kernel_rfl))⟩
  f28 := Tryd.func63.trans (congrArg some (by kernel_rfl))
  f29 := Tryd.func64.trans (congrArg some (by kernel_rfl))
  f46 := ⟨Tryd.f66.name, by decide, Tryd.func66.trans (congrArg some (by kernel_rfl))⟩
  f47 := Tryd.func67.trans (congrArg some (by kernel_rfl))
  f48 := Tryd.func68.trans (congrArg some (by kernel_rfl))
  f49 := ⟨Tryd.f69.name, by decide, Tryd.func69.trans (congrArg some (by kernel_rfl))⟩
  f50 := ⟨Tryd.f70.name, by decide, Tryd.func70.trans (congrArg some (by kernel_rfl))⟩
  f57 := ⟨Tryd.f75.name, by decide, Tryd.func75.trans (congrArg some (by kernel_rfl))⟩
  t0 := Tryd.underlying0
  a0 := Tryd.isAgg0
  z0 := Tryd.sizeOf0
  v0 := Tryd.zeroValue0
  t3 := Tryd.underlying3
  a3 := Tryd.isAgg3
  z3 := Tryd.sizeOf3
  v3 := Tryd.zeroValue3
  t4 := Tryd.underlying4
  a4 := Tryd.isAgg4
  z4 := Tryd.sizeOf4
  v4 := Tryd.zeroValue4
  t5 := Tryd.underlying5
  a5 := Tryd.isAgg5
  z5 := Tryd.sizeOf5
  v5 := Tryd.zeroValue5
  t9 := Tryd.underlying9
  a9 := Tryd.isAgg9
  z9 := Tryd.sizeOf9
  v9 := Tryd.zeroValue9
  t22 := Tryd.underlying28
  a22 := Tryd.isAgg28
  z22 := Tryd.sizeOf28
  v22 := Tryd.zeroValue28
  t25 := Tryd.underlying69
  a25 := Tryd.isAgg69
  z25 := Tryd.sizeOf69
  v25 := Tryd.zeroValue69
  t39 := Tryd.underlying76
  a39 := Tryd.isAgg76
  z39 := Tryd.sizeOf76
  v39 := Tryd.zeroValue76
  t45 := Tryd.underlying80
  a45 := Tryd.isAgg80
  z45 := Tryd.sizeOf80
  v45 := Tryd.zeroValue80
  t46 := Tryd.underlying81
  a46 := Tryd.isAgg81
  z46 := Tryd.sizeOf81
  v46 := Tryd.zeroValue81
  t50 := Tryd.underlying85
  a50 := Tryd.isAgg85
  z50 := Tryd.sizeOf85
  v50 := Tryd.zeroValue85
  t53 := Tryd.underlying88
  a53 := Tryd.isAgg88
  z53 := Tryd.sizeOf88
  v53 := Tryd.zeroValue88
  t55 := Tryd.underlying90
  a55 := Tryd.isAgg90
  z55 := Tryd.sizeOf90
  v55 := Tryd.zeroValue90
  t66 := Tryd.underlying92
  a66 := Tryd.isAgg92
  z66 := Tryd.sizeOf92
  v66 := Tryd.zeroValue92
  t70 := Tryd.underlying96
  a70 := Tryd.isAgg96
  z70 := Tryd.sizeOf96
  v70 := Tryd.zeroValue96
  t76 := Tryd.underlying103
  a76 := Tryd.isAgg103
  z76 := Tryd.sizeOf103
  v76 := Tryd.zeroValue103
  t77 := Tryd.underlying104
  a77 := Tryd.isAgg104
  z77 := Tryd.sizeOf104
  v77 := Tryd.zeroValue104 }
end Go.Proofs
namespace Go.Proofs.YtbnppocaeflghaaDoor
open Go.RowKit Go.Sort
set_option linter.unusedVariables false
set_option linter.unusedSimpArgs false

def orI (a b : Int) : Int := if a = 0 then b else a
theorem or_any7 (v : Value) (a b : Int) (B : Nat) (w : World) (hs : Sl w B v 1 2 [.int .i64 a, .int .i64 b]) (hB : B ≤ w.heap.size) : Calls Tryd.prog 53 #[v] w fun e w' => e = .returned (.int .i64 (orI a b)) ∧ w' = w := by
  obtain ⟨A, c, rfl, hc⟩ := hs.form
  obtain ⟨ad, rfl, hb, hh⟩ := hs.at_ (k := 0) (by omega)
  obtain ⟨ad2, he2, hb2, hh2⟩ := hs.at_ (k := 1) (by omega)
  injection he2 with he2
  subst he2
  have g0 := hh 0 (.int .i64 a) rfl
  simp only [add_add', Nat.add_zero] at g0
  have k0 := hh2 0 (.int .i64 b) rfl
  simp only [add_add', Nat.add_zero, Nat.one_mul] at k0
  have hlt : (ad.add (0 * 1)).block < w.heap.size := by rw [add_blk]; omega
  have hlt2 : (ad.add 1).block < w.heap.size := by rw [add_blk]; omega
  obtain ⟨r, hr⟩ : ∃ r, r = orI a b := ⟨_, rfl⟩
  rw [← hr]
  have HR : Hid (r = if a = 0 then b else a) := hr
  clear hs hh hh2 hr
  rw [Nat.zero_mul] at g0 hlt
  have e0 : ad.add 0 = ad := by simp [Addr.add]
  have e1 : ad.add 1 = ⟨ad.block, ad.off + 1, none⟩ := by
    have h9 := add_fld ad 0 1 (by omega)
    rw [e0, Nat.zero_add] at h9
    exact h9
  rw [e0] at g0 hlt
  rw [e1] at k0 hlt2
  clear e0 e1
  go_enter Tryd.func53, Tryd.ntmps53
  go_wp2_with fail
  go_loopw [8] (fun i wr => ∃ k : Nat, k ≤ 2 ∧ i = .int .i64 k ∧ (1 ≤ k → a = 0) ∧ (2 ≤ k → b = 0) ∧ wr = w) (fun i _ => 2 - (intOf i).toNat)
  case atStart => exact ⟨0, by omega, rfl, by omega, by omega, rfl⟩
  case round =>
    obtain ⟨k, hk, rfl, h1, h2, rfl⟩ := hrel
    have h3 : k = 0 ∨ k = 1 ∨ k = 2 := by omega
    rcases h3 with rfl | rfl | rfl
    · by_cases ha : a = 0
      · subst ha
        go_wp2_with fail
        go_roundw
        case rel => exact ⟨1, by omega, by simp, by simp, by omega, trivial⟩
        case measure => simp [intOf]
      · have hab : (a != 0) = true := by simp [ha]
        have HRb : Hid (r = a) := by have h9 := HR.out; rw [if_neg ha] at h9; exact h9
        go_wp2_with fail
        go_ret
        rw [HRb.out]
        exact ⟨rfl, rfl⟩
    · have ha : a = 0 := h1 (by omega)
      have HRb : Hid (r = b) := by have h9 := HR.out; rw [if_pos ha] at h9; exact h9
      subst ha
      by_cases hb0 : b = 0
      · subst hb0
        go_wp2_with fail
        go_roundw
        case rel => exact ⟨2, by omega, by simp, by simp, by simp, trivial⟩
        case measure => simp [intOf]
      · have hab : (b != 0) = true := by simp [hb0]
        go_wp2_with fail
        go_ret
        rw [HRb.out]
        exact ⟨rfl, rfl⟩
    · have ha : a = 0 := h1 (by omega)
      have hb0 : b = 0 := h2 (by omega)
      go_wp2_with fail
      go_ret
      rw [HR.out, ha, hb0]
      exact ⟨rfl, rfl⟩

def ordI (x y : Win) : Int := orI (cmpI x.t y.t) (cmpI x.f y.f)
def fromI (x y : Win) : Int := cmpI x.f y.f

set_option maxHeartbeats 4000000 in
theorem order_any7 (af at_ bf bt : Int) (w : World) : Calls Tryd.prog 45 #[.agg #[.int .i64 af, .int .i64 at_], .agg #[.int .i64 bf, .int .i64 bt]] w fun e w' => e = .returned (.int .i64 (ordI ⟨af, at_⟩ ⟨bf, bt⟩)) ∧ ∃ q os, w' = grow (w.drewN q) os := by
  obtain ⟨r, hr⟩ : ∃ r, r = ordI ⟨af, at_⟩ ⟨bf, bt⟩ := ⟨_, rfl⟩
  rw [← hr]
  have HR : Hid (r = orI (cmpI at_ bt) (cmpI af bf)) := hr
  clear hr
  go_enter Tryd.func45, Tryd.ntmps45
  go_wp2_with fail
  have HF1 : Hid (Blk ((w.alloc (.cells #[.int .i64 af, .int .i64 at_] wT)).alloc (.cells #[.int .i64 bf, .int .i64 bt] wT)) w.heap.size wT #[.int .i64 af, .int .i64 at_]) := (Blk.new w _ _).alloc _
  have HP1 : Hid (Blk ((w.alloc (.cells #[.int .i64 af, .int .i64 at_] wT)).alloc (.cells #[.int .i64 bf, .int .i64 bt] wT)) (w.heap.size + 1) wT #[.int .i64 bf, .int .i64 bt]) := by
    have h9 := Blk.new (w.alloc (.cells #[.int .i64 af, .int .i64 at_] wT)) wT #[.int .i64 bf, .int .i64 bt]
    simpa [Hid] using h9
  have HE1 : Hid (∃ os, (w.alloc (.cells #[.int .i64 af, .int .i64 at_] wT)).alloc (.cells #[.int .i64 bf, .int .i64 bt] wT) = grow w os) := ⟨_, by rw [alloc_eq_grow, alloc_eq_grow, grow_grow]⟩
  generalize (w.alloc (.cells #[.int .i64 af, .int .i64 at_] wT)).alloc (.cells #[.int .i64 bf, .int .i64 bt] wT) = w1 at *
  generalize hpb : w.heap.size + 1 = pb at *
  clear hpb
  have a0 : w1.cell? ⟨w.heap.size, 0, none⟩ = some (.int .i64 af) := HF1.out.cell 0
  have a1 : w1.cell? ⟨w.heap.size, 1, none⟩ = some (.int .i64 at_) := HF1.out.cell 1
  have b0 : w1.cell? ⟨pb, 0, none⟩ = some (.int .i64 bf) := HP1.out.cell 0
  have b1 : w1.cell? ⟨pb, 1, none⟩ = some (.int .i64 bt) := HP1.out.cell 1
  have hl1 := HF1.out.lt
  have hl2 := HP1.out.lt
  go_region_held3 (fun w' : World => w'.cell? ⟨w.heap.size, 0, none⟩ = some (.int .i64 af) ∧ w'.cell? ⟨w.heap.size, 1, none⟩ = some (.int .i64 at_) ∧ w'.cell? ⟨pb, 0, none⟩ = some (.int .i64 bf) ∧ w'.cell? ⟨pb, 1, none⟩ = some (.int .i64 bt)) (first | exact ⟨a0, a1, b0, b1⟩ | exact ⟨(HF1.out.alloc _).cell 0, (HF1.out.alloc _).cell 1, (HP1.out.alloc _).cell 0, (HP1.out.alloc _).cell 1⟩) (first
    | (go_at_call 41; refine (cmp7 _ _ _).mono ?_; rintro e w7 ⟨rfl, rfl⟩)
    | (go_at_call 53; refine (or_any7 _ (cmpI at_ bt) (cmpI af bf) (w1.heap.size + 1) _ (by have h9 := Sl.of_own (Own.new (n := 2) (sz := 1) (e := nT7) (base := 0) w1.drew #[.int .i64 (cmpI at_ bt), .int .i64 (cmpI af bf)] (by omega) (by omega) rfl); simp at h9; exact h9) (by simp)).mono ?_; rintro e w8 ⟨rfl, rfl⟩))
  rw [← HR.out]
  go_wp2_with fail
  go_ret
  obtain ⟨os, hos⟩ := HE1.out
  refine ⟨rfl, 1, os ++ #[.cells #[.int .i64 (cmpI at_ bt), .int .i64 (cmpI af bf)] nT7], ?_⟩
  rw [alloc_eq_grow, hos]
  show grow (grow (w.drewN 1) os) _ = _
  rw [grow_grow]

theorem from_any7 (af at_ bf bt : Int) (w : World) : Calls Tryd.prog 40 #[.agg #[.int .i64 af, .int .i64 at_], .agg #[.int .i64 bf, .int .i64 bt]] w fun e w' => e = .returned (.int .i64 (fromI ⟨af, at_⟩ ⟨bf, bt⟩)) ∧ ∃ q os, w' = grow (w.drewN q) os := by
  obtain ⟨r, hr⟩ : ∃ r, r = cmpI af bf := ⟨_, rfl⟩
  have HR := hide hr
  unfold fromI
  simp only
  rw [← hr]
  clear hr
  go_enter Tryd.func40, Tryd.ntmps40
  go_wp2_with fail
  refine (cmp7 _ _ _).mono ?_
  rw [← HR.out]
  rintro e w7 ⟨rfl, rfl⟩
  go_wp2_with fail
  go_ret
  exact ⟨rfl, 0, _, by rw [alloc_eq_grow, alloc_eq_grow, grow_grow]; rfl⟩

theorem cmpI_neg (x y : Int) : cmpI x y < 0 ↔ x < y := by
  unfold cmpI
  split
  · simp; omega
  · split
    · simp; omega
    · simp; omega
theorem cmpI_zero (x y : Int) : cmpI x y = 0 ↔ x = y := by
  unfold cmpI
  split
  · simp; omega
  · split
    · simp; omega
    · simp; omega
/-- the order of windows -/
def wlt (x y : Win) : Prop := x.t < y.t ∨ (x.t = y.t ∧ x.f < y.f)
instance (x y : Win) : Decidable (wlt x y) := by unfold wlt; exact inferInstance
theorem ordI_neg (x y : Win) : ordI x y < 0 ↔ wlt x y := by
  unfold ordI orI wlt
  have h1 := cmpI_zero x.t y.t
  have h2 := cmpI_neg x.t y.t
  have h3 := cmpI_neg x.f y.f
  split
  · rename_i h9
    have := h1.1 h9
    constructor
    · intro h; right; exact ⟨this, h3.1 h⟩
    · rintro (h | ⟨_, h⟩)
      · omega
      · exact h3.2 h
  · rename_i h9
    have h8 : ¬ x.t = y.t := fun h => h9 (h1.2 h)
    constructor
    · intro h; left; exact h2.1 h
    · rintro (h | ⟨h, _⟩)
      · exact h2.2 h
      · exact absurd h h8
theorem lt_ord (x y : Win) : ltOf ordI x y = decide (wlt x y) := by
  unfold ltOf
  exact decide_eq_decide.2 (ordI_neg x y)
theorem lt_from (x y : Win) : ltOf fromI x y = decide (x.f < y.f) := by
  unfold ltOf
  exact decide_eq_decide.2 (cmpI_neg x.f y.f)
theorem swo_ord : SWO (ltOf ordI) where
  irrefl x := by rw [lt_ord]; simp [wlt]
  trans x y z h1 h2 := by
    rw [lt_ord] at h1 h2 ⊢
    have a1 := of_decide_eq_true h1
    have a2 := of_decide_eq_true h2
    exact decide_eq_true (by unfold wlt at *; omega)
  ntrans x y z h1 h2 := by
    rw [lt_ord] at h1 h2 ⊢
    have a1 := of_decide_eq_false h1
    have a2 := of_decide_eq_false h2
    exact decide_eq_false (by unfold wlt at *; omega)
theorem swo_from : SWO (ltOf fromI) where
  irrefl x := by rw [lt_from]; simp
  trans x y z h1 h2 := by
    rw [lt_from] at h1 h2 ⊢
    have a1 := of_decide_eq_true h1
    have a2 := of_decide_eq_true h2
    exact decide_eq_true (by omega)
  ntrans x y z h1 h2 := by
    rw [lt_from] at h1 h2 ⊢
    have a1 := of_decide_eq_false h1
    have a2 := of_decide_eq_false h2
    exact decide_eq_false (by omega)

theorem grow_below {w : World} (q : Nat) (os : Array Obj) : Below w.heap.size w (grow (w.drewN q) os) := by
  refine ⟨rfl, rfl, rfl, ?_, fun k hk => ?_⟩
  · show w.heap.size ≤ (w.heap ++ os).size
    simp
  · show (w.heap ++ os)[k]? = w.heap[k]?
    rw [Array.getElem?_append_left hk]

/-- slices.SortFunc at windows -/
theorem sortf_any (v : Value) (D : List Win) (base g : Nat) (cf : Win → Win → Int) (w : World) (h : Own w base wT 2 v D.length (wins D)) (hn : D.length < 4611686018427387904) (hO : SWO (ltOf cf)) (eg : ∀ args w, (callFunc g args).run Tryd.prog w = .ok (.enter g args) w)
    (hc : ∀ (x y : Win) (W : World), Calls Tryd.prog g #[.agg x.cells.toArray, .agg y.cells.toArray] W fun e w' => e = .returned (.int .i64 (cf x y)) ∧ ∃ q os, w' = grow (W.drewN q) os) :
    Calls Tryd.prog 39 #[v, .func (.func g) #[] #[]] w fun e w' => e = .returned (.tuple #[]) ∧ ∃ E : List Win, E.Perm D ∧ E.Pairwise (fun a b => ltOf cf b a = false) ∧ Own w' base wT 2 v D.length (wins E) ∧ Fr (fun k => v.ownBlock = some k) w w' := by
  rcases h.2 with ⟨rfl, h0⟩ | ⟨g', cap, cur, rfl, _, hg', _⟩
  · have hD : D = [] := List.eq_nil_of_length_eq_zero h0
    subst hD
    refine (AnyF.slices_SortFunc_none Tryd.sortW none 0 _ w).mono ?_
    rintro e w' ⟨rfl, rfl⟩
    exact ⟨rfl, [], List.Perm.refl _, List.Pairwise.nil, h, Fr.refl _ _⟩
  · have hblk : g' < w.heap.size := (h.lt g' rfl).2
    refine (AnyQ.slices_SortFunc Tryd.sortW 2 Tryd.isAgg33 Tryd.sizeOf33 Win.cells (fun _ => rfl) (fun x v hv => by simp [Win.cells] at hv; rcases hv with rfl | rfl <;> rfl) cf hO g #[] g' 0 cap D.toArray w eg (fun m os dk hs x y => hc x y _) (holdsK_own h) hblk (by simpa using hn)).mono ?_
    rintro e w' ⟨rfl, d', n, os, hp, hs, rfl⟩
    have hsz : d'.size = D.length := by simpa using hp.1
    have hd : d'.toList.length = D.length := by simpa using hsz
    have h9 := own_putK (m := n) (E := d'.toList) h rfl hd
    have h10 : d'.toList.toArray = d' := by simp
    rw [h10] at h9
    have hgr : ∀ X : World, Below X.heap.size X (grow X os) := fun X => grow_below (w := X) 0 os
    refine ⟨rfl, d'.toList, ?_, ?_, h9.1.below (hgr _), ?_⟩
    · have h8 := hp.2.2
      have e1 : d'.extract 0 D.toArray.size = d' := by
        rw [show D.toArray.size = d'.size by simp [hsz]]
        exact Array.extract_size
      have e2 : D.toArray.extract 0 D.toArray.size = D.toArray := Array.extract_size
      rw [e1, e2] at h8
      exact h8
    · rw [List.pairwise_iff_getElem]
      intro i j hi hj hij
      have h8 := hs i j (Nat.zero_le _) hij (by simp at hj; simp; omega)
      simp at hi hj
      rw [getElem!_pos d' i hi, getElem!_pos d' j hj] at h8
      simpa using h8
    · exact (h9.2.mono (fun k _ hk => by subst hk; rfl)).trans (Fr.of_below (hgr _) : Fr (fun _ => False) _ _) (fun k _ hk => hk.elim)

theorem clone7 (v : Value) (xs : List Win) (n B : Nat) (w : World) (hs : Sl w B v 2 n (wins xs)) (hn : n ≤ 8796093022207) (hB : B ≤ w.heap.size) :
    Calls Tryd.prog 44 #[v] w fun e w' => ∃ v', e = .returned v' ∧ Own w' w.heap.size wT 2 v' n (wins xs) ∧ Below w.heap.size w w' := by
  obtain ⟨A, c, rfl, hnc⟩ := hs.form
  have HS := hide hs
  clear hs
  cases A with
  | none =>
    have hn0 : n = 0 := by
      rcases Nat.eq_zero_or_pos n with h | h
      · exact h
      · obtain ⟨_, _, _, h5⟩ := HS.out.inv
        obtain ⟨ad, had, _⟩ := h5 h
        cases had
    subst hn0
    have hx : wins xs = [] := List.eq_nil_of_length_eq_zero (by simpa using HS.out.inv.1)
    have HX := hide hx
    clear hx
    have hnil : ∀ W : World, (binOp .eql 28 (.slice none 0 c) (.slice none 0 0)).run Tryd.prog W = .ok (.bool true) W := fun W => by kernel_rfl
    go_enter Tryd.func44, Tryd.ntmps44
    go_wp2
    go_ret
    exact ⟨.slice none 0 0, rfl, by rw [HX.out]; exact Own.nil _ _ _ _, Below.refl _ _⟩
  | some ad =>
    have hnil : ∀ W : World, (binOp .eql 28 (.slice (some ad) n c) (.slice none 0 0)).run Tryd.prog W = .ok (.bool false) W := fun W => by kernel_rfl
    go_enter Tryd.func44, Tryd.ntmps44
    go_wp2_with (at_builtin; refine wpList_app rfl tyW (.tmp 5) (.tmp 6) rfl w.heap.size (n := 0) (m := n) (B := B) (xs := []) (news := wins xs) rfl rfl ?c1 ?c2 (wins_ok xs) (by omega) (by omega) (by simp) ?_)
    case c1 => exact Own.new w w.heap.size #[] (Nat.le_refl _) (by omega) rfl
    case c2 => exact HS.out.alloc hB _
    intro v1 w1 ha
    have HO : Hid (Own w1 w.heap.size wT 2 v1 n (wins xs)) := by simpa [Hid] using ha.own
    have HB1 := hide (((Below.refl w.heap.size w).alloc (Nat.le_refl _) _).trans (ha.fr.below (by simp) (fun k hk h => by have := own_eq h; omega)))
    clear ha
    go_wp2_with fail
    go_ret
    exact ⟨v1, rfl, HO.out, HB1.out⟩

end Go.Proofs.YtbnppocaeflghaaDoor
