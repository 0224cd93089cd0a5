/- cells: the order of places; cmp.Compare of strings. / Rows of structs in the words of the shelf's sort. / cells: slices.SortFunc at places. / cells: maps.Keys of a table's map, for every loop body. -/
import Derived.Test.YtkobaidamdffmaaQCellsBack03
import Derived.Deep.CutRange
import Derived.Sort.Grow
import Derived.Test.YtkobaidamdffmaaQCellsBack00
import Derived.Test.YtkobaidamdffmaaProg
import Derived.Shelf.SlSortCmp.NoneTotal
import Derived.Ground.SlsfProg
import Derived.Sort.MapsRangeIn
import Derived.RangeFuncNested
import Derived.RangeFuncGives
import Derived.Maps.AppendAt
import Derived.Shelf.Abstract
import Derived.TacticsInMore
import Derived.RegionIn
import Derived.LoopNIn
import Derived.LoopIn

namespace Go.Proofs.Ytkobaidamdffmaa
open Go.RowKit Go.Sort
set_option linter.unusedVariables false
set_option linter.unusedSimpArgs false

theorem strOf_toList (D : List Int) : (strOfNums D).toList = D.map (fun n => UInt8.ofNat n.toNat) := by
  rw [ByteArray.toList_eq, strOfNums_data]
theorem less_eq : ∀ (D E : List Int), Bytes8 D → Bytes8 E → Op.bytesLess (D.map (fun n => UInt8.ofNat n.toNat)) (E.map (fun n => UInt8.ofNat n.toNat)) = decide (cmpB D E < 0)
  | [], [], _, _ => rfl
  | [], _ :: _, _, _ => rfl
  | _ :: _, [], _, _ => rfl
  | d :: D, e :: E, h1, h2 => by
    have hd := h1 d List.mem_cons_self
    have he := h2 e List.mem_cons_self
    have ih := less_eq D E (fun c hc => h1 c (List.mem_cons_of_mem _ hc)) (fun c hc => h2 c (List.mem_cons_of_mem _ hc))
    rw [List.map_cons, List.map_cons, Op.bytesLess, cmpB, ih]
    have l1 : (UInt8.ofNat d.toNat < UInt8.ofNat e.toNat) ↔ d < e := by
      rw [UInt8.lt_iff_toNat_lt]
      simp
      omega
    have l2 : (UInt8.ofNat d.toNat = UInt8.ofNat e.toNat) ↔ d = e := by
      constructor
      · intro h
        have h3 := congrArg UInt8.toNat h
        simp only [UInt8.toNat_ofNat'] at h3
        omega
      · intro h; rw [h]
    by_cases h3 : d < e
    · simp [l1, h3]
    · by_cases h4 : e < d
      · have h5 : ¬ d = e := by omega
        simp [l1, l2, h3, h4, h5]
      · have h5 : d = e := by omega
        subst h5
        simp

theorem snan (w : World) (x : ByteArray) : Calls Try.prog 81 #[.string x] w fun e w' => e = .returned (.bool false) ∧ w' = w := by
  have h : (x.toList == x.toList) = true := by simp
  have h2 : (x.toList != x.toList) = false := by simp
  go_enter Try.func81, Try.ntmps81
  go_wp2_with fail
  go_ret
  exact ⟨by simp, rfl⟩
theorem scmp_any (D E : List Int) (w : World) (h1 : Bytes8 D) (h2 : Bytes8 E) : Calls Try.prog 70 #[.string (strOfNums D), .string (strOfNums E)] w fun e w' => e = .returned (.int .i64 (cmpB D E)) ∧ w' = w := by
  have k1 : Op.bytesLess (strOfNums D).toList (strOfNums E).toList = decide (cmpB D E < 0) := by
    rw [strOf_toList, strOf_toList]
    exact less_eq D E h1 h2
  have k2 : ((strOfNums D).toList == (strOfNums E).toList) = decide (cmpB D E = 0) := by
    rw [str_eq D E h1 h2]
    exact decide_eq_decide.2 (cmpB_zero D E).symm
  have hn : cmpB D E = -1 ∨ cmpB D E = 0 ∨ cmpB D E = 1 := by
    clear k1 k2
    induction D generalizing E with
    | nil => cases E <;> simp [cmpB]
    | cons d D ih =>
      cases E with
      | nil => simp [cmpB]
      | cons e E =>
        unfold cmpB
        have := ih E (fun c hc => h1 c (List.mem_cons_of_mem _ hc)) (fun c hc => h2 c (List.mem_cons_of_mem _ hc))
        split
        · simp
        · split
          · simp
          · exact this
  generalize strOfNums D = s at *
  generalize strOfNums E = t at *
  generalize cmpB D E = c at *
  rcases hn with rfl | rfl | rfl
  all_goals
    simp only [show ((-1 : Int) < 0) = True by decide, show ((-1 : Int) = 0) = False by decide, show ((0 : Int) < 0) = False by decide, show ((1 : Int) < 0) = False by decide, show ((1 : Int) = 0) = False by decide, decide_true, decide_false] at k1 k2
    go_enter Try.func70, Try.ntmps70
    go_wp2_with (go_at_call 81; refine (snan _ _).mono ?_; rintro e w' ⟨rfl, rfl⟩)
    go_ret
    exact ⟨rfl, rfl⟩

/-- the order of places -/
def ordP (x y : PK) : Int := if wlt x.win y.win then -1 else if wlt y.win x.win then 1 else cmpB x.b y.b
theorem grow_trans {w w1 w2 : World} (h : ∃ q os, w1 = grow (w.drewN q) os) (k : ∃ q os, w2 = grow (w1.drewN q) os) : ∃ q os, w2 = grow (w.drewN q) os := by
  obtain ⟨q, os, rfl⟩ := h
  obtain ⟨q', os', rfl⟩ := k
  refine ⟨q + q', os ++ os', ?_⟩
  show grow (grow ((w.drewN q).drewN q') os) os' = _
  rw [grow_grow]
  congr 1
  rw [World.drewN_drewN]
theorem grow_alloc (w : World) (o : Obj) : ∃ q os, w.alloc o = grow (w.drewN q) os := ⟨0, _, by rw [alloc_eq_grow]; rfl⟩
theorem grow_bel {w w' : World} (h : ∃ q os, w' = grow (w.drewN q) os) : Below w.heap.size w w' := by
  obtain ⟨q, os, rfl⟩ := h
  exact grow_below q os
theorem less_grow7 (af at_ bf bt : Int) (w : World) : Calls Try.prog 69 #[.agg #[.int .i64 af, .int .i64 at_], .agg #[.int .i64 bf, .int .i64 bt]] w fun e w' => e = .returned (.bool (decide (wlt ⟨af, at_⟩ ⟨bf, bt⟩))) ∧ ∃ q os, w' = grow (w.drewN q) os := by
  obtain ⟨r, hr⟩ : ∃ r : Bool, r = decide (wlt ⟨af, at_⟩ ⟨bf, bt⟩) := ⟨_, rfl⟩
  rw [← hr]
  have HR : Hid (r = decide (ordI ⟨af, at_⟩ ⟨bf, bt⟩ < 0)) := by show _ = _; rw [hr]; exact decide_eq_decide.2 (ordI_neg _ _).symm
  clear hr
  go_enter Try.func69, Try.ntmps69
  go_wp2_with fail
  refine (order_any7 af at_ bf bt _).mono ?_
  rintro e w2 ⟨rfl, q, os, rfl⟩
  have HB2 : Hid (∃ q' os', grow (((w.alloc (.cells #[.int .i64 af, .int .i64 at_] wT)).alloc (.cells #[.int .i64 bf, .int .i64 bt] wT)).drewN q) os = grow (w.drewN q') os') := ⟨q, _, by rw [alloc_eq_grow, alloc_eq_grow, grow_grow]; show grow (grow (w.drewN q) _) os = _; rw [grow_grow]⟩
  generalize grow (World.drewN _ q) os = w3 at *
  generalize ordI ⟨af, at_⟩ ⟨bf, bt⟩ = x at *
  go_wp2_with fail
  go_ret
  rw [HR.out]
  exact ⟨rfl, HB2.out⟩

set_option maxHeartbeats 4000000 in
theorem pord_any (x y : PK) (w : World) : Calls Try.prog 51 #[.agg #[.string (strOfNums x.b), .int .i64 x.f, .int .i64 x.t], .agg #[.string (strOfNums y.b), .int .i64 y.f, .int .i64 y.t]] w fun e w' => e = .returned (.int .i64 (ordP x y)) ∧ ∃ q os, w' = grow (w.drewN q) os := by
  obtain ⟨xb, xf, xt, xo⟩ := x
  obtain ⟨yb, yf, yt, yo⟩ := y
  have HSC := hide (fun W => scmp_any xb yb W xo.1 yo.1)
  obtain ⟨r, hr⟩ : ∃ r, r = ordP ⟨xb, xf, xt, xo⟩ ⟨yb, yf, yt, yo⟩ := ⟨_, rfl⟩
  rw [← hr]
  have HR : Hid (r = if wlt ⟨xf, xt⟩ ⟨yf, yt⟩ then -1 else if wlt ⟨yf, yt⟩ ⟨xf, xt⟩ then 1 else cmpB xb yb) := hr
  simp only
  generalize hxs : strOfNums xb = xs at *
  generalize hys : strOfNums yb = ys at *
  clear hr hxs hys
  have HG : Hid (∃ q os, ((w.alloc (.cells #[.string xs, .int .i64 xf, .int .i64 xt] plT)).alloc (.cells #[.string ys, .int .i64 yf, .int .i64 yt] plT)) = grow (w.drewN q) os) := grow_trans (grow_alloc _ _) (grow_alloc _ _)
  have HP : Hid (Blk ((w.alloc (.cells #[.string xs, .int .i64 xf, .int .i64 xt] plT)).alloc (.cells #[.string ys, .int .i64 yf, .int .i64 yt] plT)) w.heap.size plT #[.string xs, .int .i64 xf, .int .i64 xt]) := (Blk.new w _ _).alloc _
  have HQ : Hid (Blk ((w.alloc (.cells #[.string xs, .int .i64 xf, .int .i64 xt] plT)).alloc (.cells #[.string ys, .int .i64 yf, .int .i64 yt] plT)) (w.heap.size + 1) plT #[.string ys, .int .i64 yf, .int .i64 yt]) := by
    have h9 := Blk.new (w.alloc (.cells #[.string xs, .int .i64 xf, .int .i64 xt] plT)) plT #[.string ys, .int .i64 yf, .int .i64 yt]
    simpa [Hid] using h9
  go_enter Try.func51, Try.ntmps51
  go_wp2_with fail
  generalize (w.alloc (.cells #[.string xs, .int .i64 xf, .int .i64 xt] plT)).alloc (.cells #[.string ys, .int .i64 yf, .int .i64 yt] plT) = w1 at *
  obtain ⟨pb, hpb⟩ : ∃ pb, pb = w.heap.size := ⟨_, rfl⟩
  obtain ⟨qb, hqb⟩ : ∃ qb, qb = w.heap.size + 1 := ⟨_, rfl⟩
  rw [← hqb] at HQ ⊢
  rw [← hpb] at HP ⊢
  clear hpb hqb
  refine (less_grow7 xf xt yf yt w1).mono ?_
  rintro e w2 ⟨rfl, hg2⟩
  have HG2 := hide (grow_trans HG.out hg2)
  have HP2 := hide (HP.out.below (grow_bel hg2) HP.out.lt)
  have HQ2 := hide (HQ.out.below (grow_bel hg2) HQ.out.lt)
  clear hg2
  by_cases h1 : wlt ⟨xf, xt⟩ ⟨yf, yt⟩
  · have HF : Hid (r = -1) := by rw [Hid, HR.out, if_pos h1]
    rw [decide_eq_true h1]
    clear h1
    go_wp2_with fail
    go_ret
    rw [HF.out]
    exact ⟨rfl, HG2.out⟩
  · have HF : Hid (r = if wlt ⟨yf, yt⟩ ⟨xf, xt⟩ then 1 else cmpB xb yb) := by rw [Hid, HR.out, if_neg h1]
    rw [decide_eq_false h1]
    clear h1
    have p1 : w2.cell? ⟨pb, 1, none⟩ = some (.int .i64 xf) := HP2.out.cell 1
    have p2 : w2.cell? ⟨pb, 2, none⟩ = some (.int .i64 xt) := HP2.out.cell 2
    have q1 : w2.cell? ⟨qb, 1, none⟩ = some (.int .i64 yf) := HQ2.out.cell 1
    have q2 : w2.cell? ⟨qb, 2, none⟩ = some (.int .i64 yt) := HQ2.out.cell 2
    have hpl := HP2.out.lt
    have hql := HQ2.out.lt
    go_wp2_with fail
    refine (less_grow7 yf yt xf xt w2).mono ?_
    rintro e w3 ⟨rfl, hg3⟩
    have HG3 := hide (grow_trans HG2.out hg3)
    have HP3 := hide (HP2.out.below (grow_bel hg3) HP2.out.lt)
    have HQ3 := hide (HQ2.out.below (grow_bel hg3) HQ2.out.lt)
    clear hg3 p1 p2 q1 q2 hpl hql
    by_cases h2 : wlt ⟨yf, yt⟩ ⟨xf, xt⟩
    · have HE : Hid (r = 1) := by rw [Hid, HF.out, if_pos h2]
      rw [decide_eq_true h2]
      clear h2
      go_wp2_with fail
      go_ret
      rw [HE.out]
      exact ⟨rfl, HG3.out⟩
    · have HE : Hid (r = cmpB xb yb) := by rw [Hid, HF.out, if_neg h2]
      rw [decide_eq_false h2]
      clear h2
      have p0 : w3.cell? ⟨pb, 0, none⟩ = some (.string xs) := HP3.out.cell 0
      have q0 : w3.cell? ⟨qb, 0, none⟩ = some (.string ys) := HQ3.out.cell 0
      have hpl := HP3.out.lt
      have hql := HQ3.out.lt
      go_wp2_with fail
      refine (HSC.out w3).mono ?_
      rintro e w4 ⟨rfl, rfl⟩
      go_wp2_with fail
      go_ret
      rw [HE.out]
      exact ⟨rfl, HG3.out⟩

end Go.Proofs.Ytkobaidamdffmaa

namespace Go.Proofs.Ytkobaidamdffmaa
open Go.RowKit Go.Sort
set_option linter.unusedVariables false
set_option linter.unusedSimpArgs false

section
variable {α : Type} [Inhabited α] {enc : α → List Value} {sz : Nat}
omit [Inhabited α] in
theorem gen_get (hf : ∀ x, (enc x).length = sz) (D : List α) (k r : Nat) (hk : k < D.length) (hr : r < sz) : (D.flatMap enc)[k * sz + r]? = (enc D[k])[r]? := by
  have h := part_of enc sz hf D k hk
  rw [← h, List.getElem?_take, if_pos hr, List.getElem?_drop]
theorem gen_flat (hf : ∀ x, (enc x).length = sz) (hs : 0 < sz) (D : List α) : (flatK enc sz D.toArray).toList = D.flatMap enc := by
  apply List.ext_getElem?
  intro t
  by_cases ht : t < D.length * sz
  · have hk : t / sz < D.length := Nat.div_lt_of_lt_mul (by rw [Nat.mul_comm]; exact ht)
    have hr : t % sz < sz := Nat.mod_lt _ hs
    have e1 : t = t / sz * sz + t % sz := (Nat.div_add_mod' t sz).symm
    have h1 : (flatK enc sz D.toArray).toList[t]? = some ((enc D.toArray[t / sz]!)[t % sz]!) := by
      simp [flatK, ht]
    have h2 := gen_get hf D (t / sz) (t % sz) hk hr
    rw [← e1] at h2
    rw [h1, h2]
    have h3 : D.toArray[t / sz]! = D[t / sz] := by simp [hk]
    rw [h3]
    have h4 : t % sz < (enc D[t / sz]).length := by rw [hf]; exact hr
    rw [List.getElem?_eq_getElem h4, getElem!_pos (enc D[t / sz]) (t % sz) h4]
  · rw [List.getElem?_eq_none (by simp [flatK]; omega), List.getElem?_eq_none (by rw [flat_len enc sz hf]; omega)]
theorem gen_holds (hf : ∀ x, (enc x).length = sz) (hs : 0 < sz) {w : World} {base n g cap e : Nat} {D : List α} (h : Own w base e sz (.slice (some ⟨g, 0, none⟩) n cap) n (D.flatMap enc)) : HoldsK enc sz w g 0 D.toArray := by
  intro j hj
  have hsz : (flatK enc sz D.toArray).size = (D.flatMap enc).length := by rw [← gen_flat hf hs, Array.length_toList]
  have hj2 : j < (D.flatMap enc).length := by omega
  rw [Nat.zero_add]
  have hadd : (⟨g, 0, none⟩ : Addr).add j = ⟨g, j, none⟩ := by unfold Addr.add; split <;> simp_all
  have h1 := h.cells (g := g) rfl j _ (List.getElem?_eq_getElem hj2)
  rw [hadd] at h1
  have h2 : (flatK enc sz D.toArray)[j]! = (D.flatMap enc)[j] := by
    rw [getElem!_pos (flatK enc sz D.toArray) j hj, ← Array.getElem_toList]
    congr 1
    exact gen_flat hf hs D
  obtain ⟨cs, hb⟩ := h.typed g rfl
  exact ⟨by rw [h1, h2]; rfl, hb.frozen j⟩
theorem gen_putK (hf : ∀ x, (enc x).length = sz) (hs : 0 < sz) {w : World} {base n g cap e m : Nat} {D E : List α} (h : Own w base e sz (.slice (some ⟨g, 0, none⟩) n cap) n (D.flatMap enc)) (hE : E.length = n) :
    Own (putRowK enc sz (Go.Sort.ahead w m) g 0 E.toArray) base e sz (.slice (some ⟨g, 0, none⟩) n cap) n (E.flatMap enc) ∧ Fr (fun k => k = g) w (putRowK enc sz (Go.Sort.ahead w m) g 0 E.toArray) := by
  constructor
  · refine ⟨by rw [flat_len enc sz hf, hE], ?_⟩
    rcases h.2 with ⟨h1, _⟩ | ⟨g', cap', cur, h1, h2, h3, h4, h5, h6, h7⟩
    · cases h1
    · injection h1 with h1 _ h8
      injection h1 with h1
      injection h1 with h1
      subst h1
      subst h8
      refine .inr ⟨g, cap, putCells id 0 (flatK enc sz E.toArray) cur, rfl, h2, ?_, h4, h5, by simpa [putCells] using h6, ?_⟩
      · show ((Go.Sort.ahead w m).heap.modify g (onCells (putCells id 0 (flatK enc sz E.toArray))))[g]? = _
        rw [Array.getElem?_modify, if_pos rfl]
        show (w.heap[g]?).map _ = _
        rw [h3]
        rfl
      · rw [← gen_flat hf hs]
        have hsz : (flatK enc sz E.toArray).size = n * sz := by rw [← Array.length_toList, gen_flat hf hs, flat_len enc sz hf, hE]
        apply List.ext_getElem?
        intro t
        rw [List.getElem?_take]
        by_cases ht : t < n * sz
        · have hc : t < cur.size := by
            have := Nat.mul_le_mul_right sz h4
            omega
          rw [if_pos ht]
          simp only [putCells, Array.getElem?_toList, Array.getElem?_mapIdx, Array.getElem?_eq_getElem hc, Option.map_some]
          rw [if_pos ⟨by omega, by omega⟩, Nat.sub_zero, getElem!_pos (flatK enc sz E.toArray) t (by omega), Array.getElem?_eq_getElem (by omega)]
          rfl
        · rw [if_neg ht, List.getElem?_eq_none (by rw [Array.length_toList]; omega)]
  · refine ⟨rfl, rfl, rfl, ?_, fun k hk hne => ?_⟩
    · show w.heap.size ≤ ((Go.Sort.ahead w m).heap.modify g _).size
      rw [Array.size_modify]
      exact Nat.le_refl _
    · show ((Go.Sort.ahead w m).heap.modify g _)[k]? = _
      rw [Array.getElem?_modify, if_neg (fun h9 => hne h9.symm)]
      rfl
end

end Go.Proofs.Ytkobaidamdffmaa

namespace Go.Proofs
open Go.Shelf Go.Lib
def Try.sortP_ren : Go.Shelf.Ren := ⟨fun | 6 => 78 | 15 => 84 | 14 => 83 | 28 => 95 | 29 => 96 | 20 => 87 | 21 => 88 | 22 => 89 | 23 => 90 | 24 => 91 | 25 => 92 | 26 => 93 | 27 => 94 | 46 => 98 | 47 => 99 | 48 => 100 | 49 => 101 | 50 => 102 | 57 => 103 | n => n, fun | 22 => 91 | 24 => 87 | 25 => 122 | 3 => 3 | 39 => 126 | 0 => 0 | 53 => 158 | 55 => 160 | 4 => 4 | 46 => 152 | 45 => 151 | 50 => 97 | 5 => 5 | 9 => 9 | 66 => 162 | 70 => 166 | 76 => 168 | 77 => 169 | n => n, fun | n => n⟩
theorem Try.sortP : Go.Proofs.SlLaysF0.n6 Try.prog Try.sortP_ren := {
  mixed := by kernel_rfl
  f6 := ⟨Try.f78.name, by decide, Try.func78.trans (congrArg some (by kernel_rfl))⟩
  f14 := ⟨Try.f83.name, by decide, Try.func83.trans (congrArg some (by kernel_rfl))⟩
  f15 := Try.func84.trans (congrArg some (by kernel_rfl))
  f20 := ⟨Try.f87.name, by decide, Try.func87.trans (congrArg some (by kernel_rfl))⟩
  f21 := ⟨Try.f88.name, by decide, Try.func88.trans (congrArg some (by kernel_rfl))⟩
  f22 := ⟨Try.f89.name, by decide, Try.func89.trans (congrArg some (by kernel_rfl))⟩
  f23 := ⟨Try.f90.name, by decide, Try.func90.trans (congrArg some (by kernel_rfl))⟩
  f24 := ⟨Try.f91.name, by decide, Try.func91.trans (congrArg some (by kernel_rfl))⟩
  f25 := ⟨Try.f92.name, by decide, Try.func92.trans (congrArg some (by kernel_rfl))⟩
  f26 := ⟨Try.f93.name, by decide, Try.func93.trans (congrArg some (by kernel_rfl))⟩
  f27 := ⟨Try.f94.name, by decide, Try.func94.trans (congrArg some (by kernel_rfl))⟩
  f28 := Try.func95.trans (congrArg some (by kernel_rfl))
  f29 := Try.func96.trans (congrArg some (by kernel_rfl))
  f46 := ⟨Try.f98.name, by decide, Try.func98.trans (congrArg some (by kernel_rfl))⟩
  f47 := Try.func99.trans (congrArg some (by kernel_rfl))
  f48 := Try.func100.trans (congrArg some (by kernel_rfl))
  f49 := ⟨Try.f101.name, by decide, Try.func101.trans (congrArg some (by kernel_rfl))⟩
  f50 := ⟨Try.f102.name, by decide, Try.func102.trans (congrArg some (by kernel_rfl))⟩
  f57 := ⟨Try.f103.name, by decide, Try.func103.trans (congrArg some (by kernel_rfl))⟩
  t0 := Try.underlying0
  a0 := Try.isAgg0
  z0 := Try.sizeOf0
  v0 := Try.zeroValue0
  t3 := Try.underlying3
  a3 := Try.isAgg3
  z3 := Try.sizeOf3
  v3 := Try.zeroValue3
  t4 := Try.underlying4
  a4 := Try.isAgg4
  z4 := Try.sizeOf4
  v4 := Try.zeroValue4
  t5 := Try.underlying5
  a5 := Try.isAgg5
  z5 := Try.sizeOf5
  v5 := Try.zeroValue5
  t9 := Try.underlying9
  a9 := Try.isAgg9
  z9 := Try.sizeOf9
  v9 := Try.zeroValue9
  t22 := Try.underlying91
  a22 := Try.isAgg91
  z22 := Try.sizeOf91
  v22 := Try.zeroValue91
  t25 := Try.underlying122
  a25 := Try.isAgg122
  z25 := Try.sizeOf122
  v25 := Try.zeroValue122
  t39 := Try.underlying126
  a39 := Try.isAgg126
  z39 := Try.sizeOf126
  v39 := Try.zeroValue126
  t45 := Try.underlying151
  a45 := Try.isAgg151
  z45 := Try.sizeOf151
  v45 := Try.zeroValue151
  t46 := Try.underlying152
  a46 := Try.isAgg152
  z46 := Try.sizeOf152
  v46 := Try.zeroValue152
  t50 := Try.underlying97
  a50 := Try.isAgg97
  z50 := Try.sizeOf97
  v50 := Try.zeroValue97
  t53 := Try.underlying158
  a53 := Try.isAgg158
  z53 := Try.sizeOf158
  v53 := Try.zeroValue158
  t55 := Try.underlying160
  a55 := Try.isAgg160
  z55 := Try.sizeOf160
  v55 := Try.zeroValue160
  t66 := Try.underlying162
  a66 := Try.isAgg162
  z66 := Try.sizeOf162
  v66 := Try.zeroValue162
  t70 := Try.underlying166
  a70 := Try.isAgg166
  z70 := Try.sizeOf166
  v70 := Try.zeroValue166
  t76 := Try.underlying168
  a76 := Try.isAgg168
  z76 := Try.sizeOf168
  v76 := Try.zeroValue168
  t77 := Try.underlying169
  a77 := Try.isAgg169
  z77 := Try.sizeOf169
  v77 := Try.zeroValue169 }
end Go.Proofs
namespace Go.Proofs.Ytkobaidamdffmaa
open Go.RowKit Go.Sort
set_option linter.unusedVariables false
set_option linter.unusedSimpArgs false

def PK.cells (p : PK) : List Value := [.string (strOfNums p.b), .int .i64 p.f, .int .i64 p.t]
theorem PK.cells3 (p : PK) : p.cells.length = 3 := rfl
def pls (D : List PK) : List Value := D.flatMap PK.cells
instance : Inhabited PK := ⟨⟨[], 0, 1, fun c hc => (by cases hc), by simp, by decide⟩⟩
def ltP (x y : PK) : Prop := wlt x.win y.win ∨ (x.win = y.win ∧ cmpB x.b y.b < 0)
theorem wlt_tri (x y : Win) : wlt x y ∨ x = y ∨ wlt y x := by
  obtain ⟨a, b⟩ := x
  obtain ⟨c, d⟩ := y
  unfold wlt
  simp only [Win.mk.injEq]
  omega
theorem wlt_irr (x : Win) : ¬ wlt x x := by unfold wlt; omega
theorem wlt_trans {x y z : Win} (h : wlt x y) (k : wlt y z) : wlt x z := by unfold wlt at *; omega
theorem wlt_asym {x y : Win} (h : wlt x y) : ¬ wlt y x := fun k => wlt_irr x (wlt_trans h k)
theorem ordP_neg (x y : PK) : ordP x y < 0 ↔ ltP x y := by
  unfold ordP ltP
  split
  · rename_i h; simp [h]
  · rename_i h
    split
    · rename_i h2
      constructor
      · intro h9; omega
      · rintro (h9 | ⟨h9, _⟩)
        · exact absurd h9 h
        · rw [h9] at h2; exact absurd h2 (wlt_irr _)
    · rename_i h2
      have he : x.win = y.win := by
        rcases wlt_tri x.win y.win with h9 | h9 | h9
        · exact absurd h9 h
        · exact h9
        · exact absurd h9 h2
      simp [h, he]
      intro h9
      rw [he] at h
      exact absurd h9 (wlt_irr _)
theorem ltP_irr (x : PK) : ¬ ltP x x := by
  rintro (h | ⟨_, h⟩)
  · exact wlt_irr _ h
  · have := (cmpB_zero x.b x.b).2 rfl; omega
theorem ltP_trans {x y z : PK} (h : ltP x y) (k : ltP y z) : ltP x z := by
  rcases h with h | ⟨h, h2⟩
  · rcases k with k | ⟨k, _⟩
    · exact .inl (wlt_trans h k)
    · exact .inl (by rw [← k]; exact h)
  · rcases k with k | ⟨k, k2⟩
    · exact .inl (by rw [h]; exact k)
    · exact .inr ⟨h.trans k, cmpB_trans _ _ _ h2 k2⟩
theorem ltP_tri (x y : PK) : ltP x y ∨ x = y ∨ ltP y x := by
  rcases wlt_tri x.win y.win with h | h | h
  · exact .inl (.inl h)
  · have ha := cmpB_anti x.b y.b
    by_cases h1 : cmpB x.b y.b < 0
    · exact .inl (.inr ⟨h, h1⟩)
    · by_cases h2 : cmpB y.b x.b < 0
      · exact .inr (.inr (.inr ⟨h.symm, h2⟩))
      · have h3 : x.b = y.b := (cmpB_zero _ _).1 (by omega)
        refine .inr (.inl ((PK.eq_iff x y).2 ⟨h3, ?_⟩))
        unfold PK.win at h
        injection h with h4 h5
        exact ⟨h4, h5⟩
  · exact .inr (.inr (.inl h))
def leP (x y : PK) : Prop := ¬ ltP y x
theorem leP_anti {x y : PK} (h : leP x y) (k : leP y x) : x = y := by
  rcases ltP_tri x y with h1 | h1 | h1
  · exact absurd h1 k
  · exact h1
  · exact absurd h1 h
theorem swo_P : SWO (ltOf ordP) where
  irrefl x := by
    show decide (ordP x x < 0) = false
    exact decide_eq_false (fun h => ltP_irr x ((ordP_neg _ _).1 h))
  trans x y z h1 h2 := by
    have a1 := (ordP_neg _ _).1 (of_decide_eq_true h1)
    have a2 := (ordP_neg _ _).1 (of_decide_eq_true h2)
    exact decide_eq_true ((ordP_neg _ _).2 (ltP_trans a1 a2))
  ntrans x y z h1 h2 := by
    have a1 : ¬ ltP x y := fun h => of_decide_eq_false h1 ((ordP_neg _ _).2 h)
    have a2 : ¬ ltP y z := fun h => of_decide_eq_false h2 ((ordP_neg _ _).2 h)
    refine decide_eq_false (fun h9 => ?_)
    have h := (ordP_neg _ _).1 h9
    rcases ltP_tri x y with h3 | h3 | h3
    · exact a1 h3
    · rw [h3] at h; exact a2 h
    · exact a2 (ltP_trans h3 h)
theorem sortedP_eq {A B : List PK} (h : A.Perm B) (hA : A.Pairwise leP) (hB : B.Pairwise leP) : A = B :=
  h.eq_of_pairwise (le := leP) (fun a b _ _ => leP_anti) hA hB

theorem grow_below3 {w : World} (os : Array Obj) : Below w.heap.size w (grow w os) := by
  have h := grow_below (w := w) 0 os
  exact h
/-- slices.SortFunc at places -/
theorem psort_any (v : Value) (K : List PK) (base : Nat) (w : World) (h : Own w base plT 3 v K.length (pls K)) (hn : K.length < 4611686018427387904) :
    Calls Try.prog 78 #[v, .func (.func 51) #[] #[]] w fun e w' => e = .returned (.tuple #[]) ∧ ∃ E : List PK, E.Perm K ∧ E.Pairwise leP ∧ Own w' base plT 3 v K.length (pls E) ∧ Fr (fun k => v.ownBlock = some k) w w' := by
  rcases h.2 with ⟨rfl, h0⟩ | ⟨g', cap, cur, rfl, _, hg', _⟩
  · have hD : K = [] := List.eq_nil_of_length_eq_zero h0
    subst hD
    refine (AnyF.slices_SortFunc_none Try.sortP none 0 _ w).mono ?_
    rintro e w' ⟨rfl, rfl⟩
    exact ⟨rfl, [], List.Perm.refl _, List.Pairwise.nil, h, Fr.refl _ _⟩
  · have hblk : g' < w.heap.size := (h.lt g' rfl).2
    unfold pls at h
    have eg : ∀ args w, (callFunc 51 args).run Try.prog w = .ok (.enter 51 args) w := fun args w => by kernel_rfl
    have hcm : CmpLays Try.prog 51 #[] PK.cells 3 ordP g' 0 K.toArray.size w := by
      intro m os dk hs x y
      exact pord_any x y _
    refine (AnyQ.slices_SortFunc Try.sortP 3 Try.isAgg87 Try.sizeOf87 PK.cells (fun _ => rfl) (fun x v hv => ?_) ordP swo_P 51 #[] g' 0 cap K.toArray w eg hcm (gen_holds PK.cells3 (Nat.succ_pos 2) h) hblk (by simp; omega)).mono ?_
    · simp [PK.cells] at hv
      rcases hv with rfl | rfl | rfl <;> rfl
    rintro e w' ⟨rfl, d', n, os, hp, hs, rfl⟩
    have hsz : d'.size = K.length := by simpa using hp.1
    have hd : d'.toList.length = K.length := by simpa using hsz
    have h9 := gen_putK (m := n) (E := d'.toList) PK.cells3 (Nat.succ_pos 2) h hd
    have h10 : d'.toList.toArray = d' := by simp
    rw [h10] at h9
    refine ⟨rfl, d'.toList, ?_, ?_, h9.1.below (grow_below3 os), ?_⟩
    · have h8 := hp.2.2
      have e1 : d'.extract 0 K.toArray.size = d' := by
        rw [show K.toArray.size = d'.size by simp [hsz]]
        exact Array.extract_size
      have e2 : K.toArray.extract 0 K.toArray.size = K.toArray := Array.extract_size
      rw [e1, e2] at h8
      exact h8
    · rw [List.pairwise_iff_getElem]
      intro i j hi hj hij
      have h8 := hs i j (Nat.zero_le _) hij (by simp at hj; simp; omega)
      simp at hi hj
      rw [getElem!_pos d' i hi, getElem!_pos d' j hj] at h8
      have h7 : ¬ ltP d'[j] d'[i] := fun h9 => of_decide_eq_false h8 ((ordP_neg _ _).2 h9)
      simpa [leP] using h7
    · exact (h9.2.mono (fun k _ hk => by subst hk; rfl)).trans (Fr.of_below (grow_below3 os) : Fr nob _ _) (fun k _ hk => hk.elim)

end Go.Proofs.Ytkobaidamdffmaa

namespace Go.Proofs.Ytkobaidamdffmaa
open Go.RowKit Go.Sort
set_option linter.unusedVariables false
set_option linter.unusedSimpArgs false

theorem Fr.grown {r : Nat} {w w' : World} (h : Fr (fun j => j = r) w w') : w.grownBy w' (some r) := ⟨h.os, h.tape, h.output, h.size, fun k hk hn => h.block k hk (fun e => hn (by rw [e]))⟩
section
variable {α β : Type} {K : α → Value} {V : β → Value} {w w' : World} {b r : Nat} {L D : List (α × β)}
theorem ItR.of_walks (h : ItR w b r K V L D) (hk : KeepsWalks w w') : ItR w' b r K V L D := by
  obtain ⟨es, clock, since, seen, c0, I, hb, h1, h2, hr, h3⟩ := h
  exact ⟨es, clock, since, seen, c0, I, hk.same b _ hb rfl, h1, h2, hk.same r _ hr rfl, h3⟩
theorem ItR.iter_walk (h : ItR w b r K V L D) : ∃ o : Obj, w.heap[r]? = some o ∧ o.isWalk = true := by
  obtain ⟨es, clock, since, seen, c0, I, hb, h1, h2, hr, h3⟩ := h
  exact ⟨_, hr, rfl⟩
variable {F : Fence} {n : Nat} {P : Program} {t k e : TypeId} {ops : Array Oper} {rest : List Oper} {o : Oper} {a : Act} {Q : Exit → Act → World → Prop}
theorem wpListIn_range_it (hg : o.guard = none) (m : Operand) (hop : o.op = Op.range t m) (ht : P.underlying t = some (.map k e)) (hm : a.eval m = .map (some b)) (h : MapR w b K V L)
    (hK : ∀ ob, ItR (w.alloc ob) b w.heap.size K V L [] → wpListIn F n P ops Q rest (a.put o.dst (.pointer (some ⟨w.heap.size, 0, none⟩))) (w.alloc ob)) : wpListIn F n P ops Q (o :: rest) a w := by
  refine wpListIn_plain hg fun K' hK' => ?_
  obtain ⟨ob, hrun, hi⟩ := h.range ht
  unfold Oper.wpIn
  refine ⟨?_, ?_⟩
  · simp [Oper.about, hop]
  · rw [Oper.semAt_plain F _ _ (by rw [hop]; intro c hc'; cases hc')]
    simp [execOp, hop, hm, hrun, Result.andThen]
    exact hK' _ _ (hK ob hi)
theorem wpListIn_next_it (hg : o.guard = none) (it : Operand) (hop : o.op = Op.next it false) (hit : a.eval it = .pointer (some ⟨r, 0, none⟩)) (h : ItR w b r K V L D)
    (hDone : L.Perm D → wpListIn F n P ops Q rest (a.put o.dst (.tuple #[.bool false])) w)
    (hMore : ∀ w' kv vv, ItStep P w b r K V L D w' kv vv → wpListIn F n P ops Q rest (a.put o.dst (.tuple #[.bool true, kv, vv])) w') : wpListIn F n P ops Q (o :: rest) a w := by
  refine wpListIn_plain hg fun K' hK' => ?_
  unfold Oper.wpIn
  refine ⟨by simp [Oper.about, hop], ?_⟩
  rw [Oper.semAt_plain F _ _ (by rw [hop]; intro c hc'; cases hc')]
  rcases h.next (P := P) o.type with ⟨h0, hrun⟩ | ⟨p, w', hp, hrun, hi, hlt, hf, hsz, hen⟩
  · simp [execOp, hop, hit, hrun, Result.andThen]
    exact hK' _ _ (hDone h0)
  · simp [execOp, hop, hit, hrun, Result.andThen]
    exact hK' _ _ (hMore w' _ _ ⟨p, rfl, rfl, hp, hi, hlt, hf, hsz, hen⟩)
end

set_option maxRecDepth 100000 in
set_option maxHeartbeats 2000000 in
theorem pkeys1_in (n : Nat) (hn : 1 ≤ n) (l Bm b : Nat) (L : List (PK × CV)) (J Jx : List PK → World → Prop)
    (hY : ∀ pre x W, J pre W → pre.length < L.length → YieldAt Fence.wide (n - 1) Try.prog l #[plV x] W fun e W' => (e = .returned (.bool true) ∧ J (pre ++ [x]) W' ∧ KeepsWalks W W') ∨ (e = .returned (.bool false) ∧ Jx (pre ++ [x]) W'))
    (W : World) (hJ : AbidesFrom W.heap.size J) (hm : W.cell? ⟨Bm, 0, none⟩ = some (.map (some b))) (hown : MapR W b plV cvV L) (h0 : J [] W) :
    CallsIn Fence.wide n Try.prog 79 #[.func (.yield l) #[] #[], .pointer (some ⟨Bm, 0, none⟩)] W fun e W' => (∃ v, e = .returned v) ∧ ((∃ ss : List PK, ss.Perm (L.map (·.1)) ∧ J ss W') ∨ (∃ pre : List PK, Jx pre W')) := by
  refine callsIn_of_wp Try.func79 rfl trivial ?_ rfl
  simp only [Try.ntmps79, List.size_toArray, List.length_cons, List.length_nil, Nat.reduceAdd, Nat.reduceSub, Array.replicate_succ, Array.replicate_zero, List.push_toArray, List.append_toArray, List.nil_append, List.cons_append]
  have HM := hide hown
  have HJ := hide hJ
  have HY := hide hY
  have H0 := hide h0
  clear hown hJ hY h0
  gi_wp2_with (first
    | (gi_at_range; refine wpListIn_range_it rfl _ rfl cmU rfl HM.out ?_; intro ob hI0)
    | gi_in)
  go_frame
  have HI0 : Hid (ItR (W.alloc ob) b W.heap.size plV cvV L [] ∧ J [] (W.alloc ob)) := ⟨hI0, HJ.out [] W _ none H0.out (World.grownBy_alloc W ob none) (fun r e => by cases e)⟩
  clear hI0
  gi_loopw [3] (fun _ wr => ∃ D : List (PK × CV), Hid (ItR wr b W.heap.size plV cvV L D ∧ J (D.map (·.1)) wr)) (fun _ wr => itLeft wr b W.heap.size)
  case atStart => exact ⟨[], HI0.out⟩
  case round =>
    obtain ⟨D, HI⟩ := hrel
    gi_wp2_with (first
      | (gi_at_next; refine wpListIn_next_it rfl _ rfl rfl HI.out.1 ?_ ?_)
      | gi_in)
    · intro hp
      have HR : Hid ((D.map (·.1)).Perm (L.map (·.1)) ∧ J (D.map (·.1)) wr) := ⟨(hp.map _).symm, HI.out.2⟩
      clear hp
      gi_wp2
      go_end0
      exact ⟨⟨_, rfl⟩, .inl ⟨_, HR.out⟩⟩
    · intro w2 kv vv hst
      obtain ⟨p, hkv, hvv, hp, hI2, hlt, hf2, hsz, hen⟩ := hst
      obtain ⟨⟨pk, pf, pt, pok⟩, pc⟩ := p
      have hkv2 : kv = .agg #[.string (strOfNums pk), .int .i64 pf, .int .i64 pt] := hkv
      clear hkv hvv hp
      subst hkv2
      have HK2 : Hid (Blk (w2.alloc (.cells #[.string (strOfNums pk), .int .i64 pf, .int .i64 pt] plT)) w2.heap.size plT #[.string (strOfNums pk), .int .i64 pf, .int .i64 pt]) := Blk.new w2 _ _
      have HI2 : Hid (ItR (w2.alloc (.cells #[.string (strOfNums pk), .int .i64 pf, .int .i64 pt] plT)) b W.heap.size plV cvV L (D ++ [(⟨pk, pf, pt, pok⟩, pc)])) := hI2.below ((Below.refl _ _).alloc (Nat.le_refl _) _) hI2.lt.1 hI2.lt.2
      have hJ2 : J (D.map (·.1)) (w2.alloc (.cells #[.string (strOfNums pk), .int .i64 pf, .int .i64 pt] plT)) := HJ.out _ w2 _ none (HJ.out _ wr w2 (some W.heap.size) HI.out.2 hf2.grown (fun r e => by cases e; exact ⟨Nat.le_refl _, HI.out.1.iter_walk⟩)) (World.grownBy_alloc _ _ none) (fun r e => by cases e)
      obtain ⟨fn, tmps, assign, body, hy, hR⟩ := HY.out (D.map (·.1)) ⟨pk, pf, pt, pok⟩ _ hJ2 (by rw [List.length_map]; exact hlt)
      have hy2 : (Instr.yield l #[.agg #[.string (strOfNums pk), .int .i64 pf, .int .i64 pt]]).run Try.prog (w2.alloc (.cells #[.string (strOfNums pk), .int .i64 pf, .int .i64 pt] plT)) = .ok (.round l fn tmps assign body) (w2.alloc (.cells #[.string (strOfNums pk), .int .i64 pf, .int .i64 pt] plT)) := hy
      have HR := hide hR
      have HLT := hide hlt
      have HL1 := hide HI.out.1.left_eq
      clear hI2 hlt hf2 hsz hJ2 hy hR
      gi_wp2
      refine HR.out.mono ?_
      rintro e W3 (⟨rfl, hJ3, hk3⟩ | ⟨rfl, hJx3⟩)
      · have HI3 : Hid (ItR W3 b W.heap.size plV cvV L (D ++ [(⟨pk, pf, pt, pok⟩, pc)]) ∧ J ((D ++ [((⟨pk, pf, pt, pok⟩ : PK), pc)]).map (·.1)) W3) := ⟨HI2.out.of_walks hk3, by rw [List.map_append]; exact hJ3⟩
        have HME : Hid (itLeft W3 b W.heap.size < itLeft wr b W.heap.size) := by
          rw [Hid, HI3.out.1.left_eq, HL1.out, List.length_append]
          have := HLT.out
          simp only [List.length_cons, List.length_nil]
          omega
        clear hJ3 hk3 hy2
        gi_wp2
        go_roundw
        case rel => exact ⟨_, HI3.out⟩
        case measure => exact HME.out
      · have HX := hide hJx3
        clear hJx3 hy2
        gi_wp2
        refine bodyPost_ret (results_none rfl _ _ _) rfl ?_
        exact ⟨⟨_, rfl⟩, .inr ⟨_, HX.out⟩⟩

theorem pkeys_stops (n : Nat) (hn : 1 ≤ n) (Bm b : Nat) (L : List (PK × CV)) (w : World) (hBm : Bm < w.heap.size) (hm : w.cell? ⟨Bm, 0, none⟩ = some (.map (some b))) (hown : MapR w b plV cvV L) :
    SeqStopsK Fence.wide n Try.prog 79 #[.pointer (some ⟨Bm, 0, none⟩)] (fun x : PK => #[plV x]) KeepsWalks (fun ss => ss.Perm (L.map (·.1))) (fun _ => True) L.length w := fun l J Jx W hW hJ _ hY h0 => by
  refine (pkeys1_in n hn l Bm b L J Jx hY W hJ ((hW.cell (p := ⟨Bm, 0, none⟩) hBm).trans hm) (hown.below hW hown.lt) h0).mono ?_
  rintro e W' ⟨h1, h2 | ⟨pre, h2⟩⟩
  · exact ⟨h1, .inl h2⟩
  · exact ⟨h1, .inr ⟨pre, trivial, h2⟩⟩

end Go.Proofs.Ytkobaidamdffmaa
