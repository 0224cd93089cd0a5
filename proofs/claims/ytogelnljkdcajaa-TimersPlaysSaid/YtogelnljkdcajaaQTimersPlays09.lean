/- The laws of layer 16: Due, Next as a law calls them. / Rows of structs in the words of the shelf's sort. / timers.Heap: All. / timers.Heap: All: the walk. / Rows of timers beside a heap; timers in order. -/
import Derived.Test.YtogelnljkdcajaaQTimersPlays08
import Derived.Test.YtogelnljkdcajaaQTimersPlays00
import Derived.Test.YtogelnljkdcajaaProg
import Derived.Shelf.SlSortCmp.NoneTotal
import Derived.Ground.SlsfProg
import Derived.Test.YtogelnljkdcajaaQTimersPlays07

namespace Go.Proofs.Ytogelnljkdcajaa
open Go.RowKit Go.Sort
set_option linter.unusedVariables false
set_option linter.unusedSimpArgs false

/-- behind Due -/
structure DueR (w0 w w' : World) (hb tb mb : Nat) (lv lv' : Value) (L L' O : List TV) (now : Int) (A : Option Addr) (c : Nat) : Prop where
  own : Own w' w.heap.size tmT 5 (.slice A O.length c) O.length (tms O)
  hr : HR w0 w' hb tb mb lv' L'
  fr : Fr (HBk tb mb lv) w w'
  nb : NewB w lv lv'
  pm : L.Perm (O ++ L')
  so : O.Pairwise leT
  le : ∀ x ∈ O, ∀ y ∈ L', leT x y
  du : ∀ x ∈ O, x.a ≤ now
  nd : ∀ y ∈ L', now < y.a
  ky : ∀ x ∈ O, KeyO w' w0.heap.size x
  ap : ∀ g, (Value.slice A O.length c).ownBlock = some g → lv'.ownBlock ≠ some g
theorem hdue_r (w0 w : World) (hb tb mb : Nat) (lv : Value) (L : List TV) (now : Int) (h : HR w0 w hb tb mb lv L) :
    Calls Try.prog 15 #[.pointer (some ⟨hb, 0, none⟩), .int .i64 now] w fun e w' => ∃ O A c lv' L', e = .returned (.slice A O.length c) ∧ DueR w0 w w' hb tb mb lv lv' L L' O now A c := by
  refine (hdue_any w w0.heap.size hb tb mb lv L now h.hp h.bl.size).mono ?_
  rintro e w' ⟨O, v, lv', L', rfl, hi, hn⟩
  obtain ⟨A, c, rfl, _⟩ := hi.own.sl.form
  exact ⟨O, A, c, lv', L', rfl, ⟨hi.own, h.step hi.hp hi.fr, hi.fr, hi.nb, hi.pm, hi.so, hi.le, hi.du, hn, hi.ky, hi.ap⟩⟩
theorem hnext_r (w0 w : World) (hb tb mb : Nat) (lv : Value) (L : List TV) (h : HR w0 w hb tb mb lv L) :
    Calls Try.prog 16 #[.pointer (some ⟨hb, 0, none⟩)] w fun e w' => ∃ (za : Int) (zA : Option Addr) (zn zc : Nat) (zb : List Int) (zf zt zw : Int) (ok : Bool), e = .returned (.tuple #[.agg #[.int .i64 za, .slice zA zn zc, .int .i64 zf, .int .i64 zt, .int .i64 zw], .bool ok]) ∧ Aim w0 w' hb tb mb lv L ⟨za, .slice zA zn zc, zb, zf, zt, zw⟩ ∧ Below w.heap.size w w' ∧
      ((ok = false ∧ L = []) ∨ (ok = true ∧ L ≠ [] ∧ (⟨za, zb, zf, zt, zw⟩ : TD) = (gt L 0).d ∧ gt L 0 ∈ L ∧ ∀ y ∈ L, leT (gt L 0) y)) := by
  refine (hnext_any w w0.heap.size hb tb mb lv L h.hp).mono ?_
  rintro e w' ⟨hb', ⟨hL, rfl⟩ | ⟨hL, u, rfl, ho⟩⟩
  · exact ⟨0, none, 0, 0, [], 0, 0, 0, false, rfl, ⟨h.below hb', Own.nil _ _ _ _, fun c hc => (by cases hc), by simp⟩, hb', .inl ⟨rfl, hL⟩⟩
  · obtain ⟨uA, uc, rfl, _⟩ := ho.sl.form
    have h0 : 0 < L.length := by cases L with | nil => exact absurd rfl hL | cons => simp
    have hm : gt L 0 ∈ L := by rw [gt_of h0]; exact List.getElem_mem h0
    obtain ⟨M, ht, _⟩ := h.hp.hp.st
    have hk := ht.keys _ hm
    refine ⟨_, uA, _, uc, (gt L 0).kb, _, _, _, true, rfl, ⟨h.below hb', ho.lower h.bl.size, hk.2⟩, hb', .inr ⟨rfl, hL, rfl, hm, fun y hy => ?_⟩⟩
    obtain ⟨i, hi, rfl⟩ := List.getElem_of_mem hy
    rw [← gt_of hi]
    exact h.hp.hp.hp.min i hi
theorem sets_mem (D l : List TD) (y : TD) (h : y ∈ D.foldl setD l) : y ∈ l ∨ y ∈ D := by
  induction D generalizing l with
  | nil => exact .inl h
  | cons x D ih =>
    rw [List.foldl_cons] at h
    rcases ih (setD l x) h with h1 | h1
    · unfold setD at h1
      rcases List.mem_append.1 h1 with h2 | h2
      · exact .inl (List.mem_filter.1 h2).1
      · exact .inr (List.mem_cons.2 (.inl (List.mem_singleton.1 h2)))
    · exact .inr (List.mem_cons_of_mem _ h1)
/-- whether they were right or not; what is there is right -/
theorem SetR.rights {w0 w w' : World} {hb tb mb : Nat} {lv : Value} {L : List TV} {D : List TD} {e : Ending} (h : SetR w0 w hb tb mb lv L D e w') (hr : ∀ y ∈ L, y.right) :
    ∃ (z : Int) (lv' : Value) (L' : List TV), e = .returned (.int .i64 z) ∧ HR w0 w' hb tb mb lv' L' ∧ (∀ y ∈ L', y.right) ∧ L'.length ≤ L.length + D.length ∧ Fr (HBk tb mb lv) w w' ∧ NewB w lv lv' := by
  obtain ⟨lv', hf, hn, ⟨_, he, hh⟩ | ⟨hd, he, L', hh, hp⟩⟩ := h
  · exact ⟨_, lv', L, he, hh, hr, by omega, hf, hn⟩
  · refine ⟨_, lv', L', he, hh, fun y hy => ?_, ?_, hf, hn⟩
    · rcases sets_mem D _ _ (hp.mem_iff.1 (List.mem_map_of_mem (f := TV.d) hy)) with h1 | h1
      · obtain ⟨z, hz, hzd⟩ := List.mem_map.1 h1
        have := hr z hz
        rw [← TV.right_d] at this ⊢
        rw [← hzd]
        exact this
      · exact hd _ h1
    · have h1 := hp.length_eq
      have h2 := sets_len D (L.map TV.d)
      simp only [List.length_map] at h1 h2
      omega

end Go.Proofs.Ytogelnljkdcajaa

namespace Go.Proofs.Ytogelnljkdcajaa
open Go.RowKit Go.Sort
set_option linter.unusedVariables false
set_option linter.unusedSimpArgs false

section
variable {α : Type} [Inhabited α] {enc : α → List Value} {sz : Nat}
omit [Inhabited α] in
theorem gen_get (hf : ∀ x, (enc x).length = sz) (D : List α) (k r : Nat) (hk : k < D.length) (hr : r < sz) : (D.flatMap enc)[k * sz + r]? = (enc D[k])[r]? := by
  have h := part_of enc sz hf D k hk
  rw [← h, List.getElem?_take, if_pos hr, List.getElem?_drop]
theorem gen_flat (hf : ∀ x, (enc x).length = sz) (hs : 0 < sz) (D : List α) : (flatK enc sz D.toArray).toList = D.flatMap enc := by
  apply List.ext_getElem?
  intro t
  by_cases ht : t < D.length * sz
  · have hk : t / sz < D.length := Nat.div_lt_of_lt_mul (by rw [Nat.mul_comm]; exact ht)
    have hr : t % sz < sz := Nat.mod_lt _ hs
    have e1 : t = t / sz * sz + t % sz := (Nat.div_add_mod' t sz).symm
    have h1 : (flatK enc sz D.toArray).toList[t]? = some ((enc D.toArray[t / sz]!)[t % sz]!) := by
      simp [flatK, ht]
    have h2 := gen_get hf D (t / sz) (t % sz) hk hr
    rw [← e1] at h2
    rw [h1, h2]
    have h3 : D.toArray[t / sz]! = D[t / sz] := by simp [hk]
    rw [h3]
    have h4 : t % sz < (enc D[t / sz]).length := by rw [hf]; exact hr
    rw [List.getElem?_eq_getElem h4, getElem!_pos (enc D[t / sz]) (t % sz) h4]
  · rw [List.getElem?_eq_none (by simp [flatK]; omega), List.getElem?_eq_none (by rw [flat_len enc sz hf]; omega)]
theorem gen_holds (hf : ∀ x, (enc x).length = sz) (hs : 0 < sz) {w : World} {base n g cap e : Nat} {D : List α} (h : Own w base e sz (.slice (some ⟨g, 0, none⟩) n cap) n (D.flatMap enc)) : HoldsK enc sz w g 0 D.toArray := by
  intro j hj
  have hsz : (flatK enc sz D.toArray).size = (D.flatMap enc).length := by rw [← gen_flat hf hs, Array.length_toList]
  have hj2 : j < (D.flatMap enc).length := by omega
  rw [Nat.zero_add]
  have hadd : (⟨g, 0, none⟩ : Addr).add j = ⟨g, j, none⟩ := by unfold Addr.add; split <;> simp_all
  have h1 := h.cells (g := g) rfl j _ (List.getElem?_eq_getElem hj2)
  rw [hadd] at h1
  have h2 : (flatK enc sz D.toArray)[j]! = (D.flatMap enc)[j] := by
    rw [getElem!_pos (flatK enc sz D.toArray) j hj, ← Array.getElem_toList]
    congr 1
    exact gen_flat hf hs D
  obtain ⟨cs, hb⟩ := h.typed g rfl
  exact ⟨by rw [h1, h2]; rfl, hb.frozen j⟩
theorem gen_putK (hf : ∀ x, (enc x).length = sz) (hs : 0 < sz) {w : World} {base n g cap e m : Nat} {D E : List α} (h : Own w base e sz (.slice (some ⟨g, 0, none⟩) n cap) n (D.flatMap enc)) (hE : E.length = n) :
    Own (putRowK enc sz (Go.Sort.ahead w m) g 0 E.toArray) base e sz (.slice (some ⟨g, 0, none⟩) n cap) n (E.flatMap enc) ∧ Fr (fun k => k = g) w (putRowK enc sz (Go.Sort.ahead w m) g 0 E.toArray) := by
  constructor
  · refine ⟨by rw [flat_len enc sz hf, hE], ?_⟩
    rcases h.2 with ⟨h1, _⟩ | ⟨g', cap', cur, h1, h2, h3, h4, h5, h6, h7⟩
    · cases h1
    · injection h1 with h1 _ h8
      injection h1 with h1
      injection h1 with h1
      subst h1
      subst h8
      refine .inr ⟨g, cap, putCells id 0 (flatK enc sz E.toArray) cur, rfl, h2, ?_, h4, h5, by simpa [putCells] using h6, ?_⟩
      · show ((Go.Sort.ahead w m).heap.modify g (onCells (putCells id 0 (flatK enc sz E.toArray))))[g]? = _
        rw [Array.getElem?_modify, if_pos rfl]
        show (w.heap[g]?).map _ = _
        rw [h3]
        rfl
      · rw [← gen_flat hf hs]
        have hsz : (flatK enc sz E.toArray).size = n * sz := by rw [← Array.length_toList, gen_flat hf hs, flat_len enc sz hf, hE]
        apply List.ext_getElem?
        intro t
        rw [List.getElem?_take]
        by_cases ht : t < n * sz
        · have hc : t < cur.size := by
            have := Nat.mul_le_mul_right sz h4
            omega
          rw [if_pos ht]
          simp only [putCells, Array.getElem?_toList, Array.getElem?_mapIdx, Array.getElem?_eq_getElem hc, Option.map_some]
          rw [if_pos ⟨by omega, by omega⟩, Nat.sub_zero, getElem!_pos (flatK enc sz E.toArray) t (by omega), Array.getElem?_eq_getElem (by omega)]
          rfl
        · rw [if_neg ht, List.getElem?_eq_none (by rw [Array.length_toList]; omega)]
  · refine ⟨rfl, rfl, rfl, ?_, fun k hk hne => ?_⟩
    · show w.heap.size ≤ ((Go.Sort.ahead w m).heap.modify g _).size
      rw [Array.size_modify]
      exact Nat.le_refl _
    · show ((Go.Sort.ahead w m).heap.modify g _)[k]? = _
      rw [Array.getElem?_modify, if_neg (fun h9 => hne h9.symm)]
      rfl
end

end Go.Proofs.Ytogelnljkdcajaa

namespace Go.Proofs
open Go.Shelf Go.Lib
def Try.sortT_ren : Go.Shelf.Ren := ⟨fun | 6 => 35 | 15 => 49 | 14 => 48 | 28 => 63 | 29 => 64 | 20 => 55 | 21 => 56 | 22 => 57 | 23 => 58 | 24 => 59 | 25 => 60 | 26 => 61 | 27 => 62 | 46 => 68 | 47 => 69 | 48 => 70 | 49 => 71 | 50 => 72 | 57 => 73 | n => n, fun | 22 => 46 | 24 => 37 | 25 => 88 | 3 => 3 | 39 => 105 | 0 => 0 | 53 => 119 | 55 => 121 | 4 => 4 | 46 => 113 | 45 => 112 | 50 => 81 | 5 => 5 | 9 => 9 | 66 => 124 | 70 => 128 | 76 => 130 | 77 => 131 | n => n, fun | n => n⟩
theorem Try.sortT : Go.Proofs.SlLaysF0.n6 Try.prog Try.sortT_ren := {
  mixed := by kernel_rfl
  f6 := ⟨Try.f35.name, by decide, Try.func35.trans (congrArg some (by kernel_rfl))⟩
  f14 := ⟨Try.f48.name, by decide, Try.func48.trans (congrArg some (by kernel_rfl))⟩
  f15 := Try.func49.trans (congrArg some (by kernel_rfl))
  f20 := ⟨Try.f55.name, by decide, Try.func55.trans (congrArg some (by kernel_rfl))⟩
  f21 := ⟨Try.f56.name, by decide, Try.func56.trans (congrArg some (by kernel_rfl))⟩
  f22 := ⟨Try.f57.name, by decide, Try.func57.trans (congrArg some (by kernel_rfl))⟩
  f23 := ⟨Try.f58.name, by decide, Try.func58.trans (congrArg some (by kernel_rfl))⟩
  f24 := ⟨Try.f59.name, by decide, Try.func59.trans (congrArg some (by kernel_rfl))⟩
  f25 := ⟨Try.f60.name, by decide, Try.func60.trans (congrArg some (by kernel_rfl))⟩
  f26 := ⟨Try.f61.name, by decide, Try.func61.trans (congrArg some (by kernel_rfl))⟩
  f27 := ⟨Try.f62.name, by decide, Try.func62.trans (congrArg some (by kernel_rfl))⟩
  f28 := Try.func63.trans (congrArg some (by kernel_rfl))
  f29 := Try.func64.trans (congrArg some (by kernel_rfl))
  f46 := ⟨Try.f68.name, by decide, Try.func68.trans (congrArg some (by kernel_rfl))⟩
  f47 := Try.func69.trans (congrArg some (by kernel_rfl))
  f48 := Try.func70.trans (congrArg some (by kernel_rfl))
  f49 := ⟨Try.f71.name, by decide, Try.func71.trans (congrArg some (by kernel_rfl))⟩
  f50 := ⟨Try.f72.name, by decide, Try.func72.trans (congrArg some (by kernel_rfl))⟩
  f57 := ⟨Try.f73.name, by decide, Try.func73.trans (congrArg some (by kernel_rfl))⟩
  t0 := Try.underlying0
  a0 := Try.isAgg0
  z0 := Try.sizeOf0
  v0 := Try.zeroValue0
  t3 := Try.underlying3
  a3 := Try.isAgg3
  z3 := Try.sizeOf3
  v3 := Try.zeroValue3
  t4 := Try.underlying4
  a4 := Try.isAgg4
  z4 := Try.sizeOf4
  v4 := Try.zeroValue4
  t5 := Try.underlying5
  a5 := Try.isAgg5
  z5 := Try.sizeOf5
  v5 := Try.zeroValue5
  t9 := Try.underlying9
  a9 := Try.isAgg9
  z9 := Try.sizeOf9
  v9 := Try.zeroValue9
  t22 := Try.underlying46
  a22 := Try.isAgg46
  z22 := Try.sizeOf46
  v22 := Try.zeroValue46
  t25 := Try.underlying88
  a25 := Try.isAgg88
  z25 := Try.sizeOf88
  v25 := Try.zeroValue88
  t39 := Try.underlying105
  a39 := Try.isAgg105
  z39 := Try.sizeOf105
  v39 := Try.zeroValue105
  t45 := Try.underlying112
  a45 := Try.isAgg112
  z45 := Try.sizeOf112
  v45 := Try.zeroValue112
  t46 := Try.underlying113
  a46 := Try.isAgg113
  z46 := Try.sizeOf113
  v46 := Try.zeroValue113
  t50 := Try.underlying81
  a50 := Try.isAgg81
  z50 := Try.sizeOf81
  v50 := Try.zeroValue81
  t53 := Try.underlying119
  a53 := Try.isAgg119
  z53 := Try.sizeOf119
  v53 := Try.zeroValue119
  t55 := Try.underlying121
  a55 := Try.isAgg121
  z55 := Try.sizeOf121
  v55 := Try.zeroValue121
  t66 := Try.underlying124
  a66 := Try.isAgg124
  z66 := Try.sizeOf124
  v66 := Try.zeroValue124
  t70 := Try.underlying128
  a70 := Try.isAgg128
  z70 := Try.sizeOf128
  v70 := Try.zeroValue128
  t76 := Try.underlying130
  a76 := Try.isAgg130
  z76 := Try.sizeOf130
  v76 := Try.zeroValue130
  t77 := Try.underlying131
  a77 := Try.isAgg131
  z77 := Try.sizeOf131
  v77 := Try.zeroValue131 }
end Go.Proofs
namespace Go.Proofs.Ytogelnljkdcajaa
open Go.RowKit Go.Sort
set_option linter.unusedVariables false
set_option linter.unusedSimpArgs false

theorem Own.slB' {w : World} {base e sz n B : Nat} {v : Value} {xs : List Value} (h : Own w base e sz v n xs) (hB : ∀ g, v.ownBlock = some g → g < B) : Sl w B v sz n xs := by
  refine ⟨h.1, ?_⟩
  rcases h.2 with ⟨rfl, rfl⟩ | ⟨g, cap, cur, rfl, hb, hg, hc, hm, _⟩
  · exact ⟨none, 0, rfl, by omega, by omega, by omega⟩
  · exact ⟨_, cap, rfl, hc, by unfold maxLen at hm; omega, fun _ => ⟨_, rfl, hB g rfl, fun j u hu => h.cells (g := g) rfl j u hu⟩⟩
/-- timers with keys of the call's own -/
abbrev KT (w : World) (base : Nat) := {x : TV // KeyO w base x}
instance (w : World) (base : Nat) : Inhabited (KT w base) := ⟨⟨tz, Own.nil _ _ _ _, fun c hc => (by cases hc), by simp [tz]⟩⟩
def KT.enc {w : World} {base : Nat} (x : KT w base) : List Value := x.1.cells
theorem KT.len5 {w : World} {base : Nat} (x : KT w base) : x.enc.length = 5 := rfl
def KT.cf {w : World} {base : Nat} (x y : KT w base) : Int := ordT x.1 y.1
theorem lt_cf {w : World} {base : Nat} (x y : KT w base) : ltOf KT.cf x y = ltT x.1 y.1 := rfl
theorem ordT_irr (x : TV) : ¬ ordT x x < 0 := by
  rw [ordT_eq]
  have := cp_L.anti x x
  omega
theorem swo_T {w : World} {base : Nat} : SWO (ltOf (KT.cf (w := w) (base := base))) where
  irrefl x := by rw [lt_cf]; exact decide_eq_false (ordT_irr x.1)
  trans x y z h1 h2 := by
    rw [lt_cf] at h1 h2 ⊢
    have a1 := of_decide_eq_true h1
    have a2 := of_decide_eq_true h2
    refine decide_eq_true ?_
    rw [ordT_eq] at a1 a2 ⊢
    have b1 := cp_L.trans x.1 y.1 z.1 (by omega) (by omega)
    by_cases h0 : ordL x.1 z.1 = 0
    · have c1 := cp_L.anti x.1 z.1
      have c2 := cp_L.trans y.1 z.1 x.1 (by omega) (by omega)
      have c3 := cp_L.anti x.1 y.1
      omega
    · omega
  ntrans x y z h1 h2 := by
    rw [lt_cf] at h1 h2 ⊢
    have a1 := of_decide_eq_false h1
    have a2 := of_decide_eq_false h2
    refine decide_eq_false ?_
    rw [ordT_eq] at a1 a2 ⊢
    have c1 := cp_L.anti x.1 y.1
    have c2 := cp_L.anti y.1 z.1
    have c3 := cp_L.anti x.1 z.1
    have b1 := cp_L.trans z.1 y.1 x.1 (by omega) (by omega)
    omega
theorem flat_KT {w : World} {base : Nat} (D : List (KT w base)) : D.flatMap KT.enc = tms (D.map (·.1)) := by
  unfold tms
  rw [List.flatMap_map]
  rfl
theorem grow_below2 {w : World} (os : Array Obj) : Below w.heap.size w (grow w os) := by
  have h := grow_below (w := w) 0 os
  exact h

/-- slices.SortFunc at timers -/
theorem tsort_any (v : Value) (D : List TV) (base : Nat) (w : World) (h : Own w base tmT 5 v D.length (tms D)) (hk : ∀ x ∈ D, KeyO w base x) (hn : D.length < 4611686018427387904) :
    Calls Try.prog 35 #[v, .func (.func 36) #[] #[]] w fun e w' => e = .returned (.tuple #[]) ∧ ∃ E : List TV, E.Perm D ∧ E.Pairwise leT ∧ Own w' base tmT 5 v D.length (tms E) ∧ Fr (fun k => v.ownBlock = some k) w w' := by
  rcases h.2 with ⟨rfl, h0⟩ | ⟨g', cap, cur, rfl, _, hg', _⟩
  · have hD : D = [] := List.eq_nil_of_length_eq_zero h0
    subst hD
    refine (AnyF.slices_SortFunc_none Try.sortT none 0 _ w).mono ?_
    rintro e w' ⟨rfl, rfl⟩
    exact ⟨rfl, [], List.Perm.refl _, List.Pairwise.nil, h, Fr.refl _ _⟩
  · have hblk : g' < w.heap.size := (h.lt g' rfl).2
    obtain ⟨K, hK⟩ : ∃ K : List (KT w base), K.map (·.1) = D := ⟨D.attach.map (fun x => ⟨x.1, hk x.1 x.2⟩), by simp⟩
    have hKl : K.length = D.length := by rw [← hK]; simp
    rw [← hK] at h
    rw [← flat_KT] at h
    simp only [List.length_map] at h
    rw [← hKl]
    have eg : ∀ args w, (callFunc 36 args).run Try.prog w = .ok (.enter 36 args) w := fun args w => by kernel_rfl
    have hcm : CmpLays Try.prog 36 #[] (KT.enc (w := w) (base := base)) 5 (KT.cf (w := w) (base := base)) g' 0 K.toArray.size w := by
      intro m os dk hs x y
      have hz : dk.toList.length = K.length := by simpa using hs
      have hp := gen_putK (m := m) (E := dk.toList) KT.len5 (Nat.succ_pos 4) h hz
      have e10 : dk.toList.toArray = dk := by simp
      rw [e10] at hp
      have hf : Fr (fun k => k = g') w (grow (putRowK (KT.enc (w := w) (base := base)) 5 (Go.Sort.ahead w m) g' 0 dk) os) := hp.2.trans (Fr.of_below (grow_below2 os) : Fr nob _ _) (fun _ _ f => f.elim)
      have hky : ∀ z : KT w base, KeyIn (grow (putRowK (KT.enc (w := w) (base := base)) 5 (Go.Sort.ahead w m) g' 0 dk) os) w.heap.size z.1 := fun z => by
        obtain ⟨cs, hcs⟩ := h.typed g' rfl
        refine ⟨(z.2.1.fr hf (fun k hk9 e => ?_)).slB' (fun k hk9 => (z.2.1.lt k hk9).2), z.2.2.1⟩
        subst e
        exact z.2.1.ne hcs (by decide) hk9
      exact order_any x.1 y.1 w.heap.size _ (hky x) (hky y) hf.size
    refine (AnyQ.slices_SortFunc Try.sortT 5 Try.isAgg37 Try.sizeOf37 KT.enc (fun _ => rfl) (fun x v hv => ?_) KT.cf swo_T 36 #[] g' 0 cap K.toArray w eg hcm (gen_holds KT.len5 (Nat.succ_pos 4) h) hblk (by simp; omega)).mono ?_
    · obtain ⟨A, c, hkv, _⟩ := x.2.1.sl.form
      obtain ⟨⟨xa, xk, xb, xf, xt, xw⟩, hx⟩ := x
      simp only at hkv
      subst hkv
      simp [KT.enc, TV.cells] at hv
      rcases hv with rfl | rfl | rfl | rfl | rfl <;> rfl
    rintro e w' ⟨rfl, d', n, os, hp, hs, rfl⟩
    have hsz : d'.size = K.length := by simpa using hp.1
    have hd : d'.toList.length = K.length := by simpa using hsz
    have h9 := gen_putK (m := n) (E := d'.toList) KT.len5 (Nat.succ_pos 4) h hd
    have h10 : d'.toList.toArray = d' := by simp
    rw [h10, flat_KT] at h9
    refine ⟨rfl, d'.toList.map (fun x : KT w base => x.1), ?_, ?_, h9.1.below (grow_below2 os), ?_⟩
    · have h8 := hp.2.2
      have e1 : d'.extract 0 K.toArray.size = d' := by
        rw [show K.toArray.size = d'.size by simp [hsz]]
        exact Array.extract_size
      have e2 : K.toArray.extract 0 K.toArray.size = K.toArray := Array.extract_size
      rw [e1, e2] at h8
      rw [← hK]
      exact h8.map _
    · rw [List.pairwise_map, List.pairwise_iff_getElem]
      intro i j hi hj hij
      have h8 := hs i j (Nat.zero_le _) hij (by simp at hj; simp; omega)
      simp at hi hj
      rw [getElem!_pos d' i hi, getElem!_pos d' j hj] at h8
      rw [lt_cf] at h8
      have := nlt_le h8
      simpa using this
    · exact (h9.2.mono (fun k _ hk => by subst hk; rfl)).trans (Fr.of_below (grow_below2 os) : Fr nob _ _) (fun k _ hk => hk.elim)


end Go.Proofs.Ytogelnljkdcajaa

namespace Go.Proofs.Ytogelnljkdcajaa
open Go.RowKit Go.Sort
set_option linter.unusedVariables false
set_option linter.unusedSimpArgs false

structure AllI (w wr : World) (L : List TV) (k : Nat) (O : List TV) (v : Value) : Prop where
  own : Own wr w.heap.size tmT 5 v O.length (tms O)
  ky : ∀ x ∈ O, KeyO wr w.heap.size x
  eq : O.map TV.d = (L.take k).map TV.d
  bl : Below w.heap.size w wr
theorem AllI.below {w wr wz : World} {L O : List TV} {k : Nat} {v : Value} (h : AllI w wr L k O v) (b : Below wr.heap.size wr wz) : AllI w wz L k O v :=
  ⟨h.own.below b, fun x hx => ⟨(h.ky x hx).1.below b, (h.ky x hx).2⟩, h.eq, h.bl.trans (b.mono h.bl.size)⟩
theorem AllI.app {w wr wz : World} {L O : List TV} {k : Nat} {v v' : Value} {x : TV} (h : AllI w wr L k O v) (hk : k < L.length) (hx : KeyO wr w.heap.size x) (hd : x.d = L[k].d) (ha : App wr w.heap.size tmT 5 v (O.length + 1) (tms O ++ tms [x]) v' wz) : AllI w wz L (k + 1) (O ++ [x]) v' := by
  have hT := h.own.typed
  have hbt : ∀ g cs, Blk wr g bT cs → ¬ v.ownBlock = some g := fun g cs hc e => by obtain ⟨c2, k⟩ := hT g e; exact hc.apart k (by decide) rfl
  refine ⟨?_, fun y hy => ?_, ?_, h.bl.trans (ha.fr.below h.bl.size (fun j hj e => ?_))⟩
  · rw [tms_app, List.length_append]; exact ha.own
  · rcases List.mem_append.1 hy with h9 | h9
    · exact (h.ky y h9).fr ha.fr hbt
    · rw [List.mem_singleton.1 h9]; exact hx.fr ha.fr hbt
  · rw [List.take_succ_eq_append_getElem hk, List.map_append, List.map_append, h.eq]
    simp [hd]
  · have := (h.own.lt j e).1; omega

set_option maxRecDepth 100000 in
set_option maxHeartbeats 4000000 in
theorem hall_any (w : World) (base hb tb mb : Nat) (lv : Value) (L : List TV) (h : HpS w base hb tb mb lv L) :
    Calls Try.prog 17 #[.pointer (some ⟨hb, 0, none⟩)] w fun e w' => ∃ (E : List TV) (A : Option Addr) (c : Nat), e = .returned (.slice A E.length c) ∧ Own w' w.heap.size tmT 5 (.slice A E.length c) E.length (tms E) ∧ (∀ x ∈ E, KeyO w' w.heap.size x) ∧ (E.map TV.d).Perm (L.map TV.d) ∧ E.Pairwise leT ∧ Below w.heap.size w w' := by
  obtain ⟨c0, t0, t1, hlt, htl, A, c, rfl, hc⟩ := h.open
  have hln := h.hp.ln
  have HH := hide h
  clear h
  obtain ⟨n, hn⟩ : ∃ n, n = L.length := ⟨_, rfl⟩
  rw [← hn] at t0 hc hln
  have HN := hide hn
  have HI0 : Hid (AllI w w L 0 [] (.slice none 0 0)) := ⟨Own.nil _ _ _ _, (fun x hx => by cases hx), rfl, Below.refl _ _⟩
  clear hn
  go_enter Try.func17, Try.ntmps17
  go_wp2_with fail
  go_loopw [3, 14] (fun v i wr => ∃ (k : Nat) (O : List TV), k ≤ n ∧ i = .int .i64 k ∧ O.length = k ∧ Hid (AllI w wr L k O v)) (fun _ i _ => n - (intOf i).toNat)
  case atStart => exact ⟨0, [], Nat.zero_le _, rfl, rfl, HI0.out⟩
  case round =>
    obtain ⟨k, O, hk, rfl, rfl, HI⟩ := hrel
    by_cases hlt2 : O.length < n
    · have hkL : O.length < L.length := by rw [← HN.out]; exact hlt2
      obtain ⟨M, ht, hg⟩ := (HH.out.below HI.out.bl).hp.st
      obtain ⟨ad, had, hab, a0, a1, a2, a3, a4⟩ := tm_at ht.own.sl hkL rfl
      subst had
      have hky := ht.keys _ (List.getElem_mem hkL)
      obtain ⟨oA, oc, rfl, hoc⟩ := HI.out.own.sl.form
      obtain ⟨x, hx⟩ : ∃ x, x = L[O.length] := ⟨_, rfl⟩
      have HX := hide hx
      rw [← hx] at a0 a1 a2 a3 a4 hky
      obtain ⟨xA, xc, hkx, hxc⟩ := hky.1.sl.form
      have HKY := hide hky
      clear ht hg hky hx
      obtain ⟨xa, xk, xb, xf, xt, xw⟩ := x
      simp only at hkx hxc a0 a1 a2 a3 a4
      subst hkx
      go_wp2_with fail
      have HI2 : Hid (AllI w (wr.alloc (.cells #[.int .i64 xa, .slice xA xb.length xc, .int .i64 xf, .int .i64 xt, .int .i64 xw] tmT)) L O.length O (.slice oA O.length oc)) := HI.out.below ((Below.refl _ _).alloc (Nat.le_refl _) _)
      have HK2 : Hid (KeyO (wr.alloc (.cells #[.int .i64 xa, .slice xA xb.length xc, .int .i64 xf, .int .i64 xt, .int .i64 xw] tmT)) base ⟨xa, .slice xA xb.length xc, xb, xf, xt, xw⟩) := ⟨HKY.out.1.alloc _, HKY.out.2⟩
      generalize wr.alloc (.cells #[.int .i64 xa, .slice xA xb.length xc, .int .i64 xf, .int .i64 xt, .int .i64 xw] tmT) = w2 at *
      refine (copied_any xa xf xt xw _ xb xb.length w2.heap.size w2 HK2.out.1.sl rfl (Nat.le_trans HK2.out.2.2 (by decide)) (Nat.le_refl _)).mono ?_
      rintro e w3 ⟨u, rfl, ho3, hb3⟩
      obtain ⟨uA, uc, rfl, huc⟩ := ho3.sl.form
      have HI3 := hide (HI2.out.below hb3)
      have HU3 : Hid (KeyO w3 w.heap.size ⟨xa, .slice uA xb.length uc, xb, xf, xt, xw⟩) := ⟨ho3.lower HI2.out.bl.size, HK2.out.2⟩
      have HI4 : Hid (∀ cs, AllI w (w3.alloc (.cells cs tmT)) L O.length O (.slice oA O.length oc) ∧ KeyO (w3.alloc (.cells cs tmT)) w.heap.size ⟨xa, .slice uA xb.length uc, xb, xf, xt, xw⟩) := fun cs => ⟨HI3.out.below ((Below.refl _ _).alloc (Nat.le_refl _) _), HU3.out.1.alloc _, HU3.out.2⟩
      have HSL : Hid (∀ W : World, Sl (W.alloc (.cells #[.int .i64 xa, .slice uA xb.length uc, .int .i64 xf, .int .i64 xt, .int .i64 xw] tmT)) (W.heap.size + 1) (.slice (some ⟨W.heap.size, 0, none⟩) 1 1) 5 1 (tms [⟨xa, .slice uA xb.length uc, xb, xf, xt, xw⟩])) := fun W =>
        Sl.of_own (Own.new (n := 1) (sz := 5) (e := tmT) (base := 0) W #[.int .i64 xa, .slice uA xb.length uc, .int .i64 xf, .int .i64 xt, .int .i64 xw] (by omega) (by omega) rfl) |>.mono (by simp)
      have hz3 := HI3.out.bl.size
      clear ho3 hb3 a0 a1 a2 a3 a4 HKY HI HI2 HK2
      go_wp2_with (at_builtin; refine wpList_app rfl tyT (.tmp 18) (.tmp 21) rfl w.heap.size (n := O.length) (m := 1) (B := w3.heap.size + 1) (xs := tms O) (news := tms [⟨xa, .slice uA xb.length uc, xb, xf, xt, xw⟩]) rfl rfl (by exact (HI4.out _).1.own) (by exact HSL.out w3) (tms_ok _ (by intro u hu; simp only [List.mem_singleton] at hu; subst hu; rfl)) (by omega) (by omega) (by simp; omega) ?_)
      intro v5 w5 ha5
      have HI5 : Hid (AllI w w5 L (O.length + 1) (O ++ [⟨xa, .slice uA xb.length uc, xb, xf, xt, xw⟩]) v5) := (HI4.out _).1.app hkL (HI4.out _).2 (by rw [← HX.out]; rfl) ha5
      clear ha5 HI4 HSL
      go_wp2_with fail
      go_roundw
      case rel => exact ⟨O.length + 1, _, by omega, by simp, by simp, HI5⟩
      case measure => simp [intOf]; omega
    · have HE : Hid (L.take O.length = L) := List.take_of_length_le (by rw [← HN.out]; omega)
      have HS := hide (tsort_any _ O w.heap.size wr HI.out.own HI.out.ky (by omega))
      obtain ⟨oA, oc, rfl, hoc⟩ := HI.out.own.sl.form
      go_wp2_with fail
      refine HS.out.mono ?_
      rintro e w9 ⟨rfl, E, hp, hso, ho9, hf9⟩
      have HR : Hid (∃ (E : List TV) (A : Option Addr) (c : Nat), (Value.slice oA O.length oc) = (.slice A E.length c) ∧ Own w9 w.heap.size tmT 5 (.slice A E.length c) E.length (tms E) ∧ (∀ x ∈ E, KeyO w9 w.heap.size x) ∧ (E.map TV.d).Perm (L.map TV.d) ∧ E.Pairwise leT ∧ Below w.heap.size w w9) := by
        have hl := hp.length_eq
        refine ⟨E, oA, oc, by rw [hl], by rw [hl]; exact ho9, fun x hx => ?_, ?_, hso, HI.out.bl.trans (hf9.below HI.out.bl.size (fun j hj e => ?_))⟩
        · refine (HI.out.ky x (hp.mem_iff.1 hx)).fr hf9 (fun g cs hc e => ?_)
          obtain ⟨c2, k⟩ := HI.out.own.typed g e
          exact hc.apart k (by decide) rfl
        · have h9 := hp.map TV.d
          rw [HI.out.eq, HE.out] at h9
          exact h9
        · have := (HI.out.own.lt j e).1; omega
      clear hp hso ho9 hf9 HS
      go_wp2_with fail
      go_ret
      obtain ⟨E, A9, c9, h1, h2⟩ := HR.out
      exact ⟨E, A9, c9, by rw [h1]; rfl, h2⟩

end Go.Proofs.Ytogelnljkdcajaa

namespace Go.Proofs.Ytogelnljkdcajaa
open Go.RowKit Go.Sort
set_option linter.unusedVariables false
set_option linter.unusedSimpArgs false

def TD.tv (p : TD) : TV := ⟨p.a, .slice none 0 0, p.b, p.f, p.t, p.w⟩
def leD (p q : TD) : Prop := leT p.tv q.tv
theorem leD_d (x y : TV) : leD x.d y.d ↔ leT x y := Iff.rfl
theorem or_zero {a b : Int} : orI a b = 0 ↔ a = 0 ∧ b = 0 := by
  unfold orI
  split
  · rename_i h; simp [h]
  · rename_i h; simp [h]
theorem leD_anti (p q : TD) (h : leD p q) (k : leD q p) : p = q := by
  unfold leD leT at h k
  rw [ordT_eq] at h k
  have h0 : ordL p.tv q.tv = 0 := by
    have := cp_L.anti p.tv q.tv
    omega
  obtain ⟨a, b, f, t, w⟩ := p
  obtain ⟨a', b', f', t', w'⟩ := q
  unfold ordL at h0
  obtain ⟨h1, h0⟩ := or_zero.1 h0
  obtain ⟨h2, h0⟩ := or_zero.1 h0
  obtain ⟨h3, h4⟩ := or_zero.1 h0
  simp only [TD.tv, TV.win] at h1 h2 h3 h4
  have h5 := (ordI_zero _ _).1 h2
  injection h5 with h6 h7
  rw [(cmpI_zero _ _).1 h1, (cmpB_zero _ _).1 h3, (cmpI_zero _ _).1 h4, h6, h7]
theorem sorted_eq {A B : List TV} (h : (A.map TV.d).Perm (B.map TV.d)) (hA : A.Pairwise leT) (hB : B.Pairwise leT) : A.map TV.d = B.map TV.d :=
  h.eq_of_pairwise (le := leD) (fun a b _ _ => leD_anti a b) (by rw [List.pairwise_map]; exact hA) (by rw [List.pairwise_map]; exact hB)

/-- a row of timers of the law's own -/
structure Row (w0 wx : World) (lv v : Value) (X : List TV) : Prop where
  own : Own wx w0.heap.size tmT 5 v X.length (tms X)
  ky : ∀ x ∈ X, KeyO wx w0.heap.size x
  ap : ∀ g, v.ownBlock = some g → lv.ownBlock ≠ some g
section
variable {w0 wx wy : World} {hb tb mb : Nat} {lv lv' v v' u : Value} {L X O : List TV}
theorem Row.below (h : Row w0 wx lv v X) (k : Below wx.heap.size wx wy) : Row w0 wy lv v X := ⟨h.own.below k, fun x hx => ⟨(h.ky x hx).1.below k, (h.ky x hx).2⟩, h.ap⟩
theorem Row.step (h : Row w0 wx lv v X) (hr : HR w0 wx hb tb mb lv L) (hf : Fr (HBk tb mb lv) wx wy) (hn : NewB wx lv lv') : Row w0 wy lv' v X := by
  refine ⟨h.own.fr hf (fun g hg => ?_), fun x hx => (h.ky x hx).fr hf hr.hp.bnw, fun g hg e => ?_⟩
  · obtain ⟨cs, hc⟩ := h.own.typed g hg
    exact hr.hp.nwr hc (by decide) (h.ap g hg)
  · rcases hn g e with h9 | h9
    · exact h.ap g hg h9
    · have := (h.own.lt g hg).2; omega
theorem Row.nbt (h : Row w0 wx lv v X) : ∀ g cs, Blk wx g bT cs → ¬ v.ownBlock = some g := fun g cs hc e => by
  obtain ⟨c2, k⟩ := h.own.typed g e
  exact hc.apart k (by decide) rfl
theorem HR.row (h : HR w0 wx hb tb mb lv L) (hr : Row w0 wx lv v X) (hf : Fr (fun k => v.ownBlock = some k) wx wy) : HR w0 wy hb tb mb lv L := by
  obtain ⟨⟨c1, k1⟩, k2, k3, k4⟩ := h.hp.typed
  have hty := hr.own.typed
  refine ⟨h.hp.fr hf (fun e => ?_) (fun e => ?_) (fun e => ?_) (fun g hg e => hr.ap g e hg) hr.nbt, h.bl.trans (hf.below h.bl.size (fun k hk e => ?_))⟩
  · obtain ⟨c2, k⟩ := hty _ e; exact k4.apart k (by decide) rfl
  · obtain ⟨c2, k⟩ := hty _ e; exact k1.apart k (by decide) rfl
  · obtain ⟨c2, k⟩ := hty _ e; exact k2 _ _ _ k rfl
  · have := (hr.own.lt k e).1; omega
theorem Row.row (h : Row w0 wx lv u O) (hr : Row w0 wx lv v X) (hf : Fr (fun k => v.ownBlock = some k) wx wy) (hne : ∀ g, v.ownBlock = some g → u.ownBlock ≠ some g) : Row w0 wy lv u O :=
  ⟨h.own.fr hf (fun g hg e => hne g e hg), fun x hx => (h.ky x hx).fr hf hr.nbt, h.ap⟩
theorem Row.app (h : Row w0 wx lv v O) (hr : HR w0 wx hb tb mb lv L) (hx : ∀ x ∈ X, KeyO wx w0.heap.size x) (ha : App wx w0.heap.size tmT 5 v (O.length + X.length) (tms O ++ tms X) v' wy) : Row w0 wy lv v' (O ++ X) := by
  refine ⟨by rw [tms_app, List.length_append]; exact ha.own, fun y hy => ?_, fun g hg e => ?_⟩
  · rcases List.mem_append.1 hy with h9 | h9
    · exact (h.ky y h9).fr ha.fr h.nbt
    · exact (hx y h9).fr ha.fr h.nbt
  · rcases ha.at_ with h9 | h9
    · exact h.ap g (h9 ▸ hg) e
    · have h8 := h9.symm.trans hg
      injection h8 with h8
      have := hr.hp.lts g (.inr (.inr e))
      omega
/-- an empty literal -/
theorem Row.lit (hr : HR w0 wx hb tb mb lv L) : Row w0 (wx.alloc (.cells #[] tmT)) lv (.slice (some ⟨wx.heap.size, 0, none⟩) 0 0) [] :=
  ⟨Own.new wx w0.heap.size #[] hr.bl.size (by omega) rfl, fun x hx => (by cases hx), fun g hg e => by
    have h9 : wx.heap.size = g := by simpa [Value.ownBlock] using hg
    have := hr.hp.lts g (.inr (.inr e))
    omega⟩
theorem Row.sl (h : Row w0 wx lv v X) : Sl wx wx.heap.size v 5 X.length (tms X) := h.own.sl
end
theorem hall_r (w0 w : World) (hb tb mb : Nat) (lv : Value) (L : List TV) (h : HR w0 w hb tb mb lv L) :
    Calls Try.prog 17 #[.pointer (some ⟨hb, 0, none⟩)] w fun e w' => ∃ (E : List TV) (A : Option Addr) (c : Nat), e = .returned (.slice A E.length c) ∧ Below w.heap.size w w' ∧ HR w0 w' hb tb mb lv L ∧ Row w0 w' lv (.slice A E.length c) E ∧ (∀ g, (Value.slice A E.length c).ownBlock = some g → w.heap.size ≤ g) ∧ (E.map TV.d).Perm (L.map TV.d) ∧ E.Pairwise leT := by
  refine (hall_any w w0.heap.size hb tb mb lv L h.hp).mono ?_
  rintro e w' ⟨E, A, c, rfl, ho, hk, hp, hs, hb'⟩
  refine ⟨E, A, c, rfl, hb', h.below hb', ⟨ho.lower h.bl.size, fun x hx => ⟨(hk x hx).1.lower h.bl.size, (hk x hx).2⟩, fun g hg e => ?_⟩, fun g hg => (ho.lt g hg).1, hp, hs⟩
  have h1 := (ho.lt g hg).1
  have h2 := h.hp.lts g (.inr (.inr e))
  omega
theorem DueR.row {w0 w w' : World} {hb tb mb : Nat} {lv lv' : Value} {L L' O : List TV} {now : Int} {A : Option Addr} {c : Nat} (h : DueR w0 w w' hb tb mb lv lv' L L' O now A c) (hz : w0.heap.size ≤ w.heap.size) : Row w0 w' lv' (.slice A O.length c) O := ⟨h.own.lower hz, h.ky, h.ap⟩

/-- a heap's timers in order: taking those that are due leaves the others, in order -/
theorem due_split {L L' O E X : List TV} (hX : (X.map TV.d).Perm (L.map TV.d)) (hXs : X.Pairwise leT) (hp : L.Perm (O ++ L')) (hO : O.Pairwise leT) (hle : ∀ x ∈ O, ∀ y ∈ L', leT x y) (hE : (E.map TV.d).Perm (L'.map TV.d)) (hEs : E.Pairwise leT) :
    (O ++ E).map TV.d = X.map TV.d := by
  refine sorted_eq ?_ ?_ hXs
  · have h1 : ((O ++ E).map TV.d).Perm ((O ++ L').map TV.d) := by
      rw [List.map_append, List.map_append]
      exact hE.append_left _
    exact h1.trans ((hp.symm.map TV.d).trans hX.symm)
  · rw [List.pairwise_append]
    refine ⟨hO, hEs, fun a ha b hb => ?_⟩
    have hm := hE.mem_iff.1 (List.mem_map_of_mem (f := TV.d) hb)
    obtain ⟨y, hy, hd⟩ := List.mem_map.1 hm
    have h1 := (leD_d a y).2 (hle a ha y hy)
    rw [hd] at h1
    exact h1
/-- one goes -/
theorem can_sorted {L L' X : List TV} {z : TV} {at_ : Nat} (hX : (X.map TV.d).Perm (L.map TV.d)) (hXs : X.Pairwise leT) (hp : L.Perm (L' ++ [z])) (hat : at_ < X.length) (hz : z.d = (X[at_]).d) :
    ((X.take at_ ++ X.drop (at_ + 1)).map TV.d).Perm (L'.map TV.d) ∧ (X.take at_ ++ X.drop (at_ + 1)).Pairwise leT := by
  constructor
  · have h1 : (X.map TV.d).Perm ((X[at_]).d :: (X.take at_ ++ X.drop (at_ + 1)).map TV.d) := by
      have e : X = X.take at_ ++ X[at_] :: X.drop (at_ + 1) := by
        rw [← List.drop_eq_getElem_cons hat, List.take_append_drop]
      have h2 : X.Perm (X[at_] :: (X.take at_ ++ X.drop (at_ + 1))) := by
        have h3 : (X.take at_ ++ X[at_] :: X.drop (at_ + 1)).Perm (X[at_] :: (X.take at_ ++ X.drop (at_ + 1))) := List.perm_middle
        rw [← e] at h3
        exact h3
      exact h2.map TV.d
    have h2 : (L.map TV.d).Perm (z.d :: L'.map TV.d) := by
      have h3 := hp.map TV.d
      rw [List.map_append] at h3
      exact h3.trans (List.perm_append_singleton _ _)
    have h4 := (h1.symm.trans hX).trans h2
    rw [hz] at h4
    exact (List.perm_cons _).1 h4
  · have hs : (X.take at_ ++ X.drop (at_ + 1)).Sublist X := by
      have e : X.take at_ ++ X.drop at_ = X := List.take_append_drop _ _
      have h1 : (X.drop (at_ + 1)).Sublist (X.drop at_) := by
        rw [← List.tail_drop]
        exact List.tail_sublist _
      have h2 := h1.append_left (X.take at_)
      rw [e] at h2
      exact h2
    exact hXs.sublist hs

theorem CanQ.own {w0 W X w' : World} {hb tb mb base n : Nat} {lv lv' v : Value} {L L' : List TV} {z : TV} {ok : Bool} {a : Nm} {xs : List Value} (h : CanQ w0 W X w' hb tb mb lv lv' L L' z ok a) (ho : Own X base tmT 5 v n xs) (hap : ∀ g, v.ownBlock = some g → lv.ownBlock ≠ some g) : Own w' base tmT 5 v n xs :=
  ho.to fun g hg => by
    obtain ⟨cs, hc⟩ := ho.typed g hg
    exact (h.old g cs hc (hap g hg)).1.trans (show X.heap[g]? = _ from hc).symm
theorem KeyO.kp {w w' : World} {base : Nat} {x : TV} (h : KeyO w base x) (k : Kp w w') : KeyO w' base x :=
  ⟨h.1.to fun g hg => by
    obtain ⟨cs, hc⟩ := h.1.typed g hg
    exact (k g bT cs (by decide) (by decide) hc).trans (show w.heap[g]? = _ from hc).symm, h.2⟩
theorem CanQ.row {w0 W X w' : World} {hb tb mb : Nat} {lv lv' v : Value} {L L' R : List TV} {z : TV} {ok : Bool} {a : Nm} (h : CanQ w0 W X w' hb tb mb lv lv' L L' z ok a) (hX : Below W.heap.size W X) (hr : Row w0 W lv v R) : Row w0 w' lv' v R := by
  have hx := hr.below hX
  refine ⟨h.own hx.own hr.ap, fun x hx => (hr.ky x hx).kp h.kp, fun g hg => ?_⟩
  obtain ⟨cs, hc⟩ := hx.own.typed g hg
  exact (h.old g cs hc (hr.ap g hg)).2
theorem Row.put5 {w0 wx : World} {lv v : Value} {R : List TV} {nb : Nat} {cs : Array Value} (h : Row w0 wx lv v R) (hn : Blk wx nb tmT cs) (hne : v.ownBlock ≠ some nb) (z : TV) : Row w0 (Go.Proofs.Ytogelnljkdcajaa.put5 wx ⟨nb, 0, none⟩ z) lv v R := by
  have hf : Fr (fun j => j = nb) wx (Go.Proofs.Ytogelnljkdcajaa.put5 wx ⟨nb, 0, none⟩ z) := put5_fr (S := fun j => j = nb) (p := ⟨nb, 0, none⟩) (Fr.refl _ wx) rfl z
  exact ⟨h.own.fr hf (fun g hg e => hne (by rw [hg, e])), fun x hx => (h.ky x hx).fr hf (fun g cs hc => hc.apart hn (by decide)), h.ap⟩
/-- the timer that a law cancels out of its own row -/
theorem can_in {L L' X : List TV} {z x : TV} {ok : Bool} (hX : (X.map TV.d).Perm (L.map TV.d)) (hnd : (L.map TV.nm).Nodup) (hx : x ∈ X) (res : (ok = true ∧ z ∈ L ∧ z.nm = x.nm ∧ L.Perm (L' ++ [z])) ∨ (ok = false ∧ z = tz ∧ x.nm ∉ L.map TV.nm ∧ L' = L)) :
    ok = true ∧ z.d = x.d ∧ L.Perm (L' ++ [z]) := by
  obtain ⟨y, hy, hyd⟩ := List.mem_map.1 (hX.mem_iff.1 (List.mem_map_of_mem (f := TV.d) hx))
  have hyn : y.nm = x.nm := congrArg TD.nm hyd
  rcases res with ⟨h1, h2, h3, h4⟩ | ⟨h1, h2, h3, h4⟩
  · refine ⟨h1, ?_, h4⟩
    have hzy : z = y := by
      obtain ⟨i, hi, rfl⟩ := List.getElem_of_mem h2
      obtain ⟨j, hj, rfl⟩ := List.getElem_of_mem hy
      have he : (L.map TV.nm)[i]'(by simpa using hi) = (L.map TV.nm)[j]'(by simpa using hj) := by
        rw [List.getElem_map, List.getElem_map, h3, hyn]
      have := (List.getElem_inj hnd).1 he
      subst this
      rfl
    rw [hzy]
    exact hyd
  · exact absurd (by rw [← hyn]; exact List.mem_map_of_mem hy) h3

end Go.Proofs.Ytogelnljkdcajaa
