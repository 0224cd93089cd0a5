/- Merge of package window. -/
import Derived.Test.YtbnppocaeflghaaDoorMerge
import Derived.Deep.RegionHeld3
import Derived.StillTailTactics
namespace Go.Proofs.YtbnppocaeflghaaDoor
open Go.RowKit Go.Sort
set_option linter.unusedVariables false
set_option linter.unusedSimpArgs false

/-- one window more: into the last one, or behind it -/
def mstep (S : List Win) (x : Win) : List Win :=
  if h : 0 < S.length then (if x.f < (S[S.length - 1]'(by omega)).t then S.set (S.length - 1) ⟨(S[S.length - 1]'(by omega)).f, max (S[S.length - 1]'(by omega)).t x.t⟩ else S ++ [x]) else S ++ [x]
def sweep (D : List Win) : List Win := D.foldl mstep []
theorem sweep_snoc (D : List Win) (k : Nat) (hk : k < D.length) : sweep (D.take (k + 1)) = mstep (sweep (D.take k)) D[k] := by
  rw [List.take_succ_eq_append_getElem hk, sweep, List.foldl_append]
  rfl
theorem mstep_len (S : List Win) (x : Win) : (mstep S x).length ≤ S.length + 1 := by
  unfold mstep
  split
  · split
    · rw [List.length_set]; omega
    · simp
  · simp
theorem sweep_len (D : List Win) : (sweep D).length ≤ D.length := by
  have h : ∀ (D S : List Win), (D.foldl mstep S).length ≤ S.length + D.length := by
    intro D
    induction D with
    | nil => intro S; simp
    | cons x D ih =>
      intro S
      have h1 := ih (mstep S x)
      have h2 := mstep_len S x
      simp only [List.foldl_cons, List.length_cons]
      omega
  have := h D []
  simpa [sweep] using this

theorem wins_set (D : List Win) (k : Nat) (x : Win) (hk : k < D.length) : wins (D.set k x) = ((wins D).set (k * 2) (.int .i64 x.f)).set (k * 2 + 1) (.int .i64 x.t) := by
  induction D generalizing k with
  | nil => simp at hk
  | cons y D ih =>
    cases k with
    | zero => simp [wins, Win.cells]
    | succ k =>
      have h1 := ih k (by simpa using hk)
      simp only [wins, List.flatMap_cons, Win.cells] at h1 ⊢
      rw [List.set_cons_succ]
      simp only [List.flatMap_cons, Win.cells, h1]
      rw [show (k + 1) * 2 = k * 2 + 2 by omega]
      rfl
/-- a cell of one's own slice turned -/
theorem Own.setc {w : World} {base e sz n c j : Nat} {ad : Addr} {xs : List Value} (h : Own w base e sz (.slice (some ad) n c) n xs) (hj : j < n * sz) (u : Value) : Own (w.setCell (ad.add j) u) base e sz (.slice (some ad) n c) n (xs.set j u) := by
  refine ⟨by rw [List.length_set]; exact h.1, ?_⟩
  rcases h.2 with ⟨h1, _⟩ | ⟨g, cap, cur, h1, h2, h3, h4, h5, h6, h7⟩
  · cases h1
  · injection h1 with h1 _ h8
    injection h1 with h1
    subst h1
    subst h8
    have hadd : (⟨g, 0, none⟩ : Addr).add j = ⟨g, j, none⟩ := by
      unfold Addr.add
      split <;> simp_all
    rw [hadd]
    refine .inr ⟨g, c, cur.setIfInBounds j u, rfl, h2, Blk.put h3 j u, h4, h5, by simpa using h6, ?_⟩
    rw [← h7, Array.toList_setIfInBounds, List.take_set]
theorem Own.frz {w : World} {base e sz n c : Nat} {ad : Addr} {xs : List Value} (h : Own w base e sz (.slice (some ad) n c) n xs) (hn : 0 < n) (j : Nat) : w.frozen? (ad.add j) = false := by
  rcases h.2 with ⟨h1, _⟩ | ⟨g, cap, cur, h1, h2, h3, h4, h5, h6, h7⟩
  · cases h1
  · injection h1 with h1 _ h8
    injection h1 with h1
    subst h1
    have hadd : (⟨g, 0, none⟩ : Addr).add j = ⟨g, j, none⟩ := by
      unfold Addr.add
      split <;> simp_all
    rw [hadd]
    exact Blk.frozen h3 j
theorem Own.setT {w : World} {base n c k : Nat} {ad : Addr} {D : List Win} (h : Own w base wT 2 (.slice (some ad) n c) n (wins D)) (hk : k < D.length) (hD : D.length = n) (y : Int) :
    Own (w.setCell ⟨(ad.add (k * 2)).block, (ad.add (k * 2)).off + 1, none⟩ (.int .i64 y)) base wT 2 (.slice (some ad) n c) n (wins (D.set k ⟨D[k].f, y⟩)) := by
  have h1 := h.setc (j := k * 2 + 1) (by omega) (.int .i64 y)
  rw [add_fld ad (k * 2) 1 (by omega)] at h1
  rw [wins_set D k _ hk]
  have h2 : (wins D).set (k * 2) (.int .i64 D[k].f) = wins D := by
    apply List.ext_getElem?
    intro t
    rw [List.getElem?_set]
    split
    · rename_i h9
      subst h9
      have h8 := wins_get D k 0 hk (by omega)
      rw [Nat.add_zero] at h8
      have h7 : k * 2 < (wins D).length := by rw [wins_len]; omega
      rw [if_pos h7, h8]
      rfl
    · rfl
  simp only
  rw [h2]
  exact h1

set_option maxHeartbeats 4000000 in
theorem wmerge_bad (v : Value) (D : List Win) (n B : Nat) (w : World) (hs : Sl w B v 2 n (wins D)) (hD : D.length = n) (hB : B ≤ w.heap.size) (hn : n ≤ 8796093022207) (hg : ¬ AllGood D) :
    Calls Tryd.prog 15 #[v] w fun e w' => e = .returned (.tuple #[.slice none 0 0, .int .i64 70]) ∧ Below w.heap.size w w' := by
  have HC := hide (wsort_bad v D n B w hs hD hB hn hg)
  clear hs hD hB hn hg
  go_enter Tryd.func15, Tryd.ntmps15
  go_wp2_with fail
  refine HC.out.mono ?_
  rintro e w2 ⟨rfl, hb⟩
  have HB := hide hb
  clear hb
  go_wp2_with fail
  go_ret2
  exact ⟨rfl, HB.out⟩

set_option maxRecDepth 100000 in
set_option maxHeartbeats 8000000 in
theorem wmerge_good (v : Value) (D : List Win) (n B : Nat) (w : World) (hs : Sl w B v 2 n (wins D)) (hD : D.length = n) (hB : B ≤ w.heap.size) (hn : n ≤ 8796093022207) (hg : AllGood D) :
    Calls Tryd.prog 15 #[v] w fun e w' => ∃ v', e = .returned (.tuple #[v', .int .i64 0]) ∧ ∃ E, E.Perm D ∧ E.Pairwise (fun a b => a.f ≤ b.f) ∧ Own w' w.heap.size wT 2 v' (sweep E).length (wins (sweep E)) ∧ Below w.heap.size w w' := by
  have HC := hide (wsort_good v D n B w hs hD hB hn hg)
  have HD := hide hD
  clear hs hg hD
  go_enter Tryd.func15, Tryd.ntmps15
  go_wp2_with fail
  refine HC.out.mono ?_
  rintro e w2 ⟨v2, E0, rfl, hp0, _, ho, hb⟩
  have HB := hide hb
  have hl0 : E0.length = n := hp0.length_eq.trans HD.out
  have HO : Hid (Own w2 w.heap.size wT 2 v2 E0.length (wins E0)) := by rw [Hid, hl0]; exact ho
  have HL0 := hide hl0
  have HP0 := hide hp0
  clear hb ho hp0 hl0
  obtain ⟨vA, vc, rfl, hvc⟩ := HO.out.sl.form
  go_wp2_with fail
  refine (sortf_any _ E0 w.heap.size 40 fromI w2 HO.out (by rw [HL0.out]; omega) swo_from (enters_of Tryd.func40 (by kernel_rfl) rfl) (fun x y W => from_any7 x.f x.t y.f y.t W)).mono ?_
  rintro e w3 ⟨rfl, E, hp, hsrt, ho, hf⟩
  have HO3 : Hid (Own w3 w.heap.size wT 2 (.slice vA E0.length vc) n (wins E)) := by have h9 := ho; rw [HL0.out] at h9 ⊢; exact h9
  have HP : Hid (E.Perm D ∧ E.Pairwise (fun a b => a.f ≤ b.f)) := ⟨hp.trans HP0.out, hsrt.imp (fun {a b} h9 => by rw [lt_from] at h9; have := of_decide_eq_false h9; omega)⟩
  have HB3 := hide (HB.out.trans (hf.below (B := w.heap.size) HB.out.size (fun k hk h => by have := (HO.out.lt k h).1; omega)))
  have HEL : Hid (E.length = n) := HP.out.1.length_eq.trans HD.out
  have hl0 := HL0.out
  rw [hl0] at HO3 hvc
  rw [hl0]
  clear ho hp hsrt hf HO HB HP0 HC HL0 hl0
  go_wp2_with fail
  go_loopw [6, 22] (fun o i wr => ∃ (k m : Nat), k ≤ n ∧ m ≤ k ∧ i = .int .i64 k ∧ Hid ((sweep (E.take k)).length = m) ∧ Hid (Own wr w3.heap.size wT 2 o m (wins (sweep (E.take k)))) ∧ Hid (Below w3.heap.size w3 wr)) (fun _ i _ => n - (intOf i).toNat)
  case atStart => exact ⟨0, 0, Nat.zero_le _, Nat.le_refl _, rfl, rfl, Own.nil _ _ _ _, Below.refl _ _⟩
  case round =>
    obtain ⟨k, m, hk, hmk, rfl, HM, HO, HBr⟩ := hrel
    obtain ⟨oA, oc, rfl, hoc⟩ := HO.out.sl.form
    by_cases hlt : k < n
    · have hkD : k < E.length := by rw [HEL.out]; exact hlt
      obtain ⟨ad, rfl, hab, g0, g1⟩ := win_at (HO3.out.sl.below HBr.out) hlt HEL.out
      have hzr := HBr.out.size
      have HSW := hide (sweep_snoc E k hkD)
      generalize E[k] = x at g0 g1 HSW
      obtain ⟨xf, xt⟩ := x
      simp only at g0 g1
      have hab2 : (ad.add (k * 2)).block < wr.heap.size := by omega
      have HN : Hid (Sl ((wr.alloc (.cells #[.int .i64 xf, .int .i64 xt] wT)).alloc (.cells #[.int .i64 xf, .int .i64 xt] wT)) (wr.heap.size + 2) (.slice (some ⟨wr.heap.size + 1, 0, none⟩) 1 1) 2 1 (wins [⟨xf, xt⟩])) := by
        have h9 := Sl.of_own (Own.new (n := 1) (sz := 2) (e := wT) (base := 0) (wr.alloc (.cells #[.int .i64 xf, .int .i64 xt] wT)) #[.int .i64 xf, .int .i64 xt] (by omega) (by omega) rfl)
        simp at h9
        exact h9.mono (by omega)
      generalize sweep (E.take k) = S at HM HO HSW
      have HBn : Hid (∀ q : Nat, Below w3.heap.size w3 (((wr.alloc (.cells #[.int .i64 xf, .int .i64 xt] wT)).drewN q).alloc (.cells #[.int .i64 xf, .int .i64 xt] wT))) := fun q => ((HBr.out.alloc (o := .cells #[.int .i64 xf, .int .i64 xt] wT) HBr.out.size).drewN q).alloc (o := .cells #[.int .i64 xf, .int .i64 xt] wT) (by simp <;> omega)
      by_cases hm0 : m = 0
      · subst hm0
        have hS : S = [] := List.eq_nil_of_length_eq_zero HM.out
        have HSN : Hid (sweep (E.take (k + 1)) = [⟨xf, xt⟩]) := by rw [HSW.out, hS]; rfl
        have HO0 : Hid (Own wr w3.heap.size wT 2 (.slice oA 0 oc) 0 (wins [])) := by have h9 := HO.out; rw [hS] at h9; exact h9
        clear hS
        go_wp2_with fail
        go_quiet (fail)
        go_wp2_with (at_builtin; refine wpList_app rfl tyW (.tmp 53) (.tmp 55) rfl w3.heap.size (n := 0) (m := 1) (B := wr.heap.size + 2) (xs := wins []) (news := wins [⟨xf, xt⟩]) rfl rfl ((HO0.out.alloc _).alloc _) (by first | exact HN.out | (simpa using HN.out)) (wins_ok _) (by omega) (by omega) (by simp <;> omega) ?_)
        intro v1 w1 ha
        have HO1 : Hid (Own w1 w3.heap.size wT 2 v1 1 (wins (sweep (E.take (k + 1))))) := by rw [HSN.out]; exact ha.own
        have HB1 := hide ((HBn.out nq).trans (ha.fr.below (B := w3.heap.size) (by simp <;> omega) (fun k hk h => by have := ((HO.out.lt k h).1); omega)))
        clear ha
        go_wp2_with fail
        go_roundw
        case rel => exact ⟨k + 1, 1, by omega, by omega, by simp, by rw [Hid, HSN.out]; rfl, HO1, HB1⟩
        case measure => simp [intOf]; omega
      · obtain ⟨j, rfl⟩ : ∃ j, m = j + 1 := ⟨m - 1, by omega⟩
        have hjS : j < S.length := by rw [HM.out]; omega
        obtain ⟨ad2, rfl, hab3, q0, q1⟩ := win_at HO.out.sl (show j < j + 1 by omega) HM.out
        have HMS : Hid (mstep S ⟨xf, xt⟩ = if xf < S[j].t then S.set j ⟨S[j].f, max S[j].t xt⟩ else S ++ [⟨xf, xt⟩]) := by
          have h1 : 0 < S.length := by omega
          have h2 : S.length - 1 = j := by rw [HM.out]; omega
          rw [Hid, mstep, dif_pos h1]
          simp only [h2]
        have HSET : Hid (∀ (X : World), Own X w3.heap.size wT 2 (.slice (some ad2) (j + 1) oc) (j + 1) (wins S) → ∀ y : Int, Own (X.setCell ⟨(ad2.add (j * 2)).block, (ad2.add (j * 2)).off + 1, none⟩ (.int .i64 y)) w3.heap.size wT 2 (.slice (some ad2) (j + 1) oc) (j + 1) (wins (S.set j ⟨S[j].f, y⟩))) := fun X hX y => Own.setT hX hjS HM.out y
        generalize S[j] = l at q0 q1 HMS HSET
        obtain ⟨lf, lt⟩ := l
        simp only at q0 q1 HMS HSET
        have hw : IntKind.i64.wrap (((j + 1 : Nat) : Int) - 1) = (j : Int) := by rw [IntWalk.i64_in _ (by omega)]; omega
        have i1 : (0 : Int) ≤ (j : Int) := by omega
        have i2 : (j : Int) < ((j + 1 : Nat) : Int) := by omega
        have hab4 : (ad2.add (j * 2)).block < (wr.alloc (.cells #[.int .i64 xf, .int .i64 xt] wT)).heap.size := by simp; omega
        by_cases hov : xf < lt
        · have HSN : Hid (sweep (E.take (k + 1)) = S.set j ⟨lf, max lt xt⟩) := by show _ = _; rw [HSW.out, HMS.out, if_pos hov]
          have hov2 : decide (xf < lt) = true := decide_eq_true hov
          have fz : wr.frozen? ⟨(ad2.add (j * 2)).block, (ad2.add (j * 2)).off + 1, none⟩ = false := by
            have h9 := HO.out.frz (by omega) (j * 2 + 1)
            rwa [add_fld ad2 (j * 2) 1 (by omega)] at h9
          go_wp2_with fail
          go_quiet (fail)
          go_wp2_with fail
          refine wp_region_still_tail 12 (by kernel_rfl) (by kernel_rfl) ?_
          simp only [List.take_succ_cons, List.take_zero, List.drop_succ_cons, List.drop_zero]
          change wpStill _ _ (World.drew _) _ _ _
          have d0 : (((wr.alloc (.cells #[.int .i64 xf, .int .i64 xt] wT)).drewN nq).drew).cell? ⟨(ad2.add (j * 2)).block, (ad2.add (j * 2)).off + 1, none⟩ = some (.int .i64 lt) := ((HBr.out.size |> fun _ => (Below.refl wr.heap.size wr).alloc (Nat.le_refl _) (.cells #[.int .i64 xf, .int .i64 xt] wT)).cell (p := ⟨(ad2.add (j * 2)).block, (ad2.add (j * 2)).off + 1, none⟩) (by omega)).trans q1
          have d1 : (((wr.alloc (.cells #[.int .i64 xf, .int .i64 xt] wT)).drewN nq).drew).cell? ⟨wr.heap.size, 1, none⟩ = some (.int .i64 xt) := (Blk.new wr wT #[.int .i64 xf, .int .i64 xt]).cell 1
          have hl0 : (ad2.add (j * 2)).block < (((wr.alloc (.cells #[.int .i64 xf, .int .i64 xt] wT)).drewN nq).drew).heap.size := hab4
          have hl1 : wr.heap.size < (((wr.alloc (.cells #[.int .i64 xf, .int .i64 xt] wT)).drewN nq).drew).heap.size := by show _ < (wr.alloc _).heap.size; simp
          have f0 : (((wr.alloc (.cells #[.int .i64 xf, .int .i64 xt] wT)).drewN nq).drew).frozen? ⟨(ad2.add (j * 2)).block, (ad2.add (j * 2)).off + 1, none⟩ = false := ((Below.refl wr.heap.size wr).alloc (Nat.le_refl _) (.cells #[.int .i64 xf, .int .i64 xt] wT)).frozen (p := ⟨(ad2.add (j * 2)).block, (ad2.add (j * 2)).off + 1, none⟩) (by omega) |>.trans fz
          have HO2 : Hid (Own (((wr.alloc (.cells #[.int .i64 xf, .int .i64 xt] wT)).drewN nq).drew) w3.heap.size wT 2 (.slice (some ad2) (j + 1) oc) (j + 1) (wins S)) := HO.out.alloc _
          have HB2 : Hid (Below w3.heap.size w3 (((wr.alloc (.cells #[.int .i64 xf, .int .i64 xt] wT)).drewN nq).drew)) := (HBr.out.alloc (o := .cells #[.int .i64 xf, .int .i64 xt] wT) HBr.out.size).drewN (nq + 1)
          generalize hW : World.drew _ = W2 at d0 d1 hl0 hl1 f0 HO2 HB2 ⊢
          have HW := hide hW
          clear hW
          have i3 : (j : Int) < (j : Int) + 1 := by omega
          repeat still_step
          refine wpStill_nil ?_
          change wpList _ _ _ _ _ (World.drew _)
          rw [HW.out]
          clear d1 hl1 i3 fz
          go_wp2_with fail
          have hge : w3.heap.size ≤ (ad2.add (j * 2)).block := by
            have h9 := HO.out.lt (ad2.add (j * 2)).block (by
              rcases HO.out.2 with ⟨h1, _⟩ | ⟨g, cap, cur, h1, h2, h3, h4, h5, h6, h7⟩
              · cases h1
              · injection h1 with h1 _ h8
                injection h1 with h1
                subst h1
                rw [add_blk]
                rfl)
            exact h9.1
          go_roundw
          case rel => exact ⟨k + 1, j + 1, by omega, by omega, by simp, by rw [Hid, HSN.out, List.length_set, HM.out], by rw [HSN.out]; exact HSET.out W2 HO2.out _, HB2.out.trans (Fr.below (S := fun k => k = (ad2.add (j * 2)).block) (Fr.put (S := fun k => k = (ad2.add (j * 2)).block) (p := ⟨(ad2.add (j * 2)).block, (ad2.add (j * 2)).off + 1, none⟩) (Fr.refl _ W2) (.inl rfl) _) HB2.out.size (fun k hk h => by omega))⟩
          case measure => simp [intOf]; omega
        · have HSN : Hid (sweep (E.take (k + 1)) = S ++ [⟨xf, xt⟩]) := by show _ = _; rw [HSW.out, HMS.out, if_neg hov]
          go_wp2_with fail
          go_quiet (fail)
          go_wp2_with (at_builtin; refine wpList_app rfl tyW (.tmp 53) (.tmp 55) rfl w3.heap.size (n := j + 1) (m := 1) (B := wr.heap.size + 2) (xs := wins S) (news := wins [⟨xf, xt⟩]) rfl rfl ((HO.out.alloc _).alloc _) (by first | exact HN.out | (simpa using HN.out)) (wins_ok _) (by omega) (by omega) (by simp <;> omega) ?_)
          intro v1 w1 ha
          have HO1 : Hid (Own w1 w3.heap.size wT 2 v1 (j + 1 + 1) (wins (sweep (E.take (k + 1))))) := by rw [HSN.out, wins_app]; exact ha.own
          have HB1 := hide ((HBn.out nq).trans (ha.fr.below (B := w3.heap.size) (by simp <;> omega) (fun k hk h => by have := ((HO.out.lt k h).1); omega)))
          clear ha
          go_wp2_with fail
          go_roundw
          case rel => exact ⟨k + 1, j + 1 + 1, by omega, by omega, by simp, by rw [Hid, HSN.out, List.length_append, HM.out]; rfl, HO1, HB1⟩
          case measure => simp [intOf]; omega
    · obtain rfl : k = n := by omega
      have HT : Hid (E.take k = E) := by rw [Hid, List.take_of_length_le (by rw [HEL.out]; omega)]
      rw [HT.out] at HO HM
      go_wp2_with fail
      go_ret2
      refine ⟨_, rfl, E, HP.out.1, HP.out.2, ?_, HB3.out.trans (HBr.out.mono HB3.out.size)⟩
      have h9 := HO.out.lower HB3.out.size
      rw [HM.out]
      exact h9

end Go.Proofs.YtbnppocaeflghaaDoor
