/- timers.Heap: right, ContainsFunc; New, Len. -/
import Derived.Test.YtogelnljkdcajaaHeap4
import Derived.Test.YtogelnljkdcajaaWchk
namespace Go.Proofs.Ytogelnljkdcajaa
open Go.RowKit Go.Sort
set_option linter.unusedVariables false
set_option linter.unusedSimpArgs false

def TV.right (x : TV) : Prop := (0 ≤ x.a ∧ x.a ≤ 4194304) ∧ (0 ≤ x.w ∧ x.w ≤ 9) ∧ x.win.good ∧ x.kb.length ≤ 1048576
instance (x : TV) : Decidable x.right := by unfold TV.right; exact inferInstance
set_option maxRecDepth 100000 in
set_option maxHeartbeats 4000000 in
theorem right_any (x : TV) (B : Nat) (w : World) (hx : KeyIn w B x) : Calls Try.prog 27 #[.agg x.cells.toArray] w fun e w' => e = .returned (.bool (decide x.right)) ∧ Below w.heap.size w w' := by
  obtain ⟨A, c, hkx, hc⟩ := hx.sl.form
  obtain ⟨xa, xk, xb, xf, xt, xw⟩ := x
  simp only at hkx hc
  subst hkx
  clear hx
  obtain ⟨n, hn⟩ : ∃ n, n = xb.length := ⟨_, rfl⟩
  obtain ⟨r, hr⟩ : ∃ r, r = decide (TV.right ⟨xa, .slice A xb.length c, xb, xf, xt, xw⟩) := ⟨_, rfl⟩
  rw [← hr]
  have HR : Hid (r = decide (((0 ≤ xa ∧ xa ≤ 4194304) ∧ (0 ≤ xw ∧ xw ≤ 9) ∧ (Win.mk xf xt).good ∧ n ≤ 1048576))) := by show _ = _; rw [hr, hn]; rfl
  unfold TV.cells
  simp only
  rw [← hn] at hc ⊢
  clear hr hn
  have HB : Hid (Below w.heap.size w (w.alloc (.cells #[.int .i64 xa, .slice A n c, .int .i64 xf, .int .i64 xt, .int .i64 xw] tmT))) := (Below.refl _ _).alloc (Nat.le_refl _) _
  by_cases h1 : 0 ≤ xa
  · by_cases h2 : xa ≤ 4194304
    · by_cases h3 : 0 ≤ xw
      · by_cases h4 : xw ≤ 9
        · have HP : Hid (Blk (w.alloc (.cells #[.int .i64 xa, .slice A n c, .int .i64 xf, .int .i64 xt, .int .i64 xw] tmT)) w.heap.size tmT #[.int .i64 xa, .slice A n c, .int .i64 xf, .int .i64 xt, .int .i64 xw]) := Blk.new w _ _
          have HG : Hid (∀ b, b = decide ((Win.mk xf xt).good ∧ n ≤ 1048576) → b = r) := by
            intro b hb
            rw [HR.out, hb]
            simp [h1, h2, h3, h4]
          by_cases h5 : (Win.mk xf xt).good
          · have HGD := hide h5
            clear h5
            go_enter Try.func27, Try.ntmps27
            go_wp2_with fail
            refine (wcheck_any xf xt _).mono ?_
            rw [if_pos HGD.out]
            generalize w.alloc (.cells #[.int .i64 xa, .slice A n c, .int .i64 xf, .int .i64 xt, .int .i64 xw] tmT) = w1 at *
            rintro e w2 ⟨rfl, hb⟩
            have HP2 := hide (HP.out.below hb HP.out.lt)
            have HB2 := hide (HB.out.trans (hb.mono HB.out.size))
            clear hb
            have c1 : w2.cell? ⟨w.heap.size, 1, none⟩ = some (.slice A n c) := HP2.out.cell 1
            have hl2 := HP2.out.lt
            by_cases h6 : n ≤ 1048576
            · have HF : Hid (r = true) := (HG.out true (by simp [HGD.out, h6])).symm
              go_wp2_with fail
              go_ret
              rw [HF.out]
              exact ⟨congrArg (fun b => Ending.returned (Value.bool b)) (show decide ((n : Int) ≤ 1048576) = true from decide_eq_true (by omega)), HB2.out⟩
            · have HF : Hid (r = false) := (HG.out false (by simp [HGD.out, h6])).symm
              go_wp2_with fail
              go_ret
              rw [HF.out]
              exact ⟨congrArg (fun b => Ending.returned (Value.bool b)) (show decide ((n : Int) ≤ 1048576) = false from decide_eq_false (by omega)), HB2.out⟩
          · have HF : Hid (r = false) := (HG.out false (by simp [h5])).symm
            have HGD := hide h5
            clear h5
            go_enter Try.func27, Try.ntmps27
            go_wp2_with fail
            refine (wcheck_any xf xt _).mono ?_
            rw [if_neg HGD.out]
            generalize w.alloc (.cells #[.int .i64 xa, .slice A n c, .int .i64 xf, .int .i64 xt, .int .i64 xw] tmT) = w1 at *
            rintro e w2 ⟨rfl, hb⟩
            have HB2 := hide (HB.out.trans (hb.mono HB.out.size))
            clear hb
            go_wp2_with fail
            go_ret
            rw [HF.out]
            exact ⟨rfl, HB2.out⟩
        · have HF : Hid (r = false) := by show _ = _; rw [HR.out]; simp [h4]
          go_enter Try.func27, Try.ntmps27
          go_wp2_with fail
          go_ret
          rw [HF.out]
          exact ⟨rfl, HB.out⟩
      · have HF : Hid (r = false) := by show _ = _; rw [HR.out]; simp [h3]
        go_enter Try.func27, Try.ntmps27
        go_wp2_with fail
        go_ret
        rw [HF.out]
        exact ⟨rfl, HB.out⟩
    · have HF : Hid (r = false) := by show _ = _; rw [HR.out]; simp [h2]
      go_enter Try.func27, Try.ntmps27
      go_wp2_with fail
      go_ret
      rw [HF.out]
      exact ⟨rfl, HB.out⟩
  · have HF : Hid (r = false) := by show _ = _; rw [HR.out]; simp [h1]
    go_enter Try.func27, Try.ntmps27
    go_wp2_with fail
    go_ret
    rw [HF.out]
    exact ⟨rfl, HB.out⟩

theorem set1_any (x : TV) (B : Nat) (w : World) (hx : KeyIn w B x) (hB : B ≤ w.heap.size) : Calls Try.prog 26 #[.agg x.cells.toArray] w fun e w' => e = .returned (.bool (!decide x.right)) ∧ Below w.heap.size w w' := by
  have HR : Hid (∀ X : World, Below w.heap.size w X → Calls Try.prog 27 #[.agg x.cells.toArray] X fun e w' => e = .returned (.bool (decide x.right)) ∧ Below X.heap.size X w') := fun X h => right_any x B X (hx.below (h.mono hB))
  generalize decide x.right = r at HR ⊢
  obtain ⟨xa, xk, xb, xf, xt, xw⟩ := x
  unfold TV.cells at HR ⊢
  simp only at HR ⊢
  clear hx
  have HB : Hid (Below w.heap.size w (w.alloc (.cells #[.int .i64 xa, xk, .int .i64 xf, .int .i64 xt, .int .i64 xw] tmT))) := (Below.refl _ _).alloc (Nat.le_refl _) _
  go_enter Try.func26, Try.ntmps26
  go_wp2_with fail
  refine (HR.out _ HB.out).mono ?_
  generalize w.alloc (.cells #[.int .i64 xa, xk, .int .i64 xf, .int .i64 xt, .int .i64 xw] tmT) = w1 at *
  rintro e w2 ⟨rfl, hb⟩
  have HB2 := hide (HB.out.trans (hb.mono HB.out.size))
  clear hb HR
  go_wp2_with fail
  go_ret
  exact ⟨rfl, HB2.out⟩

/-- the heap: its struct over the tree -/
abbrev hpT : Nat := 70
structure HpS (w : World) (base hb tb mb : Nat) (lv : Value) (L : List TV) : Prop where
  blk : Blk w hb hpT #[.pointer (some ⟨tb, 0, none⟩)]
  hp : HpT w base tb mb lv L
  bh : base ≤ hb
theorem HpS.below {w w' : World} {base hb tb mb : Nat} {lv : Value} {L : List TV} (h : HpS w base hb tb mb lv L) (k : Below w.heap.size w w') : HpS w' base hb tb mb lv L := ⟨h.blk.below k h.blk.lt, h.hp.below k, h.bh⟩
theorem HpS.drewN {w : World} {base hb tb mb : Nat} {lv : Value} {L : List TV} (h : HpS w base hb tb mb lv L) (q : Nat) : HpS (w.drewN q) base hb tb mb lv L := h.below ((Below.refl _ _).drewN q)
theorem HpS.open {w : World} {base hb tb mb : Nat} {lv : Value} {L : List TV} (h : HpS w base hb tb mb lv L) : w.cell? ⟨hb, 0, none⟩ = some (.pointer (some ⟨tb, 0, none⟩)) ∧ w.cell? ⟨tb, 0, none⟩ = some lv ∧ w.cell? ⟨tb, 1, none⟩ = some (.map (some mb)) ∧ hb < w.heap.size ∧ tb < w.heap.size ∧
    ∃ A c, lv = .slice A L.length c ∧ L.length ≤ c := by
  obtain ⟨M, ht, hg⟩ := h.hp.st
  exact ⟨h.blk.cell 0, ht.blk.cell 0, ht.blk.cell 1, h.blk.lt, ht.blk.lt, ht.own.sl.form⟩
theorem new_any (w : World) (base : Nat) (hbase : base ≤ w.heap.size) : Calls Try.prog 7 #[] w fun e w' => ∃ hb tb mb lv, e = .returned (.pointer (some ⟨hb, 0, none⟩)) ∧ HpS w' base hb tb mb lv [] ∧ Below w.heap.size w w' := by
  have hm : (Instr.makeMap placeT none).run Try.prog w = .ok (.map (some w.heap.size)) (w.alloc (.map #[] 0)) := rfl
  go_enter Try.func7, Try.ntmps7
  go_wp2_with fail
  go_ret
  have hM : MapR ((w.alloc (.map #[] 0)).alloc (.cells #[.slice none 0 0, .map (some w.heap.size)] treeT)) w.heap.size nmV intV [] := (MapR.new w nmV intV).below ((Below.refl _ _).alloc (Nat.le_refl _) _) (by simp)
  have hT : Blk ((w.alloc (.map #[] 0)).alloc (.cells #[.slice none 0 0, .map (some w.heap.size)] treeT)) (w.heap.size + 1) treeT #[.slice none 0 0, .map (some w.heap.size)] := by
    have h9 := Blk.new (w.alloc (.map #[] 0)) treeT #[.slice none 0 0, .map (some w.heap.size)]
    simpa using h9
  have hS : TreeS ((w.alloc (.map #[] 0)).alloc (.cells #[.slice none 0 0, .map (some w.heap.size)] treeT)) base (w.heap.size + 1) w.heap.size (.slice none 0 0) [] [] :=
    ⟨hT, Own.nil _ _ _ _, hM, fun x hx => (by cases hx), by omega, hbase⟩
  have hB : Below w.heap.size w ((w.alloc (.map #[] 0)).alloc (.cells #[.slice none 0 0, .map (some w.heap.size)] treeT)) := ((Below.refl _ _).alloc (Nat.le_refl _) _).alloc (by simp) _
  have hz : ((w.alloc (.map #[] 0)).alloc (.cells #[.slice none 0 0, .map (some w.heap.size)] treeT)).heap.size = w.heap.size + 1 + 1 := by simp
  have hH := Blk.new ((w.alloc (.map #[] 0)).alloc (.cells #[.slice none 0 0, .map (some w.heap.size)] treeT)) hpT #[.pointer (some ⟨w.heap.size + 1, 0, none⟩)]
  have hS2 := hS.below ((Below.refl _ _).alloc (Nat.le_refl _) (.cells #[.pointer (some ⟨w.heap.size + 1, 0, none⟩)] hpT))
  rw [hz] at hH
  exact ⟨w.heap.size + 1 + 1, w.heap.size + 1, w.heap.size, .slice none 0 0, rfl, ⟨hH, ⟨⟨[], hS2, ⟨by simp, fun a v => ⟨fun h => (by cases h), fun ⟨i, h, _⟩ => (by cases h)⟩⟩⟩, fun i h0 h1 => (by cases h1), by simp⟩, by omega⟩, hB.alloc (by rw [hz]; omega) _⟩
theorem hlen_any (w : World) (base hb tb mb : Nat) (lv : Value) (L : List TV) (h : HpS w base hb tb mb lv L) : Calls Try.prog 12 #[.pointer (some ⟨hb, 0, none⟩)] w fun e w' => e = .returned (.int .i64 L.length) ∧ w' = w := by
  obtain ⟨c0, t0, t1, hlt, htl, A, c, rfl, hc⟩ := h.open
  clear h
  generalize L.length = n at t0 ⊢
  go_enter Try.func12, Try.ntmps12
  go_wp2_with fail
  go_ret
  exact ⟨rfl, rfl⟩

end Go.Proofs.Ytogelnljkdcajaa
