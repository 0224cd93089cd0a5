/- Cells: at, right of a key, right of a cell (trigger.Load of a state). -/
import Derived.Test.YtkobaidamdffmaaCell
import Derived.Test.YtkobaidamdffmaaAft
namespace Go.Proofs.Ytkobaidamdffmaa
open Go.RowKit Go.Sort
set_option linter.unusedVariables false
set_option linter.unusedSimpArgs false

abbrev keyT : Nat := 39
set_option maxHeartbeats 2000000 in
theorem at_any (v : Value) (D : List Int) (n B : Nat) (f t : Int) (w : World) (hs : Sl w B v 1 n (bys D)) (hD : D.length = n) (hB : B ≤ w.heap.size) :
    Calls Try.prog 34 #[.agg #[v, .int .i64 f, .int .i64 t]] w fun e w' => e = .returned (.agg #[.string (strOfNums D), .int .i64 f, .int .i64 t]) ∧ Below w.heap.size w w' := by
  obtain ⟨A, c, rfl, hc⟩ := hs.form
  have HST : Hid (∀ X : World, Below w.heap.size w X → (convert 23 9 (.slice A n c)).run Try.prog X = .ok (.string (strOfNums D)) X) := fun X h => bys_str _ D n B X (hs.below (h.mono hB)) hD
  have hst := HST.out _ (((Below.refl w.heap.size w).alloc (Nat.le_refl _) (.cells #[.slice A n c, .int .i64 f, .int .i64 t] keyT)).alloc (by simp) (.cells #[.string ⟨#[]⟩, .int .i64 0, .int .i64 0] plT))
  clear hs hD
  go_enter Try.func34, Try.ntmps34
  go_wp2_with fail
  have hB1 : Below w.heap.size w ((w.alloc (.cells #[.slice A n c, .int .i64 f, .int .i64 t] keyT)).alloc (.cells #[.string (strOfNums D), .int .i64 f, .int .i64 t] plT)) := ((Below.refl w.heap.size w).alloc (Nat.le_refl _) _).alloc (by simp) _
  have hK : Blk ((w.alloc (.cells #[.slice A n c, .int .i64 f, .int .i64 t] keyT)).alloc (.cells #[.string (strOfNums D), .int .i64 f, .int .i64 t] plT)) (w.heap.size + 1) plT #[.string (strOfNums D), .int .i64 f, .int .i64 t] := by
    have h9 := Blk.new (w.alloc (.cells #[.slice A n c, .int .i64 f, .int .i64 t] keyT)) plT #[.string (strOfNums D), .int .i64 f, .int .i64 t]
    simpa using h9
  generalize ((w.alloc (.cells #[.slice A n c, .int .i64 f, .int .i64 t] keyT)).alloc (.cells #[.string (strOfNums D), .int .i64 f, .int .i64 t] plT)) = w5 at *
  have c0 : w5.cell? ⟨w.heap.size + 1, 0, none⟩ = some (.string (strOfNums D)) := hK.cell 0
  have c1 : w5.cell? ⟨w.heap.size + 1, 1, none⟩ = some (.int .i64 f) := hK.cell 1
  have c2 : w5.cell? ⟨w.heap.size + 1, 2, none⟩ = some (.int .i64 t) := hK.cell 2
  have hres : Try.f34.results = #[.cell 2 plT] := by kernel_rfl
  refine bodyPost_ret (v := .agg #[.string (strOfNums D), .int .i64 f, .int .i64 t]) ?_ rfl ⟨rfl, hB1⟩
  simp [results, hres, go_sem, c0, c1, c2]

/-- may a key be? -/
def keyR (n : Nat) (f t : Int) : Prop := n ≤ 1048576 ∧ (Win.mk f t).good
instance (n : Nat) (f t : Int) : Decidable (keyR n f t) := by unfold keyR; exact inferInstance
set_option maxHeartbeats 2000000 in
theorem kright_any (A : Option Addr) (n c : Nat) (f t : Int) (w : World) :
    Calls Try.prog 32 #[.agg #[.slice A n c, .int .i64 f, .int .i64 t]] w fun e w' => e = .returned (.bool (decide (keyR n f t))) ∧ Below w.heap.size w w' := by
  obtain ⟨r, hr⟩ : ∃ r : Bool, r = decide (keyR n f t) := ⟨_, rfl⟩
  rw [← hr]
  have HR := hide hr
  clear hr
  have HB : Hid (Below w.heap.size w (w.alloc (.cells #[.slice A n c, .int .i64 f, .int .i64 t] keyT))) := (Below.refl _ _).alloc (Nat.le_refl _) _
  by_cases h1 : n ≤ 1048576
  · by_cases h2 : (Win.mk f t).good
    · have HF : Hid (r = true) := by show _ = _; rw [HR.out]; exact decide_eq_true ⟨h1, h2⟩
      have HG := hide h2
      clear h2
      go_enter Try.func32, Try.ntmps32
      go_wp2_with fail
      refine (wcheck_any f t _).mono ?_
      rw [if_pos HG.out]
      rintro e w2 ⟨rfl, hb⟩
      have HB2 := hide (HB.out.trans (hb.mono HB.out.size))
      clear hb
      go_wp2_with fail
      go_ret
      rw [HF.out]
      exact ⟨rfl, HB2.out⟩
    · have HF : Hid (r = false) := by show _ = _; rw [HR.out]; exact decide_eq_false (fun h => h2 h.2)
      have HG := hide h2
      clear h2
      go_enter Try.func32, Try.ntmps32
      go_wp2_with fail
      refine (wcheck_any f t _).mono ?_
      rw [if_neg HG.out]
      rintro e w2 ⟨rfl, hb⟩
      have HB2 := hide (HB.out.trans (hb.mono HB.out.size))
      clear hb
      go_wp2_with fail
      go_ret
      rw [HF.out]
      exact ⟨rfl, HB2.out⟩
  · have HF : Hid (r = false) := by show _ = _; rw [HR.out]; exact decide_eq_false (fun h => h1 h.1)
    go_enter Try.func32, Try.ntmps32
    go_wp2_with fail
    go_ret
    rw [HF.out]
    exact ⟨rfl, HB.out⟩

theorem btw_any (x a b : Int) (w : World) : Calls Try.prog 76 #[.int .i64 x, .int .i64 a, .int .i64 b] w fun e w' => e = .returned (.bool (decide (a ≤ x ∧ x ≤ b))) ∧ w' = w := by
  obtain ⟨r, hr⟩ : ∃ r : Bool, r = decide (a ≤ x ∧ x ≤ b) := ⟨_, rfl⟩
  rw [← hr]
  have HR := hide hr
  clear hr
  by_cases h1 : a ≤ x
  · have HF : Hid (r = decide (x ≤ b)) := by show _ = _; rw [HR.out]; simp [h1]
    go_enter Try.func76, Try.ntmps76
    go_wp2_with fail
    go_ret
    rw [HF.out]
    exact ⟨rfl, rfl⟩
  · have HF : Hid (r = false) := by show _ = _; rw [HR.out]; simp [h1]
    go_enter Try.func76, Try.ntmps76
    go_wp2_with fail
    go_ret
    rw [HF.out]
    exact ⟨rfl, rfl⟩

/-- may a line's state be? -/
def lineR (n g : Int) : Prop := (0 ≤ n ∧ n ≤ 1099511627776) ∧ (0 ≤ g ∧ g ≤ 3) ∧ (0 < n ∨ g = 0)
instance (n g : Int) : Decidable (lineR n g) := by unfold lineR; exact inferInstance
def PLoadP (w : World) (n g : Int) (e : Ending) (w' : World) : Prop := ∃ u, e = .returned (.tuple #[.pointer u, .int .i64 (if lineR n g then 0 else 90)]) ∧ Below w.heap.size w w'
set_option maxHeartbeats 2000000 in
theorem pload_any (n g : Int) (w : World) : Calls Try.prog 74 #[.int .i64 n, .int .i64 g] w (PLoadP w n g) := by
  have hc : n < 0 ∨ (¬ n < 0 ∧ 1099511627776 < n) ∨ (¬ n < 0 ∧ ¬ 1099511627776 < n ∧ g < 0) ∨ (¬ n < 0 ∧ ¬ 1099511627776 < n ∧ ¬ g < 0 ∧ 3 < g) ∨ (¬ n < 0 ∧ ¬ 1099511627776 < n ∧ ¬ g < 0 ∧ ¬ 3 < g ∧ n = 0 ∧ g ≠ 0) ∨ (¬ n < 0 ∧ ¬ 1099511627776 < n ∧ ¬ g < 0 ∧ ¬ 3 < g ∧ n = 0 ∧ g = 0) ∨ (¬ n < 0 ∧ ¬ 1099511627776 < n ∧ ¬ g < 0 ∧ ¬ 3 < g ∧ n ≠ 0) := by omega
  rcases hc with h1 | ⟨h1, h2⟩ | ⟨h1, h2, h3⟩ | ⟨h1, h2, h3, h4⟩ | ⟨h1, h2, h3, h4, h5, h6⟩ | ⟨h1, h2, h3, h4, h5, h6⟩ | ⟨h1, h2, h3, h4, h5⟩
  · have HF : Hid ((if lineR n g then (0 : Int) else 90) = 90) := if_neg (by unfold lineR; omega)
    go_enter Try.func74, Try.ntmps74
    go_wp2_with fail
    go_ret2
    exact ⟨none, by rw [HF.out]; rfl, Below.refl _ _⟩
  · have HF : Hid ((if lineR n g then (0 : Int) else 90) = 90) := if_neg (by unfold lineR; omega)
    go_enter Try.func74, Try.ntmps74
    go_wp2_with fail
    go_ret2
    exact ⟨none, by rw [HF.out]; rfl, Below.refl _ _⟩
  · have HF : Hid ((if lineR n g then (0 : Int) else 90) = 90) := if_neg (by unfold lineR; omega)
    go_enter Try.func74, Try.ntmps74
    go_wp2_with fail
    go_ret2
    exact ⟨none, by rw [HF.out]; rfl, Below.refl _ _⟩
  · have HF : Hid ((if lineR n g then (0 : Int) else 90) = 90) := if_neg (by unfold lineR; omega)
    go_enter Try.func74, Try.ntmps74
    go_wp2_with fail
    go_ret2
    exact ⟨none, by rw [HF.out]; rfl, Below.refl _ _⟩
  · have HF : Hid ((if lineR n g then (0 : Int) else 90) = 90) := if_neg (by unfold lineR; omega)
    have e1 : (n == 0) = true := by simp [h5]
    have e2 : (g != 0) = true := by simp [h6]
    clear h5 h6
    go_enter Try.func74, Try.ntmps74
    go_wp2_with fail
    go_ret2
    exact ⟨none, by rw [HF.out]; rfl, Below.refl _ _⟩
  · have HF : Hid ((if lineR n g then (0 : Int) else 90) = 0) := if_pos (by unfold lineR; omega)
    subst h5 h6
    go_enter Try.func74, Try.ntmps74
    go_wp2_with fail
    go_ret2
    exact ⟨_, by rw [HF.out]; rfl, (Below.refl _ _).alloc (Nat.le_refl _) _⟩
  · have HF : Hid ((if lineR n g then (0 : Int) else 90) = 0) := if_pos (by unfold lineR; omega)
    have e1 : (n == 0) = false := by simp [h5]
    go_enter Try.func74, Try.ntmps74
    go_wp2_with fail
    go_ret2
    exact ⟨_, by rw [HF.out]; rfl, (Below.refl _ _).alloc (Nat.le_refl _) _⟩

theorem schk_any (w : World) : Calls Try.prog 75 #[.agg #[.int .i64 0, .int .i64 0, .int .i64 0, .bool false]] w fun e w' => e = .returned (.int .i64 0) ∧ Below w.heap.size w w' := by
  go_enter Try.func75, Try.ntmps75
  go_wp2_with (go_at_call 76; refine (btw_any _ _ _ _).mono ?_; rintro e w' ⟨rfl, rfl⟩)
  go_ret
  exact ⟨rfl, (Below.refl _ _).alloc (Nat.le_refl _) _⟩

def ldP (w : World) (n g h : Int) (p c : Bool) (e : Ending) (w' : World) : Prop := ∃ u, e = .returned (.tuple #[.pointer u, .int .i64 (if ldS n g h p c then 0 else 100)]) ∧ Below w.heap.size w w'
abbrev stT : Nat := 41
abbrev spT : Nat := 117
set_option maxHeartbeats 4000000 in
theorem tload_any (n g h : Int) (p c : Bool) (w : World) : Calls Try.prog 62 #[.agg #[.int .i64 0, .int .i64 0, .int .i64 0, .bool false], .agg #[.int .i64 n, .int .i64 g, .int .i64 h, .bool p, .bool c]] w (ldP w n g h p c) := by
  have HB : Hid (Below w.heap.size w ((w.alloc (.cells #[.int .i64 0, .int .i64 0, .int .i64 0, .bool false] spT)).alloc (.cells #[.int .i64 n, .int .i64 g, .int .i64 h, .bool p, .bool c] stT))) := ((Below.refl w.heap.size w).alloc (Nat.le_refl _) _).alloc (by simp) _
  have HP : Hid (Blk ((w.alloc (.cells #[.int .i64 0, .int .i64 0, .int .i64 0, .bool false] spT)).alloc (.cells #[.int .i64 n, .int .i64 g, .int .i64 h, .bool p, .bool c] stT)) w.heap.size spT #[.int .i64 0, .int .i64 0, .int .i64 0, .bool false]) := (Blk.new w _ _).alloc _
  have HS : Hid (Blk ((w.alloc (.cells #[.int .i64 0, .int .i64 0, .int .i64 0, .bool false] spT)).alloc (.cells #[.int .i64 n, .int .i64 g, .int .i64 h, .bool p, .bool c] stT)) (w.heap.size + 1) stT #[.int .i64 n, .int .i64 g, .int .i64 h, .bool p, .bool c]) := by
    have h9 := Blk.new (w.alloc (.cells #[.int .i64 0, .int .i64 0, .int .i64 0, .bool false] spT)) stT #[.int .i64 n, .int .i64 g, .int .i64 h, .bool p, .bool c]
    simpa [Hid] using h9
  have HSP : Hid (∀ X : World, Below w.heap.size w X → Blk X w.heap.size spT #[.int .i64 0, .int .i64 0, .int .i64 0, .bool false] → Blk X (w.heap.size + 1) stT #[.int .i64 n, .int .i64 g, .int .i64 h, .bool p, .bool c] → True) := fun _ _ _ _ => trivial
  go_enter Try.func62, Try.ntmps62
  go_wp2_with fail
  generalize (w.alloc (.cells #[.int .i64 0, .int .i64 0, .int .i64 0, .bool false] spT)).alloc (.cells #[.int .i64 n, .int .i64 g, .int .i64 h, .bool p, .bool c] stT) = w1 at *
  obtain ⟨pb, hpb⟩ : ∃ pb, pb = w.heap.size := ⟨_, rfl⟩
  obtain ⟨sb, hsb⟩ : ∃ sb, sb = w.heap.size + 1 := ⟨_, rfl⟩
  rw [← hsb] at HS ⊢
  rw [← hpb] at HP ⊢
  clear hpb hsb HSP
  refine (pload_any n g w1).mono ?_
  rintro e w2 ⟨u, rfl, hb2⟩
  have HB2 := hide (HB.out.trans (hb2.mono HB.out.size))
  have HP2 := hide (HP.out.below hb2 HP.out.lt)
  have HS2 := hide (HS.out.below hb2 HS.out.lt)
  clear hb2
  have p0 : w2.cell? ⟨pb, 0, none⟩ = some (.int .i64 0) := HP2.out.cell 0
  have p1 : w2.cell? ⟨pb, 1, none⟩ = some (.int .i64 0) := HP2.out.cell 1
  have p2 : w2.cell? ⟨pb, 2, none⟩ = some (.int .i64 0) := HP2.out.cell 2
  have p3 : w2.cell? ⟨pb, 3, none⟩ = some (.bool false) := HP2.out.cell 3
  have hpl := HP2.out.lt
  have hln : (lineR n g ∧ (if lineR n g then (0 : Int) else 90) = 0) ∨ (¬ lineR n g ∧ (if lineR n g then (0 : Int) else 90) = 90) := by
    by_cases h9 : lineR n g
    · exact .inl ⟨h9, if_pos h9⟩
    · exact .inr ⟨h9, if_neg h9⟩
  generalize (if lineR n g then (0 : Int) else 90) = le at *
  go_wp2_with fail
  refine (schk_any w2).mono ?_
  rintro e w3 ⟨rfl, hb3⟩
  have HB3 := hide (HB2.out.trans (hb3.mono HB2.out.size))
  have HP3 := hide (HP2.out.below hb3 HP2.out.lt)
  have HS3 := hide (HS2.out.below hb3 HS2.out.lt)
  clear hb3 p0 p1 p2 p3 hpl
  have p0 : w3.cell? ⟨pb, 0, none⟩ = some (.int .i64 0) := HP3.out.cell 0
  have p1 : w3.cell? ⟨pb, 1, none⟩ = some (.int .i64 0) := HP3.out.cell 1
  have p2 : w3.cell? ⟨pb, 2, none⟩ = some (.int .i64 0) := HP3.out.cell 2
  have p3 : w3.cell? ⟨pb, 3, none⟩ = some (.bool false) := HP3.out.cell 3
  have hpl := HP3.out.lt
  have q0 : w3.cell? ⟨sb, 0, none⟩ = some (.int .i64 n) := HS3.out.cell 0
  have q1 : w3.cell? ⟨sb, 1, none⟩ = some (.int .i64 g) := HS3.out.cell 1
  have q2 : w3.cell? ⟨sb, 2, none⟩ = some (.int .i64 h) := HS3.out.cell 2
  have q3 : w3.cell? ⟨sb, 3, none⟩ = some (.bool p) := HS3.out.cell 3
  have q4 : w3.cell? ⟨sb, 4, none⟩ = some (.bool c) := HS3.out.cell 4
  have hql := HS3.out.lt
  rcases hln with ⟨hl, rfl⟩ | ⟨hl, rfl⟩
  · have HL := hide hl
    clear hl
    by_cases hh : 0 ≤ h ∧ h ≤ 1099511627776
    · have HH := hide hh
      have hhd : decide (0 ≤ h ∧ h ≤ 1099511627776) = true := decide_eq_true hh
      have HBT : Hid (∀ X : World, Calls Try.prog 76 #[.int .i64 h, .int .i64 0, .int .i64 1099511627776] X fun e w' => e = .returned (.bool true) ∧ w' = X) := fun X => by
        have h9 := btw_any h 0 1099511627776 X
        rw [hhd] at h9
        exact h9
      clear hh hhd
      cases hp : p
      · cases hc : c
        · by_cases hg : g = 0
          · have HF : Hid ((if ldS n g h false false then (0 : Int) else 100) = 0) := if_pos (by have := HL.out; have := HH.out; unfold ldS lineR at *; simp [hg]; omega)
            subst hp hc hg
            go_wp2_with fail
            refine (HBT.out _).mono ?_
            rintro e w4 ⟨rfl, rfl⟩
            go_wp2_with fail
            go_ret2
            exact ⟨_, by rw [HF.out]; rfl, HB3.out.alloc HB3.out.size _⟩
          · have HF : Hid ((if ldS n g h false false then (0 : Int) else 100) = 100) := if_neg (by unfold ldS; simp [hg])
            have e1 : (g != 0) = true := by simp [hg]
            subst hp hc
            clear hg
            go_wp2_with fail
            refine (HBT.out _).mono ?_
            rintro e w4 ⟨rfl, rfl⟩
            go_wp2_with fail
            go_ret2
            exact ⟨_, by rw [HF.out]; rfl, HB3.out⟩
        · have HF : Hid ((if ldS n g h false true then (0 : Int) else 100) = 100) := if_neg (by unfold ldS; simp)
          subst hp hc
          go_wp2_with fail
          refine (HBT.out _).mono ?_
          rintro e w4 ⟨rfl, rfl⟩
          go_wp2_with fail
          go_ret2
          exact ⟨_, by rw [HF.out]; rfl, HB3.out⟩
      · by_cases hg : g = 0
        · have HF : Hid ((if ldS n g h true c then (0 : Int) else 100) = 100) := if_neg (by unfold ldS; simp [hg])
          subst hp hg
          cases c
          all_goals
            go_wp2_with fail
            refine (HBT.out _).mono ?_
            rintro e w4 ⟨rfl, rfl⟩
            go_wp2_with fail
            go_ret2
            exact ⟨_, by rw [HF.out]; rfl, HB3.out⟩
        · have HF : Hid ((if ldS n g h true c then (0 : Int) else 100) = 0) := if_pos (by have := HL.out; have := HH.out; unfold ldS lineR at *; simp [hg]; omega)
          have e1 : (g != 0) = true := by simp [hg]
          subst hp
          clear hg
          cases c
          all_goals
            go_wp2_with fail
            refine (HBT.out _).mono ?_
            rintro e w4 ⟨rfl, rfl⟩
            go_wp2_with fail
            go_ret2
            exact ⟨_, by rw [HF.out]; rfl, HB3.out.alloc HB3.out.size _⟩
    · have HF : Hid ((if ldS n g h p c then (0 : Int) else 100) = 100) := if_neg (fun h9 => hh h9.2.2.2.1)
      have hhd : decide (0 ≤ h ∧ h ≤ 1099511627776) = false := decide_eq_false hh
      have HBT : Hid (∀ X : World, Calls Try.prog 76 #[.int .i64 h, .int .i64 0, .int .i64 1099511627776] X fun e w' => e = .returned (.bool false) ∧ w' = X) := fun X => by
        have h9 := btw_any h 0 1099511627776 X
        rw [hhd] at h9
        exact h9
      clear hh hhd
      go_wp2_with fail
      refine (HBT.out _).mono ?_
      rintro e w4 ⟨rfl, rfl⟩
      go_wp2_with fail
      go_ret2
      exact ⟨_, by rw [HF.out]; rfl, HB3.out⟩
  · have HF : Hid ((if ldS n g h p c then (0 : Int) else 100) = 100) := if_neg (fun h9 => hl ⟨h9.1, h9.2.1, h9.2.2.1⟩)
    clear hl
    go_wp2_with fail
    go_ret2
    exact ⟨_, by rw [HF.out]; rfl, HB3.out⟩

set_option maxHeartbeats 4000000 in
theorem cright_any (v : Value) (A : Option Addr) (m k : Nat) (d : CD) (w : World) (hv : v = .slice A m k) (hm : d.b.length = m) :
    Calls Try.prog 33 #[.agg (CV.cells ⟨v, d⟩).toArray] w fun e w' => e = .returned (.bool (decide d.right)) ∧ Below w.heap.size w w' := by
  subst hv
  obtain ⟨r, hr⟩ : ∃ r : Bool, r = decide d.right := ⟨_, rfl⟩
  rw [← hr]
  have HR : Hid (r = decide (m ≤ 1048576 ∧ (0 ≤ d.s ∧ d.s ≤ 1048576) ∧ ldS d.n d.g d.h d.p d.c)) := by show _ = _; rw [hr, ← hm]; rfl
  clear hr hm
  obtain ⟨b, s, n, g, h, p, c⟩ := d
  simp only at HR
  unfold CV.cells
  simp only
  have HB : Hid (Below w.heap.size w (w.alloc (.cells #[.slice A m k, .int .i64 s, .int .i64 n, .int .i64 g, .int .i64 h, .bool p, .bool c] cvT))) := (Below.refl _ _).alloc (Nat.le_refl _) _
  have HP : Hid (Blk (w.alloc (.cells #[.slice A m k, .int .i64 s, .int .i64 n, .int .i64 g, .int .i64 h, .bool p, .bool c] cvT)) w.heap.size cvT #[.slice A m k, .int .i64 s, .int .i64 n, .int .i64 g, .int .i64 h, .bool p, .bool c]) := Blk.new w _ _
  go_enter Try.func33, Try.ntmps33
  go_wp2_with fail
  refine (tload_any n g h p c _).mono ?_
  generalize w.alloc (.cells #[.slice A m k, .int .i64 s, .int .i64 n, .int .i64 g, .int .i64 h, .bool p, .bool c] cvT) = w1 at *
  rintro e w2 ⟨u, rfl, hb2⟩
  have HB2 := hide (HB.out.trans (hb2.mono HB.out.size))
  have HP2 := hide (HP.out.below hb2 HP.out.lt)
  clear hb2
  have p0 : w2.cell? ⟨w.heap.size, 0, none⟩ = some (.slice A m k) := HP2.out.cell 0
  have p1 : w2.cell? ⟨w.heap.size, 1, none⟩ = some (.int .i64 s) := HP2.out.cell 1
  have hpl := HP2.out.lt
  have hln : (ldS n g h p c ∧ (if ldS n g h p c then (0 : Int) else 100) = 0) ∨ (¬ ldS n g h p c ∧ (if ldS n g h p c then (0 : Int) else 100) = 100) := by
    by_cases h9 : ldS n g h p c
    · exact .inl ⟨h9, if_pos h9⟩
    · exact .inr ⟨h9, if_neg h9⟩
  generalize (if ldS n g h p c then (0 : Int) else 100) = le at *
  by_cases h1 : m ≤ 1048576
  · by_cases h2 : 0 ≤ s
    · by_cases h3 : s ≤ 1048576
      · rcases hln with ⟨hl, rfl⟩ | ⟨hl, rfl⟩
        · have HF : Hid (r = true) := by show _ = _; rw [HR.out]; exact decide_eq_true ⟨h1, ⟨h2, h3⟩, hl⟩
          clear hl
          go_wp2_with fail
          go_ret
          rw [HF.out]
          exact ⟨rfl, HB2.out⟩
        · have HF : Hid (r = false) := by show _ = _; rw [HR.out]; exact decide_eq_false (fun h => hl h.2.2)
          clear hl
          go_wp2_with fail
          go_ret
          rw [HF.out]
          exact ⟨rfl, HB2.out⟩
      · have HF : Hid (r = false) := by show _ = _; rw [HR.out]; exact decide_eq_false (fun h => h3 h.2.1.2)
        clear hln
        go_wp2_with fail
        go_ret
        rw [HF.out]
        exact ⟨rfl, HB2.out⟩
    · have HF : Hid (r = false) := by show _ = _; rw [HR.out]; exact decide_eq_false (fun h => h2 h.2.1.1)
      clear hln
      go_wp2_with fail
      go_ret
      rw [HF.out]
      exact ⟨rfl, HB2.out⟩
  · have HF : Hid (r = false) := by show _ = _; rw [HR.out]; exact decide_eq_false (fun h => h1 h.1)
    clear hln
    go_wp2_with fail
    go_ret
    rw [HF.out]
    exact ⟨rfl, HB2.out⟩

end Go.Proofs.Ytkobaidamdffmaa
