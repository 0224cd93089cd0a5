/- Cells: at, right of a key, right of a cell (trigger.Load of a state). / Bytes that are only read (their block may bear a mark); []byte of a string. / cells: put, bit; append of a string onto bytes; bytes as a buffer. -/
import Derived.Test.YtkobaidamdffmaaQCellsDecodes02
import Derived.Lib.ConvBytes
import Derived.Lib.AppendStr

namespace Go.Proofs.Ytkobaidamdffmaa
open Go.RowKit Go.Sort
set_option linter.unusedVariables false
set_option linter.unusedSimpArgs false

abbrev keyT : Nat := 39
set_option maxHeartbeats 2000000 in
theorem at_any (v : Value) (D : List Int) (n B : Nat) (f t : Int) (w : World) (hs : Sl w B v 1 n (bys D)) (hD : D.length = n) (hB : B ≤ w.heap.size) :
    Calls Try.prog 34 #[.agg #[v, .int .i64 f, .int .i64 t]] w fun e w' => e = .returned (.agg #[.string (strOfNums D), .int .i64 f, .int .i64 t]) ∧ Below w.heap.size w w' := by
  obtain ⟨A, c, rfl, hc⟩ := hs.form
  have HST : Hid (∀ X : World, Below w.heap.size w X → (convert 23 9 (.slice A n c)).run Try.prog X = .ok (.string (strOfNums D)) X) := fun X h => bys_str _ D n B X (hs.below (h.mono hB)) hD
  have hst := HST.out _ (((Below.refl w.heap.size w).alloc (Nat.le_refl _) (.cells #[.slice A n c, .int .i64 f, .int .i64 t] keyT)).alloc (by simp) (.cells #[.string ⟨#[]⟩, .int .i64 0, .int .i64 0] plT))
  clear hs hD
  go_enter Try.func34, Try.ntmps34
  go_wp2_with fail
  have hB1 : Below w.heap.size w ((w.alloc (.cells #[.slice A n c, .int .i64 f, .int .i64 t] keyT)).alloc (.cells #[.string (strOfNums D), .int .i64 f, .int .i64 t] plT)) := ((Below.refl w.heap.size w).alloc (Nat.le_refl _) _).alloc (by simp) _
  have hK : Blk ((w.alloc (.cells #[.slice A n c, .int .i64 f, .int .i64 t] keyT)).alloc (.cells #[.string (strOfNums D), .int .i64 f, .int .i64 t] plT)) (w.heap.size + 1) plT #[.string (strOfNums D), .int .i64 f, .int .i64 t] := by
    have h9 := Blk.new (w.alloc (.cells #[.slice A n c, .int .i64 f, .int .i64 t] keyT)) plT #[.string (strOfNums D), .int .i64 f, .int .i64 t]
    simpa using h9
  generalize ((w.alloc (.cells #[.slice A n c, .int .i64 f, .int .i64 t] keyT)).alloc (.cells #[.string (strOfNums D), .int .i64 f, .int .i64 t] plT)) = w5 at *
  have c0 : w5.cell? ⟨w.heap.size + 1, 0, none⟩ = some (.string (strOfNums D)) := hK.cell 0
  have c1 : w5.cell? ⟨w.heap.size + 1, 1, none⟩ = some (.int .i64 f) := hK.cell 1
  have c2 : w5.cell? ⟨w.heap.size + 1, 2, none⟩ = some (.int .i64 t) := hK.cell 2
  have hres : Try.f34.results = #[.cell 2 plT] := by kernel_rfl
  refine bodyPost_ret (v := .agg #[.string (strOfNums D), .int .i64 f, .int .i64 t]) ?_ rfl ⟨rfl, hB1⟩
  simp [results, hres, go_sem, c0, c1, c2]

/-- may a key be? -/
def keyR (n : Nat) (f t : Int) : Prop := n ≤ 1048576 ∧ (Win.mk f t).good
instance (n : Nat) (f t : Int) : Decidable (keyR n f t) := by unfold keyR; exact inferInstance
set_option maxHeartbeats 2000000 in
theorem kright_any (A : Option Addr) (n c : Nat) (f t : Int) (w : World) :
    Calls Try.prog 32 #[.agg #[.slice A n c, .int .i64 f, .int .i64 t]] w fun e w' => e = .returned (.bool (decide (keyR n f t))) ∧ Below w.heap.size w w' := by
  obtain ⟨r, hr⟩ : ∃ r : Bool, r = decide (keyR n f t) := ⟨_, rfl⟩
  rw [← hr]
  have HR := hide hr
  clear hr
  have HB : Hid (Below w.heap.size w (w.alloc (.cells #[.slice A n c, .int .i64 f, .int .i64 t] keyT))) := (Below.refl _ _).alloc (Nat.le_refl _) _
  by_cases h1 : n ≤ 1048576
  · by_cases h2 : (Win.mk f t).good
    · have HF : Hid (r = true) := by show _ = _; rw [HR.out]; exact decide_eq_true ⟨h1, h2⟩
      have HG := hide h2
      clear h2
      go_enter Try.func32, Try.ntmps32
      go_wp2_with fail
      refine (wcheck_any f t _).mono ?_
      rw [if_pos HG.out]
      rintro e w2 ⟨rfl, hb⟩
      have HB2 := hide (HB.out.trans (hb.mono HB.out.size))
      clear hb
      go_wp2_with fail
      go_ret
      rw [HF.out]
      exact ⟨rfl, HB2.out⟩
    · have HF : Hid (r = false) := by show _ = _; rw [HR.out]; exact decide_eq_false (fun h => h2 h.2)
      have HG := hide h2
      clear h2
      go_enter Try.func32, Try.ntmps32
      go_wp2_with fail
      refine (wcheck_any f t _).mono ?_
      rw [if_neg HG.out]
      rintro e w2 ⟨rfl, hb⟩
      have HB2 := hide (HB.out.trans (hb.mono HB.out.size))
      clear hb
      go_wp2_with fail
      go_ret
      rw [HF.out]
      exact ⟨rfl, HB2.out⟩
  · have HF : Hid (r = false) := by show _ = _; rw [HR.out]; exact decide_eq_false (fun h => h1 h.1)
    go_enter Try.func32, Try.ntmps32
    go_wp2_with fail
    go_ret
    rw [HF.out]
    exact ⟨rfl, HB.out⟩

theorem btw_any (x a b : Int) (w : World) : Calls Try.prog 76 #[.int .i64 x, .int .i64 a, .int .i64 b] w fun e w' => e = .returned (.bool (decide (a ≤ x ∧ x ≤ b))) ∧ w' = w := by
  obtain ⟨r, hr⟩ : ∃ r : Bool, r = decide (a ≤ x ∧ x ≤ b) := ⟨_, rfl⟩
  rw [← hr]
  have HR := hide hr
  clear hr
  by_cases h1 : a ≤ x
  · have HF : Hid (r = decide (x ≤ b)) := by show _ = _; rw [HR.out]; simp [h1]
    go_enter Try.func76, Try.ntmps76
    go_wp2_with fail
    go_ret
    rw [HF.out]
    exact ⟨rfl, rfl⟩
  · have HF : Hid (r = false) := by show _ = _; rw [HR.out]; simp [h1]
    go_enter Try.func76, Try.ntmps76
    go_wp2_with fail
    go_ret
    rw [HF.out]
    exact ⟨rfl, rfl⟩

/-- may a line's state be? -/
def lineR (n g : Int) : Prop := (0 ≤ n ∧ n ≤ 1099511627776) ∧ (0 ≤ g ∧ g ≤ 3) ∧ (0 < n ∨ g = 0)
instance (n g : Int) : Decidable (lineR n g) := by unfold lineR; exact inferInstance
def PLoadP (w : World) (n g : Int) (e : Ending) (w' : World) : Prop := ∃ u, e = .returned (.tuple #[.pointer u, .int .i64 (if lineR n g then 0 else 90)]) ∧ Below w.heap.size w w'
set_option maxHeartbeats 2000000 in
theorem pload_any (n g : Int) (w : World) : Calls Try.prog 74 #[.int .i64 n, .int .i64 g] w (PLoadP w n g) := by
  have hc : n < 0 ∨ (¬ n < 0 ∧ 1099511627776 < n) ∨ (¬ n < 0 ∧ ¬ 1099511627776 < n ∧ g < 0) ∨ (¬ n < 0 ∧ ¬ 1099511627776 < n ∧ ¬ g < 0 ∧ 3 < g) ∨ (¬ n < 0 ∧ ¬ 1099511627776 < n ∧ ¬ g < 0 ∧ ¬ 3 < g ∧ n = 0 ∧ g ≠ 0) ∨ (¬ n < 0 ∧ ¬ 1099511627776 < n ∧ ¬ g < 0 ∧ ¬ 3 < g ∧ n = 0 ∧ g = 0) ∨ (¬ n < 0 ∧ ¬ 1099511627776 < n ∧ ¬ g < 0 ∧ ¬ 3 < g ∧ n ≠ 0) := by omega
  rcases hc with h1 | ⟨h1, h2⟩ | ⟨h1, h2, h3⟩ | ⟨h1, h2, h3, h4⟩ | ⟨h1, h2, h3, h4, h5, h6⟩ | ⟨h1, h2, h3, h4, h5, h6⟩ | ⟨h1, h2, h3, h4, h5⟩
  · have HF : Hid ((if lineR n g then (0 : Int) else 90) = 90) := if_neg (by unfold lineR; omega)
    go_enter Try.func74, Try.ntmps74
    go_wp2_with fail
    go_ret2
    exact ⟨none, by rw [HF.out]; rfl, Below.refl _ _⟩
  · have HF : Hid ((if lineR n g then (0 : Int) else 90) = 90) := if_neg (by unfold lineR; omega)
    go_enter Try.func74, Try.ntmps74
    go_wp2_with fail
    go_ret2
    exact ⟨none, by rw [HF.out]; rfl, Below.refl _ _⟩
  · have HF : Hid ((if lineR n g then (0 : Int) else 90) = 90) := if_neg (by unfold lineR; omega)
    go_enter Try.func74, Try.ntmps74
    go_wp2_with fail
    go_ret2
    exact ⟨none, by rw [HF.out]; rfl, Below.refl _ _⟩
  · have HF : Hid ((if lineR n g then (0 : Int) else 90) = 90) := if_neg (by unfold lineR; omega)
    go_enter Try.func74, Try.ntmps74
    go_wp2_with fail
    go_ret2
    exact ⟨none, by rw [HF.out]; rfl, Below.refl _ _⟩
  · have HF : Hid ((if lineR n g then (0 : Int) else 90) = 90) := if_neg (by unfold lineR; omega)
    have e1 : (n == 0) = true := by simp [h5]
    have e2 : (g != 0) = true := by simp [h6]
    clear h5 h6
    go_enter Try.func74, Try.ntmps74
    go_wp2_with fail
    go_ret2
    exact ⟨none, by rw [HF.out]; rfl, Below.refl _ _⟩
  · have HF : Hid ((if lineR n g then (0 : Int) else 90) = 0) := if_pos (by unfold lineR; omega)
    subst h5 h6
    go_enter Try.func74, Try.ntmps74
    go_wp2_with fail
    go_ret2
    exact ⟨_, by rw [HF.out]; rfl, (Below.refl _ _).alloc (Nat.le_refl _) _⟩
  · have HF : Hid ((if lineR n g then (0 : Int) else 90) = 0) := if_pos (by unfold lineR; omega)
    have e1 : (n == 0) = false := by simp [h5]
    go_enter Try.func74, Try.ntmps74
    go_wp2_with fail
    go_ret2
    exact ⟨_, by rw [HF.out]; rfl, (Below.refl _ _).alloc (Nat.le_refl _) _⟩

theorem schk_any (w : World) : Calls Try.prog 75 #[.agg #[.int .i64 0, .int .i64 0, .int .i64 0, .bool false]] w fun e w' => e = .returned (.int .i64 0) ∧ Below w.heap.size w w' := by
  go_enter Try.func75, Try.ntmps75
  go_wp2_with (go_at_call 76; refine (btw_any _ _ _ _).mono ?_; rintro e w' ⟨rfl, rfl⟩)
  go_ret
  exact ⟨rfl, (Below.refl _ _).alloc (Nat.le_refl _) _⟩

def ldP (w : World) (n g h : Int) (p c : Bool) (e : Ending) (w' : World) : Prop := ∃ u, e = .returned (.tuple #[.pointer u, .int .i64 (if ldS n g h p c then 0 else 100)]) ∧ Below w.heap.size w w'
abbrev stT : Nat := 41
abbrev spT : Nat := 117
set_option maxHeartbeats 4000000 in
theorem tload_any (n g h : Int) (p c : Bool) (w : World) : Calls Try.prog 62 #[.agg #[.int .i64 0, .int .i64 0, .int .i64 0, .bool false], .agg #[.int .i64 n, .int .i64 g, .int .i64 h, .bool p, .bool c]] w (ldP w n g h p c) := by
  have HB : Hid (Below w.heap.size w ((w.alloc (.cells #[.int .i64 0, .int .i64 0, .int .i64 0, .bool false] spT)).alloc (.cells #[.int .i64 n, .int .i64 g, .int .i64 h, .bool p, .bool c] stT))) := ((Below.refl w.heap.size w).alloc (Nat.le_refl _) _).alloc (by simp) _
  have HP : Hid (Blk ((w.alloc (.cells #[.int .i64 0, .int .i64 0, .int .i64 0, .bool false] spT)).alloc (.cells #[.int .i64 n, .int .i64 g, .int .i64 h, .bool p, .bool c] stT)) w.heap.size spT #[.int .i64 0, .int .i64 0, .int .i64 0, .bool false]) := (Blk.new w _ _).alloc _
  have HS : Hid (Blk ((w.alloc (.cells #[.int .i64 0, .int .i64 0, .int .i64 0, .bool false] spT)).alloc (.cells #[.int .i64 n, .int .i64 g, .int .i64 h, .bool p, .bool c] stT)) (w.heap.size + 1) stT #[.int .i64 n, .int .i64 g, .int .i64 h, .bool p, .bool c]) := by
    have h9 := Blk.new (w.alloc (.cells #[.int .i64 0, .int .i64 0, .int .i64 0, .bool false] spT)) stT #[.int .i64 n, .int .i64 g, .int .i64 h, .bool p, .bool c]
    simpa [Hid] using h9
  have HSP : Hid (∀ X : World, Below w.heap.size w X → Blk X w.heap.size spT #[.int .i64 0, .int .i64 0, .int .i64 0, .bool false] → Blk X (w.heap.size + 1) stT #[.int .i64 n, .int .i64 g, .int .i64 h, .bool p, .bool c] → True) := fun _ _ _ _ => trivial
  go_enter Try.func62, Try.ntmps62
  go_wp2_with fail
  generalize (w.alloc (.cells #[.int .i64 0, .int .i64 0, .int .i64 0, .bool false] spT)).alloc (.cells #[.int .i64 n, .int .i64 g, .int .i64 h, .bool p, .bool c] stT) = w1 at *
  obtain ⟨pb, hpb⟩ : ∃ pb, pb = w.heap.size := ⟨_, rfl⟩
  obtain ⟨sb, hsb⟩ : ∃ sb, sb = w.heap.size + 1 := ⟨_, rfl⟩
  rw [← hsb] at HS ⊢
  rw [← hpb] at HP ⊢
  clear hpb hsb HSP
  refine (pload_any n g w1).mono ?_
  rintro e w2 ⟨u, rfl, hb2⟩
  have HB2 := hide (HB.out.trans (hb2.mono HB.out.size))
  have HP2 := hide (HP.out.below hb2 HP.out.lt)
  have HS2 := hide (HS.out.below hb2 HS.out.lt)
  clear hb2
  have p0 : w2.cell? ⟨pb, 0, none⟩ = some (.int .i64 0) := HP2.out.cell 0
  have p1 : w2.cell? ⟨pb, 1, none⟩ = some (.int .i64 0) := HP2.out.cell 1
  have p2 : w2.cell? ⟨pb, 2, none⟩ = some (.int .i64 0) := HP2.out.cell 2
  have p3 : w2.cell? ⟨pb, 3, none⟩ = some (.bool false) := HP2.out.cell 3
  have hpl := HP2.out.lt
  have hln : (lineR n g ∧ (if lineR n g then (0 : Int) else 90) = 0) ∨ (¬ lineR n g ∧ (if lineR n g then (0 : Int) else 90) = 90) := by
    by_cases h9 : lineR n g
    · exact .inl ⟨h9, if_pos h9⟩
    · exact .inr ⟨h9, if_neg h9⟩
  generalize (if lineR n g then (0 : Int) else 90) = le at *
  go_wp2_with fail
  refine (schk_any w2).mono ?_
  rintro e w3 ⟨rfl, hb3⟩
  have HB3 := hide (HB2.out.trans (hb3.mono HB2.out.size))
  have HP3 := hide (HP2.out.below hb3 HP2.out.lt)
  have HS3 := hide (HS2.out.below hb3 HS2.out.lt)
  clear hb3 p0 p1 p2 p3 hpl
  have p0 : w3.cell? ⟨pb, 0, none⟩ = some (.int .i64 0) := HP3.out.cell 0
  have p1 : w3.cell? ⟨pb, 1, none⟩ = some (.int .i64 0) := HP3.out.cell 1
  have p2 : w3.cell? ⟨pb, 2, none⟩ = some (.int .i64 0) := HP3.out.cell 2
  have p3 : w3.cell? ⟨pb, 3, none⟩ = some (.bool false) := HP3.out.cell 3
  have hpl := HP3.out.lt
  have q0 : w3.cell? ⟨sb, 0, none⟩ = some (.int .i64 n) := HS3.out.cell 0
  have q1 : w3.cell? ⟨sb, 1, none⟩ = some (.int .i64 g) := HS3.out.cell 1
  have q2 : w3.cell? ⟨sb, 2, none⟩ = some (.int .i64 h) := HS3.out.cell 2
  have q3 : w3.cell? ⟨sb, 3, none⟩ = some (.bool p) := HS3.out.cell 3
  have q4 : w3.cell? ⟨sb, 4, none⟩ = some (.bool c) := HS3.out.cell 4
  have hql := HS3.out.lt
  rcases hln with ⟨hl, rfl⟩ | ⟨hl, rfl⟩
  · have HL := hide hl
    clear hl
    by_cases hh : 0 ≤ h ∧ h ≤ 1099511627776
    · have HH := hide hh
      have hhd : decide (0 ≤ h ∧ h ≤ 1099511627776) = true := decide_eq_true hh
      have HBT : Hid (∀ X : World, Calls Try.prog 76 #[.int .i64 h, .int .i64 0, .int .i64 1099511627776] X fun e w' => e = .returned (.bool true) ∧ w' = X) := fun X => by
        have h9 := btw_any h 0 1099511627776 X
        rw [hhd] at h9
        exact h9
      clear hh hhd
      cases hp : p
      · cases hc : c
        · by_cases hg : g = 0
          · have HF : Hid ((if ldS n g h false false then (0 : Int) else 100) = 0) := if_pos (by have := HL.out; have := HH.out; unfold ldS lineR at *; simp [hg]; omega)
            subst hp hc hg
            go_wp2_with fail
            refine (HBT.out _).mono ?_
            rintro e w4 ⟨rfl, rfl⟩
            go_wp2_with fail
            go_ret2
            exact ⟨_, by rw [HF.out]; rfl, HB3.out.alloc HB3.out.size _⟩
          · have HF : Hid ((if ldS n g h false false then (0 : Int) else 100) = 100) := if_neg (by unfold ldS; simp [hg])
            have e1 : (g != 0) = true := by simp [hg]
            subst hp hc
            clear hg
            go_wp2_with fail
            refine (HBT.out _).mono ?_
            rintro e w4 ⟨rfl, rfl⟩
            go_wp2_with fail
            go_ret2
            exact ⟨_, by rw [HF.out]; rfl, HB3.out⟩
        · have HF : Hid ((if ldS n g h false true then (0 : Int) else 100) = 100) := if_neg (by unfold ldS; simp)
          subst hp hc
          go_wp2_with fail
          refine (HBT.out _).mono ?_
          rintro e w4 ⟨rfl, rfl⟩
          go_wp2_with fail
          go_ret2
          exact ⟨_, by rw [HF.out]; rfl, HB3.out⟩
      · by_cases hg : g = 0
        · have HF : Hid ((if ldS n g h true c then (0 : Int) else 100) = 100) := if_neg (by unfold ldS; simp [hg])
          subst hp hg
          cases c
          all_goals
            go_wp2_with fail
            refine (HBT.out _).mono ?_
            rintro e w4 ⟨rfl, rfl⟩
            go_wp2_with fail
            go_ret2
            exact ⟨_, by rw [HF.out]; rfl, HB3.out⟩
        · have HF : Hid ((if ldS n g h true c then (0 : Int) else 100) = 0) := if_pos (by have := HL.out; have := HH.out; unfold ldS lineR at *; simp [hg]; omega)
          have e1 : (g != 0) = true := by simp [hg]
          subst hp
          clear hg
          cases c
          all_goals
            go_wp2_with fail
            refine (HBT.out _).mono ?_
            rintro e w4 ⟨rfl, rfl⟩
            go_wp2_with fail
            go_ret2
            exact ⟨_, by rw [HF.out]; rfl, HB3.out.alloc HB3.out.size _⟩
    · have HF : Hid ((if ldS n g h p c then (0 : Int) else 100) = 100) := if_neg (fun h9 => hh h9.2.2.2.1)
      have hhd : decide (0 ≤ h ∧ h ≤ 1099511627776) = false := decide_eq_false hh
      have HBT : Hid (∀ X : World, Calls Try.prog 76 #[.int .i64 h, .int .i64 0, .int .i64 1099511627776] X fun e w' => e = .returned (.bool false) ∧ w' = X) := fun X => by
        have h9 := btw_any h 0 1099511627776 X
        rw [hhd] at h9
        exact h9
      clear hh hhd
      go_wp2_with fail
      refine (HBT.out _).mono ?_
      rintro e w4 ⟨rfl, rfl⟩
      go_wp2_with fail
      go_ret2
      exact ⟨_, by rw [HF.out]; rfl, HB3.out⟩
  · have HF : Hid ((if ldS n g h p c then (0 : Int) else 100) = 100) := if_neg (fun h9 => hl ⟨h9.1, h9.2.1, h9.2.2.1⟩)
    clear hl
    go_wp2_with fail
    go_ret2
    exact ⟨_, by rw [HF.out]; rfl, HB3.out⟩

set_option maxHeartbeats 4000000 in
theorem cright_any (v : Value) (A : Option Addr) (m k : Nat) (d : CD) (w : World) (hv : v = .slice A m k) (hm : d.b.length = m) :
    Calls Try.prog 33 #[.agg (CV.cells ⟨v, d⟩).toArray] w fun e w' => e = .returned (.bool (decide d.right)) ∧ Below w.heap.size w w' := by
  subst hv
  obtain ⟨r, hr⟩ : ∃ r : Bool, r = decide d.right := ⟨_, rfl⟩
  rw [← hr]
  have HR : Hid (r = decide (m ≤ 1048576 ∧ (0 ≤ d.s ∧ d.s ≤ 1048576) ∧ ldS d.n d.g d.h d.p d.c)) := by show _ = _; rw [hr, ← hm]; rfl
  clear hr hm
  obtain ⟨b, s, n, g, h, p, c⟩ := d
  simp only at HR
  unfold CV.cells
  simp only
  have HB : Hid (Below w.heap.size w (w.alloc (.cells #[.slice A m k, .int .i64 s, .int .i64 n, .int .i64 g, .int .i64 h, .bool p, .bool c] cvT))) := (Below.refl _ _).alloc (Nat.le_refl _) _
  have HP : Hid (Blk (w.alloc (.cells #[.slice A m k, .int .i64 s, .int .i64 n, .int .i64 g, .int .i64 h, .bool p, .bool c] cvT)) w.heap.size cvT #[.slice A m k, .int .i64 s, .int .i64 n, .int .i64 g, .int .i64 h, .bool p, .bool c]) := Blk.new w _ _
  go_enter Try.func33, Try.ntmps33
  go_wp2_with fail
  refine (tload_any n g h p c _).mono ?_
  generalize w.alloc (.cells #[.slice A m k, .int .i64 s, .int .i64 n, .int .i64 g, .int .i64 h, .bool p, .bool c] cvT) = w1 at *
  rintro e w2 ⟨u, rfl, hb2⟩
  have HB2 := hide (HB.out.trans (hb2.mono HB.out.size))
  have HP2 := hide (HP.out.below hb2 HP.out.lt)
  clear hb2
  have p0 : w2.cell? ⟨w.heap.size, 0, none⟩ = some (.slice A m k) := HP2.out.cell 0
  have p1 : w2.cell? ⟨w.heap.size, 1, none⟩ = some (.int .i64 s) := HP2.out.cell 1
  have hpl := HP2.out.lt
  have hln : (ldS n g h p c ∧ (if ldS n g h p c then (0 : Int) else 100) = 0) ∨ (¬ ldS n g h p c ∧ (if ldS n g h p c then (0 : Int) else 100) = 100) := by
    by_cases h9 : ldS n g h p c
    · exact .inl ⟨h9, if_pos h9⟩
    · exact .inr ⟨h9, if_neg h9⟩
  generalize (if ldS n g h p c then (0 : Int) else 100) = le at *
  by_cases h1 : m ≤ 1048576
  · by_cases h2 : 0 ≤ s
    · by_cases h3 : s ≤ 1048576
      · rcases hln with ⟨hl, rfl⟩ | ⟨hl, rfl⟩
        · have HF : Hid (r = true) := by show _ = _; rw [HR.out]; exact decide_eq_true ⟨h1, ⟨h2, h3⟩, hl⟩
          clear hl
          go_wp2_with fail
          go_ret
          rw [HF.out]
          exact ⟨rfl, HB2.out⟩
        · have HF : Hid (r = false) := by show _ = _; rw [HR.out]; exact decide_eq_false (fun h => hl h.2.2)
          clear hl
          go_wp2_with fail
          go_ret
          rw [HF.out]
          exact ⟨rfl, HB2.out⟩
      · have HF : Hid (r = false) := by show _ = _; rw [HR.out]; exact decide_eq_false (fun h => h3 h.2.1.2)
        clear hln
        go_wp2_with fail
        go_ret
        rw [HF.out]
        exact ⟨rfl, HB2.out⟩
    · have HF : Hid (r = false) := by show _ = _; rw [HR.out]; exact decide_eq_false (fun h => h2 h.2.1.1)
      clear hln
      go_wp2_with fail
      go_ret
      rw [HF.out]
      exact ⟨rfl, HB2.out⟩
  · have HF : Hid (r = false) := by show _ = _; rw [HR.out]; exact decide_eq_false (fun h => h1 h.1)
    clear hln
    go_wp2_with fail
    go_ret
    rw [HF.out]
    exact ⟨rfl, HB2.out⟩

end Go.Proofs.Ytkobaidamdffmaa

namespace Go.Proofs.Ytkobaidamdffmaa
open Go.RowKit
set_option linter.unusedVariables false
set_option linter.unusedSimpArgs false

/-- the slice v of the bytes D lies at the head of a block of bytes, from base on -/
def RoB (w : World) (base : Nat) (v : Value) (D : List Int) : Prop :=
  ∃ A c, v = .slice A D.length c ∧ D.length ≤ c ∧ c ≤ 9223372036854775807 ∧ (0 < D.length → ∃ g cs fr, A = some ⟨g, 0, none⟩ ∧ base ≤ g ∧ w.heap[g]? = some (.cells cs bT fr) ∧ ∀ j, j < D.length → cs[j]? = (bys D)[j]?)
section
variable {w w' : World} {base b' : Nat} {v : Value} {D : List Int}
theorem RoB.form (h : RoB w base v D) : ∃ A c, v = .slice A D.length c ∧ D.length ≤ c := by
  obtain ⟨A, c, h1, h2, _⟩ := h
  exact ⟨A, c, h1, h2⟩
theorem RoB.sl (h : RoB w base v D) : Sl w w.heap.size v 1 D.length (bys D) := by
  obtain ⟨A, c, h1, h2, h3, h4⟩ := h
  refine ⟨bys_len D, A, c, h1, h2, h3, fun hn => ?_⟩
  obtain ⟨g, cs, fr, h5, h6, h7, h8⟩ := h4 hn
  refine ⟨_, h5, (Array.getElem?_eq_some_iff.1 h7).1, fun j u hu => ?_⟩
  have hj : j < D.length := by
    have := (List.getElem?_eq_some_iff.1 hu).1
    rw [bys_len] at this
    omega
  have hadd : (⟨g, 0, none⟩ : Addr).add j = ⟨g, j, none⟩ := by unfold Addr.add; split <;> simp_all
  rw [hadd]
  simp only [World.cell?, h7]
  rw [h8 j hj, hu]
  rfl
theorem RoB.fr {S : Nat → Prop} (h : RoB w base v D) (hf : Fr S w w') (hs : ∀ g cs fr, w.heap[g]? = some (.cells cs bT fr) → ¬ S g) : RoB w' base v D := by
  obtain ⟨A, c, h1, h2, h3, h4⟩ := h
  refine ⟨A, c, h1, h2, h3, fun hn => ?_⟩
  obtain ⟨g, cs, fr, h5, h6, h7, h8⟩ := h4 hn
  exact ⟨g, cs, fr, h5, h6, (hf.block g (Array.getElem?_eq_some_iff.1 h7).1 (hs g cs fr h7)).trans h7, h8⟩
theorem RoB.below (h : RoB w base v D) (hb : Below w.heap.size w w') : RoB w' base v D := h.fr (S := nob) (Fr.of_below hb) (fun _ _ _ _ => id)
theorem RoB.lower (h : RoB w base v D) (hb : b' ≤ base) : RoB w b' v D := by
  obtain ⟨A, c, h1, h2, h3, h4⟩ := h
  refine ⟨A, c, h1, h2, h3, fun hn => ?_⟩
  obtain ⟨g, cs, fr, h5, h6, h7⟩ := h4 hn
  exact ⟨g, cs, fr, h5, Nat.le_trans hb h6, h7⟩
theorem RoB.of_own (h : Own w base bT 1 v D.length (bys D)) : RoB w base v D := by
  obtain ⟨A, c, hv, hc⟩ := h.sl.form
  have hm := (show Sl w w.heap.size (.slice A D.length c) 1 D.length (bys D) by rw [← hv]; exact h.sl).inv.2.2.1
  refine ⟨A, c, hv, hc, hm, fun hn => ?_⟩
  rcases h.2 with ⟨_, h0⟩ | ⟨g, cap, cur, h1, h2, h3, h4, h5, h6, h7⟩
  · omega
  · rw [hv] at h1
    injection h1 with h1 _ _
    refine ⟨g, cur, (0, 0), h1, h2, h3, fun j hj => ?_⟩
    rw [← h7, List.getElem?_take, if_pos (by omega), Array.getElem?_toList]
end
/-- other blocks than bytes of whatever mark -/
theorem TabS.nbyte {w : World} {base tb cb : Nat} {wm fm : Option Nat} {bg : Bool} {L W : List (PK × CV)} {F : List (PK × Int)} (h : TabS w base tb cb wm fm bg L W F) : ∀ g cs fr, w.heap[g]? = some (.cells cs bT fr) → ¬ TBk tb cb wm fm bg g := by
  rintro g cs fr hg (h1 | h1 | ⟨h0, h1⟩)
  · have hb := h.blk
    unfold Blk at hb
    rw [← h1, hg] at hb
    injection hb with hb
    injection hb with _ hb
    exact absurd hb (by decide)
  · obtain ⟨es, clock, hb, _⟩ := h.map
    rw [← h1, hg] at hb
    cases hb
  · obtain ⟨wb, fb, e1, e2, h3⟩ := h.beg h0
    rcases h1 with h1 | h1
    · rw [e1] at h1
      injection h1 with h1
      obtain ⟨es, clock, hb, _⟩ := h3.wm
      rw [h1, hg] at hb
      cases hb
    · rw [e2] at h1
      injection h1 with h1
      obtain ⟨es, clock, hb, _⟩ := h3.fm
      rw [h1, hg] at hb
      cases hb

theorem strOf_size (D : List Int) : (strOfNums D).size = D.length := by
  show (strOfNums D).data.size = _
  rw [← Array.length_toList, strOfNums_data, List.length_map]
/-- []byte(s) -/
theorem conv_any (w : World) (D : List Int) (h8 : Bytes8 D) (hn : D.length ≤ 140737488355328) :
    ∃ cap w', (convert 9 23 (.string (strOfNums D))).run Try.prog w = .ok (.slice (some ⟨w.heap.size, 0, none⟩) D.length cap) w' ∧ RoB w' w.heap.size (.slice (some ⟨w.heap.size, 0, none⟩) D.length cap) D ∧ Below w.heap.size w w' := by
  have hr := Lib.run_convert_string_bytes (P := Try.prog) w 9 23 bT (strOfNums D) (u := .string) (by kernel_rfl) Try.underlying23 (by kernel_rfl)
  rw [strOf_size] at hr
  have hge := grownCap_ge w D.length 0 bT
  have hle := grownCap_le_maxLen w D.length 0 bT (by unfold maxLen; omega)
  unfold maxLen at hle
  refine ⟨_, _, hr, ⟨_, _, rfl, hge, by omega, fun _ => ⟨_, _, _, rfl, Nat.le_refl _, Lib.bytesWorld_at_new w bT (strOfNums D), fun j hj => ?_⟩⟩, ⟨rfl, rfl, rfl, ?_, fun k hk => Lib.bytesWorld_at_old w bT _ k hk⟩⟩
  · unfold Lib.bytesCells
    have hsz : (strOfNums D).data.toList = D.map (fun n => UInt8.ofNat n.toNat) := strOfNums_data D
    rw [← Array.getElem?_toList, Array.toList_append, List.getElem?_append_left (by simp only [Array.toList_map, List.length_map, hsz]; exact hj), Array.toList_map, hsz, List.map_map, bys_map, List.getElem?_map, List.getElem?_map, List.getElem?_eq_getElem hj]
    have hb := h8 _ (List.getElem_mem hj)
    simp
    omega
  · rw [Lib.bytesWorld_size]; omega

end Go.Proofs.Ytkobaidamdffmaa

namespace Go.Proofs.Ytkobaidamdffmaa
open Go.RowKit Go.Lib
set_option linter.unusedVariables false
set_option linter.unusedSimpArgs false

theorem strCells_of (D : List Int) (h8 : Bytes8 D) : strCells (strOfNums D) = bys D := by
  unfold strCells
  rw [strOfNums_data, List.map_map, bys_map]
  refine List.map_congr_left fun c hc => ?_
  have := h8 c hc
  simp
  omega
/-- append of a string's bytes -/
theorem run_app_str {P : Program} {w : World} {t u e : Nat} (T : SlTy P t e 1 1 (.int .u8 0)) (hu : P.underlying u = some .string) (ty base : Nat) {v : Value} {n : Nat} {xs : List Value} (s : ByteArray) (hv : Own w base e 1 v n xs)
    (hm : n + s.size ≤ 140737488355328) (hbase : base ≤ w.heap.size) :
    ∃ v' w', (Builtin.append_ #[t, u] ty #[v, .string s]).run P w = .ok v' w' ∧ App w base e 1 v (n + s.size) (xs ++ strCells s) v' w' := by
  obtain ⟨i, hi, hz, hsz, hb⟩ := T.hi
  have hxl : xs.length = n := by simpa using hv.1
  have hlen : (xs ++ strCells s).length = (n + s.size) * 1 := by rw [List.length_append, hxl, strCells_length, Nat.mul_one]
  have grown : ∀ (old : Nat), old < n + s.size → ∀ (S : Nat → Prop),
      Own (w.drew.alloc (.cells (xs.toArray ++ (strCells s).toArray ++ Builtin.zeroCells (Value.int .u8 0).cells (grownCap w (n + s.size) old e - (n + s.size))) e)) base e 1
        (.slice (some ⟨w.heap.size, 0, none⟩) (n + s.size) (grownCap w (n + s.size) old e)) (n + s.size) (xs ++ strCells s) ∧
      Fr S w (w.drew.alloc (.cells (xs.toArray ++ (strCells s).toArray ++ Builtin.zeroCells (Value.int .u8 0).cells (grownCap w (n + s.size) old e - (n + s.size))) e)) := by
    intro old ho S
    have hge := grownCap_ge w (n + s.size) old e
    have hcm : grownCap w (n + s.size) old e ≤ maxLen := grownCap_le_maxLen w (n + s.size) old e (by unfold maxLen; omega)
    refine ⟨⟨hlen, .inr ⟨w.heap.size, _, _, rfl, hbase, heap_alloc_new w.drew _, hge, hcm, ?_, ?_⟩⟩, (Fr.refl S w).drew.alloc _⟩
    · simp only [Array.size_append, List.size_toArray, size_zeroCells, T.hz, hxl, strCells_length]
      omega
    · simp only [Array.toList_append, List.append_assoc]
      rw [← List.append_assoc, ← hlen]
      exact List.take_left
  by_cases hm0 : s.size = 0
  · have hn : strCells s = [] := List.eq_nil_of_length_eq_zero (by rw [strCells_length, hm0])
    have hrun : (Builtin.append_ #[t, u] ty #[v, .string s]).run P w = .ok v w := by
      rcases hv.2 with ⟨rfl, rfl⟩ | ⟨g, cap, cur, rfl, _, _, hnc, _⟩ <;>
        simp [Builtin.append_, run_underlying T.ht, run_underlying hu, sizeOf, typeInfo, hi, Builtin.lenOf, Builtin.firstCells, storeCells, *]
    refine ⟨v, w, hrun, ?_, Fr.refl _ _, .inl rfl⟩
    rw [hn, List.append_nil, hm0, Nat.add_zero]
    exact hv
  · rcases hv.2 with ⟨rfl, rfl⟩ | ⟨g, cap, cur, rfl, hbg, hg, hnc, hcm, hcs, htake⟩
    · have hx0 : xs = [] := List.eq_nil_of_length_eq_zero (by simpa using hv.1)
      subst hx0
      have hr := run_append_nil_string (P := P) w t u ty e i _ T.ht hu hi hz s (by omega) (by omega) (by rw [hb]; omega)
      have hgr := grown 0 (by omega) (fun k => (Value.slice none 0 0).ownBlock = some k)
      simp only [Nat.zero_add, List.nil_append, Array.empty_append] at hgr ⊢
      have hsd : s.data.map (fun b => Value.int .u8 b.toNat) = (strCells s).toArray := by
        apply Array.ext'
        simp [strCells]
      rw [hsd] at hr
      exact ⟨_, _, hr, hgr.1, hgr.2, Or.inr rfl⟩
    · by_cases hroom : n + s.size ≤ cap
      · have hfit : n + s.size ≤ cur.size := by omega
        have hr := run_append_room_string (P := P) w t u ty e i T.ht hu hi hsz g n cap cur hg s hroom hfit
        refine ⟨_, _, hr, ⟨hlen, .inr ⟨g, cap, _, rfl, hbg, setRow_heap w g cur _ e _ hg, hroom, hcm, ?_, ?_⟩⟩, ⟨rfl, rfl, rfl, by simp, fun k _ hk => setRow_other w g k _ (fun e => hk (by simp [Value.ownBlock, e]))⟩, Or.inl rfl⟩
        · simp only [List.size_toArray, List.length_append, List.length_take, List.length_drop, Array.length_toList, strCells_length]
          omega
        · have ht2 : cur.toList.take n = xs := by rw [← htake, Nat.mul_one]
          rw [ht2, ← hlen]
          exact List.take_left
      · have holds : ∀ j u, xs[j]? = some u → w.cell? ((⟨g, 0, none⟩ : Addr).add j) = some u := hv.cells (g := g) rfl
        have hr := run_append_grow_string (P := P) w t u ty e i _ T.ht hu hi hz ⟨g, 0, none⟩ n cap xs (by rw [hsz]; exact hv.1) holds s (by omega) (by omega) (growslice_fits (by omega) (by rw [hb]; omega))
        have hgr := grown cap (by omega) (fun k => (Value.slice (some ⟨g, 0, none⟩) n cap).ownBlock = some k)
        exact ⟨_, _, hr, hgr.1, hgr.2, Or.inr rfl⟩
theorem wp_app_str {P : Program} {w : World} {t u e : Nat} {ops : Array Oper} {o : Oper} {a : Act} {Q : Exit → Act → World → Prop} {K : Act → World → Prop} {E : Prop} (hgd : o.guard = none) (T : SlTy P t e 1 1 (.int .u8 0)) (hu : P.underlying u = some .string) (s x : Operand) (ho : o.op = .call { callee := .builtin .append, args := #[s, x], argTypes := #[t, u] })
    (base : Nat) {v : Value} {n : Nat} {xs : List Value} {b : ByteArray} (hs : a.eval s = v) (hxv : a.eval x = .string b) (hv : Own w base e 1 v n xs)
    (hm : n + b.size ≤ 140737488355328) (hbase : base ≤ w.heap.size)
    (h : ∀ v' w', App w base e 1 v (n + b.size) (xs ++ strCells b) v' w' → K (a.put o.dst v') w') : if Region.wanted o (yielded ops a.tmps) = true then Oper.wp P o a w K Q else E := by
  have hw : Region.wanted o (yielded ops a.tmps) = true := by simp [Region.wanted, hgd]
  rw [if_pos hw]
  obtain ⟨v', w', hr, h2⟩ := run_app_str T hu o.type base b hv hm hbase
  unfold Oper.wp execOp
  simp only [ho, resolve, invoke, builtin, Sem.run_bind, Sem.run_pure, Result.andThen_ok, List.map_toArray, List.map_cons, List.map_nil, hs, hxv, hr]
  exact h v' w' h2

/-- a number in so many bytes, the greatest first -/
def beN (n : Int) : Nat → List Int
  | 0 => []
  | c + 1 => (n / 256 ^ c) % 256 :: beN n c
theorem beN_len (n : Int) : ∀ c, (beN n c).length = c
  | 0 => rfl
  | c + 1 => by rw [beN, List.length_cons, beN_len n c]
theorem beN_8 (n : Int) : ∀ c, Bytes8 (beN n c)
  | 0 => fun _ h => by cases h
  | c + 1 => fun x hx => by
    rcases List.mem_cons.1 hx with rfl | h
    · omega
    · exact beN_8 n c x h

/-- a buffer of bytes that the call made behind w holds E -/
structure BufI (w X : World) (v : Value) (E : List Int) : Prop where
  own : Own X w.heap.size bT 1 v E.length (bys E)
  bl : Below w.heap.size w X
/-- all but bytes stand -/
def Bt (w w' : World) : Prop := (∀ (g t : Nat) (cs : Array Value) (fr : Nat × Nat), t ≠ bT → w.heap[g]? = some (.cells cs t fr) → w'.heap[g]? = some (.cells cs t fr)) ∧ w.heap.size ≤ w'.heap.size
theorem Bt.refl (w : World) : Bt w w := ⟨fun _ _ _ _ _ h => h, Nat.le_refl _⟩
theorem Bt.trans {w w1 w2 : World} (h : Bt w w1) (k : Bt w1 w2) : Bt w w2 := ⟨fun g t cs fr h1 hb => k.1 g t cs fr h1 (h.1 g t cs fr h1 hb), Nat.le_trans h.2 k.2⟩
theorem Bt.below {w w' : World} (h : Below w.heap.size w w') : Bt w w' := ⟨fun g t cs fr _ hb => ((Fr.of_below (S := nob) h).block g (Array.getElem?_eq_some_iff.1 hb).1 id).trans hb, h.size⟩
theorem Bt.blk {w w' : World} (h : Bt w w') {g t : Nat} {cs : Array Value} (hb : Blk w g t cs) (ht : t ≠ bT) : Blk w' g t cs := h.1 g t cs _ ht hb
theorem Bt.own {w w' : World} (h : Bt w w') {base e sz n : Nat} {v : Value} {xs : List Value} (ho : Own w base e sz v n xs) (he : e ≠ bT) : Own w' base e sz v n xs := by
  refine ho.to fun g hg => ?_
  obtain ⟨cs, hc⟩ := ho.typed g hg
  have h2 := h.1 g e cs _ he hc
  unfold Blk at hc
  rw [hc, h2]
theorem BufI.below {w X Y : World} {v : Value} {E : List Int} (h : BufI w X v E) (hb : Below X.heap.size X Y) : BufI w Y v E := ⟨h.own.below hb, h.bl.trans (hb.mono h.bl.size)⟩
theorem BufI.app {w X Y : World} {v v' : Value} {E F : List Int} {n : Nat} (h : BufI w X v E) (hn : n = F.length) (ha : App X w.heap.size bT 1 v (E.length + n) (bys E ++ bys F) v' Y) : BufI w Y v' (E ++ F) ∧ Bt X Y := by
  subst hn
  refine ⟨⟨?_, h.bl.trans (ha.fr.below h.bl.size (fun k hk h9 => by have := (h.own.lt k h9).1; omega))⟩, ⟨fun g t cs fr ht hg => ?_, ha.fr.size⟩⟩
  · rw [List.length_append, bys_app]
    exact ha.own
  · refine (ha.fr.block g (Array.getElem?_eq_some_iff.1 hg).1 (fun e => ?_)).trans hg
    obtain ⟨c2, k2⟩ := h.own.typed g e
    unfold Blk at k2
    rw [hg] at k2
    injection k2 with k2
    injection k2 with _ k2
    exact ht k2
set_option maxRecDepth 100000 in
set_option maxHeartbeats 4000000 in
theorem put_any (w X : World) (v : Value) (E : List Int) (n : Int) (c : Nat) (h : BufI w X v E) (hn : 0 ≤ n ∧ n < 9223372036854775808) (hc : c ≤ 8) (hE : E.length ≤ 70368744177664) :
    Calls Try.prog 39 #[v, .int .i64 n, .int .i64 c] X fun e w' => ∃ v', e = .returned v' ∧ BufI w w' v' (E ++ beN n c) ∧ Bt X w' := by
  have HH := hide h
  have hz := h.bl.size
  clear h
  have HN := hide hn
  go_enter Try.func39, Try.ntmps39
  go_wp2_with fail
  go_loopw [0, 7] (fun v i wr => ∃ (k : Nat) (F : List Int), k ≤ c ∧ i = .int .i64 ((k : Int) - 1) ∧ F.length + k = c ∧ Hid (F ++ beN n k = beN n c) ∧ Hid (BufI w wr v (E ++ F) ∧ Bt X wr)) (fun _ i _ => (intOf i + 1).toNat)
  case atStart => exact ⟨c, [], Nat.le_refl _, rfl, by simp, by simp [Hid], by simpa using HH.out, Bt.refl _⟩
  case round =>
    obtain ⟨k, F, hk, rfl, hl, HF, HI⟩ := hrel
    cases k with
    | zero =>
      clear HH hz
      go_wp2_with fail
      go_ret
      have h9 := HF.out
      rw [beN, List.append_nil] at h9
      rw [← h9]
      exact ⟨_, rfl, HI.out.1, HI.out.2⟩
    | succ k =>
      rw [show (((k + 1 : Nat) : Int) - 1) = (k : Int) by omega]
      have hk8 : 8 * (k : Int) ≤ 56 := by omega
      obtain ⟨uA, uc, rfl, huc⟩ := HI.out.1.own.sl.form
      obtain ⟨m, hm⟩ : ∃ m, m = (E ++ F).length := ⟨_, rfl⟩
      have hml : m ≤ 70368744177664 + 8 := by rw [hm, List.length_append]; omega
      rw [← hm] at huc
      have HIF : Hid (BufI w wr (.slice uA m uc) (E ++ F) ∧ Bt X wr) := by rw [hm]; exact HI.out
      rw [← hm]
      have HM := hide hm
      have hzr := HI.out.1.bl.size
      clear hm HI HH hz
      have HSL : Hid (∀ (W : World) (y : Int), Sl (W.alloc (.cells #[.int .u8 y] bT)) (W.heap.size + 1) (.slice (some ⟨W.heap.size, 0, none⟩) 1 1) 1 1 (bys [y])) := fun W y =>
        Sl.of_own (Own.new (n := 1) (sz := 1) (e := bT) (base := 0) W #[.int .u8 y] (by omega) (by omega) rfl) |>.mono (by simp)
      have HIA : Hid (∀ cs, BufI w (wr.alloc (.cells cs bT)) (.slice uA m uc) (E ++ F) ∧ Bt X (wr.alloc (.cells cs bT))) := fun cs => ⟨HIF.out.1.below ((Below.refl _ _).alloc (Nat.le_refl _) _), HIF.out.2.trans (Bt.below ((Below.refl _ _).alloc (Nat.le_refl _) _))⟩
      have HOA : Hid (∀ cs, Own (wr.alloc (.cells cs bT)) w.heap.size bT 1 (.slice uA m uc) m (bys (E ++ F))) := fun cs => by have h9 := (HIA.out cs).1.own; rw [← HM.out] at h9; exact h9
      go_wp2_with (at_builtin; refine wpList_app rfl tyB (.tmp 14) (.tmp 20) rfl w.heap.size (n := m) (m := 1) (B := wr.heap.size + 1) (xs := bys (E ++ F)) (news := bys [n / 2 ^ (8 * k) % 256]) rfl rfl (by exact HOA.out _) (by exact HSL.out wr _) (bys_ok _) (by omega) (by omega) (by simp; omega) ?_)
      intro v5 w5 ha5
      have HI5 : Hid (BufI w w5 v5 (E ++ (F ++ [n / 2 ^ (8 * k) % 256])) ∧ Bt X w5) := by
        rw [HM.out] at ha5
        have h9 := BufI.app (F := [n / 2 ^ (8 * k) % 256]) (HIA.out _).1 rfl (by rw [HM.out]; exact ha5)
        rw [← List.append_assoc]
        exact ⟨h9.1, (HIA.out _).2.trans h9.2⟩
      have HF5 : Hid ((F ++ [n / 2 ^ (8 * k) % 256]) ++ beN n k = beN n c) := by
        have h9 := HF.out
        rw [beN] at h9
        show _ = _
        rw [← h9, List.append_assoc, List.singleton_append]
        congr 2
        rw [show (2 : Int) ^ (8 * k) = 256 ^ k by rw [Int.pow_mul]; rfl]
      clear ha5 HIA HIF HSL HF HOA
      go_wp2_with fail
      go_roundw
      case rel => exact ⟨k, F ++ [n / 2 ^ (8 * k) % 256], by omega, rfl, by simp; omega, HF5, HI5⟩
      case measure => simp [intOf]
theorem bit_any (b : Bool) (X : World) : Calls Try.prog 40 #[.bool b] X fun e w' => e = .returned (.int .u8 (if b then 1 else 0)) ∧ Below X.heap.size X w' := by
  cases b
  · go_enter Try.func40, Try.ntmps40
    go_wp2_with fail
    go_ret
    exact ⟨rfl, Below.refl _ _⟩
  · go_enter Try.func40, Try.ntmps40
    go_wp2_with fail
    go_ret
    exact ⟨rfl, Below.refl _ _⟩
end Go.Proofs.Ytkobaidamdffmaa
