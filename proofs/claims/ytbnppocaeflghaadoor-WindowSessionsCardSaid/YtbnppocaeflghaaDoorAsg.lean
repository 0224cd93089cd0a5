/- What Assign of package window hands back. -/
import Derived.Test.YtbnppocaeflghaaDoorRev
import Derived.WalkMore
import Derived.ScopeJumps
import Derived.BigQuiet
namespace Go.Proofs.YtbnppocaeflghaaDoor
open Go.RowKit
set_option linter.unusedVariables false
set_option linter.unusedSimpArgs false

def Wfn.step (f : Wfn) : Int := if f.k = 1 then f.s else f.p
/-- m windows of a size, downward from top -/
def downW (top step size : Int) (m : Nat) : List Win := (List.range m).map fun (j : Nat) => ⟨top - (j : Int) * step, top - (j : Int) * step + size⟩
theorem downW_len (top step size : Int) (m : Nat) : (downW top step size m).length = m := by simp [downW]
theorem downW_snoc (top step size : Int) (m : Nat) : downW top step size (m + 1) = downW top step size m ++ [⟨top - (m : Int) * step, top - (m : Int) * step + size⟩] := by
  simp [downW, List.range_succ]
/-- how many of them begin behind bound -/
def cntW (top bound step : Int) : Nat := ((top - bound + step - 1) / step).toNat
theorem cntW_iff (top bound step : Int) (hs : 0 < step) (j : Nat) : j < cntW top bound step ↔ bound < top - j * step := by
  unfold cntW
  have h1 : (j + 1 : Int) ≤ (top - bound + step - 1) / step ↔ (j + 1 : Int) * step ≤ top - bound + step - 1 := Int.le_ediv_iff_mul_le hs
  have h2 : ((j : Int) + 1) * step = j * step + step := by rw [Int.add_mul, Int.one_mul]
  rw [h2] at h1
  constructor
  · intro h
    have : (j + 1 : Int) ≤ (top - bound + step - 1) / step := by omega
    have := h1.1 this
    omega
  · intro h
    have := h1.2 (by omega)
    omega
/-- the last place up to t at which a window begins -/
def Wfn.top (f : Wfn) (t : Int) : Int := t - (t - f.o) % f.step
def Wfn.cnt (f : Wfn) (t : Int) : Nat := cntW (f.top t) (t - f.s) f.step
/-- the windows of a time -/
def Wfn.asg (f : Wfn) (t : Int) : List Win :=
  if f.k = 0 then [⟨0, 1048577⟩] else if f.k = 3 then [⟨t, t + f.s⟩] else (downW (f.top t) f.step f.s (f.cnt t)).reverse

/-- a goto loop whose label stands deep in a sequence -/
theorem wp_scope_once {P : Program} {a : Act} {w : World} {Q : Exit → Act → World → Prop} {c rest : Code} (l : Nat) (J : Act → World → Prop) (μ : Act → World → Nat) (hf : findLabel c l = some (Code.skip.seq rest))
    (first : (∀ a w, J a w → rest.wp P (Exit.jump l J Q) a w) → c.wp P (Exit.jump l J Q) a w)
    (pass : ∀ a w, J a w → rest.wp P (Exit.jump l (fun a' w' => J a' w' ∧ μ a' w' < μ a w) Q) a w) : (Code.scope c).wp P Q a w := by
  have hp2 : ∀ a w, J a w → rest.wp P (Exit.jump l J Q) a w := fun a w h => Code.wp_mono (fun e a' w' hq => by
    cases e with
    | goto l' => exact ⟨hq.1, hq.2.1⟩
    | _ => exact hq) (pass a w h)
  exact wp_scope_jumps l J μ hf (first hp2) (fun a w h => wp_seq (wp_skip (pass a w h)))

theorem assign_bad (f : Wfn) (t : Int) (w : World) (h : ¬ f.right) :
    Calls Tryd.prog 14 #[f.v, .int .i64 t] w fun e w' => e = .returned (.tuple #[.slice none 0 0, .int .i64 70]) ∧ Below w.heap.size w w' := by
  have HR := hide h
  clear h
  obtain ⟨fv, hfv⟩ : ∃ fv, fv = f.v := ⟨_, rfl⟩
  have HF := hide hfv
  obtain ⟨k, s, p, o⟩ := f
  simp only [Wfn.v] at hfv
  rw [← HF.out]
  subst hfv
  go_enter Tryd.func14, Tryd.ntmps14
  go_wp2_with fail
  refine wp_scope_straight ?_
  go_wp2_with fail
  refine (check_any ⟨k, s, p, o⟩ _).mono ?_
  rw [if_neg HR.out]
  rintro e w2 ⟨rfl, hb⟩
  have HB := hide (((Below.refl w.heap.size w).alloc (Nat.le_refl _) (.cells #[.int .i64 k, .int .i64 s, .int .i64 p, .int .i64 o] 24)).trans (hb.mono (by simp)))
  clear hb
  go_wp2_with fail
  simp only [Exit.noGoto]
  go_ret2
  exact ⟨rfl, HB.out⟩
theorem assign_time (f : Wfn) (t : Int) (w : World) (h : f.right) (ht : t < 0 ∨ 1048576 < t) :
    Calls Tryd.prog 14 #[f.v, .int .i64 t] w fun e w' => e = .returned (.tuple #[.slice none 0 0, .int .i64 71]) ∧ Below w.heap.size w w' := by
  have HR := hide h
  clear h
  have HT : Hid ((decide (0 ≤ t) && decide (t ≤ 1048576)) = false) := by
    rw [Hid]
    rcases ht with h9 | h9
    · rw [decide_eq_false (by omega : ¬ 0 ≤ t), Bool.false_and]
    · rw [decide_eq_false (by omega : ¬ t ≤ 1048576), Bool.and_false]
  obtain ⟨fv, hfv⟩ : ∃ fv, fv = f.v := ⟨_, rfl⟩
  have HF := hide hfv
  obtain ⟨k, s, p, o⟩ := f
  simp only [Wfn.v] at hfv
  rw [← HF.out]
  subst hfv
  go_enter Tryd.func14, Tryd.ntmps14
  go_wp2_with fail
  refine wp_scope_straight ?_
  go_wp2_with fail
  refine (check_any ⟨k, s, p, o⟩ _).mono ?_
  rw [if_pos HR.out]
  rintro e w2 ⟨rfl, hb⟩
  have HB := hide (((Below.refl w.heap.size w).alloc (Nat.le_refl _) (.cells #[.int .i64 k, .int .i64 s, .int .i64 p, .int .i64 o] 24)).trans (hb.mono (by simp)))
  clear hb
  go_wp2_with fail
  refine (between_any _ _ _ _).mono ?_
  rw [HT.out]
  rintro e w3 ⟨rfl, rfl⟩
  go_wp2_with fail
  simp only [Exit.noGoto]
  go_ret2
  exact ⟨rfl, HB.out⟩

set_option maxRecDepth 100000 in
set_option maxHeartbeats 8000000 in
theorem assign_ok (f : Wfn) (t : Int) (w : World) (h : f.right) (h0 : 0 ≤ t) (h1 : t ≤ 1048576) :
    Calls Tryd.prog 14 #[f.v, .int .i64 t] w fun e w' => ∃ v, e = .returned (.tuple #[v, .int .i64 0]) ∧ Own w' w.heap.size wT 2 v (f.asg t).length (wins (f.asg t)) ∧ Below w.heap.size w w' := by
  have HR := hide h
  have HT : Hid ((decide (0 ≤ t) && decide (t ≤ 1048576)) = true) := by
    rw [Hid, decide_eq_true h0, decide_eq_true h1]; rfl
  obtain ⟨fv, hfv⟩ : ∃ fv, fv = f.v := ⟨_, rfl⟩
  have HF := hide hfv
  obtain ⟨L, hL⟩ : ∃ L, L = f.asg t := ⟨_, rfl⟩
  rw [← hL]
  have HL := hide hL
  clear hL
  obtain ⟨k, s, p, o⟩ := f
  simp only [Wfn.v] at hfv
  rw [← HF.out]
  subst hfv
  have hc : k = 0 ∨ k = 3 ∨ k = 1 ∨ k = 2 := by unfold Wfn.right at h; simp only at h; omega
  have HC := hide (check_any ⟨k, s, p, o⟩)
  rw [Hid, if_pos HR.out] at HC
  rcases hc with rfl | rfl | rfl | rfl
  · unfold Wfn.right at h
    simp only at h
    go_enter Tryd.func14, Tryd.ntmps14
    go_wp2_with fail
    refine wp_scope_straight ?_
    go_wp2_with fail
    refine (HC _).mono ?_
    rintro e w2 ⟨rfl, hb⟩
    have hblk := (Blk.new w 24 #[.int .i64 0, .int .i64 s, .int .i64 p, .int .i64 o]).below hb (by simp)
    have HB := hide (((Below.refl w.heap.size w).alloc (Nat.le_refl _) (.cells #[.int .i64 0, .int .i64 s, .int .i64 p, .int .i64 o] 24)).trans (hb.mono (by simp)))
    have c0 : w2.cell? ⟨w.heap.size, 0, none⟩ = some (.int .i64 0) := hblk.cell 0
    have c1 : w2.cell? ⟨w.heap.size, 1, none⟩ = some (.int .i64 s) := hblk.cell 1
    have c2 : w2.cell? ⟨w.heap.size, 2, none⟩ = some (.int .i64 p) := hblk.cell 2
    have c3 : w2.cell? ⟨w.heap.size, 3, none⟩ = some (.int .i64 o) := hblk.cell 3
    have hlt := hblk.lt
    have HBLK := hide hblk
    clear hb hblk
    go_wp2_with fail
    refine (between_any _ _ _ _).mono ?_
    rw [HT.out]
    rintro e w3 ⟨rfl, rfl⟩
    go_wp2_with fail
    simp only [Exit.noGoto]
    go_ret2
    have hL : L = [⟨0, 1048577⟩] := by rw [HL.out]; simp [Wfn.asg]
    refine ⟨_, rfl, ?_, (HB.out.alloc (by have := HB.out.size; exact this) _)⟩
    rw [hL]
    exact Own.new (n := 1) (sz := 2) (e := wT) w3 w.heap.size #[.int .i64 0, .int .i64 1048577] (by have := HB.out.size; exact this) (by omega) rfl
  · unfold Wfn.right at h
    simp only at h
    go_enter Tryd.func14, Tryd.ntmps14
    go_wp2_with fail
    refine wp_scope_straight ?_
    go_wp2_with fail
    refine (HC _).mono ?_
    rintro e w2 ⟨rfl, hb⟩
    have hblk := (Blk.new w 24 #[.int .i64 3, .int .i64 s, .int .i64 p, .int .i64 o]).below hb (by simp)
    have HB := hide (((Below.refl w.heap.size w).alloc (Nat.le_refl _) (.cells #[.int .i64 3, .int .i64 s, .int .i64 p, .int .i64 o] 24)).trans (hb.mono (by simp)))
    have c0 : w2.cell? ⟨w.heap.size, 0, none⟩ = some (.int .i64 3) := hblk.cell 0
    have c1 : w2.cell? ⟨w.heap.size, 1, none⟩ = some (.int .i64 s) := hblk.cell 1
    have c2 : w2.cell? ⟨w.heap.size, 2, none⟩ = some (.int .i64 p) := hblk.cell 2
    have c3 : w2.cell? ⟨w.heap.size, 3, none⟩ = some (.int .i64 o) := hblk.cell 3
    have hlt := hblk.lt
    have HBLK := hide hblk
    clear hb hblk
    go_wp2_with fail
    refine (between_any _ _ _ _).mono ?_
    rw [HT.out]
    rintro e w3 ⟨rfl, rfl⟩
    go_wp2_with fail
    simp only [Exit.noGoto]
    go_ret2
    have hL : L = [⟨t, t + s⟩] := by rw [HL.out]; simp [Wfn.asg]
    refine ⟨_, rfl, ?_, (HB.out.alloc (by have := HB.out.size; exact this) _)⟩
    rw [hL]
    exact Own.new (n := 1) (sz := 2) (e := wT) w3 w.heap.size #[.int .i64 t, .int .i64 (t + s)] (by have := HB.out.size; exact this) (by omega) rfl
  · unfold Wfn.right at h
    simp only at h
    have HSTEP : Hid (Wfn.step ⟨1, s, p, o⟩ = s) := by simp [Hid, Wfn.step]
    have hem := Int.emod_nonneg (t - o) (show s ≠ 0 by omega)
    have hem2 := Int.emod_lt_of_pos (t - o) (show 0 < s by omega)
    obtain ⟨T, hT⟩ : ∃ T, T = t - o - (t - o) % s + o := ⟨_, rfl⟩
    have hTop : Wfn.top ⟨1, s, p, o⟩ t = T := by simp only [Wfn.top]; rw [HSTEP.out, hT]; omega
    have hCnt : ∀ j : Nat, j < Wfn.cnt ⟨1, s, p, o⟩ t ↔ t - s < T - (j : Int) * s := fun j => by
      have h9 := cntW_iff (Wfn.top ⟨1, s, p, o⟩ t) (t - s) (Wfn.step ⟨1, s, p, o⟩) (by rw [HSTEP.out]; omega) j
      rw [hTop, HSTEP.out] at h9
      simp only [Wfn.cnt]
      rw [hTop, HSTEP.out]
      exact h9
    have hTb : t - s < T ∧ T ≤ t := by omega
    have HCNT := hide hCnt
    have HTOP := hide hTop
    have HTT := hide hT
    have HASG : Hid (L = (downW T s s (Wfn.cnt ⟨1, s, p, o⟩ t)).reverse) := by
      rw [Hid, HL.out]
      simp only [Wfn.asg]
      rw [if_neg (by omega), if_neg (by omega), hTop, HSTEP.out]
    clear hCnt hTop hT hem hem2
    go_enter Tryd.func14, Tryd.ntmps14
    go_wp2_with fail
    refine wp_scope_once 0 (fun a' w' => ∃ (m : Nat) (ov u39 u40 u41 u42 u43 u44 u45 u46 u47 u48 u49 u50 u51 u52 u53 u54 u55 u56 u57 u58 u59 u60 u61 u62 u63 u64 u65 : Value), a' = { tmps := #[Value.agg #[Value.int IntKind.i64 1, Value.int IntKind.i64 s, Value.int IntKind.i64 p, Value.int IntKind.i64 o], Value.int IntKind.i64 t, Value.pointer (some { block := w.heap.size, off := 0 }), undef, Value.slice none 0 0, Value.int IntKind.i64 0, Value.int IntKind.i64 0, Value.int IntKind.i64 s, ov, Value.int IntKind.i64 (T - (m : Int) * s), Value.agg #[Value.int IntKind.i64 1, Value.int IntKind.i64 s, Value.int IntKind.i64 p, Value.int IntKind.i64 o], Value.int IntKind.i64 0, Value.int IntKind.i64 0, Value.bool false, undef, Value.int IntKind.i64 t, Value.bool true, Value.bool false, Value.pointer (some { block := w.heap.size, off := 2 }), Value.int IntKind.i64 p, Value.pointer (some { block := w.heap.size, off := 0 }), Value.int IntKind.i64 1, Value.bool false, Value.bool false, undef, undef, Value.bool false, Value.bool false, undef, undef, undef, undef, undef, undef, undef, Value.bool true, Value.bool true, Value.pointer (some { block := w.heap.size, off := 1 }), Value.int IntKind.i64 s, u39, u40, u41, u42, u43, u44, u45, u46, u47, u48, u49, u50, u51, u52, u53, u54, u55, u56, u57, u58, u59, u60, u61, u62, u63, u64, u65, undef, undef, undef], defers := [] } ∧ m ≤ (Wfn.cnt ⟨1, s, p, o⟩ t) ∧ Hid (Own w' w.heap.size wT 2 ov m (wins (downW T s s m))) ∧ Hid (Blk w' w.heap.size 24 #[.int .i64 1, .int .i64 s, .int .i64 p, .int .i64 o]) ∧ Hid (Below w.heap.size w w')) (fun a' _ => (intOf (a'.tmps.getD 9 undef) - (t - s) + 4194304).toNat) rfl ?_ ?_
    · intro hp
      have HP := hide hp
      clear hp
      go_wp2_with fail
      refine (HC _).mono ?_
      rintro e w2 ⟨rfl, hb⟩
      have hblk := (Blk.new w 24 #[.int .i64 1, .int .i64 s, .int .i64 p, .int .i64 o]).below hb (by simp)
      have HB := hide (((Below.refl w.heap.size w).alloc (Nat.le_refl _) (.cells #[.int .i64 1, .int .i64 s, .int .i64 p, .int .i64 o] 24)).trans (hb.mono (by simp)))
      have c0 : w2.cell? ⟨w.heap.size, 0, none⟩ = some (.int .i64 1) := hblk.cell 0
      have c1 : w2.cell? ⟨w.heap.size, 1, none⟩ = some (.int .i64 s) := hblk.cell 1
      have c2 : w2.cell? ⟨w.heap.size, 2, none⟩ = some (.int .i64 p) := hblk.cell 2
      have c3 : w2.cell? ⟨w.heap.size, 3, none⟩ = some (.int .i64 o) := hblk.cell 3
      have hlt := hblk.lt
      have HBLK := hide hblk
      clear hb hblk
      go_wp2_with fail
      refine (between_any _ _ _ _).mono ?_
      rw [HT.out]
      rintro e w3 ⟨rfl, rfl⟩
      go_wp2_with fail
      have HST : Hid (1 ≤ s ∧ s ≤ 1048576) := ⟨by omega, by omega⟩
      go_quiet ((go_at_call 37; refine Calls.quiet_of_same (floor_any (t - o) s _ HST.out.1 HST.out.2 (by omega) (by omega))))
      go_wp2_with fail
      go_step3
      simp only [Exit.then]
      apply_assumption
      refine HP.out _ _ ?_
      have hwz : wrap64 (t - o - (t - o) % s + o) = T - ((0 : Nat) : Int) * s := by
        rw [show T - ((0 : Nat) : Int) * s = T by simp, ← HTT.out]
        unfold wrap64
        omega
      rw [hwz]
      exact ⟨0, .slice none 0 0, _, _, _, _, _, _, _, _, _, _, _, _, _, _, _, _, _, _, _, _, _, _, _, _, _, _, _, rfl, Nat.zero_le _, Own.nil _ _ _ _, HBLK.out, HB.out.drewN _⟩
    · rintro a' w' ⟨m, ov, u39, u40, u41, u42, u43, u44, u45, u46, u47, u48, u49, u50, u51, u52, u53, u54, u55, u56, u57, u58, u59, u60, u61, u62, u63, u64, u65, rfl, hm, HO, HBLK, HB⟩
      obtain ⟨oA, oc, rfl, hoc⟩ := HO.out.sl.form
      have c1 : w'.cell? ⟨w.heap.size, 1, none⟩ = some (.int .i64 s) := HBLK.out.cell 1
      have hlt := HBLK.out.lt
      have hzB := HB.out.size
      have hiff := HCNT.out m
      obtain ⟨x, hx⟩ : ∃ x, x = T - (m : Int) * s := ⟨_, rfl⟩
      have HX := hide hx
      have hms : (m : Int) * s ≤ 2097152 := by
        by_cases h9 : m = 0
        · subst h9; omega
        · have h10 := (HCNT.out (m - 1)).1 (by omega)
          have h11 : ((m - 1 : Nat) : Int) * s = (m : Int) * s - s := by
            rw [show ((m - 1 : Nat) : Int) = (m : Int) - 1 by omega, Int.sub_mul, Int.one_mul]
          omega
      have hms2 : 0 ≤ (m : Int) * s := Int.mul_nonneg (by omega) (by omega)
      have hmm : (m : Int) ≤ (m : Int) * s := by
        have h9 := Int.mul_le_mul_of_nonneg_left (show (1 : Int) ≤ s by omega) (show (0 : Int) ≤ (m : Int) by omega)
        omega
      have hxb : -4194304 ≤ x ∧ x ≤ 4194304 := by omega
      rw [← hx] at hiff ⊢
      clear hx
      by_cases hgt : t - s < x
      · have hmc := hiff.2 hgt
        clear hiff
        have HN : Hid (Sl (w'.alloc (.cells #[.int .i64 x, .int .i64 (x + s)] wT)) (w'.heap.size + 1) (.slice (some ⟨w'.heap.size, 0, none⟩) 1 1) 2 1 (wins [⟨x, x + s⟩])) :=
          Sl.of_own (Own.new (n := 1) (sz := 2) (e := wT) (base := 0) w' #[.int .i64 x, .int .i64 (x + s)] (by omega) (by omega) rfl) |>.mono (by simp)
        go_wp2_with (at_builtin; refine wpList_app rfl tyW (.tmp 54) (.tmp 61) rfl w.heap.size (n := m) (m := 1) (B := w'.heap.size + 1) (xs := wins (downW T s s m)) (news := wins [⟨x, x + s⟩]) rfl rfl (HO.out.alloc _) HN.out (wins_ok _) (by omega) (by omega) (by simp <;> omega) ?_)
        intro v1 w1 ha
        have HO1 : Hid (Own w1 w.heap.size wT 2 v1 (m + 1) (wins (downW T s s (m + 1)))) := by
          rw [downW_snoc, wins_app, ← HX.out]; exact ha.own
        have HB1 := hide ((HB.out.alloc (o := .cells #[.int .i64 x, .int .i64 (x + s)] wT) HB.out.size).trans (ha.fr.below (B := w.heap.size) (by simp <;> omega) (fun k hk h => by have := ((HO.out.lt k h).1); omega)))
        have HBLK1 := hide (ha.fr.blk (HBLK.out.alloc (.cells #[.int .i64 x, .int .i64 (x + s)] wT)) (HO.out.ne HBLK.out (by decide)))
        clear ha
        go_wp2_with fail
        go_step3
        have hx1 : x - s = T - ((m + 1 : Nat) : Int) * s := by
          rw [HX.out, show ((m + 1 : Nat) : Int) = (m : Int) + 1 by omega, Int.add_mul, Int.one_mul]; omega
        have hdec : x - s < x := by omega
        rw [hx1] at hdec ⊢
        refine ⟨rfl, ⟨m + 1, v1, _, _, _, _, _, _, _, _, _, _, _, _, _, _, _, _, _, _, _, _, _, _, _, _, _, _, _, rfl, by omega, HO1.out, HBLK1.out, HB1.out⟩, ?_⟩
        simp [intOf]
        simp at hdec
        omega
      · have hmc : m = Wfn.cnt ⟨1, s, p, o⟩ t := by
          have h9 : ¬ m < Wfn.cnt ⟨1, s, p, o⟩ t := fun h9 => hgt (hiff.1 h9)
          omega
        have HMC := hide hmc
        clear hiff hmc
        go_wp2_with fail
        refine (rev_any _ (downW T s s m) w.heap.size w' (by rw [downW_len]; exact HO.out) (by rw [downW_len]; omega)).mono ?_
        rintro e w4 ⟨rfl, ho, hf⟩
        have HO4 : Hid (Own w4 w.heap.size wT 2 (.slice oA m oc) L.length (wins L)) := by
          rw [Hid, HASG.out, ← HMC.out, List.length_reverse]
          exact ho
        have HB4 := hide (HB.out.trans (hf.below (B := w.heap.size) HB.out.size (fun k hk h => by have := ((HO.out.lt k h).1); omega)))
        clear ho hf
        go_wp2_with fail
        simp only [Exit.jump]
        go_ret2
        exact ⟨_, rfl, HO4.out, HB4.out⟩
  · unfold Wfn.right at h
    simp only at h
    have HSTEP : Hid (Wfn.step ⟨2, s, p, o⟩ = p) := by simp [Hid, Wfn.step]
    have hem := Int.emod_nonneg (t - o) (show p ≠ 0 by omega)
    have hem2 := Int.emod_lt_of_pos (t - o) (show 0 < p by omega)
    obtain ⟨T, hT⟩ : ∃ T, T = t - o - (t - o) % p + o := ⟨_, rfl⟩
    have hTop : Wfn.top ⟨2, s, p, o⟩ t = T := by simp only [Wfn.top]; rw [HSTEP.out, hT]; omega
    have hCnt : ∀ j : Nat, j < Wfn.cnt ⟨2, s, p, o⟩ t ↔ t - s < T - (j : Int) * p := fun j => by
      have h9 := cntW_iff (Wfn.top ⟨2, s, p, o⟩ t) (t - s) (Wfn.step ⟨2, s, p, o⟩) (by rw [HSTEP.out]; omega) j
      rw [hTop, HSTEP.out] at h9
      simp only [Wfn.cnt]
      rw [hTop, HSTEP.out]
      exact h9
    have hTb : t - p < T ∧ T ≤ t := by omega
    have HCNT := hide hCnt
    have HTOP := hide hTop
    have HTT := hide hT
    have HASG : Hid (L = (downW T p s (Wfn.cnt ⟨2, s, p, o⟩ t)).reverse) := by
      rw [Hid, HL.out]
      simp only [Wfn.asg]
      rw [if_neg (by omega), if_neg (by omega), hTop, HSTEP.out]
    clear hCnt hTop hT hem hem2
    go_enter Tryd.func14, Tryd.ntmps14
    go_wp2_with fail
    refine wp_scope_once 0 (fun a' w' => ∃ (m : Nat) (ov u39 u40 u41 u42 u43 u44 u45 u46 u47 u48 u49 u50 u51 u52 u53 u54 u55 u56 u57 u58 u59 u60 u61 u62 u63 u64 u65 : Value), a' = { tmps := #[Value.agg #[Value.int IntKind.i64 2, Value.int IntKind.i64 s, Value.int IntKind.i64 p, Value.int IntKind.i64 o], Value.int IntKind.i64 t, Value.pointer (some { block := w.heap.size, off := 0 }), undef, Value.slice none 0 0, Value.int IntKind.i64 0, Value.int IntKind.i64 0, Value.int IntKind.i64 p, ov, Value.int IntKind.i64 (T - (m : Int) * p), Value.agg #[Value.int IntKind.i64 2, Value.int IntKind.i64 s, Value.int IntKind.i64 p, Value.int IntKind.i64 o], Value.int IntKind.i64 0, Value.int IntKind.i64 0, Value.bool false, undef, Value.int IntKind.i64 t, Value.bool true, Value.bool false, Value.pointer (some { block := w.heap.size, off := 2 }), Value.int IntKind.i64 p, Value.pointer (some { block := w.heap.size, off := 0 }), Value.int IntKind.i64 2, Value.bool false, Value.bool false, undef, undef, Value.bool false, Value.bool false, undef, undef, undef, undef, undef, undef, undef, Value.bool false, Value.bool false, undef, undef, u39, u40, u41, u42, u43, u44, u45, u46, u47, u48, u49, u50, u51, u52, u53, u54, u55, u56, u57, u58, u59, u60, u61, u62, u63, u64, u65, undef, undef, undef], defers := [] } ∧ m ≤ (Wfn.cnt ⟨2, s, p, o⟩ t) ∧ Hid (Own w' w.heap.size wT 2 ov m (wins (downW T p s m))) ∧ Hid (Blk w' w.heap.size 24 #[.int .i64 2, .int .i64 s, .int .i64 p, .int .i64 o]) ∧ Hid (Below w.heap.size w w')) (fun a' _ => (intOf (a'.tmps.getD 9 undef) - (t - s) + 4194304).toNat) rfl ?_ ?_
    · intro hp
      have HP := hide hp
      clear hp
      go_wp2_with fail
      refine (HC _).mono ?_
      rintro e w2 ⟨rfl, hb⟩
      have hblk := (Blk.new w 24 #[.int .i64 2, .int .i64 s, .int .i64 p, .int .i64 o]).below hb (by simp)
      have HB := hide (((Below.refl w.heap.size w).alloc (Nat.le_refl _) (.cells #[.int .i64 2, .int .i64 s, .int .i64 p, .int .i64 o] 24)).trans (hb.mono (by simp)))
      have c0 : w2.cell? ⟨w.heap.size, 0, none⟩ = some (.int .i64 2) := hblk.cell 0
      have c1 : w2.cell? ⟨w.heap.size, 1, none⟩ = some (.int .i64 s) := hblk.cell 1
      have c2 : w2.cell? ⟨w.heap.size, 2, none⟩ = some (.int .i64 p) := hblk.cell 2
      have c3 : w2.cell? ⟨w.heap.size, 3, none⟩ = some (.int .i64 o) := hblk.cell 3
      have hlt := hblk.lt
      have HBLK := hide hblk
      clear hb hblk
      go_wp2_with fail
      refine (between_any _ _ _ _).mono ?_
      rw [HT.out]
      rintro e w3 ⟨rfl, rfl⟩
      go_wp2_with fail
      have HST : Hid (1 ≤ p ∧ p ≤ 1048576) := ⟨by omega, by omega⟩
      go_quiet ((go_at_call 37; refine Calls.quiet_of_same (floor_any (t - o) p _ HST.out.1 HST.out.2 (by omega) (by omega))))
      go_wp2_with fail
      go_step3
      simp only [Exit.then]
      apply_assumption
      refine HP.out _ _ ?_
      have hwz : wrap64 (t - o - (t - o) % p + o) = T - ((0 : Nat) : Int) * p := by
        rw [show T - ((0 : Nat) : Int) * p = T by simp, ← HTT.out]
        unfold wrap64
        omega
      rw [hwz]
      exact ⟨0, .slice none 0 0, _, _, _, _, _, _, _, _, _, _, _, _, _, _, _, _, _, _, _, _, _, _, _, _, _, _, _, rfl, Nat.zero_le _, Own.nil _ _ _ _, HBLK.out, HB.out.drewN _⟩
    · rintro a' w' ⟨m, ov, u39, u40, u41, u42, u43, u44, u45, u46, u47, u48, u49, u50, u51, u52, u53, u54, u55, u56, u57, u58, u59, u60, u61, u62, u63, u64, u65, rfl, hm, HO, HBLK, HB⟩
      obtain ⟨oA, oc, rfl, hoc⟩ := HO.out.sl.form
      have c1 : w'.cell? ⟨w.heap.size, 1, none⟩ = some (.int .i64 s) := HBLK.out.cell 1
      have hlt := HBLK.out.lt
      have hzB := HB.out.size
      have hiff := HCNT.out m
      obtain ⟨x, hx⟩ : ∃ x, x = T - (m : Int) * p := ⟨_, rfl⟩
      have HX := hide hx
      have hms : (m : Int) * p ≤ 2097152 := by
        by_cases h9 : m = 0
        · subst h9; omega
        · have h10 := (HCNT.out (m - 1)).1 (by omega)
          have h11 : ((m - 1 : Nat) : Int) * p = (m : Int) * p - p := by
            rw [show ((m - 1 : Nat) : Int) = (m : Int) - 1 by omega, Int.sub_mul, Int.one_mul]
          omega
      have hms2 : 0 ≤ (m : Int) * p := Int.mul_nonneg (by omega) (by omega)
      have hmm : (m : Int) ≤ (m : Int) * p := by
        have h9 := Int.mul_le_mul_of_nonneg_left (show (1 : Int) ≤ p by omega) (show (0 : Int) ≤ (m : Int) by omega)
        omega
      have hxb : -4194304 ≤ x ∧ x ≤ 4194304 := by omega
      rw [← hx] at hiff ⊢
      clear hx
      by_cases hgt : t - s < x
      · have hmc := hiff.2 hgt
        clear hiff
        have HN : Hid (Sl (w'.alloc (.cells #[.int .i64 x, .int .i64 (x + s)] wT)) (w'.heap.size + 1) (.slice (some ⟨w'.heap.size, 0, none⟩) 1 1) 2 1 (wins [⟨x, x + s⟩])) :=
          Sl.of_own (Own.new (n := 1) (sz := 2) (e := wT) (base := 0) w' #[.int .i64 x, .int .i64 (x + s)] (by omega) (by omega) rfl) |>.mono (by simp)
        go_wp2_with (at_builtin; refine wpList_app rfl tyW (.tmp 54) (.tmp 61) rfl w.heap.size (n := m) (m := 1) (B := w'.heap.size + 1) (xs := wins (downW T p s m)) (news := wins [⟨x, x + s⟩]) rfl rfl (HO.out.alloc _) HN.out (wins_ok _) (by omega) (by omega) (by simp <;> omega) ?_)
        intro v1 w1 ha
        have HO1 : Hid (Own w1 w.heap.size wT 2 v1 (m + 1) (wins (downW T p s (m + 1)))) := by
          rw [downW_snoc, wins_app, ← HX.out]; exact ha.own
        have HB1 := hide ((HB.out.alloc (o := .cells #[.int .i64 x, .int .i64 (x + s)] wT) HB.out.size).trans (ha.fr.below (B := w.heap.size) (by simp <;> omega) (fun k hk h => by have := ((HO.out.lt k h).1); omega)))
        have HBLK1 := hide (ha.fr.blk (HBLK.out.alloc (.cells #[.int .i64 x, .int .i64 (x + s)] wT)) (HO.out.ne HBLK.out (by decide)))
        clear ha
        go_wp2_with fail
        go_step3
        have hx1 : x - p = T - ((m + 1 : Nat) : Int) * p := by
          rw [HX.out, show ((m + 1 : Nat) : Int) = (m : Int) + 1 by omega, Int.add_mul, Int.one_mul]; omega
        have hdec : x - p < x := by omega
        rw [hx1] at hdec ⊢
        refine ⟨rfl, ⟨m + 1, v1, _, _, _, _, _, _, _, _, _, _, _, _, _, _, _, _, _, _, _, _, _, _, _, _, _, _, _, rfl, by omega, HO1.out, HBLK1.out, HB1.out⟩, ?_⟩
        simp [intOf]
        simp at hdec
        omega
      · have hmc : m = Wfn.cnt ⟨2, s, p, o⟩ t := by
          have h9 : ¬ m < Wfn.cnt ⟨2, s, p, o⟩ t := fun h9 => hgt (hiff.1 h9)
          omega
        have HMC := hide hmc
        clear hiff hmc
        go_wp2_with fail
        refine (rev_any _ (downW T p s m) w.heap.size w' (by rw [downW_len]; exact HO.out) (by rw [downW_len]; omega)).mono ?_
        rintro e w4 ⟨rfl, ho, hf⟩
        have HO4 : Hid (Own w4 w.heap.size wT 2 (.slice oA m oc) L.length (wins L)) := by
          rw [Hid, HASG.out, ← HMC.out, List.length_reverse]
          exact ho
        have HB4 := hide (HB.out.trans (hf.below (B := w.heap.size) HB.out.size (fun k hk h => by have := ((HO.out.lt k h).1); omega)))
        clear ho hf
        go_wp2_with fail
        simp only [Exit.jump]
        go_ret2
        exact ⟨_, rfl, HO4.out, HB4.out⟩

end Go.Proofs.YtbnppocaeflghaaDoor
