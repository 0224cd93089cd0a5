/- The reference of layer 15: Order, KeyRight. -/
import Derived.Test.YtkobaidamdffmaaRef15
namespace Go.Proofs.Ytkobaidamdffmaa
open Go.RowKit Go.Sort
set_option linter.unusedVariables false
set_option linter.unusedSimpArgs false

theorem win_ne (f t f' t' : Int) (h : ¬ (f = f' ∧ t = t')) (W : World) : (binOp .neq rT7 (.agg #[.int .i64 f, .int .i64 t]) (.agg #[.int .i64 f', .int .i64 t'])).run Try.prog W = .ok (.bool true) W := by
  by_cases h1 : f = f'
  · have h2 : ¬ t = t' := fun h9 => h ⟨h1, h9⟩
    go_simp
  · go_simp
theorem win_nq (f t f' t' : Int) (h : ¬ (f = f' ∧ t = t')) (W : World) : (binOp .eql rT7 (.agg #[.int .i64 f, .int .i64 t]) (.agg #[.int .i64 f', .int .i64 t'])).run Try.prog W = .ok (.bool false) W := by
  by_cases h1 : f = f'
  · have h2 : ¬ t = t' := fun h9 => h ⟨h1, h9⟩
    go_simp
  · go_simp
theorem win_nn (f t : Int) (W : World) : (binOp .neq rT7 (.agg #[.int .i64 f, .int .i64 t]) (.agg #[.int .i64 f, .int .i64 t])).run Try.prog W = .ok (.bool false) W := by
  go_simp
/-- a cell of the reference, as a value -/
def rcV (k : Value) (f t : Int) (a : Value) (s n g h : Int) (p c : Bool) : Value := .agg #[k, .int .i64 f, .int .i64 t, a, .int .i64 s, .int .i64 n, .int .i64 g, .int .i64 h, .bool p, .bool c]
abbrev rcT : Nat := 29
/-- the order of cells -/
def ordC (x y : Win) (D E : List Int) : Int := if x = y then bytesR D E else if wlt x y then -1 else 1

set_option maxHeartbeats 600000 in
theorem rorder_any (A A' Q Q' : Option Addr) (c c' m m' q q' : Nat) (D E : List Int) (f t f' t' s n g h s' n' g' h' : Int) (p b p' b' : Bool) (B C : Nat) (w : World) (hs : Sl w B (.slice A D.length c) 1 D.length (bys D)) (hu : Sl w C (.slice A' E.length c') 1 E.length (bys E)) (h1 : Bytes8 D) (h2 : Bytes8 E) (hB : B ≤ w.heap.size) (hC : C ≤ w.heap.size) :
    Calls Try.prog 16 #[rcV (.slice A D.length c) f t (.slice Q m q) s n g h p b, rcV (.slice A' E.length c') f' t' (.slice Q' m' q') s' n' g' h' p' b'] w fun e w' => e = .returned (.int .i64 (ordC ⟨f, t⟩ ⟨f', t'⟩ D E)) ∧ Below w.heap.size w w' := by
  obtain ⟨r, hr⟩ : ∃ r, r = ordC ⟨f, t⟩ ⟨f', t'⟩ D E := ⟨_, rfl⟩
  rw [← hr]
  have HR := hide hr
  have HS := hide hs
  have HU := hide hu
  have H1 := hide h1
  have H2 := hide h2
  obtain ⟨k, hk⟩ : ∃ k, k = D.length := ⟨_, rfl⟩
  obtain ⟨l, hl⟩ : ∃ l, l = E.length := ⟨_, rfl⟩
  rw [← hk] at HS ⊢
  rw [← hl] at HU ⊢
  have HK := hide hk
  have HL := hide hl
  clear hr hs hu h1 h2 hk hl
  unfold rcV
  have HB : Hid (Below w.heap.size w ((w.alloc (.cells #[.slice A k c, .int .i64 f, .int .i64 t, .slice Q m q, .int .i64 s, .int .i64 n, .int .i64 g, .int .i64 h, .bool p, .bool b] rcT)).alloc (.cells #[.slice A' l c', .int .i64 f', .int .i64 t', .slice Q' m' q', .int .i64 s', .int .i64 n', .int .i64 g', .int .i64 h', .bool p', .bool b'] rcT))) := ((Below.refl w.heap.size w).alloc (Nat.le_refl _) _).alloc (by simp) _
  have HP : Hid (Blk ((w.alloc (.cells #[.slice A k c, .int .i64 f, .int .i64 t, .slice Q m q, .int .i64 s, .int .i64 n, .int .i64 g, .int .i64 h, .bool p, .bool b] rcT)).alloc (.cells #[.slice A' l c', .int .i64 f', .int .i64 t', .slice Q' m' q', .int .i64 s', .int .i64 n', .int .i64 g', .int .i64 h', .bool p', .bool b'] rcT)) w.heap.size rcT #[.slice A k c, .int .i64 f, .int .i64 t, .slice Q m q, .int .i64 s, .int .i64 n, .int .i64 g, .int .i64 h, .bool p, .bool b]) := (Blk.new w _ _).alloc _
  have HQ : Hid (Blk ((w.alloc (.cells #[.slice A k c, .int .i64 f, .int .i64 t, .slice Q m q, .int .i64 s, .int .i64 n, .int .i64 g, .int .i64 h, .bool p, .bool b] rcT)).alloc (.cells #[.slice A' l c', .int .i64 f', .int .i64 t', .slice Q' m' q', .int .i64 s', .int .i64 n', .int .i64 g', .int .i64 h', .bool p', .bool b'] rcT)) (w.heap.size + 1) rcT #[.slice A' l c', .int .i64 f', .int .i64 t', .slice Q' m' q', .int .i64 s', .int .i64 n', .int .i64 g', .int .i64 h', .bool p', .bool b']) := by
    have h9 := Blk.new (w.alloc (.cells #[.slice A k c, .int .i64 f, .int .i64 t, .slice Q m q, .int .i64 s, .int .i64 n, .int .i64 g, .int .i64 h, .bool p, .bool b] rcT)) rcT #[.slice A' l c', .int .i64 f', .int .i64 t', .slice Q' m' q', .int .i64 s', .int .i64 n', .int .i64 g', .int .i64 h', .bool p', .bool b']
    simpa [Hid] using h9
  go_enter Try.func16, Try.ntmps16
  go_upto_region 1 with fail
  generalize (w.alloc (.cells #[.slice A k c, .int .i64 f, .int .i64 t, .slice Q m q, .int .i64 s, .int .i64 n, .int .i64 g, .int .i64 h, .bool p, .bool b] rcT)).alloc (.cells #[.slice A' l c', .int .i64 f', .int .i64 t', .slice Q' m' q', .int .i64 s', .int .i64 n', .int .i64 g', .int .i64 h', .bool p', .bool b'] rcT) = w1 at *
  obtain ⟨pb, hpb⟩ : ∃ pb, pb = w.heap.size := ⟨_, rfl⟩
  obtain ⟨qb, hqb⟩ : ∃ qb, qb = w.heap.size + 1 := ⟨_, rfl⟩
  rw [← hqb] at HQ ⊢
  rw [← hpb] at HP ⊢
  have HS1 := hide (HS.out.below (HB.out.mono hB))
  have HU1 := hide (HU.out.below (HB.out.mono hC))
  clear hpb hqb HS HU
  have hp := HP.out.lt
  have hq := HQ.out.lt
  have p0 : w1.cell? ⟨pb, 0, none⟩ = some (.slice A k c) := HP.out.cell 0
  have p1 : w1.cell? ⟨pb, 1, none⟩ = some (.int .i64 f) := HP.out.cell 1
  have p2 : w1.cell? ⟨pb, 2, none⟩ = some (.int .i64 t) := HP.out.cell 2
  have q0 : w1.cell? ⟨qb, 0, none⟩ = some (.slice A' l c') := HQ.out.cell 0
  have q1 : w1.cell? ⟨qb, 1, none⟩ = some (.int .i64 f') := HQ.out.cell 1
  have q2 : w1.cell? ⟨qb, 2, none⟩ = some (.int .i64 t') := HQ.out.cell 2
  by_cases he : f = f' ∧ t = t'
  · obtain ⟨rfl, rfl⟩ := he
    have HF : Hid (r = bytesR D E) := by show _ = _; rw [HR.out]; unfold ordC; rw [if_pos rfl]
    go_wp2_with fail
    refine (rbytes_any _ _ D E k l B C _ HS1.out HU1.out HK.out.symm HL.out.symm H1.out H2.out).mono ?_
    rw [← HF.out]
    rintro e w2 ⟨rfl, j, rfl⟩
    go_wp2_with fail
    go_ret
    exact ⟨rfl, HB.out.drewN j⟩
  · have HF : Hid (r = if wlt ⟨f, t⟩ ⟨f', t'⟩ then -1 else 1) := by
      show _ = _
      rw [HR.out]
      unfold ordC
      rw [if_neg (fun h9 => he (by injection h9 with h8 h7; exact ⟨h8, h7⟩))]
    have hne := win_ne f t f' t' he
    go_wp2_with fail
    refine (rless_any f t f' t' _).mono ?_
    by_cases h9 : wlt ⟨f, t⟩ ⟨f', t'⟩
    · have HG : Hid (r = -1) := by show _ = _; rw [HF.out, if_pos h9]
      rw [decide_eq_true h9]
      rintro e w2 ⟨rfl, hb2⟩
      have HB2 := hide (HB.out.trans (hb2.mono HB.out.size))
      clear hb2
      go_wp2_with fail
      go_ret
      rw [HG.out]
      exact ⟨rfl, HB2.out⟩
    · have HG : Hid (r = 1) := by show _ = _; rw [HF.out, if_neg h9]
      rw [decide_eq_false h9]
      rintro e w2 ⟨rfl, hb2⟩
      have HB2 := hide (HB.out.trans (hb2.mono HB.out.size))
      clear hb2
      go_wp2_with fail
      go_ret
      rw [HG.out]
      exact ⟨rfl, HB2.out⟩

set_option maxHeartbeats 600000 in
theorem rkey_any (A Q : Option Addr) (c m q l : Nat) (f t s n g h : Int) (p b : Bool) (w : World) (hl : l ≤ 9223372036854775807) :
    Calls Try.prog 42 #[rcV (.slice A l c) f t (.slice Q m q) s n g h p b] w fun e w' => e = .returned (.bool (decide (l ≤ 1048576 ∧ (Win.mk f t).good))) ∧ Below w.heap.size w w' := by
  obtain ⟨r, hr⟩ : ∃ r : Bool, r = decide (l ≤ 1048576 ∧ (Win.mk f t).good) := ⟨_, rfl⟩
  rw [← hr]
  have HR := hide hr
  clear hr
  unfold rcV
  have HB : Hid (Below w.heap.size w (w.alloc (.cells #[.slice A l c, .int .i64 f, .int .i64 t, .slice Q m q, .int .i64 s, .int .i64 n, .int .i64 g, .int .i64 h, .bool p, .bool b] rcT))) := (Below.refl w.heap.size w).alloc (Nat.le_refl _) _
  by_cases h1 : l ≤ 1048576
  · have HG : Hid (r = decide (Win.mk f t).good) := by show _ = _; rw [HR.out]; simp [h1]
    go_enter Try.func42, Try.ntmps42
    go_wp2_with fail
    refine (rgood_any f t _).mono ?_
    rw [← HG.out]
    rintro e w2 ⟨rfl, hb2⟩
    have HB2 := hide (HB.out.trans (hb2.mono HB.out.size))
    clear hb2
    go_wp2_with fail
    go_ret
    exact ⟨rfl, HB2.out⟩
  · have HG : Hid (r = false) := by show _ = _; rw [HR.out]; simp [h1]
    go_enter Try.func42, Try.ntmps42
    go_wp2_with fail
    go_ret
    rw [HG.out]
    exact ⟨rfl, HB.out⟩

end Go.Proofs.Ytkobaidamdffmaa
