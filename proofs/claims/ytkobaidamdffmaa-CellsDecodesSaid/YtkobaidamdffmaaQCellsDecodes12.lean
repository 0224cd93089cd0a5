/- The reference of layer 15: Bytes, Order, KeyRight; of layer 7: Good, Less. / The reference of layer 15: Order, KeyRight. -/
import Derived.Test.YtkobaidamdffmaaQCellsDecodes02
import Derived.Deep.CutRange

namespace Go.Proofs.Ytkobaidamdffmaa
open Go.RowKit Go.Sort
set_option linter.unusedVariables false
set_option linter.unusedSimpArgs false

/-- which bytes are less? by the difference -/
def bytesR : List Int → List Int → Int
  | a :: A, b :: B => if a = b then bytesR A B else a - b
  | A, B => (A.length : Int) - B.length
theorem bytesR_sign : ∀ (A B : List Int), (bytesR A B < 0 ↔ cmpB A B < 0) ∧ (bytesR A B = 0 ↔ cmpB A B = 0)
  | [], [] => by simp [bytesR, cmpB]
  | [], _ :: B => by simp [bytesR, cmpB]; omega
  | _ :: A, [] => by simp [bytesR, cmpB]; omega
  | a :: A, b :: B => by
    have ih := bytesR_sign A B
    unfold bytesR cmpB
    by_cases h : a = b
    · subst h
      rw [if_pos rfl, if_neg (by omega), if_neg (by omega)]
      exact ih
    · rw [if_neg h]
      by_cases h1 : a < b
      · rw [if_pos h1]; omega
      · rw [if_neg h1, if_pos (by omega)]; omega
theorem bytesR_zero (A B : List Int) : bytesR A B = 0 ↔ A = B := (bytesR_sign A B).2.trans (cmpB_zero A B)
theorem bytesR_step {D E : List Int} {k : Nat} (h1 : k < D.length) (h2 : k < E.length) : bytesR (D.drop k) (E.drop k) = if D[k] = E[k] then bytesR (D.drop (k + 1)) (E.drop (k + 1)) else D[k] - E[k] := by
  rw [List.drop_eq_getElem_cons h1, List.drop_eq_getElem_cons h2]
  rfl
theorem bytesR_end {D E : List Int} {k : Nat} (h1 : k ≤ D.length) (h2 : k ≤ E.length) (h : k = D.length ∨ k = E.length) : bytesR (D.drop k) (E.drop k) = (D.length : Int) - E.length := by
  have e1 : ∀ X : List Int, bytesR [] X = - (X.length : Int) := fun X => by cases X <;> simp [bytesR]
  have e2 : ∀ X : List Int, bytesR X [] = (X.length : Int) := fun X => by cases X <;> simp [bytesR]
  rcases h with h | h
  · rw [List.drop_eq_nil_of_le (show D.length ≤ k by omega), e1, List.length_drop]
    omega
  · rw [List.drop_eq_nil_of_le (show E.length ≤ k by omega), e2, List.length_drop]
    omega

set_option maxHeartbeats 4000000 in
theorem rbytes_any (v u : Value) (D E : List Int) (m n B C : Nat) (w : World) (hs : Sl w B v 1 m (bys D)) (hu : Sl w C u 1 n (bys E)) (hD : D.length = m) (hE : E.length = n) (h1 : Bytes8 D) (h2 : Bytes8 E) :
    Calls Try.prog 22 #[v, u] w fun e w' => e = .returned (.int .i64 (bytesR D E)) ∧ ∃ j, w' = w.drewN j := by
  obtain ⟨A, c, rfl, hc⟩ := hs.form
  obtain ⟨A', c', rfl, hc'⟩ := hu.form
  have hm := hs.max
  have hn := hu.max
  have HS := hide hs
  have HU := hide hu
  have HD := hide hD
  have HE := hide hE
  have H1 := hide h1
  have H2 := hide h2
  obtain ⟨r, hr⟩ : ∃ r, r = bytesR D E := ⟨_, rfl⟩
  rw [← hr]
  have HR := hide hr
  clear hs hu hD hE h1 h2 hr
  go_enter Try.func22, Try.ntmps22
  go_wp2_with fail
  go_loopw [5] (fun i wr => ∃ k : Nat, k ≤ m ∧ k ≤ n ∧ i = .int .i64 k ∧ Hid (r = bytesR (D.drop k) (E.drop k)) ∧ Hid (∃ j, wr = w.drewN j)) (fun i _ => m - (intOf i).toNat)
  case atStart => exact ⟨0, Nat.zero_le _, Nat.zero_le _, rfl, by simpa [Hid] using HR.out, ⟨0, rfl⟩⟩
  case round =>
    obtain ⟨k, hk1, hk2, rfl, HK, HJ⟩ := hrel
    have HD9 : Hid (∀ m, ∃ j, wr.drewN m = w.drewN j) := by obtain ⟨j, rfl⟩ := HJ.out; exact fun m => ⟨j + m, World.drewN_drewN w j m⟩
    have HD8 : Hid (∀ m m', ∃ j, (wr.drewN m).drewN m' = w.drewN j) := by obtain ⟨j, rfl⟩ := HJ.out; exact fun m m' => ⟨j + m + m', by rw [World.drewN_drewN, World.drewN_drewN, Nat.add_assoc]⟩
    by_cases hkm : k < m
    · by_cases hkn : k < n
      · have hkD : k < D.length := by rw [HD.out]; exact hkm
        have hkE : k < E.length := by rw [HE.out]; exact hkn
        have HSr : Hid (Sl wr B (.slice A m c) 1 m (bys D)) := by obtain ⟨j, rfl⟩ := HJ.out; exact HS.out.drewN j
        have HUr : Hid (Sl wr C (.slice A' n c') 1 n (bys E)) := by obtain ⟨j, rfl⟩ := HJ.out; exact HU.out.drewN j
        obtain ⟨ad, rfl, hb, g0⟩ := by_at HSr.out hkm HD.out
        obtain ⟨ad', rfl, hb', g1⟩ := by_at HUr.out hkn HE.out
        have b0 : (0 : Int) ≤ (k : Int) := by omega
        have b1 : (k : Int) < (m : Int) := by omega
        have b2 : (k : Int) < (n : Int) := by omega
        have HST := hide (bytesR_step hkD hkE)
        have d8 := H1.out _ (List.getElem_mem hkD)
        have e8 := H2.out _ (List.getElem_mem hkE)
        generalize D[k] = d at g0 HST d8
        generalize E[k] = e at g1 HST e8
        obtain ⟨d0, d1⟩ := d8
        obtain ⟨e0, e1⟩ := e8
        clear hkD hkE
        by_cases hde : d = e
        · subst hde
          have hne : (d != d) = false := by simp
          have HK2 : Hid (r = bytesR (D.drop (k + 1)) (E.drop (k + 1))) := by show _ = _; rw [HK.out, HST.out, if_pos rfl]
          go_wp2_with fail
          go_quiet (fail)
          go_wp2_with fail
          go_roundw
          case rel => exact ⟨k + 1, by omega, by omega, by simp, HK2, HD9.out _⟩
          case measure => simp [intOf]; omega
        · have hne : (d != e) = true := by simp [hde]
          have HK2 : Hid (r = d - e) := by show _ = _; rw [HK.out, HST.out, if_neg hde]
          go_wp2_with fail
          go_quiet (fail)
          go_wp2_with fail
          go_quiet (fail)
          go_wp2_with fail
          go_ret
          rw [HK2.out]
          exact ⟨by first | rfl | go_num, HD8.out _ _⟩
      · have HK2 : Hid (r = (m : Int) - n) := by
          show _ = _
          rw [HK.out, bytesR_end (by rw [HD.out]; omega) (by rw [HE.out]; omega) (.inr (by rw [HE.out]; omega)), HD.out, HE.out]
        go_wp2_with fail
        go_ret
        rw [HK2.out]
        exact ⟨by first | rfl | go_num, HJ.out⟩
    · have HK2 : Hid (r = (m : Int) - n) := by
        show _ = _
        rw [HK.out, bytesR_end (by rw [HD.out]; omega) (by rw [HE.out]; omega) (.inl (by rw [HD.out]; omega)), HD.out, HE.out]
      go_wp2_with fail
      go_ret
      rw [HK2.out]
      exact ⟨by first | rfl | go_num, HJ.out⟩

abbrev rT7 : Nat := 25
set_option maxHeartbeats 4000000 in
theorem rless_any (af at_ bf bt : Int) (w : World) : Calls Try.prog 38 #[.agg #[.int .i64 af, .int .i64 at_], .agg #[.int .i64 bf, .int .i64 bt]] w fun e w' => e = .returned (.bool (decide (wlt ⟨af, at_⟩ ⟨bf, bt⟩))) ∧ Below w.heap.size w w' := by
  obtain ⟨r, hr⟩ : ∃ r : Bool, r = decide (wlt ⟨af, at_⟩ ⟨bf, bt⟩) := ⟨_, rfl⟩
  rw [← hr]
  have HR := hide hr
  clear hr
  have hc : at_ < bt ∨ (¬ at_ < bt ∧ at_ ≠ bt) ∨ at_ = bt := by omega
  have HB : Hid (Below w.heap.size w ((w.alloc (.cells #[.int .i64 af, .int .i64 at_] rT7)).alloc (.cells #[.int .i64 bf, .int .i64 bt] rT7))) := ((Below.refl w.heap.size w).alloc (Nat.le_refl _) _).alloc (by simp) _
  rcases hc with h1 | ⟨h1, h2⟩ | rfl
  · have HT : Hid (r = true) := by show _ = _; rw [HR.out]; exact decide_eq_true (.inl h1)
    go_enter Try.func38, Try.ntmps38
    go_wp2_with fail
    go_ret
    rw [HT.out]
    exact ⟨rfl, HB.out⟩
  · have HT : Hid (r = false) := by show _ = _; rw [HR.out]; exact decide_eq_false (by unfold wlt; simp only; omega)
    have h3 : (at_ == bt) = false := by simp [h2]
    go_enter Try.func38, Try.ntmps38
    go_wp2_with fail
    go_ret
    rw [HT.out]
    exact ⟨rfl, HB.out⟩
  · have HT : Hid (r = decide (af < bf)) := by show _ = _; rw [HR.out]; exact decide_eq_decide.2 (by unfold wlt; simp)
    have h1 : ¬ at_ < at_ := by omega
    have h3 : (at_ == at_) = true := by simp
    go_enter Try.func38, Try.ntmps38
    go_wp2_with fail
    go_ret
    rw [HT.out]
    exact ⟨rfl, HB.out⟩

set_option maxHeartbeats 4000000 in
theorem rgood_any (f t : Int) (w : World) : Calls Try.prog 65 #[.agg #[.int .i64 f, .int .i64 t]] w fun e w' => e = .returned (.bool (decide (Win.mk f t).good)) ∧ Below w.heap.size w w' := by
  obtain ⟨r, hr⟩ : ∃ r : Bool, r = decide (Win.mk f t).good := ⟨_, rfl⟩
  rw [← hr]
  have HR := hide hr
  clear hr
  have hc : ¬ -1048576 ≤ f ∨ (-1048576 ≤ f ∧ ¬ f < t) ∨ (-1048576 ≤ f ∧ f < t ∧ ¬ t ≤ 2097153) ∨ (-1048576 ≤ f ∧ f < t ∧ t ≤ 2097153) := by omega
  rcases hc with h1 | ⟨h1, h2⟩ | ⟨h1, h2, h3⟩ | ⟨h1, h2, h3⟩
  all_goals
    go_enter Try.func65, Try.ntmps65
    go_wp2_with fail
    go_ret
    refine ⟨?_, (Below.refl _ _).alloc (Nat.le_refl _) _⟩
    refine congrArg (fun b => Ending.returned (Value.bool b)) (?_ : _ = r)
    rw [HR.out]
    first
      | (rw [decide_eq_false (show ¬ (Win.mk f t).good by unfold Win.good; simp only; omega)]; done)
      | (rw [decide_eq_true (show (Win.mk f t).good by unfold Win.good; simp only; omega)]; done)
      | (simp [Win.good]; omega)
      | simp [Win.good, h1, h2, h3]

end Go.Proofs.Ytkobaidamdffmaa

namespace Go.Proofs.Ytkobaidamdffmaa
open Go.RowKit Go.Sort
set_option linter.unusedVariables false
set_option linter.unusedSimpArgs false

theorem win_ne (f t f' t' : Int) (h : ¬ (f = f' ∧ t = t')) (W : World) : (binOp .neq rT7 (.agg #[.int .i64 f, .int .i64 t]) (.agg #[.int .i64 f', .int .i64 t'])).run Try.prog W = .ok (.bool true) W := by
  by_cases h1 : f = f'
  · have h2 : ¬ t = t' := fun h9 => h ⟨h1, h9⟩
    go_simp
  · go_simp
theorem win_nq (f t f' t' : Int) (h : ¬ (f = f' ∧ t = t')) (W : World) : (binOp .eql rT7 (.agg #[.int .i64 f, .int .i64 t]) (.agg #[.int .i64 f', .int .i64 t'])).run Try.prog W = .ok (.bool false) W := by
  by_cases h1 : f = f'
  · have h2 : ¬ t = t' := fun h9 => h ⟨h1, h9⟩
    go_simp
  · go_simp
theorem win_nn (f t : Int) (W : World) : (binOp .neq rT7 (.agg #[.int .i64 f, .int .i64 t]) (.agg #[.int .i64 f, .int .i64 t])).run Try.prog W = .ok (.bool false) W := by
  go_simp
/-- a cell of the reference, as a value -/
def rcV (k : Value) (f t : Int) (a : Value) (s n g h : Int) (p c : Bool) : Value := .agg #[k, .int .i64 f, .int .i64 t, a, .int .i64 s, .int .i64 n, .int .i64 g, .int .i64 h, .bool p, .bool c]
abbrev rcT : Nat := 29
/-- the order of cells -/
def ordC (x y : Win) (D E : List Int) : Int := if x = y then bytesR D E else if wlt x y then -1 else 1

set_option maxHeartbeats 600000 in
theorem rorder_any (A A' Q Q' : Option Addr) (c c' m m' q q' : Nat) (D E : List Int) (f t f' t' s n g h s' n' g' h' : Int) (p b p' b' : Bool) (B C : Nat) (w : World) (hs : Sl w B (.slice A D.length c) 1 D.length (bys D)) (hu : Sl w C (.slice A' E.length c') 1 E.length (bys E)) (h1 : Bytes8 D) (h2 : Bytes8 E) (hB : B ≤ w.heap.size) (hC : C ≤ w.heap.size) :
    Calls Try.prog 16 #[rcV (.slice A D.length c) f t (.slice Q m q) s n g h p b, rcV (.slice A' E.length c') f' t' (.slice Q' m' q') s' n' g' h' p' b'] w fun e w' => e = .returned (.int .i64 (ordC ⟨f, t⟩ ⟨f', t'⟩ D E)) ∧ Below w.heap.size w w' := by
  obtain ⟨r, hr⟩ : ∃ r, r = ordC ⟨f, t⟩ ⟨f', t'⟩ D E := ⟨_, rfl⟩
  rw [← hr]
  have HR := hide hr
  have HS := hide hs
  have HU := hide hu
  have H1 := hide h1
  have H2 := hide h2
  obtain ⟨k, hk⟩ : ∃ k, k = D.length := ⟨_, rfl⟩
  obtain ⟨l, hl⟩ : ∃ l, l = E.length := ⟨_, rfl⟩
  rw [← hk] at HS ⊢
  rw [← hl] at HU ⊢
  have HK := hide hk
  have HL := hide hl
  clear hr hs hu h1 h2 hk hl
  unfold rcV
  have HB : Hid (Below w.heap.size w ((w.alloc (.cells #[.slice A k c, .int .i64 f, .int .i64 t, .slice Q m q, .int .i64 s, .int .i64 n, .int .i64 g, .int .i64 h, .bool p, .bool b] rcT)).alloc (.cells #[.slice A' l c', .int .i64 f', .int .i64 t', .slice Q' m' q', .int .i64 s', .int .i64 n', .int .i64 g', .int .i64 h', .bool p', .bool b'] rcT))) := ((Below.refl w.heap.size w).alloc (Nat.le_refl _) _).alloc (by simp) _
  have HP : Hid (Blk ((w.alloc (.cells #[.slice A k c, .int .i64 f, .int .i64 t, .slice Q m q, .int .i64 s, .int .i64 n, .int .i64 g, .int .i64 h, .bool p, .bool b] rcT)).alloc (.cells #[.slice A' l c', .int .i64 f', .int .i64 t', .slice Q' m' q', .int .i64 s', .int .i64 n', .int .i64 g', .int .i64 h', .bool p', .bool b'] rcT)) w.heap.size rcT #[.slice A k c, .int .i64 f, .int .i64 t, .slice Q m q, .int .i64 s, .int .i64 n, .int .i64 g, .int .i64 h, .bool p, .bool b]) := (Blk.new w _ _).alloc _
  have HQ : Hid (Blk ((w.alloc (.cells #[.slice A k c, .int .i64 f, .int .i64 t, .slice Q m q, .int .i64 s, .int .i64 n, .int .i64 g, .int .i64 h, .bool p, .bool b] rcT)).alloc (.cells #[.slice A' l c', .int .i64 f', .int .i64 t', .slice Q' m' q', .int .i64 s', .int .i64 n', .int .i64 g', .int .i64 h', .bool p', .bool b'] rcT)) (w.heap.size + 1) rcT #[.slice A' l c', .int .i64 f', .int .i64 t', .slice Q' m' q', .int .i64 s', .int .i64 n', .int .i64 g', .int .i64 h', .bool p', .bool b']) := by
    have h9 := Blk.new (w.alloc (.cells #[.slice A k c, .int .i64 f, .int .i64 t, .slice Q m q, .int .i64 s, .int .i64 n, .int .i64 g, .int .i64 h, .bool p, .bool b] rcT)) rcT #[.slice A' l c', .int .i64 f', .int .i64 t', .slice Q' m' q', .int .i64 s', .int .i64 n', .int .i64 g', .int .i64 h', .bool p', .bool b']
    simpa [Hid] using h9
  go_enter Try.func16, Try.ntmps16
  go_upto_region 1 with fail
  generalize (w.alloc (.cells #[.slice A k c, .int .i64 f, .int .i64 t, .slice Q m q, .int .i64 s, .int .i64 n, .int .i64 g, .int .i64 h, .bool p, .bool b] rcT)).alloc (.cells #[.slice A' l c', .int .i64 f', .int .i64 t', .slice Q' m' q', .int .i64 s', .int .i64 n', .int .i64 g', .int .i64 h', .bool p', .bool b'] rcT) = w1 at *
  obtain ⟨pb, hpb⟩ : ∃ pb, pb = w.heap.size := ⟨_, rfl⟩
  obtain ⟨qb, hqb⟩ : ∃ qb, qb = w.heap.size + 1 := ⟨_, rfl⟩
  rw [← hqb] at HQ ⊢
  rw [← hpb] at HP ⊢
  have HS1 := hide (HS.out.below (HB.out.mono hB))
  have HU1 := hide (HU.out.below (HB.out.mono hC))
  clear hpb hqb HS HU
  have hp := HP.out.lt
  have hq := HQ.out.lt
  have p0 : w1.cell? ⟨pb, 0, none⟩ = some (.slice A k c) := HP.out.cell 0
  have p1 : w1.cell? ⟨pb, 1, none⟩ = some (.int .i64 f) := HP.out.cell 1
  have p2 : w1.cell? ⟨pb, 2, none⟩ = some (.int .i64 t) := HP.out.cell 2
  have q0 : w1.cell? ⟨qb, 0, none⟩ = some (.slice A' l c') := HQ.out.cell 0
  have q1 : w1.cell? ⟨qb, 1, none⟩ = some (.int .i64 f') := HQ.out.cell 1
  have q2 : w1.cell? ⟨qb, 2, none⟩ = some (.int .i64 t') := HQ.out.cell 2
  by_cases he : f = f' ∧ t = t'
  · obtain ⟨rfl, rfl⟩ := he
    have HF : Hid (r = bytesR D E) := by show _ = _; rw [HR.out]; unfold ordC; rw [if_pos rfl]
    go_wp2_with fail
    refine (rbytes_any _ _ D E k l B C _ HS1.out HU1.out HK.out.symm HL.out.symm H1.out H2.out).mono ?_
    rw [← HF.out]
    rintro e w2 ⟨rfl, j, rfl⟩
    go_wp2_with fail
    go_ret
    exact ⟨rfl, HB.out.drewN j⟩
  · have HF : Hid (r = if wlt ⟨f, t⟩ ⟨f', t'⟩ then -1 else 1) := by
      show _ = _
      rw [HR.out]
      unfold ordC
      rw [if_neg (fun h9 => he (by injection h9 with h8 h7; exact ⟨h8, h7⟩))]
    have hne := win_ne f t f' t' he
    go_wp2_with fail
    refine (rless_any f t f' t' _).mono ?_
    by_cases h9 : wlt ⟨f, t⟩ ⟨f', t'⟩
    · have HG : Hid (r = -1) := by show _ = _; rw [HF.out, if_pos h9]
      rw [decide_eq_true h9]
      rintro e w2 ⟨rfl, hb2⟩
      have HB2 := hide (HB.out.trans (hb2.mono HB.out.size))
      clear hb2
      go_wp2_with fail
      go_ret
      rw [HG.out]
      exact ⟨rfl, HB2.out⟩
    · have HG : Hid (r = 1) := by show _ = _; rw [HF.out, if_neg h9]
      rw [decide_eq_false h9]
      rintro e w2 ⟨rfl, hb2⟩
      have HB2 := hide (HB.out.trans (hb2.mono HB.out.size))
      clear hb2
      go_wp2_with fail
      go_ret
      rw [HG.out]
      exact ⟨rfl, HB2.out⟩

set_option maxHeartbeats 600000 in
theorem rkey_any (A Q : Option Addr) (c m q l : Nat) (f t s n g h : Int) (p b : Bool) (w : World) (hl : l ≤ 9223372036854775807) :
    Calls Try.prog 42 #[rcV (.slice A l c) f t (.slice Q m q) s n g h p b] w fun e w' => e = .returned (.bool (decide (l ≤ 1048576 ∧ (Win.mk f t).good))) ∧ Below w.heap.size w w' := by
  obtain ⟨r, hr⟩ : ∃ r : Bool, r = decide (l ≤ 1048576 ∧ (Win.mk f t).good) := ⟨_, rfl⟩
  rw [← hr]
  have HR := hide hr
  clear hr
  unfold rcV
  have HB : Hid (Below w.heap.size w (w.alloc (.cells #[.slice A l c, .int .i64 f, .int .i64 t, .slice Q m q, .int .i64 s, .int .i64 n, .int .i64 g, .int .i64 h, .bool p, .bool b] rcT))) := (Below.refl w.heap.size w).alloc (Nat.le_refl _) _
  by_cases h1 : l ≤ 1048576
  · have HG : Hid (r = decide (Win.mk f t).good) := by show _ = _; rw [HR.out]; simp [h1]
    go_enter Try.func42, Try.ntmps42
    go_wp2_with fail
    refine (rgood_any f t _).mono ?_
    rw [← HG.out]
    rintro e w2 ⟨rfl, hb2⟩
    have HB2 := hide (HB.out.trans (hb2.mono HB.out.size))
    clear hb2
    go_wp2_with fail
    go_ret
    exact ⟨rfl, HB2.out⟩
  · have HG : Hid (r = false) := by show _ = _; rw [HR.out]; simp [h1]
    go_enter Try.func42, Try.ntmps42
    go_wp2_with fail
    go_ret
    rw [HG.out]
    exact ⟨rfl, HB.out⟩

end Go.Proofs.Ytkobaidamdffmaa
