/- The law's of and same (layer 15). Printed by genks15.py. -/
import Derived.Test.YtkobaidamdffmaaQCellsPlays06

namespace Go.Proofs.Ytkobaidamdffmaa
open Go.RowKit Go.Sort
set_option linter.unusedVariables false
set_option linter.unusedSimpArgs false

set_option maxHeartbeats 4000000 in
theorem lof_any (A Q : Option Addr) (n cc m q : Nat) (f t s i g h : Int) (p c : Bool) (w : World) :
    Calls Try.prog 17 #[.agg #[.slice A n cc, .int .i64 f, .int .i64 t], .agg #[.slice Q m q, .int .i64 s, .int .i64 i, .int .i64 g, .int .i64 h, .bool p, .bool c]] w fun e w' => e = .returned (rcV (.slice A n cc) f t (.slice Q m q) s i g h p c) ∧ Below w.heap.size w w' := by
  unfold rcV
  have HQ0 : Hid (Blk (((w.alloc (.cells #[.slice A n cc, .int .i64 f, .int .i64 t] keyT)).alloc (.cells #[.slice Q m q, .int .i64 s, .int .i64 i, .int .i64 g, .int .i64 h, .bool p, .bool c] cvT)).alloc (.cells #[.slice A n cc, .int .i64 f, .int .i64 t, .slice Q m q, .int .i64 s, .int .i64 i, .int .i64 g, .int .i64 h, .bool p, .bool c] rcT)) (w.heap.size + 2) rcT #[.slice A n cc, .int .i64 f, .int .i64 t, .slice Q m q, .int .i64 s, .int .i64 i, .int .i64 g, .int .i64 h, .bool p, .bool c]) := by
    have h9 := Blk.new ((w.alloc (.cells #[.slice A n cc, .int .i64 f, .int .i64 t] keyT)).alloc (.cells #[.slice Q m q, .int .i64 s, .int .i64 i, .int .i64 g, .int .i64 h, .bool p, .bool c] cvT)) rcT #[.slice A n cc, .int .i64 f, .int .i64 t, .slice Q m q, .int .i64 s, .int .i64 i, .int .i64 g, .int .i64 h, .bool p, .bool c]
    simpa [Hid] using h9
  have HB0 : Hid (Below w.heap.size w (((w.alloc (.cells #[.slice A n cc, .int .i64 f, .int .i64 t] keyT)).alloc (.cells #[.slice Q m q, .int .i64 s, .int .i64 i, .int .i64 g, .int .i64 h, .bool p, .bool c] cvT)).alloc (.cells #[.slice A n cc, .int .i64 f, .int .i64 t, .slice Q m q, .int .i64 s, .int .i64 i, .int .i64 g, .int .i64 h, .bool p, .bool c] rcT))) := (((Below.refl w.heap.size w).alloc (Nat.le_refl _) _).alloc (by simp) _).alloc (by simp <;> omega) _
  go_enter Try.func17, Try.ntmps17
  go_wp2_with fail
  change bodyPost _ _ _ _ _ (((w.alloc (.cells #[.slice A n cc, .int .i64 f, .int .i64 t] keyT)).alloc (.cells #[.slice Q m q, .int .i64 s, .int .i64 i, .int .i64 g, .int .i64 h, .bool p, .bool c] cvT)).alloc (.cells #[.slice A n cc, .int .i64 f, .int .i64 t, .slice Q m q, .int .i64 s, .int .i64 i, .int .i64 g, .int .i64 h, .bool p, .bool c] rcT))
  generalize (((w.alloc (.cells #[.slice A n cc, .int .i64 f, .int .i64 t] keyT)).alloc (.cells #[.slice Q m q, .int .i64 s, .int .i64 i, .int .i64 g, .int .i64 h, .bool p, .bool c] cvT)).alloc (.cells #[.slice A n cc, .int .i64 f, .int .i64 t, .slice Q m q, .int .i64 s, .int .i64 i, .int .i64 g, .int .i64 h, .bool p, .bool c] rcT)) = w9 at *
  have hres : Try.f17.results = #[.cell 4 rcT] := by kernel_rfl
  have c0 : w9.cell? ⟨w.heap.size + 1 + 1, 0, none⟩ = some (.slice A n cc) := HQ0.out.cell 0
  have c1 : w9.cell? ⟨w.heap.size + 1 + 1, 1, none⟩ = some (.int .i64 f) := HQ0.out.cell 1
  have c2 : w9.cell? ⟨w.heap.size + 1 + 1, 2, none⟩ = some (.int .i64 t) := HQ0.out.cell 2
  have c3 : w9.cell? ⟨w.heap.size + 1 + 1, 3, none⟩ = some (.slice Q m q) := HQ0.out.cell 3
  have c4 : w9.cell? ⟨w.heap.size + 1 + 1, 4, none⟩ = some (.int .i64 s) := HQ0.out.cell 4
  have c5 : w9.cell? ⟨w.heap.size + 1 + 1, 5, none⟩ = some (.int .i64 i) := HQ0.out.cell 5
  have c6 : w9.cell? ⟨w.heap.size + 1 + 1, 6, none⟩ = some (.int .i64 g) := HQ0.out.cell 6
  have c7 : w9.cell? ⟨w.heap.size + 1 + 1, 7, none⟩ = some (.int .i64 h) := HQ0.out.cell 7
  have c8 : w9.cell? ⟨w.heap.size + 1 + 1, 8, none⟩ = some (.bool p) := HQ0.out.cell 8
  have c9 : w9.cell? ⟨w.heap.size + 1 + 1, 9, none⟩ = some (.bool c) := HQ0.out.cell 9
  refine bodyPost_ret (v := .agg #[.slice A n cc, .int .i64 f, .int .i64 t, .slice Q m q, .int .i64 s, .int .i64 i, .int .i64 g, .int .i64 h, .bool p, .bool c]) ?_ rfl ⟨rfl, HB0.out⟩
  simp [results, hres, go_sem, c0, c1, c2, c3, c4, c5, c6, c7, c8, c9]

abbrev rsT : Nat := 27
theorem rst_eq (n g h : Int) (p b : Bool) (W : World) : (binOp .eql rsT (.agg #[.int .i64 n, .int .i64 g, .int .i64 h, .bool p, .bool b]) (.agg #[.int .i64 n, .int .i64 g, .int .i64 h, .bool p, .bool b])).run Try.prog W = .ok (.bool true) W := by
  go_simp
theorem rst_nq (n g h n' g' h' : Int) (p b p' b' : Bool) (hne : ¬ (n = n' ∧ g = g' ∧ h = h' ∧ p = p' ∧ b = b')) (W : World) : (binOp .eql rsT (.agg #[.int .i64 n, .int .i64 g, .int .i64 h, .bool p, .bool b]) (.agg #[.int .i64 n', .int .i64 g', .int .i64 h', .bool p', .bool b'])).run Try.prog W = .ok (.bool false) W := by
  by_cases h1 : n = n'
  · by_cases h2 : g = g'
    · by_cases h3 : h = h'
      · by_cases h4 : p = p'
        · have h5 : ¬ b = b' := fun h9 => hne ⟨h1, h2, h3, h4, h9⟩
          go_simp
        · go_simp
      · go_simp
    · go_simp
  · go_simp

set_option maxHeartbeats 8000000 in
theorem lsame_any (A A' Q Q' : Option Addr) (l l' c0 c0' m m' q q' : Nat) (D E U V : List Int) (f t f' t' s n g h s' n' g' h' : Int) (p b p' b' : Bool) (B : Nat) (w : World)
    (h1 : Sl w B (.slice A l c0) 1 l (bys D)) (h2 : Sl w B (.slice A' l' c0') 1 l' (bys E)) (h3 : Sl w B (.slice Q m q) 1 m (bys U)) (h4 : Sl w B (.slice Q' m' q') 1 m' (bys V))
    (hl1 : D.length = l) (hl2 : E.length = l') (hl3 : U.length = m) (hl4 : V.length = m') (b1 : Bytes8 D) (b2 : Bytes8 E) (b3 : Bytes8 U) (b4 : Bytes8 V) (hB : B ≤ w.heap.size) :
    Calls Try.prog 18 #[rcV (.slice A l c0) f t (.slice Q m q) s n g h p b, rcV (.slice A' l' c0') f' t' (.slice Q' m' q') s' n' g' h' p' b'] w fun e w' =>
      e = .returned (.bool (decide (ordC ⟨f, t⟩ ⟨f', t'⟩ D E = 0 ∧ bytesR U V = 0 ∧ s = s' ∧ (n = n' ∧ g = g' ∧ h = h' ∧ p = p' ∧ b = b')))) ∧ Below w.heap.size w w' := by
  obtain ⟨r, hr⟩ : ∃ r, r = decide (ordC ⟨f, t⟩ ⟨f', t'⟩ D E = 0 ∧ bytesR U V = 0 ∧ s = s' ∧ (n = n' ∧ g = g' ∧ h = h' ∧ p = p' ∧ b = b')) := ⟨_, rfl⟩
  rw [← hr]
  have HR := hide hr
  have H1 := hide h1
  have H2 := hide h2
  have H3 := hide h3
  have H4 := hide h4
  have HL1 := hide hl1
  have HL2 := hide hl2
  have HL3 := hide hl3
  have HL4 := hide hl4
  have HE := hide (And.intro b1 (And.intro b2 (And.intro b3 b4)))
  clear hr h1 h2 h3 h4 hl1 hl2 hl3 hl4 b1 b2 b3 b4
  unfold rcV
  have HB : Hid (Below w.heap.size w ((w.alloc (.cells #[.slice A l c0, .int .i64 f, .int .i64 t, .slice Q m q, .int .i64 s, .int .i64 n, .int .i64 g, .int .i64 h, .bool p, .bool b] rcT)).alloc (.cells #[.slice A' l' c0', .int .i64 f', .int .i64 t', .slice Q' m' q', .int .i64 s', .int .i64 n', .int .i64 g', .int .i64 h', .bool p', .bool b'] rcT))) := ((Below.refl w.heap.size w).alloc (Nat.le_refl _) _).alloc (by simp) _
  have HP : Hid (Blk ((w.alloc (.cells #[.slice A l c0, .int .i64 f, .int .i64 t, .slice Q m q, .int .i64 s, .int .i64 n, .int .i64 g, .int .i64 h, .bool p, .bool b] rcT)).alloc (.cells #[.slice A' l' c0', .int .i64 f', .int .i64 t', .slice Q' m' q', .int .i64 s', .int .i64 n', .int .i64 g', .int .i64 h', .bool p', .bool b'] rcT)) w.heap.size rcT #[.slice A l c0, .int .i64 f, .int .i64 t, .slice Q m q, .int .i64 s, .int .i64 n, .int .i64 g, .int .i64 h, .bool p, .bool b]) := (Blk.new w _ _).alloc _
  have HQ : Hid (Blk ((w.alloc (.cells #[.slice A l c0, .int .i64 f, .int .i64 t, .slice Q m q, .int .i64 s, .int .i64 n, .int .i64 g, .int .i64 h, .bool p, .bool b] rcT)).alloc (.cells #[.slice A' l' c0', .int .i64 f', .int .i64 t', .slice Q' m' q', .int .i64 s', .int .i64 n', .int .i64 g', .int .i64 h', .bool p', .bool b'] rcT)) (w.heap.size + 1) rcT #[.slice A' l' c0', .int .i64 f', .int .i64 t', .slice Q' m' q', .int .i64 s', .int .i64 n', .int .i64 g', .int .i64 h', .bool p', .bool b']) := by
    have h9 := Blk.new (w.alloc (.cells #[.slice A l c0, .int .i64 f, .int .i64 t, .slice Q m q, .int .i64 s, .int .i64 n, .int .i64 g, .int .i64 h, .bool p, .bool b] rcT)) rcT #[.slice A' l' c0', .int .i64 f', .int .i64 t', .slice Q' m' q', .int .i64 s', .int .i64 n', .int .i64 g', .int .i64 h', .bool p', .bool b']
    simpa [Hid] using h9
  have HC : Hid (∀ W : World, Sl W B (.slice A l c0) 1 l (bys D) → Sl W B (.slice A' l' c0') 1 l' (bys E) → B ≤ W.heap.size → Calls Try.prog 16 #[.agg #[.slice A l c0, .int .i64 f, .int .i64 t, .slice Q m q, .int .i64 s, .int .i64 n, .int .i64 g, .int .i64 h, .bool p, .bool b], .agg #[.slice A' l' c0', .int .i64 f', .int .i64 t', .slice Q' m' q', .int .i64 s', .int .i64 n', .int .i64 g', .int .i64 h', .bool p', .bool b']] W fun e w' => e = .returned (.int .i64 (ordC ⟨f, t⟩ ⟨f', t'⟩ D E)) ∧ Below W.heap.size W w') := by
    intro W x1 x2 x3
    have h9 := rorder_any A A' Q Q' c0 c0' m m' q q' D E f t f' t' s n g h s' n' g' h' p b p' b' B B W (by rw [HL1.out]; exact x1) (by rw [HL2.out]; exact x2) HE.out.1 HE.out.2.1 x3 x3
    rw [HL1.out, HL2.out] at h9
    exact h9
  have HF : Hid (∀ W : World, Sl W B (.slice Q m q) 1 m (bys U) → Sl W B (.slice Q' m' q') 1 m' (bys V) → B ≤ W.heap.size → Calls Try.prog 22 #[.slice Q m q, .slice Q' m' q'] W fun e w' => e = .returned (.int .i64 (bytesR U V)) ∧ ∃ j, w' = W.drewN j) :=
    fun W x1 x2 x3 => rbytes_any _ _ U V m m' B B W x1 x2 HL3.out HL4.out HE.out.2.2.1 HE.out.2.2.2
  go_enter Try.func18, Try.ntmps18
  go_upto_region 1 with fail
  change Code.wp _ _ _ _ ((w.alloc (.cells #[.slice A l c0, .int .i64 f, .int .i64 t, .slice Q m q, .int .i64 s, .int .i64 n, .int .i64 g, .int .i64 h, .bool p, .bool b] rcT)).alloc (.cells #[.slice A' l' c0', .int .i64 f', .int .i64 t', .slice Q' m' q', .int .i64 s', .int .i64 n', .int .i64 g', .int .i64 h', .bool p', .bool b'] rcT))
  generalize ((w.alloc (.cells #[.slice A l c0, .int .i64 f, .int .i64 t, .slice Q m q, .int .i64 s, .int .i64 n, .int .i64 g, .int .i64 h, .bool p, .bool b] rcT)).alloc (.cells #[.slice A' l' c0', .int .i64 f', .int .i64 t', .slice Q' m' q', .int .i64 s', .int .i64 n', .int .i64 g', .int .i64 h', .bool p', .bool b'] rcT)) = w1 at *
  obtain ⟨pb, hpb⟩ : ∃ pb, pb = w.heap.size := ⟨_, rfl⟩
  obtain ⟨qb, hqb⟩ : ∃ qb, qb = w.heap.size + 1 := ⟨_, rfl⟩
  rw [← hqb] at HQ ⊢
  rw [← hpb] at HP ⊢
  have K1 := hide (H1.out.below (HB.out.mono hB))
  have K2 := hide (H2.out.below (HB.out.mono hB))
  have K3 := hide (H3.out.below (HB.out.mono hB))
  have K4 := hide (H4.out.below (HB.out.mono hB))
  have hB1 : B ≤ w1.heap.size := Nat.le_trans hB HB.out.size
  clear hpb hqb H1 H2 H3 H4
  have hp := HP.out.lt
  have hq := HQ.out.lt
  have p0 : w1.cell? ⟨pb, 0, none⟩ = some (.slice A l c0) := HP.out.cell 0
  have p1 : w1.cell? ⟨pb, 1, none⟩ = some (.int .i64 f) := HP.out.cell 1
  have p2 : w1.cell? ⟨pb, 2, none⟩ = some (.int .i64 t) := HP.out.cell 2
  have p3 : w1.cell? ⟨pb, 3, none⟩ = some (.slice Q m q) := HP.out.cell 3
  have p4 : w1.cell? ⟨pb, 4, none⟩ = some (.int .i64 s) := HP.out.cell 4
  have p5 : w1.cell? ⟨pb, 5, none⟩ = some (.int .i64 n) := HP.out.cell 5
  have p6 : w1.cell? ⟨pb, 6, none⟩ = some (.int .i64 g) := HP.out.cell 6
  have p7 : w1.cell? ⟨pb, 7, none⟩ = some (.int .i64 h) := HP.out.cell 7
  have p8 : w1.cell? ⟨pb, 8, none⟩ = some (.bool p) := HP.out.cell 8
  have p9 : w1.cell? ⟨pb, 9, none⟩ = some (.bool b) := HP.out.cell 9
  have q0 : w1.cell? ⟨qb, 0, none⟩ = some (.slice A' l' c0') := HQ.out.cell 0
  have q1 : w1.cell? ⟨qb, 1, none⟩ = some (.int .i64 f') := HQ.out.cell 1
  have q2 : w1.cell? ⟨qb, 2, none⟩ = some (.int .i64 t') := HQ.out.cell 2
  have q3 : w1.cell? ⟨qb, 3, none⟩ = some (.slice Q' m' q') := HQ.out.cell 3
  have q4 : w1.cell? ⟨qb, 4, none⟩ = some (.int .i64 s') := HQ.out.cell 4
  have q5 : w1.cell? ⟨qb, 5, none⟩ = some (.int .i64 n') := HQ.out.cell 5
  have q6 : w1.cell? ⟨qb, 6, none⟩ = some (.int .i64 g') := HQ.out.cell 6
  have q7 : w1.cell? ⟨qb, 7, none⟩ = some (.int .i64 h') := HQ.out.cell 7
  have q8 : w1.cell? ⟨qb, 8, none⟩ = some (.bool p') := HQ.out.cell 8
  have q9 : w1.cell? ⟨qb, 9, none⟩ = some (.bool b') := HQ.out.cell 9
  go_wp2_with fail
  refine (HC.out w1 K1.out K2.out hB1).mono ?_
  rintro e w2 ⟨rfl, hb2⟩
  have HB2 := hide hb2
  have HP2 := hide (HP.out.below hb2 hp)
  have HQ2 := hide (HQ.out.below hb2 hq)
  have K32 := hide (K3.out.below (hb2.mono hB1))
  have K42 := hide (K4.out.below (hb2.mono hB1))
  have hB2 : B ≤ w2.heap.size := Nat.le_trans hB1 hb2.size
  clear hb2 hp hq K1 K2 K3 K4 HP HQ HC
  have hp := HP2.out.lt
  have hq := HQ2.out.lt
  clear p0 q0
  clear p1 q1
  clear p2 q2
  clear p3 q3
  clear p4 q4
  clear p5 q5
  clear p6 q6
  clear p7 q7
  clear p8 q8
  clear p9 q9
  have p0 : w2.cell? ⟨pb, 0, none⟩ = some (.slice A l c0) := HP2.out.cell 0
  have p1 : w2.cell? ⟨pb, 1, none⟩ = some (.int .i64 f) := HP2.out.cell 1
  have p2 : w2.cell? ⟨pb, 2, none⟩ = some (.int .i64 t) := HP2.out.cell 2
  have p3 : w2.cell? ⟨pb, 3, none⟩ = some (.slice Q m q) := HP2.out.cell 3
  have p4 : w2.cell? ⟨pb, 4, none⟩ = some (.int .i64 s) := HP2.out.cell 4
  have p5 : w2.cell? ⟨pb, 5, none⟩ = some (.int .i64 n) := HP2.out.cell 5
  have p6 : w2.cell? ⟨pb, 6, none⟩ = some (.int .i64 g) := HP2.out.cell 6
  have p7 : w2.cell? ⟨pb, 7, none⟩ = some (.int .i64 h) := HP2.out.cell 7
  have p8 : w2.cell? ⟨pb, 8, none⟩ = some (.bool p) := HP2.out.cell 8
  have p9 : w2.cell? ⟨pb, 9, none⟩ = some (.bool b) := HP2.out.cell 9
  have q0 : w2.cell? ⟨qb, 0, none⟩ = some (.slice A' l' c0') := HQ2.out.cell 0
  have q1 : w2.cell? ⟨qb, 1, none⟩ = some (.int .i64 f') := HQ2.out.cell 1
  have q2 : w2.cell? ⟨qb, 2, none⟩ = some (.int .i64 t') := HQ2.out.cell 2
  have q3 : w2.cell? ⟨qb, 3, none⟩ = some (.slice Q' m' q') := HQ2.out.cell 3
  have q4 : w2.cell? ⟨qb, 4, none⟩ = some (.int .i64 s') := HQ2.out.cell 4
  have q5 : w2.cell? ⟨qb, 5, none⟩ = some (.int .i64 n') := HQ2.out.cell 5
  have q6 : w2.cell? ⟨qb, 6, none⟩ = some (.int .i64 g') := HQ2.out.cell 6
  have q7 : w2.cell? ⟨qb, 7, none⟩ = some (.int .i64 h') := HQ2.out.cell 7
  have q8 : w2.cell? ⟨qb, 8, none⟩ = some (.bool p') := HQ2.out.cell 8
  have q9 : w2.cell? ⟨qb, 9, none⟩ = some (.bool b') := HQ2.out.cell 9
  obtain ⟨o, ho⟩ : ∃ o, o = ordC ⟨f, t⟩ ⟨f', t'⟩ D E := ⟨_, rfl⟩
  rw [← ho] at HR ⊢
  clear ho
  by_cases g1 : o = 0
  · subst g1
    go_wp2_with fail
    refine (HF.out w2 K32.out K42.out hB2).mono ?_
    rintro e w3 ⟨rfl, j, rfl⟩
    obtain ⟨o, ho⟩ : ∃ o, o = bytesR U V := ⟨_, rfl⟩
    rw [← ho] at HR ⊢
    clear ho HF K32 K42
    by_cases g2 : o = 0
    · subst g2
      by_cases g3 : s = s'
      · by_cases g4 : n = n' ∧ g = g' ∧ h = h' ∧ p = p' ∧ b = b'
        · have HG : Hid (r = true) := by show _ = _; rw [HR.out]; simp only [g3, g4]; simp
          obtain ⟨e1, e2, e3, e4, e5⟩ := g4
          subst g3 e1 e2 e3 e4 e5
          go_wp2_with fail
          go_ret
          rw [HG.out]
          exact ⟨by first | rfl | simp, HB.out.trans ((HB2.out.drewN j).mono HB.out.size)⟩
        · have HG : Hid (r = false) := by show _ = _; rw [HR.out]; simp only [g4]; simp
          have hne2 : ∀ W : World, (binOp .eql rsT (.agg #[.int .i64 n, .int .i64 g, .int .i64 h, .bool p, .bool b]) (.agg #[.int .i64 n', .int .i64 g', .int .i64 h', .bool p', .bool b'])).run Try.prog W = .ok (.bool false) W := fun W => rst_nq n g h n' g' h' p b p' b' g4 W
          clear g4
          subst g3
          go_wp2_with fail
          go_ret
          rw [HG.out]
          exact ⟨by first | rfl | simp, HB.out.trans ((HB2.out.drewN j).mono HB.out.size)⟩
      · have HG : Hid (r = false) := by show _ = _; rw [HR.out]; simp only [g3]; simp
        go_wp2_with fail
        go_ret
        rw [HG.out]
        exact ⟨by first | rfl | simp [g3], HB.out.trans ((HB2.out.drewN j).mono HB.out.size)⟩
    · have HG : Hid (r = false) := by show _ = _; rw [HR.out]; simp only [g2]; simp
      go_wp2_with fail
      go_ret
      rw [HG.out]
      exact ⟨by first | rfl | simp [g2], HB.out.trans ((HB2.out.drewN j).mono HB.out.size)⟩
  · have HG : Hid (r = false) := by show _ = _; rw [HR.out]; simp only [g1]; simp
    go_wp2_with fail
    go_ret
    rw [HG.out]
    exact ⟨by first | rfl | simp [g1], HB.out.trans (HB2.out.mono HB.out.size)⟩
end Go.Proofs.Ytkobaidamdffmaa
