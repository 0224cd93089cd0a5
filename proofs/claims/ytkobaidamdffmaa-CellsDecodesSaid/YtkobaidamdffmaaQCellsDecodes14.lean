/- The law's of and same (layer 15). Printed by genks15.py. / cells.Table: Hold. / The law's awake (layer 15). / The laws of layer 15: calls, as a law makes them. -/
import Derived.Test.YtkobaidamdffmaaQCellsDecodes13
import Derived.Test.YtkobaidamdffmaaQCellsDecodes09

namespace Go.Proofs.Ytkobaidamdffmaa
open Go.RowKit Go.Sort
set_option linter.unusedVariables false
set_option linter.unusedSimpArgs false

set_option maxHeartbeats 4000000 in
theorem lof_any (A Q : Option Addr) (n cc m q : Nat) (f t s i g h : Int) (p c : Bool) (w : World) :
    Calls Try.prog 17 #[.agg #[.slice A n cc, .int .i64 f, .int .i64 t], .agg #[.slice Q m q, .int .i64 s, .int .i64 i, .int .i64 g, .int .i64 h, .bool p, .bool c]] w fun e w' => e = .returned (rcV (.slice A n cc) f t (.slice Q m q) s i g h p c) ∧ Below w.heap.size w w' := by
  unfold rcV
  have HQ0 : Hid (Blk (((w.alloc (.cells #[.slice A n cc, .int .i64 f, .int .i64 t] keyT)).alloc (.cells #[.slice Q m q, .int .i64 s, .int .i64 i, .int .i64 g, .int .i64 h, .bool p, .bool c] cvT)).alloc (.cells #[.slice A n cc, .int .i64 f, .int .i64 t, .slice Q m q, .int .i64 s, .int .i64 i, .int .i64 g, .int .i64 h, .bool p, .bool c] rcT)) (w.heap.size + 2) rcT #[.slice A n cc, .int .i64 f, .int .i64 t, .slice Q m q, .int .i64 s, .int .i64 i, .int .i64 g, .int .i64 h, .bool p, .bool c]) := by
    have h9 := Blk.new ((w.alloc (.cells #[.slice A n cc, .int .i64 f, .int .i64 t] keyT)).alloc (.cells #[.slice Q m q, .int .i64 s, .int .i64 i, .int .i64 g, .int .i64 h, .bool p, .bool c] cvT)) rcT #[.slice A n cc, .int .i64 f, .int .i64 t, .slice Q m q, .int .i64 s, .int .i64 i, .int .i64 g, .int .i64 h, .bool p, .bool c]
    simpa [Hid] using h9
  have HB0 : Hid (Below w.heap.size w (((w.alloc (.cells #[.slice A n cc, .int .i64 f, .int .i64 t] keyT)).alloc (.cells #[.slice Q m q, .int .i64 s, .int .i64 i, .int .i64 g, .int .i64 h, .bool p, .bool c] cvT)).alloc (.cells #[.slice A n cc, .int .i64 f, .int .i64 t, .slice Q m q, .int .i64 s, .int .i64 i, .int .i64 g, .int .i64 h, .bool p, .bool c] rcT))) := (((Below.refl w.heap.size w).alloc (Nat.le_refl _) _).alloc (by simp) _).alloc (by simp <;> omega) _
  go_enter Try.func17, Try.ntmps17
  go_wp2_with fail
  change bodyPost _ _ _ _ _ (((w.alloc (.cells #[.slice A n cc, .int .i64 f, .int .i64 t] keyT)).alloc (.cells #[.slice Q m q, .int .i64 s, .int .i64 i, .int .i64 g, .int .i64 h, .bool p, .bool c] cvT)).alloc (.cells #[.slice A n cc, .int .i64 f, .int .i64 t, .slice Q m q, .int .i64 s, .int .i64 i, .int .i64 g, .int .i64 h, .bool p, .bool c] rcT))
  generalize (((w.alloc (.cells #[.slice A n cc, .int .i64 f, .int .i64 t] keyT)).alloc (.cells #[.slice Q m q, .int .i64 s, .int .i64 i, .int .i64 g, .int .i64 h, .bool p, .bool c] cvT)).alloc (.cells #[.slice A n cc, .int .i64 f, .int .i64 t, .slice Q m q, .int .i64 s, .int .i64 i, .int .i64 g, .int .i64 h, .bool p, .bool c] rcT)) = w9 at *
  have hres : Try.f17.results = #[.cell 4 rcT] := by kernel_rfl
  have c0 : w9.cell? ⟨w.heap.size + 1 + 1, 0, none⟩ = some (.slice A n cc) := HQ0.out.cell 0
  have c1 : w9.cell? ⟨w.heap.size + 1 + 1, 1, none⟩ = some (.int .i64 f) := HQ0.out.cell 1
  have c2 : w9.cell? ⟨w.heap.size + 1 + 1, 2, none⟩ = some (.int .i64 t) := HQ0.out.cell 2
  have c3 : w9.cell? ⟨w.heap.size + 1 + 1, 3, none⟩ = some (.slice Q m q) := HQ0.out.cell 3
  have c4 : w9.cell? ⟨w.heap.size + 1 + 1, 4, none⟩ = some (.int .i64 s) := HQ0.out.cell 4
  have c5 : w9.cell? ⟨w.heap.size + 1 + 1, 5, none⟩ = some (.int .i64 i) := HQ0.out.cell 5
  have c6 : w9.cell? ⟨w.heap.size + 1 + 1, 6, none⟩ = some (.int .i64 g) := HQ0.out.cell 6
  have c7 : w9.cell? ⟨w.heap.size + 1 + 1, 7, none⟩ = some (.int .i64 h) := HQ0.out.cell 7
  have c8 : w9.cell? ⟨w.heap.size + 1 + 1, 8, none⟩ = some (.bool p) := HQ0.out.cell 8
  have c9 : w9.cell? ⟨w.heap.size + 1 + 1, 9, none⟩ = some (.bool c) := HQ0.out.cell 9
  refine bodyPost_ret (v := .agg #[.slice A n cc, .int .i64 f, .int .i64 t, .slice Q m q, .int .i64 s, .int .i64 i, .int .i64 g, .int .i64 h, .bool p, .bool c]) ?_ rfl ⟨rfl, HB0.out⟩
  simp [results, hres, go_sem, c0, c1, c2, c3, c4, c5, c6, c7, c8, c9]

abbrev rsT : Nat := 27
theorem rst_eq (n g h : Int) (p b : Bool) (W : World) : (binOp .eql rsT (.agg #[.int .i64 n, .int .i64 g, .int .i64 h, .bool p, .bool b]) (.agg #[.int .i64 n, .int .i64 g, .int .i64 h, .bool p, .bool b])).run Try.prog W = .ok (.bool true) W := by
  go_simp
theorem rst_nq (n g h n' g' h' : Int) (p b p' b' : Bool) (hne : ¬ (n = n' ∧ g = g' ∧ h = h' ∧ p = p' ∧ b = b')) (W : World) : (binOp .eql rsT (.agg #[.int .i64 n, .int .i64 g, .int .i64 h, .bool p, .bool b]) (.agg #[.int .i64 n', .int .i64 g', .int .i64 h', .bool p', .bool b'])).run Try.prog W = .ok (.bool false) W := by
  by_cases h1 : n = n'
  · by_cases h2 : g = g'
    · by_cases h3 : h = h'
      · by_cases h4 : p = p'
        · have h5 : ¬ b = b' := fun h9 => hne ⟨h1, h2, h3, h4, h9⟩
          go_simp
        · go_simp
      · go_simp
    · go_simp
  · go_simp

set_option maxHeartbeats 8000000 in
theorem lsame_any (A A' Q Q' : Option Addr) (l l' c0 c0' m m' q q' : Nat) (D E U V : List Int) (f t f' t' s n g h s' n' g' h' : Int) (p b p' b' : Bool) (B : Nat) (w : World)
    (h1 : Sl w B (.slice A l c0) 1 l (bys D)) (h2 : Sl w B (.slice A' l' c0') 1 l' (bys E)) (h3 : Sl w B (.slice Q m q) 1 m (bys U)) (h4 : Sl w B (.slice Q' m' q') 1 m' (bys V))
    (hl1 : D.length = l) (hl2 : E.length = l') (hl3 : U.length = m) (hl4 : V.length = m') (b1 : Bytes8 D) (b2 : Bytes8 E) (b3 : Bytes8 U) (b4 : Bytes8 V) (hB : B ≤ w.heap.size) :
    Calls Try.prog 18 #[rcV (.slice A l c0) f t (.slice Q m q) s n g h p b, rcV (.slice A' l' c0') f' t' (.slice Q' m' q') s' n' g' h' p' b'] w fun e w' =>
      e = .returned (.bool (decide (ordC ⟨f, t⟩ ⟨f', t'⟩ D E = 0 ∧ bytesR U V = 0 ∧ s = s' ∧ (n = n' ∧ g = g' ∧ h = h' ∧ p = p' ∧ b = b')))) ∧ Below w.heap.size w w' := by
  obtain ⟨r, hr⟩ : ∃ r, r = decide (ordC ⟨f, t⟩ ⟨f', t'⟩ D E = 0 ∧ bytesR U V = 0 ∧ s = s' ∧ (n = n' ∧ g = g' ∧ h = h' ∧ p = p' ∧ b = b')) := ⟨_, rfl⟩
  rw [← hr]
  have HR := hide hr
  have H1 := hide h1
  have H2 := hide h2
  have H3 := hide h3
  have H4 := hide h4
  have HL1 := hide hl1
  have HL2 := hide hl2
  have HL3 := hide hl3
  have HL4 := hide hl4
  have HE := hide (And.intro b1 (And.intro b2 (And.intro b3 b4)))
  clear hr h1 h2 h3 h4 hl1 hl2 hl3 hl4 b1 b2 b3 b4
  unfold rcV
  have HB : Hid (Below w.heap.size w ((w.alloc (.cells #[.slice A l c0, .int .i64 f, .int .i64 t, .slice Q m q, .int .i64 s, .int .i64 n, .int .i64 g, .int .i64 h, .bool p, .bool b] rcT)).alloc (.cells #[.slice A' l' c0', .int .i64 f', .int .i64 t', .slice Q' m' q', .int .i64 s', .int .i64 n', .int .i64 g', .int .i64 h', .bool p', .bool b'] rcT))) := ((Below.refl w.heap.size w).alloc (Nat.le_refl _) _).alloc (by simp) _
  have HP : Hid (Blk ((w.alloc (.cells #[.slice A l c0, .int .i64 f, .int .i64 t, .slice Q m q, .int .i64 s, .int .i64 n, .int .i64 g, .int .i64 h, .bool p, .bool b] rcT)).alloc (.cells #[.slice A' l' c0', .int .i64 f', .int .i64 t', .slice Q' m' q', .int .i64 s', .int .i64 n', .int .i64 g', .int .i64 h', .bool p', .bool b'] rcT)) w.heap.size rcT #[.slice A l c0, .int .i64 f, .int .i64 t, .slice Q m q, .int .i64 s, .int .i64 n, .int .i64 g, .int .i64 h, .bool p, .bool b]) := (Blk.new w _ _).alloc _
  have HQ : Hid (Blk ((w.alloc (.cells #[.slice A l c0, .int .i64 f, .int .i64 t, .slice Q m q, .int .i64 s, .int .i64 n, .int .i64 g, .int .i64 h, .bool p, .bool b] rcT)).alloc (.cells #[.slice A' l' c0', .int .i64 f', .int .i64 t', .slice Q' m' q', .int .i64 s', .int .i64 n', .int .i64 g', .int .i64 h', .bool p', .bool b'] rcT)) (w.heap.size + 1) rcT #[.slice A' l' c0', .int .i64 f', .int .i64 t', .slice Q' m' q', .int .i64 s', .int .i64 n', .int .i64 g', .int .i64 h', .bool p', .bool b']) := by
    have h9 := Blk.new (w.alloc (.cells #[.slice A l c0, .int .i64 f, .int .i64 t, .slice Q m q, .int .i64 s, .int .i64 n, .int .i64 g, .int .i64 h, .bool p, .bool b] rcT)) rcT #[.slice A' l' c0', .int .i64 f', .int .i64 t', .slice Q' m' q', .int .i64 s', .int .i64 n', .int .i64 g', .int .i64 h', .bool p', .bool b']
    simpa [Hid] using h9
  have HC : Hid (∀ W : World, Sl W B (.slice A l c0) 1 l (bys D) → Sl W B (.slice A' l' c0') 1 l' (bys E) → B ≤ W.heap.size → Calls Try.prog 16 #[.agg #[.slice A l c0, .int .i64 f, .int .i64 t, .slice Q m q, .int .i64 s, .int .i64 n, .int .i64 g, .int .i64 h, .bool p, .bool b], .agg #[.slice A' l' c0', .int .i64 f', .int .i64 t', .slice Q' m' q', .int .i64 s', .int .i64 n', .int .i64 g', .int .i64 h', .bool p', .bool b']] W fun e w' => e = .returned (.int .i64 (ordC ⟨f, t⟩ ⟨f', t'⟩ D E)) ∧ Below W.heap.size W w') := by
    intro W x1 x2 x3
    have h9 := rorder_any A A' Q Q' c0 c0' m m' q q' D E f t f' t' s n g h s' n' g' h' p b p' b' B B W (by rw [HL1.out]; exact x1) (by rw [HL2.out]; exact x2) HE.out.1 HE.out.2.1 x3 x3
    rw [HL1.out, HL2.out] at h9
    exact h9
  have HF : Hid (∀ W : World, Sl W B (.slice Q m q) 1 m (bys U) → Sl W B (.slice Q' m' q') 1 m' (bys V) → B ≤ W.heap.size → Calls Try.prog 22 #[.slice Q m q, .slice Q' m' q'] W fun e w' => e = .returned (.int .i64 (bytesR U V)) ∧ ∃ j, w' = W.drewN j) :=
    fun W x1 x2 x3 => rbytes_any _ _ U V m m' B B W x1 x2 HL3.out HL4.out HE.out.2.2.1 HE.out.2.2.2
  go_enter Try.func18, Try.ntmps18
  go_upto_region 1 with fail
  change Code.wp _ _ _ _ ((w.alloc (.cells #[.slice A l c0, .int .i64 f, .int .i64 t, .slice Q m q, .int .i64 s, .int .i64 n, .int .i64 g, .int .i64 h, .bool p, .bool b] rcT)).alloc (.cells #[.slice A' l' c0', .int .i64 f', .int .i64 t', .slice Q' m' q', .int .i64 s', .int .i64 n', .int .i64 g', .int .i64 h', .bool p', .bool b'] rcT))
  generalize ((w.alloc (.cells #[.slice A l c0, .int .i64 f, .int .i64 t, .slice Q m q, .int .i64 s, .int .i64 n, .int .i64 g, .int .i64 h, .bool p, .bool b] rcT)).alloc (.cells #[.slice A' l' c0', .int .i64 f', .int .i64 t', .slice Q' m' q', .int .i64 s', .int .i64 n', .int .i64 g', .int .i64 h', .bool p', .bool b'] rcT)) = w1 at *
  obtain ⟨pb, hpb⟩ : ∃ pb, pb = w.heap.size := ⟨_, rfl⟩
  obtain ⟨qb, hqb⟩ : ∃ qb, qb = w.heap.size + 1 := ⟨_, rfl⟩
  rw [← hqb] at HQ ⊢
  rw [← hpb] at HP ⊢
  have K1 := hide (H1.out.below (HB.out.mono hB))
  have K2 := hide (H2.out.below (HB.out.mono hB))
  have K3 := hide (H3.out.below (HB.out.mono hB))
  have K4 := hide (H4.out.below (HB.out.mono hB))
  have hB1 : B ≤ w1.heap.size := Nat.le_trans hB HB.out.size
  clear hpb hqb H1 H2 H3 H4
  have hp := HP.out.lt
  have hq := HQ.out.lt
  have p0 : w1.cell? ⟨pb, 0, none⟩ = some (.slice A l c0) := HP.out.cell 0
  have p1 : w1.cell? ⟨pb, 1, none⟩ = some (.int .i64 f) := HP.out.cell 1
  have p2 : w1.cell? ⟨pb, 2, none⟩ = some (.int .i64 t) := HP.out.cell 2
  have p3 : w1.cell? ⟨pb, 3, none⟩ = some (.slice Q m q) := HP.out.cell 3
  have p4 : w1.cell? ⟨pb, 4, none⟩ = some (.int .i64 s) := HP.out.cell 4
  have p5 : w1.cell? ⟨pb, 5, none⟩ = some (.int .i64 n) := HP.out.cell 5
  have p6 : w1.cell? ⟨pb, 6, none⟩ = some (.int .i64 g) := HP.out.cell 6
  have p7 : w1.cell? ⟨pb, 7, none⟩ = some (.int .i64 h) := HP.out.cell 7
  have p8 : w1.cell? ⟨pb, 8, none⟩ = some (.bool p) := HP.out.cell 8
  have p9 : w1.cell? ⟨pb, 9, none⟩ = some (.bool b) := HP.out.cell 9
  have q0 : w1.cell? ⟨qb, 0, none⟩ = some (.slice A' l' c0') := HQ.out.cell 0
  have q1 : w1.cell? ⟨qb, 1, none⟩ = some (.int .i64 f') := HQ.out.cell 1
  have q2 : w1.cell? ⟨qb, 2, none⟩ = some (.int .i64 t') := HQ.out.cell 2
  have q3 : w1.cell? ⟨qb, 3, none⟩ = some (.slice Q' m' q') := HQ.out.cell 3
  have q4 : w1.cell? ⟨qb, 4, none⟩ = some (.int .i64 s') := HQ.out.cell 4
  have q5 : w1.cell? ⟨qb, 5, none⟩ = some (.int .i64 n') := HQ.out.cell 5
  have q6 : w1.cell? ⟨qb, 6, none⟩ = some (.int .i64 g') := HQ.out.cell 6
  have q7 : w1.cell? ⟨qb, 7, none⟩ = some (.int .i64 h') := HQ.out.cell 7
  have q8 : w1.cell? ⟨qb, 8, none⟩ = some (.bool p') := HQ.out.cell 8
  have q9 : w1.cell? ⟨qb, 9, none⟩ = some (.bool b') := HQ.out.cell 9
  go_wp2_with fail
  refine (HC.out w1 K1.out K2.out hB1).mono ?_
  rintro e w2 ⟨rfl, hb2⟩
  have HB2 := hide hb2
  have HP2 := hide (HP.out.below hb2 hp)
  have HQ2 := hide (HQ.out.below hb2 hq)
  have K32 := hide (K3.out.below (hb2.mono hB1))
  have K42 := hide (K4.out.below (hb2.mono hB1))
  have hB2 : B ≤ w2.heap.size := Nat.le_trans hB1 hb2.size
  clear hb2 hp hq K1 K2 K3 K4 HP HQ HC
  have hp := HP2.out.lt
  have hq := HQ2.out.lt
  clear p0 q0
  clear p1 q1
  clear p2 q2
  clear p3 q3
  clear p4 q4
  clear p5 q5
  clear p6 q6
  clear p7 q7
  clear p8 q8
  clear p9 q9
  have p0 : w2.cell? ⟨pb, 0, none⟩ = some (.slice A l c0) := HP2.out.cell 0
  have p1 : w2.cell? ⟨pb, 1, none⟩ = some (.int .i64 f) := HP2.out.cell 1
  have p2 : w2.cell? ⟨pb, 2, none⟩ = some (.int .i64 t) := HP2.out.cell 2
  have p3 : w2.cell? ⟨pb, 3, none⟩ = some (.slice Q m q) := HP2.out.cell 3
  have p4 : w2.cell? ⟨pb, 4, none⟩ = some (.int .i64 s) := HP2.out.cell 4
  have p5 : w2.cell? ⟨pb, 5, none⟩ = some (.int .i64 n) := HP2.out.cell 5
  have p6 : w2.cell? ⟨pb, 6, none⟩ = some (.int .i64 g) := HP2.out.cell 6
  have p7 : w2.cell? ⟨pb, 7, none⟩ = some (.int .i64 h) := HP2.out.cell 7
  have p8 : w2.cell? ⟨pb, 8, none⟩ = some (.bool p) := HP2.out.cell 8
  have p9 : w2.cell? ⟨pb, 9, none⟩ = some (.bool b) := HP2.out.cell 9
  have q0 : w2.cell? ⟨qb, 0, none⟩ = some (.slice A' l' c0') := HQ2.out.cell 0
  have q1 : w2.cell? ⟨qb, 1, none⟩ = some (.int .i64 f') := HQ2.out.cell 1
  have q2 : w2.cell? ⟨qb, 2, none⟩ = some (.int .i64 t') := HQ2.out.cell 2
  have q3 : w2.cell? ⟨qb, 3, none⟩ = some (.slice Q' m' q') := HQ2.out.cell 3
  have q4 : w2.cell? ⟨qb, 4, none⟩ = some (.int .i64 s') := HQ2.out.cell 4
  have q5 : w2.cell? ⟨qb, 5, none⟩ = some (.int .i64 n') := HQ2.out.cell 5
  have q6 : w2.cell? ⟨qb, 6, none⟩ = some (.int .i64 g') := HQ2.out.cell 6
  have q7 : w2.cell? ⟨qb, 7, none⟩ = some (.int .i64 h') := HQ2.out.cell 7
  have q8 : w2.cell? ⟨qb, 8, none⟩ = some (.bool p') := HQ2.out.cell 8
  have q9 : w2.cell? ⟨qb, 9, none⟩ = some (.bool b') := HQ2.out.cell 9
  obtain ⟨o, ho⟩ : ∃ o, o = ordC ⟨f, t⟩ ⟨f', t'⟩ D E := ⟨_, rfl⟩
  rw [← ho] at HR ⊢
  clear ho
  by_cases g1 : o = 0
  · subst g1
    go_wp2_with fail
    refine (HF.out w2 K32.out K42.out hB2).mono ?_
    rintro e w3 ⟨rfl, j, rfl⟩
    obtain ⟨o, ho⟩ : ∃ o, o = bytesR U V := ⟨_, rfl⟩
    rw [← ho] at HR ⊢
    clear ho HF K32 K42
    by_cases g2 : o = 0
    · subst g2
      by_cases g3 : s = s'
      · by_cases g4 : n = n' ∧ g = g' ∧ h = h' ∧ p = p' ∧ b = b'
        · have HG : Hid (r = true) := by show _ = _; rw [HR.out]; simp only [g3, g4]; simp
          obtain ⟨e1, e2, e3, e4, e5⟩ := g4
          subst g3 e1 e2 e3 e4 e5
          go_wp2_with fail
          go_ret
          rw [HG.out]
          exact ⟨by first | rfl | simp, HB.out.trans ((HB2.out.drewN j).mono HB.out.size)⟩
        · have HG : Hid (r = false) := by show _ = _; rw [HR.out]; simp only [g4]; simp
          have hne2 : ∀ W : World, (binOp .eql rsT (.agg #[.int .i64 n, .int .i64 g, .int .i64 h, .bool p, .bool b]) (.agg #[.int .i64 n', .int .i64 g', .int .i64 h', .bool p', .bool b'])).run Try.prog W = .ok (.bool false) W := fun W => rst_nq n g h n' g' h' p b p' b' g4 W
          clear g4
          subst g3
          go_wp2_with fail
          go_ret
          rw [HG.out]
          exact ⟨by first | rfl | simp, HB.out.trans ((HB2.out.drewN j).mono HB.out.size)⟩
      · have HG : Hid (r = false) := by show _ = _; rw [HR.out]; simp only [g3]; simp
        go_wp2_with fail
        go_ret
        rw [HG.out]
        exact ⟨by first | rfl | simp [g3], HB.out.trans ((HB2.out.drewN j).mono HB.out.size)⟩
    · have HG : Hid (r = false) := by show _ = _; rw [HR.out]; simp only [g2]; simp
      go_wp2_with fail
      go_ret
      rw [HG.out]
      exact ⟨by first | rfl | simp [g2], HB.out.trans ((HB2.out.drewN j).mono HB.out.size)⟩
  · have HG : Hid (r = false) := by show _ = _; rw [HR.out]; simp only [g1]; simp
    go_wp2_with fail
    go_ret
    rw [HG.out]
    exact ⟨by first | rfl | simp [g1], HB.out.trans (HB2.out.mono HB.out.size)⟩
end Go.Proofs.Ytkobaidamdffmaa

namespace Go.Proofs.Ytkobaidamdffmaa
open Go.RowKit Go.Sort
set_option linter.unusedVariables false
set_option linter.unusedSimpArgs false

/-- the least stamp of what is open -/
def holdF (z : Int × Bool) (d : CD) : Int × Bool := if d.c = false ∧ (z.2 = false ∨ d.s < z.1) then (d.s, true) else z
def holdL (D : List CD) : Int × Bool := D.foldl holdF (0, false)
theorem holdF_comm (z : Int × Bool) (x y : CD) : holdF (holdF z x) y = holdF (holdF z y) x := by
  obtain ⟨m, o⟩ := z
  obtain ⟨xb, xs, xn, xg, xh, xp, xc⟩ := x
  obtain ⟨yb, ys, yn, yg, yh, yp, yc⟩ := y
  unfold holdF
  cases xc <;> cases yc <;> cases o <;> simp
  all_goals
    (repeat' split) <;> simp_all <;> omega
theorem holdL_perm {D E : List CD} (h : D.Perm E) : holdL D = holdL E := h.foldl_eq' (fun x _ y _ z => holdF_comm z x y) _
theorem holdL_snoc (D : List CD) (d : CD) : holdL (D ++ [d]) = holdF (holdL D) d := by
  unfold holdL
  rw [List.foldl_append]
  rfl
def cds (L : List (PK × CV)) : List CD := L.map (fun p => p.2.d)

set_option maxHeartbeats 4000000 in
theorem chold_any (w : World) (base tb cb : Nat) (wm fm : Option Nat) (bg : Bool) (L W : List (PK × CV)) (F : List (PK × Int)) (h : TabS w base tb cb wm fm bg L W F) :
    Calls Try.prog 53 #[.pointer (some ⟨tb, 0, none⟩)] w fun e w' => e = .returned (.tuple #[.int .i64 (holdL (cds L)).1, .bool (holdL (cds L)).2]) ∧ Below w.heap.size w w' := by
  obtain ⟨t0, t1, t2, t3, htl⟩ := h.open
  have HT := hide h
  have HM := hide h.map
  have hcl := h.map.lt
  clear h t1 t2 t3
  go_enter Try.func53, Try.ntmps53
  go_wp2_with (at_range; refine wpList_range_it rfl _ rfl cmU rfl HM.out ?_; intro ob hI0)
  go_frame
  have HI0 : Hid (ItR (w.alloc ob) cb w.heap.size plV cvV L [] ∧ Below w.heap.size w (w.alloc ob)) := ⟨hI0, (Below.refl _ _).alloc (Nat.le_refl _) _⟩
  clear hI0
  go_loopw [4, 5] (fun l o wr => ∃ (D : List (PK × CV)) (m : Int) (b : Bool), l = .int .i64 m ∧ o = .bool b ∧ Hid ((m, b) = holdL (cds D)) ∧ Hid (ItR wr cb w.heap.size plV cvV L D ∧ Below w.heap.size w wr)) (fun _ _ wr => itLeft wr cb w.heap.size)
  case atStart => exact ⟨[], 0, false, rfl, rfl, rfl, HI0.out⟩
  case round =>
    obtain ⟨D, m, b, rfl, rfl, HH, HI⟩ := hrel
    go_wp2_with (at_next; refine wpList_next_it' rfl _ rfl rfl HI.out.1 ?_ ?_)
    · intro hp
      have HF : Hid (holdL (cds L) = (m, b)) := by rw [Hid, HH.out]; exact holdL_perm (hp.map _)
      clear hp
      go_wp2_with fail
      go_ret2
      rw [HF.out]
      exact ⟨rfl, HI.out.2⟩
    · intro w2 kv vv hst
      obtain ⟨p, hkv, hvv, hp, hI2, hlt, hf2, hsz, hen⟩ := hst
      have hacc := (HT.out.acc p hp)
      obtain ⟨vA, vc, hvs, _⟩ := hacc.1.sl.form
      obtain ⟨⟨pk, pf, pt, pok⟩, ⟨cv, ⟨cb_, cs, cn, cg, ch, cp, cc⟩⟩⟩ := p
      simp only at hvs
      subst hvs
      have hkv2 : kv = .agg #[.string (strOfNums pk), .int .i64 pf, .int .i64 pt] := hkv
      have hvv2 : vv = .agg #[.slice vA cb_.length vc, .int .i64 cs, .int .i64 cn, .int .i64 cg, .int .i64 ch, .bool cp, .bool cc] := hvv
      clear hkv hvv hacc hp
      subst hkv2 hvv2
      have HI2 : Hid (∀ o, ItR (w2.alloc o) cb w.heap.size plV cvV L (D ++ [(⟨pk, pf, pt, pok⟩, ⟨.slice vA cb_.length vc, ⟨cb_, cs, cn, cg, ch, cp, cc⟩⟩)]) ∧ Below w.heap.size w (w2.alloc o)) := fun o =>
        ⟨hI2.below ((Below.refl _ _).alloc (Nat.le_refl _) o) hI2.lt.1 hI2.lt.2, (HI.out.2.trans (hf2.below HI.out.2.size (fun k hk e => by omega))).alloc (by rw [hsz]; exact HI.out.2.size) o⟩
      have HL : Hid (∀ o, itLeft (w2.alloc o) cb w.heap.size < itLeft wr cb w.heap.size) := fun o => by
        rw [(HI2.out o).1.left_eq, HI.out.1.left_eq, List.length_append]
        simp only [List.length_cons, List.length_nil]
        omega
      have HN : Hid (holdL (cds (D ++ [((⟨pk, pf, pt, pok⟩ : PK), (⟨.slice vA cb_.length vc, ⟨cb_, cs, cn, cg, ch, cp, cc⟩⟩ : CV))])) = if cc = false ∧ (b = false ∨ cs < m) then (cs, true) else (m, b)) := by
        rw [Hid, cds, List.map_append, List.map_singleton, holdL_snoc]
        rw [show holdL (List.map (fun p => p.2.d) D) = (m, b) from HH.out.symm]
        rfl
      clear hI2 hlt hf2 hsz
      generalize strOfNums pk = ps at *
      generalize cb_.length = cn_ at *
      cases cc
      · cases b
        · have HN2 : Hid ((cs, true) = holdL (cds (D ++ [((⟨pk, pf, pt, pok⟩ : PK), (⟨.slice vA cn_ vc, ⟨cb_, cs, cn, cg, ch, cp, false⟩⟩ : CV))]))) := by rw [Hid, HN.out]; simp
          go_wp2_with fail
          go_roundw
          case rel => exact ⟨_, cs, true, rfl, rfl, HN2, HI2.out _⟩
          case measure => exact HL.out _
        · by_cases hcm : cs < m
          · have HN2 : Hid ((cs, true) = holdL (cds (D ++ [((⟨pk, pf, pt, pok⟩ : PK), (⟨.slice vA cn_ vc, ⟨cb_, cs, cn, cg, ch, cp, false⟩⟩ : CV))]))) := by rw [Hid, HN.out]; simp [hcm]
            go_wp2_with fail
            go_roundw
            case rel => exact ⟨_, cs, true, rfl, rfl, HN2, HI2.out _⟩
            case measure => exact HL.out _
          · have HN2 : Hid ((m, true) = holdL (cds (D ++ [((⟨pk, pf, pt, pok⟩ : PK), (⟨.slice vA cn_ vc, ⟨cb_, cs, cn, cg, ch, cp, false⟩⟩ : CV))]))) := by rw [Hid, HN.out]; simp [hcm]
            go_wp2_with fail
            go_roundw
            case rel => exact ⟨_, m, true, rfl, rfl, HN2, HI2.out _⟩
            case measure => exact HL.out _
      · have HN2 : Hid ((m, b) = holdL (cds (D ++ [((⟨pk, pf, pt, pok⟩ : PK), (⟨.slice vA cn_ vc, ⟨cb_, cs, cn, cg, ch, cp, true⟩⟩ : CV))]))) := by rw [Hid, HN.out]; simp
        go_wp2_with fail
        go_roundw
        case rel => exact ⟨_, m, b, rfl, rfl, HN2, HI2.out _⟩
        case measure => exact HL.out _

end Go.Proofs.Ytkobaidamdffmaa

namespace Go.Proofs.Ytkobaidamdffmaa
open Go.RowKit Go.Sort
set_option linter.unusedVariables false
set_option linter.unusedSimpArgs false

set_option maxRecDepth 100000 in
set_option maxHeartbeats 4000000 in
theorem awake15 (w : World) : Calls Try.prog 9 #[] w fun e w' => e = .returned (.bool true) ∧ Below w.heap.size w w' := by
  go_enter Try.func9, Try.ntmps9
  go_wp2_with fail
  refine (cnew_any w w.heap.size (Nat.le_refl _)).mono ?_
  rintro e w1 ⟨tb, cb, rfl, ht, hb⟩
  have HT := hide ht
  have HB := hide hb
  clear ht hb
  go_wp2_with fail
  have HT2 : Hid (TabS ((w1.alloc (.cells #[.int .u8 1] bT)).alloc (.cells #[.slice (some ⟨w1.heap.size, 0, none⟩) 1 1, .int .i64 0, .int .i64 5] keyT)) w.heap.size tb cb none none false [] [] []) :=
    HT.out.below (((Below.refl w1.heap.size w1).alloc (Nat.le_refl _) _).alloc (by simp) _)
  have HB2 : Hid (Below w.heap.size w ((w1.alloc (.cells #[.int .u8 1] bT)).alloc (.cells #[.slice (some ⟨w1.heap.size, 0, none⟩) 1 1, .int .i64 0, .int .i64 5] keyT))) :=
    (HB.out.alloc HB.out.size _).alloc (by simp; have := HB.out.size; omega) _
  have HK2 : Hid (Own ((w1.alloc (.cells #[.int .u8 1] bT)).alloc (.cells #[.slice (some ⟨w1.heap.size, 0, none⟩) 1 1, .int .i64 0, .int .i64 5] keyT)) 0 bT 1 (.slice (some ⟨w1.heap.size, 0, none⟩) 1 1) 1 (bys [1])) :=
    (Own.new (n := 1) (sz := 1) (e := bT) w1 0 #[.int .u8 1] (by omega) (by omega) rfl).alloc _
  have HV2 : Hid (Blk ((w1.alloc (.cells #[.int .u8 1] bT)).alloc (.cells #[.slice (some ⟨w1.heap.size, 0, none⟩) 1 1, .int .i64 0, .int .i64 5] keyT)) (w1.heap.size + 1) keyT #[.slice (some ⟨w1.heap.size, 0, none⟩) 1 1, .int .i64 0, .int .i64 5]) := by
    have h9 := Blk.new (w1.alloc (.cells #[.int .u8 1] bT)) keyT #[.slice (some ⟨w1.heap.size, 0, none⟩) 1 1, .int .i64 0, .int .i64 5]
    simpa [Hid] using h9
  have HZ2 : Hid (w1.heap.size + 1 < ((w1.alloc (.cells #[.int .u8 1] bT)).alloc (.cells #[.slice (some ⟨w1.heap.size, 0, none⟩) 1 1, .int .i64 0, .int .i64 5] keyT)).heap.size) := by show _ < _; simp
  have HZ1 := hide HB.out.size
  generalize ((w1.alloc (.cells #[.int .u8 1] bT)).alloc (.cells #[.slice (some ⟨w1.heap.size, 0, none⟩) 1 1, .int .i64 0, .int .i64 5] keyT)) = w2 at *
  obtain ⟨kb, hkb⟩ : ∃ kb, kb = w1.heap.size := ⟨_, rfl⟩
  have hz1 := HZ1.out
  have hz2 := HZ2.out
  rw [← hkb] at HK2 HV2 hz2 ⊢
  clear hkb HT HB HZ1 HZ2
  refine (cput_any w2 w.heap.size tb cb w2.heap.size 1 1 0 0 none none false [] [] [] (some ⟨kb, 0, none⟩) none [1] 0 5 ⟨[], 4, 0, 0, 0, false, false⟩ HT2.out HK2.out.sl rfl (fun c hc => by simp at hc; omega) (fun X hX => Sl.nil _ _ _) rfl (fun c hc => by simp at hc) (Nat.le_refl _) HB2.out.size).mono ?_
  rintro e w3 (⟨hn, _, _⟩ | ⟨hr, rfl, p, hp1, hp2, hp3, c', hc', -, ht3, hf3⟩)
  · exact absurd (by decide) hn
  have HT3 := hide ht3
  have HB3 : Hid (Below w.heap.size w w3) := HB2.out.trans (hf3.below HB2.out.size (fun k hk h => by have := (HT2.out.lows k h).1; omega))
  have HV3 := hide (hf3.blk HV2.out (HT2.out.nblk HV2.out (by decide)))
  have HK3 := hide (HK2.out.fr hf3 (fun g hg => by obtain ⟨cs, hc⟩ := HK2.out.typed g hg; exact HT2.out.nblk hc (by decide)))
  have HLK : Hid (gv (lk (putM [] p c') p) = c' ∧ (lk (putM [] p c') p).isSome = true) := by
    rw [lk_put]; simp [gv, Hid]
  clear ht3 hf3 HT2 HB2 HV2 HK2 hr
  have v0 : w3.cell? ⟨kb + 1, 0, none⟩ = some (.slice (some ⟨kb, 0, none⟩) 1 1) := HV3.out.cell 0
  have v1 : w3.cell? ⟨kb + 1, 1, none⟩ = some (.int .i64 0) := HV3.out.cell 1
  have v2 : w3.cell? ⟨kb + 1, 2, none⟩ = some (.int .i64 5) := HV3.out.cell 2
  have hv := HV3.out.lt
  have HG : Hid (Calls Try.prog 14 #[.pointer (some ⟨tb, 0, none⟩), .agg #[.slice (some ⟨kb, 0, none⟩) 1 1, .int .i64 0, .int .i64 5]] w3 (GetP w3 ⟨[], 4, 0, 0, 0, false, false⟩ true)) := by
    have h9 := cget_any w3 w.heap.size tb cb w3.heap.size 1 1 none none false (putM [] p c') (kpW false [] [] [] p) (kpF false [] [] [] p) (some ⟨kb, 0, none⟩) p HT3.out (by rw [hp1]; exact HK3.out.sl) (by rw [hp1]; rfl) (Nat.le_refl _)
    rw [HLK.out.1, HLK.out.2, hc', hp2, hp3] at h9
    exact h9
  clear HLK hc' hp1 hp2 hp3 HT3 HK3
  go_wp2_with fail
  refine HG.out.mono ?_
  rintro e w4 ⟨uA, uc, rfl, ho, hb4⟩
  have HB4 : Hid (Below w.heap.size w w4) := HB3.out.trans (hb4.mono HB3.out.size)
  clear ho hb4 HG HB3 HV3 v0 v1 v2 hv
  have hz4 := HB4.out.size
  go_wp2_with fail
  go_ret
  refine ⟨rfl, ?_⟩
  exact HB4.out.alloc HB4.out.size _
end Go.Proofs.Ytkobaidamdffmaa

namespace Go.Proofs.Ytkobaidamdffmaa
open Go.RowKit Go.Sort
set_option linter.unusedVariables false
set_option linter.unusedSimpArgs false

theorem Own.slB {w : World} {base e sz n B : Nat} {v : Value} {xs : List Value} (h : Own w base e sz v n xs) (hB : ∀ g, v.ownBlock = some g → g < B) : Sl w B v sz n xs := by
  refine ⟨h.1, ?_⟩
  rcases h.2 with ⟨rfl, rfl⟩ | ⟨g, cap, cur, rfl, hb, hg, hc, hm, _⟩
  · exact ⟨none, 0, rfl, by omega, by omega, by omega⟩
  · exact ⟨_, cap, rfl, hc, by unfold maxLen at hm; omega, fun _ => ⟨_, rfl, hB g rfl, fun j u hu => h.cells (g := g) rfl j u hu⟩⟩
/-- a table that the law made -/
structure TabG (w0 wx : World) (tb cb : Nat) (wm fm : Option Nat) (bg : Bool) (L W : List (PK × CV)) (F : List (PK × Int)) : Prop where
  ts : TabS wx w0.heap.size tb cb wm fm bg L W F
  bl : Below w0.heap.size w0 wx
/-- blocks of other types than the table's stand -/
def Kt (w w' : World) : Prop := (∀ (g t : Nat) (cs : Array Value) (fr : Nat × Nat), t ≠ tabT → w.heap[g]? = some (.cells cs t fr) → w'.heap[g]? = some (.cells cs t fr)) ∧ w.heap.size ≤ w'.heap.size
theorem Kt.refl (w : World) : Kt w w := ⟨fun _ _ _ _ _ h => h, Nat.le_refl _⟩
theorem Kt.trans {w w1 w2 : World} (h : Kt w w1) (k : Kt w1 w2) : Kt w w2 := ⟨fun g t cs fr h1 hb => k.1 g t cs fr h1 (h.1 g t cs fr h1 hb), Nat.le_trans h.2 k.2⟩
theorem Kt.below {w w' : World} (h : Below w.heap.size w w') : Kt w w' := ⟨fun g t cs fr _ hb => ((Fr.of_below (S := nob) h).block g (Array.getElem?_eq_some_iff.1 hb).1 id).trans hb, h.size⟩
theorem Kt.blk {w w' : World} (h : Kt w w') {g t : Nat} {cs : Array Value} (hb : Blk w g t cs) (ht : t ≠ tabT) : Blk w' g t cs := h.1 g t cs _ ht hb
theorem Kt.own {w w' : World} (h : Kt w w') {base e sz n : Nat} {v : Value} {xs : List Value} (ho : Own w base e sz v n xs) (he : e ≠ tabT) : Own w' base e sz v n xs := by
  refine ho.to fun g hg => ?_
  obtain ⟨cs, hc⟩ := ho.typed g hg
  have h2 := h.1 g e cs _ he hc
  unfold Blk at hc
  rw [hc, h2]
theorem Kt.ro {w w' : World} (h : Kt w w') {base : Nat} {v : Value} {D : List Int} (ho : RoB w base v D) : RoB w' base v D := by
  obtain ⟨A, c, h1, h2, h3, h4⟩ := ho
  refine ⟨A, c, h1, h2, h3, fun hn => ?_⟩
  obtain ⟨g, cs, fr, h5, h6, h7, h8⟩ := h4 hn
  exact ⟨g, cs, fr, h5, h6, h.1 g bT cs fr (by decide) h7, h8⟩
/-- other blocks than the table's, of whatever mark -/
theorem TabS.nany {w : World} {base tb cb : Nat} {wm fm : Option Nat} {bg : Bool} {L W : List (PK × CV)} {F : List (PK × Int)} (h : TabS w base tb cb wm fm bg L W F) : ∀ (g t : Nat) (cs : Array Value) (fr : Nat × Nat), t ≠ tabT → w.heap[g]? = some (.cells cs t fr) → ¬ TBk tb cb wm fm bg g := by
  rintro g t cs fr ht hg (h1 | h1 | ⟨h0, h1⟩)
  · have hb := h.blk
    unfold Blk at hb
    rw [← h1, hg] at hb
    injection hb with hb
    injection hb with _ hb
    exact ht hb
  · obtain ⟨es, clock, hb, _⟩ := h.map
    rw [← h1, hg] at hb
    cases hb
  · obtain ⟨wb, fb, e1, e2, h3⟩ := h.beg h0
    rcases h1 with h1 | h1
    · rw [e1] at h1
      injection h1 with h1
      obtain ⟨es, clock, hb, _⟩ := h3.wm
      rw [h1, hg] at hb
      cases hb
    · rw [e2] at h1
      injection h1 with h1
      obtain ⟨es, clock, hb, _⟩ := h3.fm
      rw [h1, hg] at hb
      cases hb
section
variable {w0 w wx wy : World} {tb cb : Nat} {wm fm : Option Nat} {bg : Bool} {L W : List (PK × CV)} {F : List (PK × Int)}
theorem TabG.below (h : TabG w0 wx tb cb wm fm bg L W F) (b : Below wx.heap.size wx wy) : TabG w0 wy tb cb wm fm bg L W F := ⟨h.ts.below b, h.bl.trans (b.mono h.bl.size)⟩
theorem TabS.kt {base : Nat} (h : TabS wx base tb cb wm fm bg L W F) (hf : Fr (TBk tb cb wm fm bg) wx wy) : Kt wx wy := ⟨fun g t cs fr ht hb => (hf.block g (Array.getElem?_eq_some_iff.1 hb).1 (h.nany g t cs fr ht hb)).trans hb, hf.size⟩
theorem TabG.after (h : TabG w0 wx tb cb wm fm bg L W F) (hf : Fr (TBk tb cb wm fm bg) wx wy) : Below w0.heap.size w0 wy :=
  h.bl.trans (hf.below h.bl.size (fun k hk h9 => by have := (h.ts.lows k h9).1; omega))
end

theorem lkey_q (A : Option Addr) (n cc : Nat) (f t : Int) (a : Value) (s i g h : Int) (p c : Bool) (D : List Int) (B : Nat) (W X : World) (hs : Sl W B (.slice A n cc) 1 n (bys D)) (hD : D.length = n) (hn : n ≤ 140737488355328) (hB : B ≤ W.heap.size) (hX : Below W.heap.size W X) :
    Calls Try.prog 11 #[.agg #[.slice A n cc, .int .i64 f, .int .i64 t, a, .int .i64 s, .int .i64 i, .int .i64 g, .int .i64 h, .bool p, .bool c]] X fun e w' => ∃ uA uc, e = .returned (.agg #[.slice uA n uc, .int .i64 f, .int .i64 t]) ∧ Below W.heap.size W w' ∧ Own w' 0 bT 1 (.slice uA n uc) n (bys D) ∧ Below X.heap.size X w' := by
  refine (lkey_any A n cc f t a s i g h p c D B X (hs.below (hX.mono hB)) hD hn (Nat.le_trans hB hX.size)).mono ?_
  rintro e w' ⟨u, rfl, ho, hb⟩
  obtain ⟨uA, uc, rfl, _⟩ := ho.sl.form
  exact ⟨uA, uc, rfl, hX.trans (hb.mono hX.size), ho.lower (Nat.zero_le _), hb⟩
theorem lcell_q (A : Option Addr) (n cc : Nat) (f t : Int) (k : Value) (s i g h : Int) (p c : Bool) (D : List Int) (B : Nat) (W X : World) (hs : Sl W B (.slice A n cc) 1 n (bys D)) (hD : D.length = n) (hn : n ≤ 140737488355328) (hB : B ≤ W.heap.size) (hX : Below W.heap.size W X) :
    Calls Try.prog 12 #[.agg #[k, .int .i64 f, .int .i64 t, .slice A n cc, .int .i64 s, .int .i64 i, .int .i64 g, .int .i64 h, .bool p, .bool c]] X fun e w' => ∃ uA uc, e = .returned (.agg #[.slice uA n uc, .int .i64 s, .int .i64 i, .int .i64 g, .int .i64 h, .bool p, .bool c]) ∧ Below W.heap.size W w' ∧ Own w' 0 bT 1 (.slice uA n uc) n (bys D) ∧ Below X.heap.size X w' := by
  refine (lcell_any A n cc f t k s i g h p c D B X (hs.below (hX.mono hB)) hD hn (Nat.le_trans hB hX.size)).mono ?_
  rintro e w' ⟨u, rfl, ho, hb⟩
  obtain ⟨uA, uc, rfl, _⟩ := ho.sl.form
  exact ⟨uA, uc, rfl, hX.trans (hb.mono hX.size), ho.lower (Nat.zero_le _), hb⟩

/-- behind Put -/
def PutG (w0 X : World) (tb cb : Nat) (wm fm : Option Nat) (bg : Bool) (L W : List (PK × CV)) (F : List (PK × Int)) (kb : List Int) (f t : Int) (d : CD) (r : Int) (w' : World) : Prop :=
  Kt X w' ∧ ((¬ (keyR kb.length f t ∧ d.right) ∧ r = 150 ∧ TabG w0 w' tb cb wm fm bg L W F) ∨
    (d.right ∧ r = 0 ∧ ∃ p : PK, p.b = kb ∧ p.f = f ∧ p.t = t ∧ ∃ c' : CV, c'.d = d ∧ TabG w0 w' tb cb wm fm bg (putM L p c') (kpW bg L W F p) (kpF bg L W F p)))
theorem lput_q (w0 X : World) (tb cb kn kc an ac : Nat) (wm fm : Option Nat) (bg : Bool) (L W : List (PK × CV)) (F : List (PK × Int)) (kA aA : Option Addr) (kb : List Int) (f t : Int) (d : CD) (h : TabG w0 X tb cb wm fm bg L W F)
    (hk : Own X 0 bT 1 (.slice kA kn kc) kn (bys kb)) (hkn : kb.length = kn) (h8 : Bytes8 kb) (ha : Own X 0 bT 1 (.slice aA an ac) an (bys d.b)) (han : d.b.length = an) (ha8 : Bytes8 d.b) :
    Calls Try.prog 10 #[.pointer (some ⟨tb, 0, none⟩), .agg #[.slice kA kn kc, .int .i64 f, .int .i64 t], .agg #[.slice aA an ac, .int .i64 d.s, .int .i64 d.n, .int .i64 d.g, .int .i64 d.h, .bool d.p, .bool d.c]] X fun e w' => ∃ r, e = .returned (.int .i64 r) ∧ PutG w0 X tb cb wm fm bg L W F kb f t d r w' := by
  refine (cput_any X w0.heap.size tb cb X.heap.size kn kc an ac wm fm bg L W F kA aA kb f t d h.ts hk.sl hkn h8 (fun Y hY => ?_) han ha8 (Nat.le_refl _) h.bl.size).mono ?_
  · exact Own.slB ((h.ts.kt hY).own ha (by decide)) (fun g hg => (ha.lt g hg).2)
  · rintro e w3 (⟨hn, rfl, hb⟩ | ⟨hr, rfl, p, hp1, hp2, hp3, c', hc', -, ht3, hf3⟩)
    · exact ⟨_, rfl, Kt.below hb, .inl ⟨hn, rfl, h.below hb⟩⟩
    · exact ⟨_, rfl, h.ts.kt hf3, .inr ⟨hr, rfl, p, hp1, hp2, hp3, c', hc', ht3, h.after hf3⟩⟩

/-- behind Drop -/
def DropG (w0 X : World) (tb cb : Nat) (wm fm : Option Nat) (bg : Bool) (L W : List (PK × CV)) (F : List (PK × Int)) (kb : List Int) (f t : Int) (b : Bool) (r : Int) (w' : World) : Prop :=
  Kt X w' ∧ ((¬ keyR kb.length f t ∧ b = false ∧ r = 150 ∧ TabG w0 w' tb cb wm fm bg L W F) ∨
    (∃ p : PK, p.b = kb ∧ p.f = f ∧ p.t = t ∧ b = (lk L p).isSome ∧ r = 0 ∧ TabG w0 w' tb cb wm fm bg (delM L p) (if (lk L p).isSome then kpW bg L W F p else W) (if (lk L p).isSome then kpF bg L W F p else F)))
theorem ldrop_q (w0 X : World) (tb cb kn kc B : Nat) (wm fm : Option Nat) (bg : Bool) (L W : List (PK × CV)) (F : List (PK × Int)) (kA : Option Addr) (kb : List Int) (f t : Int) (h : TabG w0 X tb cb wm fm bg L W F)
    (hk : Sl X B (.slice kA kn kc) 1 kn (bys kb)) (hkn : kb.length = kn) (h8 : Bytes8 kb) (hB : B ≤ X.heap.size) :
    Calls Try.prog 15 #[.pointer (some ⟨tb, 0, none⟩), .agg #[.slice kA kn kc, .int .i64 f, .int .i64 t]] X fun e w' => ∃ b r, e = .returned (.tuple #[.bool b, .int .i64 r]) ∧ DropG w0 X tb cb wm fm bg L W F kb f t b r w' := by
  refine (cdrop_any X w0.heap.size tb cb B kn kc wm fm bg L W F kA kb f t h.ts hk hkn h8 hB).mono ?_
  rintro e w3 (⟨hn, rfl, hb⟩ | ⟨p, hp1, hp2, hp3, rfl, ht3, hf3⟩)
  · exact ⟨_, _, rfl, Kt.below hb, .inl ⟨hn, rfl, rfl, h.below hb⟩⟩
  · exact ⟨_, _, rfl, h.ts.kt hf3, .inr ⟨p, hp1, hp2, hp3, rfl, rfl, ht3, h.after hf3⟩⟩
end Go.Proofs.Ytkobaidamdffmaa
