/- What journal.frame makes. -/
import Derived.Test.YtlllocfcljgacaaJour
import Derived.WalkMore
import Derived.ScopeJumps
namespace Go.Proofs.Ytlllocfcljgacaa
open Go.RowKit
set_option linter.unusedVariables false
set_option linter.unusedSimpArgs false

theorem or128 (m : Nat) : bits .or .u8 ((m : Int) % 256) 128 = ((m % 128 + 128 : Nat) : Int) := by
  have h : ∀ b : Fin 256, bits .or .u8 ((b.val : Nat) : Int) 128 = ((b.val % 128 + 128 : Nat) : Int) := by decide +kernel
  have h2 := h ⟨m % 256, by omega⟩
  simp only at h2
  rw [show ((m : Int) % 256) = ((m % 256 : Nat) : Int) by omega, h2, show m % 256 % 128 = m % 128 by omega]
/-- a count as it stands on the tape -/
def cntB (n : Nat) : List Int := if n < 128 then [(n : Int)] else (((n % 128 + 128 : Nat) : Int) :: cntB (n / 128))
termination_by n
decreasing_by omega
theorem cntB_len (n : Nat) (h : n ≤ 2097151) : (cntB n).length ≤ 3 := by
  rw [cntB]
  split
  · simp
  · rw [cntB]
    split
    · simp
    · rw [cntB, if_pos (by omega)]
      simp
def tailB (D : List Int) : List Int := let s := sumB D; [s / 16777216 % 256, s / 65536 % 256, s / 256 % 256, s % 256]
def frameB (D : List Int) : List Int := cntB D.length ++ tailB D ++ D

set_option maxRecDepth 100000 in
set_option maxHeartbeats 8000000 in
theorem frame_any (v : Value) (D : List Int) (n B : Nat) (w : World) (hs : Sl w B v 1 n (bys D)) (hD : D.length = n) (h8 : Bytes8 D) (hn : n ≤ 1048576) (hB : B ≤ w.heap.size) :
    Calls Try.prog 26 #[v] w fun e w' => ∃ u, e = .returned u ∧ Own w' w.heap.size bT 1 u (frameB D).length (bys (frameB D)) ∧ Below w.heap.size w w' := by
  obtain ⟨A, c, rfl, hnc⟩ := hs.form
  have HS := hide hs
  have HD := hide hD
  have H8 := hide h8
  clear hs hD h8
  go_enter Try.func26, Try.ntmps26
  go_wp2_with fail
  have HO0 : Hid (Own w w.heap.size bT 1 (.slice none 0 0) ([] : List Int).length (bys [])) := Own.nil _ _ _ _
  have HB0 : Hid (Below w.heap.size w w) := Below.refl _ _
  refine wp_scope_jumps 0 (fun a' w' => ∃ (m : Nat) (X : List Int) (ov u8 u9 u10 u11 u12 u13 u14 u15 u16 u17 : Value), a' = { tmps := #[.slice A n c, undef, .slice none 0 0, ov, .int .i64 m, undef, .slice A n c, .int .i64 n, u8, u9, u10, u11, u12, u13, u14, u15, u16, u17, undef, undef, undef, undef, undef, undef, undef, undef, undef, undef, undef, undef, undef, undef, undef, undef, undef, undef, undef, undef, undef], defers := [] } ∧ m ≤ n ∧ X ++ cntB m = cntB n ∧ X.length ≤ 10 ∧ Hid (Own w' w.heap.size bT 1 ov X.length (bys X)) ∧ Hid (Below w.heap.size w w')) (fun a' _ => (intOf (a'.tmps.getD 4 undef)).toNat) rfl ?_ ?_
  · go_wp2_with fail
    go_step3
    by_cases h128 : 128 ≤ n
    · skip
      have HN : Hid (Sl (w.alloc (.cells #[.int .u8 ((n % 128 + 128 : Nat) : Int)] bT)) (w.heap.size + 1) (.slice (some ⟨w.heap.size, 0, none⟩) 1 1) 1 1 (bys [((n % 128 + 128 : Nat) : Int)])) :=
        Sl.of_own (Own.new (n := 1) (sz := 1) (e := bT) (base := 0) w #[.int .u8 ((n % 128 + 128 : Nat) : Int)] (by omega) (by omega) rfl) |>.mono (by simp)
      go_wp2_with (at_builtin; rw [or128 n]; refine wpList_app rfl tyB (.tmp 10) (.tmp 14) rfl w.heap.size (n := ([] : List Int).length) (m := 1) (B := w.heap.size + 1) (xs := bys ([] : List Int)) (news := bys [((n % 128 + 128 : Nat) : Int)]) rfl rfl (HO0.out.alloc _) HN.out (bys_ok _) (by first | omega | (simp <;> omega)) (by first | omega | (simp <;> omega)) (by have := HB0.out.size; simp <;> omega) ?_)
      intro v1 w1 ha
      have HO1 : Hid (Own w1 w.heap.size bT 1 v1 (([] : List Int) ++ [((n % 128 + 128 : Nat) : Int)]).length (bys (([] : List Int) ++ [((n % 128 + 128 : Nat) : Int)]))) := by
        rw [bys_app, List.length_append]; exact ha.own
      have HB1 := hide ((HB0.out.alloc (o := .cells #[.int .u8 ((n % 128 + 128 : Nat) : Int)] bT) HB0.out.size).trans (ha.fr.below (B := w.heap.size) (by have := HB0.out.size; simp <;> omega) (fun k hk h => by have := ((HO0.out.lt k h).1); omega)))
      clear ha
      go_wp2_with fail
      go_step3
      rw [show ((n : Int) / 128) = ((n / 128 : Nat) : Int) by omega]
      have HC : Hid (cntB n = ((n % 128 + 128 : Nat) : Int) :: cntB (n / 128)) := by rw [Hid, cntB, if_neg (by omega)]
      refine ⟨rfl, n / 128, _, v1, _, _, _, _, _, _, _, _, _, _, rfl, by omega, ?_, ?_, HO1, HB1⟩
      · rw [HC.out]; rfl
      · simp
    · go_wp2_with fail
      refine (jsum_any _ D n B w (HS.out.below (HB0.out.mono hB)) HD.out H8.out).mono ?_
      rintro e w2 ⟨rfl, rfl⟩
      have HC : Hid (cntB n = [(n : Int)]) := by rw [Hid, cntB, if_pos (by omega)]
      have HFR : Hid (frameB D = (([] : List Int) ++ ((n : Int) :: tailB D)) ++ D) := by rw [Hid, frameB, HD.out, HC.out]; simp
      have hl5 : (([] : List Int) ++ ((n : Int) :: tailB D)).length = ([] : List Int).length + 5 := by simp [tailB]
      have HN : Hid (Sl (w.alloc (.cells #[.int .u8 n, .int .u8 (sumB D / 16777216 % 256), .int .u8 (sumB D / 65536 % 256), .int .u8 (sumB D / 256 % 256), .int .u8 (sumB D % 256)] bT)) (w.heap.size + 1) (.slice (some ⟨w.heap.size, 0, none⟩) 5 5) 1 5 (bys ((n : Int) :: tailB D))) :=
        Sl.of_own (Own.new (n := 5) (sz := 1) (e := bT) (base := 0) w #[.int .u8 n, .int .u8 (sumB D / 16777216 % 256), .int .u8 (sumB D / 65536 % 256), .int .u8 (sumB D / 256 % 256), .int .u8 (sumB D % 256)] (by omega) (by omega) rfl) |>.mono (by simp)
      go_wp2_with (at_builtin; refine wpList_app rfl tyB (.tmp 20) (.tmp 34) rfl w.heap.size (n := ([] : List Int).length) (m := 5) (B := w.heap.size + 1) (xs := bys ([] : List Int)) (news := bys ((n : Int) :: tailB D)) rfl rfl (HO0.out.alloc _) HN.out (bys_ok _) (by first | omega | (simp <;> omega)) (by first | omega | (simp <;> omega)) (by have := HB0.out.size; simp <;> omega) ?_)
      intro v1 w1 ha
      have HO1 : Hid (Own w1 w.heap.size bT 1 v1 (([] : List Int).length + 5) (bys (([] : List Int) ++ ((n : Int) :: tailB D)))) := by
        rw [bys_app]; exact ha.own
      have HB1 := hide ((HB0.out.alloc (o := .cells #[.int .u8 n, .int .u8 (sumB D / 16777216 % 256), .int .u8 (sumB D / 65536 % 256), .int .u8 (sumB D / 256 % 256), .int .u8 (sumB D % 256)] bT) HB0.out.size).trans (ha.fr.below (B := w.heap.size) (by have := HB0.out.size; simp <;> omega) (fun k hk h => by have := ((HO0.out.lt k h).1); omega)))
      clear ha
      go_wp2_with (at_builtin; refine wpList_app rfl tyB (.tmp 36) (.tmp 37) rfl w.heap.size (n := ([] : List Int).length + 5) (m := n) (B := B) (xs := bys (([] : List Int) ++ ((n : Int) :: tailB D))) (news := bys D) rfl rfl HO1.out (HS.out.below (HB1.out.mono hB)) (bys_ok _) (by first | omega | (simp <;> omega)) (by first | omega | (simp <;> omega)) HB1.out.size ?_)
      intro v2 w2 ha
      have HO2 : Hid (Own w2 w.heap.size bT 1 v2 (frameB D).length (bys (frameB D))) := by
        rw [HFR.out, bys_app, List.length_append, hl5, HD.out]; exact ha.own
      have HB2 := hide (HB1.out.trans (ha.fr.below (B := w.heap.size) HB1.out.size (fun k hk h => by have := ((HO1.out.lt k h).1); omega)))
      clear ha
      go_wp2_with fail
      simp only [Exit.jump]
      go_ret
      exact ⟨_, rfl, HO2.out, HB2.out⟩
  · rintro a' w' ⟨m, X, ov, u8, u9, u10, u11, u12, u13, u14, u15, u16, u17, rfl, hm, hX, hXl, HO, HB⟩
    by_cases h128 : 128 ≤ m
    · skip
      have HN : Hid (Sl (w'.alloc (.cells #[.int .u8 ((m % 128 + 128 : Nat) : Int)] bT)) (w'.heap.size + 1) (.slice (some ⟨w'.heap.size, 0, none⟩) 1 1) 1 1 (bys [((m % 128 + 128 : Nat) : Int)])) :=
        Sl.of_own (Own.new (n := 1) (sz := 1) (e := bT) (base := 0) w' #[.int .u8 ((m % 128 + 128 : Nat) : Int)] (by omega) (by omega) rfl) |>.mono (by simp)
      go_wp2_with (at_builtin; rw [or128 m]; refine wpList_app rfl tyB (.tmp 10) (.tmp 14) rfl w.heap.size (n := X.length) (m := 1) (B := w'.heap.size + 1) (xs := bys X) (news := bys [((m % 128 + 128 : Nat) : Int)]) rfl rfl (HO.out.alloc _) HN.out (bys_ok _) (by first | omega | (simp <;> omega)) (by first | omega | (simp <;> omega)) (by have := HB.out.size; simp <;> omega) ?_)
      intro v1 w1 ha
      have HO1 : Hid (Own w1 w.heap.size bT 1 v1 (X ++ [((m % 128 + 128 : Nat) : Int)]).length (bys (X ++ [((m % 128 + 128 : Nat) : Int)]))) := by
        rw [bys_app, List.length_append]; exact ha.own
      have HB1 := hide ((HB.out.alloc (o := .cells #[.int .u8 ((m % 128 + 128 : Nat) : Int)] bT) HB.out.size).trans (ha.fr.below (B := w.heap.size) (by have := HB.out.size; simp <;> omega) (fun k hk h => by have := ((HO.out.lt k h).1); omega)))
      clear ha
      go_wp2_with fail
      go_step3
      rw [show ((m : Int) / 128) = ((m / 128 : Nat) : Int) by omega]
      have HC : Hid (cntB m = ((m % 128 + 128 : Nat) : Int) :: cntB (m / 128)) := by rw [Hid, cntB, if_neg (by omega)]
      refine ⟨rfl, ⟨m / 128, _, v1, _, _, _, _, _, _, _, _, _, _, rfl, by omega, ?_, ?_, HO1, HB1⟩, ?_⟩
      · rw [← hX, HC.out]; simp
      · have h7 := congrArg List.length hX
        have h8 := cntB_len n (by omega)
        have h9 := HC.out
        rw [h9] at h7
        simp at h7 ⊢
        omega
      · simp [intOf]; omega
    · go_wp2_with fail
      refine (jsum_any _ D n B w' (HS.out.below (HB.out.mono hB)) HD.out H8.out).mono ?_
      rintro e w2 ⟨rfl, rfl⟩
      have HC : Hid (cntB m = [(m : Int)]) := by rw [Hid, cntB, if_pos (by omega)]
      have HFR : Hid (frameB D = (X ++ ((m : Int) :: tailB D)) ++ D) := by rw [Hid, frameB, HD.out, ← hX, HC.out]; simp
      have hl5 : (X ++ ((m : Int) :: tailB D)).length = X.length + 5 := by simp [tailB]
      have HN : Hid (Sl (w'.alloc (.cells #[.int .u8 m, .int .u8 (sumB D / 16777216 % 256), .int .u8 (sumB D / 65536 % 256), .int .u8 (sumB D / 256 % 256), .int .u8 (sumB D % 256)] bT)) (w'.heap.size + 1) (.slice (some ⟨w'.heap.size, 0, none⟩) 5 5) 1 5 (bys ((m : Int) :: tailB D))) :=
        Sl.of_own (Own.new (n := 5) (sz := 1) (e := bT) (base := 0) w' #[.int .u8 m, .int .u8 (sumB D / 16777216 % 256), .int .u8 (sumB D / 65536 % 256), .int .u8 (sumB D / 256 % 256), .int .u8 (sumB D % 256)] (by omega) (by omega) rfl) |>.mono (by simp)
      go_wp2_with (at_builtin; refine wpList_app rfl tyB (.tmp 20) (.tmp 34) rfl w.heap.size (n := X.length) (m := 5) (B := w'.heap.size + 1) (xs := bys X) (news := bys ((m : Int) :: tailB D)) rfl rfl (HO.out.alloc _) HN.out (bys_ok _) (by first | omega | (simp <;> omega)) (by first | omega | (simp <;> omega)) (by have := HB.out.size; simp <;> omega) ?_)
      intro v1 w1 ha
      have HO1 : Hid (Own w1 w.heap.size bT 1 v1 (X.length + 5) (bys (X ++ ((m : Int) :: tailB D)))) := by
        rw [bys_app]; exact ha.own
      have HB1 := hide ((HB.out.alloc (o := .cells #[.int .u8 m, .int .u8 (sumB D / 16777216 % 256), .int .u8 (sumB D / 65536 % 256), .int .u8 (sumB D / 256 % 256), .int .u8 (sumB D % 256)] bT) HB.out.size).trans (ha.fr.below (B := w.heap.size) (by have := HB.out.size; simp <;> omega) (fun k hk h => by have := ((HO.out.lt k h).1); omega)))
      clear ha
      go_wp2_with (at_builtin; refine wpList_app rfl tyB (.tmp 36) (.tmp 37) rfl w.heap.size (n := X.length + 5) (m := n) (B := B) (xs := bys (X ++ ((m : Int) :: tailB D))) (news := bys D) rfl rfl HO1.out (HS.out.below (HB1.out.mono hB)) (bys_ok _) (by first | omega | (simp <;> omega)) (by first | omega | (simp <;> omega)) HB1.out.size ?_)
      intro v2 w2 ha
      have HO2 : Hid (Own w2 w.heap.size bT 1 v2 (frameB D).length (bys (frameB D))) := by
        rw [HFR.out, bys_app, List.length_append, hl5, HD.out]; exact ha.own
      have HB2 := hide (HB1.out.trans (ha.fr.below (B := w.heap.size) HB1.out.size (fun k hk h => by have := ((HO1.out.lt k h).1); omega)))
      clear ha
      go_wp2_with fail
      simp only [Exit.jump]
      go_ret
      exact ⟨_, rfl, HO2.out, HB2.out⟩

end Go.Proofs.Ytlllocfcljgacaa
