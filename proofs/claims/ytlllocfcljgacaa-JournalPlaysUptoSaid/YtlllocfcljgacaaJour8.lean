/- The law's awake. -/
import Derived.Test.YtlllocfcljgacaaJour7
import Derived.Laws.BytesArg
import Derived.Lib.SlBytesConst
namespace Go.Proofs.Ytlllocfcljgacaa
open Go.RowKit
set_option linter.unusedVariables false
set_option linter.unusedSimpArgs false

abbrev tyBs : Nat := 23
theorem marked_sl (w : World) (g B : Nat) (hg : g = w.heap.size) (hB : w.heap.size < B) (k : Nat × Nat) : Sl (w.alloc (.cells #[.int .u8 97] bT k)) B (.slice (some ⟨g, 0, none⟩) 1 1) 1 1 (bys [97]) := by
  subst hg
  refine ⟨rfl, _, _, rfl, by omega, by omega, fun _ => ⟨_, rfl, hB, ?_⟩⟩
  intro j u hj
  match j, hj with
  | 0, hj => 
    injection hj with hj
    subst hj
    exact (cell_of_row _ _ 0 _ _ k (heap_alloc_new w _)).trans rfl
  | j + 1, hj => cases hj

theorem bys_map : ∀ (D : List Int), bys D = D.map (Value.int .u8)
  | [] => rfl
  | c :: D => by
    have h := bys_map D
    rw [bys] at h
    rw [bys, List.flatMap_cons, h]
    rfl

theorem bys_str (v : Value) (D : List Int) (n B : Nat) (w : World) (hs : Sl w B v 1 n (bys D)) (hD : D.length = n) :
    (convert 23 9 v).run Try.prog w = .ok (.string (strOfNums D)) w := by
  obtain ⟨A, c, rfl, hnc⟩ := hs.form
  have hA : Try.prog.underlying 23 = some (.slice bT) := Try.underlying23
  have hE : Try.prog.underlying bT = some (.int .u8) := by kernel_rfl
  have hS : Try.prog.underlying 9 = some .string := by kernel_rfl
  cases n with
  | zero =>
    have hD0 : D = [] := List.length_eq_zero_iff.1 hD
    subst hD0
    rw [run_convert_bytes_string w _ _ _ _ 0 c hA hE hS]
    cases A with
    | none => simp [Conv.bytesToString]; rfl
    | some ad =>
      rw [run_bytesToString w ad 0 c [] (by simpa using run_loadCells_list (P := Try.prog) w ad [] (by simp))]
      rfl
  | succ m =>
    obtain ⟨ad, rfl, hb, hh⟩ := hs.inv.2.2.2 (by omega)
    rw [run_convert_bytes_string w _ _ _ _ _ c hA hE hS, run_bytesToString w ad (m + 1) c D, foldl_push_bytes]
    · simp [strOfNums, ByteArray.empty, ByteArray.emptyWithCapacity]
      rfl
    · have h := run_loadCells_list (P := Try.prog) w ad (D.map (Value.int .u8)) (fun j v hj => hh j v (by rw [bys_map]; exact hj))
      simpa [hD] using h

set_option maxHeartbeats 2000000 in
theorem awake18 (w : World) : Calls Try.prog 8 #[] w fun e w' => e = .returned (.bool true) ∧ Below w.heap.size w w' := by
  go_enter Try.func8, Try.ntmps8
  go_wp2_with fail
  refine (jnew_ok _ 100 (by omega) (by omega)).mono ?_
  rintro e w1 ⟨rfl, rfl⟩
  have HJ := hide (JR.new w w.heap.size 100)
  have hE : Try.prog.underlying bT = some (.int .u8) := by kernel_rfl
  have kc : (convert 23 23 (.slice (some ⟨w.heap.size + 1, 0, none⟩) 1 1)).run Try.prog ((w.alloc (.cells #[.int .i64 100, .slice none 0 0, .slice none 0 0, .int .i64 0] jT)).alloc (.cells #[.int .u8 97] 5)) = .ok (.slice (some ⟨w.heap.size + 1, 0, none⟩) 1 1) ((w.alloc (.cells #[.int .i64 100, .slice none 0 0, .slice none 0 0, .int .i64 0] jT)).alloc (.cells #[.int .u8 97] bT (1, 2))) := by
    have h := Lib.run_convert_bytes_const (P := Try.prog) (w.alloc (.cells #[.int .i64 100, .slice none 0 0, .slice none 0 0, .int .i64 0] jT)) 23 bT #[.int .u8 97] 1 1 Try.underlying23 hE
    simp only [World.size_alloc] at h
    exact h
  go_wp2_with fail
  have HR : Hid (Recs (((w.alloc (.cells #[.int .i64 100, .slice none 0 0, .slice none 0 0, .int .i64 0] jT)).alloc (.cells #[.int .u8 97] bT (1, 2))).alloc (.cells #[.slice (some ⟨w.heap.size + 1, 0, none⟩) 1 1] sT)) (w.heap.size + 3) (.slice (some ⟨w.heap.size + 2, 0, none⟩) 1 1) [(.slice (some ⟨w.heap.size + 1, 0, none⟩) 1 1, [97])]) := by
    refine ⟨?_, ?_⟩
    · have h := (Own.new (n := 1) (sz := 1) (e := sT) (base := 0) ((w.alloc (.cells #[.int .i64 100, .slice none 0 0, .slice none 0 0, .int .i64 0] jT)).alloc (.cells #[.int .u8 97] bT (1, 2))) #[.slice (some ⟨w.heap.size + 1, 0, none⟩) 1 1] (by omega) (by omega) rfl).sl
      simp only [World.size_alloc] at h
      exact h
    · intro r hr
      rw [List.mem_singleton] at hr
      subst hr
      exact Sl.mono (Sl.alloc (marked_sl (w.alloc (.cells #[.int .i64 100, .slice none 0 0, .slice none 0 0, .int .i64 0] jT)) (w.heap.size + 1) (w.heap.size + 2) (by simp) (by simp) (1, 2)) (by simp) _) (show w.heap.size + 2 ≤ w.heap.size + 3 by omega)
  have hfr : frames [((Value.slice (some ⟨w.heap.size + 1, 0, none⟩) 1 1), [97])] = [1, 0, 0, 7, 105, 97] := by
    have h1 : cntB 1 = [1] := by rw [cntB]; rfl
    show (cntB 1 ++ tailB [97] ++ [97]) ++ [] = _
    rw [h1]
    decide
  refine (append_fits _ w.heap.size w.heap.size _ _ 100 0 [] [] _ _ _ ((HJ.out.alloc _).alloc _) HR.out (by simp) (by simp) (by intro r hr; rw [List.mem_singleton] at hr; subst hr; exact ⟨by simp, by intro c hc; simp at hc; omega⟩) (by simp) (by rw [hfr]; simp) (by omega) (by simp; omega) (by simp) (by rw [hfr]; simp)).mono ?_
  rintro e w2 ⟨bv, ev, rfl, hj, hf, _⟩
  rw [hfr] at hj
  have HJ2 := hide hj
  have HB2 := hide ((((Below.refl w.heap.size w).alloc (Nat.le_refl _) (.cells #[.int .i64 100, .slice none 0 0, .slice none 0 0, .int .i64 0] jT)).alloc (by simp) (.cells #[.int .u8 97] bT (1, 2))).alloc (by simp; omega) (.cells #[.slice (some ⟨w.heap.size + 1, 0, none⟩) 1 1] sT) |>.trans (hf.below (by simp; omega) (fun k hk h => by rcases h with h | h | h <;> first | omega | cases h)))
  clear hj hf hfr
  go_wp2_with fail
  refine (jbytes_any _ _ _ _ _ _ _ _ _ HJ2.out (by simp)).mono ?_
  rintro e w3 ⟨u, rfl, ho, hb⟩
  have hst := bys_str _ _ _ _ _ ho.sl rfl
  have HB3 := hide (HB2.out.trans (hb.mono HB2.out.size))
  clear ho hb
  go_wp2_with fail
  have hl : ((strOfNums [1, 0, 0, 7, 105, 97]).toList == [1, 0, 0, 7, 105, 97]) = true := by kernel_rfl
  go_ret
  rw [hl]
  exact ⟨rfl, HB3.out⟩

end Go.Proofs.Ytlllocfcljgacaa
