/- WindowTiles: the walk. -/
import Derived.Test.YtbnppocaeflghaaDoorAwk07
import Derived.Test.YtbnppocaeflghaaDoorAny07
import Derived.Deep.RegionHeld3
import Derived.StillTailTactics
namespace Go.Proofs.YtbnppocaeflghaaDoor
open Go.RowKit
set_option linter.unusedVariables false
set_option linter.unusedSimpArgs false

/-- a Fixed windowing gives a time one window -/
theorem fixed_asg (s o t : Int) (hs : 1 ≤ s) : Wfn.asg ⟨1, s, 0, o⟩ t = [⟨t - (t - o) % s, t - (t - o) % s + s⟩] := by
  have h0 := Int.emod_nonneg (t - o) (show s ≠ 0 by omega)
  have h1 := Int.emod_lt_of_pos (t - o) (show 0 < s by omega)
  have hst : Wfn.step ⟨1, s, 0, o⟩ = s := by simp [Wfn.step]
  have htop : Wfn.top ⟨1, s, 0, o⟩ t = t - (t - o) % s := by simp only [Wfn.top, hst]
  have hc : Wfn.cnt ⟨1, s, 0, o⟩ t = 1 := by
    have h9 := cntW_iff (t - (t - o) % s) (t - s) s (by omega)
    have h2 := (h9 0).2 (by simp; omega)
    have h3 : ¬ 1 < cntW (t - (t - o) % s) (t - s) s := fun h => by
      have := (h9 1).1 h
      simp at this
      omega
    simp only [Wfn.cnt, htop, hst]
    omega
  simp only [Wfn.asg]
  rw [if_neg (by omega), if_neg (by omega), hc, htop, hst]
  simp [downW]
theorem tile_apart (s a b : Int) (hs : 1 ≤ s) (ha : a % s = 0) (hb : b % s = 0) : a = b ∨ a + s ≤ b ∨ b + s ≤ a := by
  obtain ⟨p, rfl⟩ := Int.dvd_of_emod_eq_zero ha
  obtain ⟨q, rfl⟩ := Int.dvd_of_emod_eq_zero hb
  rcases Int.lt_trichotomy p q with h | h | h
  · have h1 : s * (p + 1) ≤ s * q := Int.mul_le_mul_of_nonneg_left (by omega) (by omega)
    rw [Int.mul_add, Int.mul_one] at h1
    exact .inr (.inl h1)
  · subst h
    exact .inl rfl
  · have h1 : s * (q + 1) ≤ s * p := Int.mul_le_mul_of_nonneg_left (by omega) (by omega)
    rw [Int.mul_add, Int.mul_one] at h1
    exact .inr (.inr h1)
set_option maxRecDepth 100000 in
set_option maxHeartbeats 8000000 in
theorem tiles_any (size offset t u : Int) (w : World) : Calls Tryd.prog 7 #[.agg #[.int .i64 size, .int .i64 offset, .int .i64 t, .int .i64 u]] w fun e w' => e = .returned (.bool true) ∧ Below w.heap.size w w' := by
  go_enter Tryd.func7, Tryd.ntmps7
  go_wp2_with fail
  go_quiet (fail)
  go_wp2_with fail
  have HB1 := hide ((((Below.refl w.heap.size w).alloc (Nat.le_refl _) (.cells #[.int .i64 size, .int .i64 offset, .int .i64 t, .int .i64 u] 57)).drewN nq).alloc (by simp) (.cells #[.int .i64 1, .int .i64 size, .int .i64 0, .int .i64 offset] 24))
  have HF1 : Hid (Blk (((w.alloc (.cells #[.int .i64 size, .int .i64 offset, .int .i64 t, .int .i64 u] 57)).drewN nq).alloc (.cells #[.int .i64 1, .int .i64 size, .int .i64 0, .int .i64 offset] 24)) (w.heap.size + 1) 24 #[.int .i64 1, .int .i64 size, .int .i64 0, .int .i64 offset]) := by
    have h9 := Blk.new ((w.alloc (.cells #[.int .i64 size, .int .i64 offset, .int .i64 t, .int .i64 u] 57)).drewN nq) 24 #[.int .i64 1, .int .i64 size, .int .i64 0, .int .i64 offset]
    simpa [Hid] using h9
  generalize (((w.alloc (.cells #[.int .i64 size, .int .i64 offset, .int .i64 t, .int .i64 u] 57)).drewN nq).alloc (.cells #[.int .i64 1, .int .i64 size, .int .i64 0, .int .i64 offset] 24)) = w1 at *
  refine (assign_any ⟨1, size, 0, offset⟩ t w1).mono ?_
  rintro e w2 ⟨v2, n2, rfl, hb2, hc2⟩
  have hblk := HF1.out.below hb2 HF1.out.lt
  have c0 : w2.cell? ⟨w.heap.size + 1, 0, none⟩ = some (.int .i64 1) := hblk.cell 0
  have c1 : w2.cell? ⟨w.heap.size + 1, 1, none⟩ = some (.int .i64 size) := hblk.cell 1
  have c2 : w2.cell? ⟨w.heap.size + 1, 2, none⟩ = some (.int .i64 0) := hblk.cell 2
  have c3 : w2.cell? ⟨w.heap.size + 1, 3, none⟩ = some (.int .i64 offset) := hblk.cell 3
  have hlt := hblk.lt
  have HB2 := hide (HB1.out.trans (hb2.mono HB1.out.size))
  have HC2 := hide hc2
  clear hblk hb2 hc2
  go_wp2_with fail
  refine (assign_any ⟨1, size, 0, offset⟩ u w2).mono ?_
  rintro e w3 ⟨v3, n3, rfl, hb3, hc3⟩
  have HB3 := hide (HB2.out.trans (hb3.mono HB2.out.size))
  have HBb := hide hb3
  have hz3 := hb3.size
  clear hb3 c0 c1 c2 c3
  rcases HC2.out with ⟨hr, ht1, ht2, rfl, ho2⟩ | ⟨_, rfl, rfl⟩ | ⟨_, _, rfl, rfl⟩
  · rcases hc3 with ⟨_, hu1, hu2, rfl, ho3⟩ | ⟨_, rfl, rfl⟩ | ⟨_, _, rfl, rfl⟩
    · have hs : 1 ≤ size ∧ size ≤ 1048576 ∧ 0 ≤ offset ∧ offset < size := by unfold Wfn.right at hr; simp only at hr; omega
      rw [fixed_asg size offset t hs.1] at ho2
      rw [fixed_asg size offset u hs.1] at ho3
      have et0 := Int.emod_nonneg (t - offset) (show size ≠ 0 by omega)
      have et1 := Int.emod_lt_of_pos (t - offset) (show 0 < size by omega)
      have eu0 := Int.emod_nonneg (u - offset) (show size ≠ 0 by omega)
      have eu1 := Int.emod_lt_of_pos (u - offset) (show 0 < size by omega)
      have hcase := tile_apart size (t - offset - (t - offset) % size) (u - offset - (u - offset) % size) hs.1 (sub_mod_zero _ _) (sub_mod_zero _ _)
      have hmod : (t - offset - (t - offset) % size).tmod size = 0 := by
        have h9 := Int.mul_ediv_add_emod (t - offset) size
        rw [show t - offset - (t - offset) % size = size * ((t - offset) / size) by omega]
        exact Int.mul_tmod_right _ _
      obtain ⟨T, hT⟩ : ∃ T, T = t - (t - offset) % size := ⟨_, rfl⟩
      obtain ⟨U, hU⟩ : ∃ U, U = u - (u - offset) % size := ⟨_, rfl⟩
      rw [← hT] at ho2
      rw [← hU] at ho3
      rw [show t - offset - (t - offset) % size = T - offset by omega, show u - offset - (u - offset) % size = U - offset by omega] at hcase
      rw [show t - offset - (t - offset) % size = T - offset by omega] at hmod
      have hTb : -1048576 ≤ T ∧ T ≤ 1048576 := by omega
      have hUb : -1048576 ≤ U ∧ U ≤ 1048576 := by omega
      have hcc : (T = U) ∨ (¬ T = U ∧ T + size ≤ U) ∨ (¬ T = U ∧ ¬ T + size ≤ U ∧ U + size ≤ T) := by omega
      clear hT hU et0 et1 eu0 eu1 hcase hr
      obtain ⟨A2, d2, rfl, hd2⟩ := ho2.sl.form
      obtain ⟨A3, d3, rfl, hd3⟩ := ho3.sl.form
      simp only [List.length_singleton] at hd2 hd3 ho2 ho3 ⊢
      obtain ⟨a2, rfl, p1, p2, p3⟩ := win_at (ho2.below HBb.out).sl (k := 0) (by omega) rfl
      obtain ⟨a3, rfl, q1, q2, q3⟩ := win_at ho3.sl (k := 0) (by omega) rfl
      simp only [Nat.zero_mul, List.getElem_cons_zero, add_zero'] at p1 p2 p3 q1 q2 q3
      clear ho2 ho3
      have HPQ : Hid (∀ w', Below w3.heap.size w3 w' → w'.cell? a2 = some (.int .i64 T) ∧ w'.cell? ⟨a2.block, a2.off + 1, none⟩ = some (.int .i64 (T + size)) ∧ w'.cell? a3 = some (.int .i64 U) ∧ w'.cell? ⟨a3.block, a3.off + 1, none⟩ = some (.int .i64 (U + size))) := fun w' hb =>
        ⟨below_cell hb p1 p2, below_cell hb p1 p3, below_cell hb q1 q2, below_cell hb q1 q3⟩
      obtain ⟨hs1, hs2, hs3, hs4⟩ := hs
      obtain ⟨hTb1, hTb2⟩ := hTb
      obtain ⟨hUb1, hUb2⟩ := hUb
      have hs0 : ¬ size = 0 := by omega
      have hsb : (size == 0) = false := by simp [hs0]
      have w1 : IntKind.i64.wrap (T + size - T) = size := by rw [IntWalk.i64_in _ (by omega)]; omega
      have w2 : IntKind.i64.wrap (T - offset) = T - offset := IntWalk.i64_in _ (by omega)
      have g1 : (size != size) = false := by simp
      have g2 : ((0 : Int) != 0) = false := rfl
      go_wp2_with fail
      go_region_held3 (fun w' : World => w'.cell? a2 = some (.int .i64 T) ∧ w'.cell? ⟨a2.block, a2.off + 1, none⟩ = some (.int .i64 (T + size)) ∧ w'.cell? a3 = some (.int .i64 U) ∧ w'.cell? ⟨a3.block, a3.off + 1, none⟩ = some (.int .i64 (U + size))) (first | exact ⟨p2, p3, q2, q3⟩) (fail)
      go_wp2_with fail
      clear w1 w2 g1 g2 hmod hsb
      have f1 : (T == T) = true := by simp
      have f2 : (T + size == T + size) = true := by simp
      rcases hcc with h9 | ⟨h9, h10⟩ | ⟨h9, h10, h11⟩
      · subst h9
        refine wp_region_held_drew (S := (fun w' : World => w'.cell? a2 = some (.int .i64 T) ∧ w'.cell? ⟨a2.block, a2.off + 1, none⟩ = some (.int .i64 (T + size)) ∧ w'.cell? a3 = some (.int .i64 T) ∧ w'.cell? ⟨a3.block, a3.off + 1, none⟩ = some (.int .i64 (T + size)))) (by kernel_rfl) ⟨p2, p3, q2, q3⟩ (fun hHeld => ?_)
        refine wpAnyH_take (i := 0) (oi := { dst := some 74, op := Op.move (Operand.tmp 8), type := 28, pos := "law.go:204", after := #[], guard := none }) (v := ?_) rfl (by kernel_rfl) (by kernel_rfl) (by kernel_rfl) (fun _ _ _ h => h) (Or.inl ⟨by rfl, ?_⟩) (by assumption) ?_
        rotate_left 1
        · (intro w hSw; (try dsimp only at hSw); go_simp; (try with_reducible rfl))
        (try simp only [Act.put, List.setIfInBounds_toArray, List.set_cons_zero, List.set_cons_succ])
        refine wpAnyH_take (i := 1) (oi := { dst := some 75, op := Op.indexAddr 28 (Operand.tmp 74) (Operand.const (Value.int IntKind.i64 0)), type := 0, pos := "law.go:204", after := #[{ on := 0, ground := Ground.data }], guard := none }) (v := ?_) rfl (by kernel_rfl) (by kernel_rfl) (by kernel_rfl) (fun _ _ _ h => h) (Or.inl ⟨by rfl, ?_⟩) (by assumption) ?_
        rotate_left 1
        · (intro w hSw; (try dsimp only at hSw); go_simp; (try with_reducible rfl))
        (try simp only [Act.put, List.setIfInBounds_toArray, List.set_cons_zero, List.set_cons_succ])
        refine wpAnyH_take (i := 2) (oi := { dst := some 76, op := Op.load 33 (Operand.tmp 75), type := 33, pos := "law.go:204", after := #[{ on := 1, ground := Ground.data }], guard := none }) (v := ?_) rfl (by kernel_rfl) (by kernel_rfl) (by kernel_rfl) (fun _ _ _ h => h) (Or.inl ⟨by rfl, ?_⟩) (by assumption) ?_
        rotate_left 1
        · (intro w hSw; (try dsimp only at hSw); go_simp; (try with_reducible rfl))
        (try simp only [Act.put, List.setIfInBounds_toArray, List.set_cons_zero, List.set_cons_succ])
        refine wpAnyH_take (i := 3) (oi := { dst := some 77, op := Op.move (Operand.tmp 10), type := 28, pos := "law.go:204", after := #[], guard := none }) (v := ?_) rfl (by kernel_rfl) (by kernel_rfl) (by kernel_rfl) (fun _ _ _ h => h) (Or.inl ⟨by rfl, ?_⟩) (by assumption) ?_
        rotate_left 1
        · (intro w hSw; (try dsimp only at hSw); go_simp; (try with_reducible rfl))
        (try simp only [Act.put, List.setIfInBounds_toArray, List.set_cons_zero, List.set_cons_succ])
        refine wpAnyH_take (i := 4) (oi := { dst := some 78, op := Op.indexAddr 28 (Operand.tmp 77) (Operand.const (Value.int IntKind.i64 0)), type := 0, pos := "law.go:204", after := #[{ on := 3, ground := Ground.data }], guard := none }) (v := ?_) rfl (by kernel_rfl) (by kernel_rfl) (by kernel_rfl) (fun _ _ _ h => h) (Or.inl ⟨by rfl, ?_⟩) (by assumption) ?_
        rotate_left 1
        · (intro w hSw; (try dsimp only at hSw); go_simp; (try with_reducible rfl))
        (try simp only [Act.put, List.setIfInBounds_toArray, List.set_cons_zero, List.set_cons_succ])
        refine wpAnyH_take (i := 5) (oi := { dst := some 79, op := Op.load 33 (Operand.tmp 78), type := 33, pos := "law.go:204", after := #[{ on := 4, ground := Ground.data }], guard := none }) (v := ?_) rfl (by kernel_rfl) (by kernel_rfl) (by kernel_rfl) (fun _ _ _ h => h) (Or.inl ⟨by rfl, ?_⟩) (by assumption) ?_
        rotate_left 1
        · (intro w hSw; (try dsimp only at hSw); go_simp; (try with_reducible rfl))
        (try simp only [Act.put, List.setIfInBounds_toArray, List.set_cons_zero, List.set_cons_succ])
        refine wpAnyH_take (i := 6) (oi := { dst := some 80, op := Op.binOp BinOp.eql 33 (Operand.tmp 76) (Operand.tmp 79) 33, type := 4, pos := "law.go:204", after := #[{ on := 2, ground := Ground.data }, { on := 5, ground := Ground.data }], guard := none }) (v := ?_) rfl (by kernel_rfl) (by kernel_rfl) (by kernel_rfl) (fun _ _ _ h => h) (Or.inl ⟨by rfl, ?_⟩) (by assumption) ?_
        rotate_left 1
        · (intro w hSw; (try dsimp only at hSw); go_simp; (try with_reducible rfl))
        (try simp only [Act.put, List.setIfInBounds_toArray, List.set_cons_zero, List.set_cons_succ])
        refine wpAnyH_take (i := 7) (oi := { dst := some 81, op := Op.move (Operand.tmp 80), type := 4, pos := "law.go:204", after := #[{ on := 6, ground := Ground.data }], guard := none }) (v := ?_) rfl (by kernel_rfl) (by kernel_rfl) (by kernel_rfl) (fun _ _ _ h => h) (Or.inl ⟨by rfl, ?_⟩) (by assumption) ?_
        rotate_left 1
        · (intro w hSw; (try dsimp only at hSw); go_simp; (try with_reducible rfl))
        (try simp only [Act.put, List.setIfInBounds_toArray, List.set_cons_zero, List.set_cons_succ])
        refine wpAnyH_take (i := 8) (oi := { dst := some 82, op := Op.move (Operand.tmp 8), type := 28, pos := "law.go:204", after := #[{ on := 7, ground := Ground.guard }], guard := some (7, false) }) (v := undef) rfl (by kernel_rfl) (by kernel_rfl) (by kernel_rfl) (fun _ _ _ h => h) (Or.inr ⟨by rfl, rfl⟩) (by assumption) ?_
        (try simp only [Act.put, List.setIfInBounds_toArray, List.set_cons_zero, List.set_cons_succ])
        refine wpAnyH_take (i := 9) (oi := { dst := some 83, op := Op.indexAddr 28 (Operand.tmp 82) (Operand.const (Value.int IntKind.i64 0)), type := 0, pos := "law.go:204", after := #[{ on := 8, ground := Ground.data }, { on := 7, ground := Ground.guard }], guard := some (7, false) }) (v := undef) rfl (by kernel_rfl) (by kernel_rfl) (by kernel_rfl) (fun _ _ _ h => h) (Or.inr ⟨by rfl, rfl⟩) (by assumption) ?_
        (try simp only [Act.put, List.setIfInBounds_toArray, List.set_cons_zero, List.set_cons_succ])
        refine wpAnyH_take (i := 10) (oi := { dst := some 84, op := Op.fieldAddr 33 (Operand.tmp 83) 1, type := 0, pos := "law.go:204", after := #[{ on := 9, ground := Ground.data }, { on := 7, ground := Ground.guard }], guard := some (7, false) }) (v := undef) rfl (by kernel_rfl) (by kernel_rfl) (by kernel_rfl) (fun _ _ _ h => h) (Or.inr ⟨by rfl, rfl⟩) (by assumption) ?_
        (try simp only [Act.put, List.setIfInBounds_toArray, List.set_cons_zero, List.set_cons_succ])
        refine wpAnyH_take (i := 11) (oi := { dst := some 85, op := Op.load 3 (Operand.tmp 84), type := 3, pos := "law.go:204", after := #[{ on := 10, ground := Ground.data }, { on := 7, ground := Ground.guard }], guard := some (7, false) }) (v := undef) rfl (by kernel_rfl) (by kernel_rfl) (by kernel_rfl) (fun _ _ _ h => h) (Or.inr ⟨by rfl, rfl⟩) (by assumption) ?_
        (try simp only [Act.put, List.setIfInBounds_toArray, List.set_cons_zero, List.set_cons_succ])
        refine wpAnyH_take (i := 12) (oi := { dst := some 86, op := Op.move (Operand.tmp 10), type := 28, pos := "law.go:204", after := #[{ on := 7, ground := Ground.guard }], guard := some (7, false) }) (v := undef) rfl (by kernel_rfl) (by kernel_rfl) (by kernel_rfl) (fun _ _ _ h => h) (Or.inr ⟨by rfl, rfl⟩) (by assumption) ?_
        (try simp only [Act.put, List.setIfInBounds_toArray, List.set_cons_zero, List.set_cons_succ])
        refine wpAnyH_take (i := 13) (oi := { dst := some 87, op := Op.indexAddr 28 (Operand.tmp 86) (Operand.const (Value.int IntKind.i64 0)), type := 0, pos := "law.go:204", after := #[{ on := 12, ground := Ground.data }, { on := 7, ground := Ground.guard }], guard := some (7, false) }) (v := undef) rfl (by kernel_rfl) (by kernel_rfl) (by kernel_rfl) (fun _ _ _ h => h) (Or.inr ⟨by rfl, rfl⟩) (by assumption) ?_
        (try simp only [Act.put, List.setIfInBounds_toArray, List.set_cons_zero, List.set_cons_succ])
        refine wpAnyH_take (i := 14) (oi := { dst := some 88, op := Op.fieldAddr 33 (Operand.tmp 87) 0, type := 0, pos := "law.go:204", after := #[{ on := 13, ground := Ground.data }, { on := 7, ground := Ground.guard }], guard := some (7, false) }) (v := undef) rfl (by kernel_rfl) (by kernel_rfl) (by kernel_rfl) (fun _ _ _ h => h) (Or.inr ⟨by rfl, rfl⟩) (by assumption) ?_
        (try simp only [Act.put, List.setIfInBounds_toArray, List.set_cons_zero, List.set_cons_succ])
        refine wpAnyH_take (i := 15) (oi := { dst := some 89, op := Op.load 3 (Operand.tmp 88), type := 3, pos := "law.go:204", after := #[{ on := 14, ground := Ground.data }, { on := 7, ground := Ground.guard }], guard := some (7, false) }) (v := undef) rfl (by kernel_rfl) (by kernel_rfl) (by kernel_rfl) (fun _ _ _ h => h) (Or.inr ⟨by rfl, rfl⟩) (by assumption) ?_
        (try simp only [Act.put, List.setIfInBounds_toArray, List.set_cons_zero, List.set_cons_succ])
        refine wpAnyH_take (i := 16) (oi := { dst := some 90, op := Op.binOp BinOp.leq 3 (Operand.tmp 85) (Operand.tmp 89) 3, type := 4, pos := "law.go:204", after := #[{ on := 11, ground := Ground.data }, { on := 15, ground := Ground.data }, { on := 7, ground := Ground.guard }], guard := some (7, false) }) (v := undef) rfl (by kernel_rfl) (by kernel_rfl) (by kernel_rfl) (fun _ _ _ h => h) (Or.inr ⟨by rfl, rfl⟩) (by assumption) ?_
        (try simp only [Act.put, List.setIfInBounds_toArray, List.set_cons_zero, List.set_cons_succ])
        refine wpAnyH_take (i := 17) (oi := { dst := some 91, op := Op.pick (Operand.tmp 81) (Operand.const (Value.bool true)) (Operand.tmp 90), type := 4, pos := "law.go:204", after := #[{ on := 7, ground := Ground.data }, { on := 16, ground := Ground.data }], guard := none }) (v := ?_) rfl (by kernel_rfl) (by kernel_rfl) (by kernel_rfl) (fun _ _ _ h => h) (Or.inl ⟨by rfl, ?_⟩) (by assumption) ?_
        rotate_left 1
        · (intro w hSw; (try dsimp only at hSw); go_simp; (try with_reducible rfl))
        (try simp only [Act.put, List.setIfInBounds_toArray, List.set_cons_zero, List.set_cons_succ])
        refine wpAnyH_take (i := 18) (oi := { dst := some 92, op := Op.move (Operand.tmp 91), type := 4, pos := "law.go:204", after := #[{ on := 17, ground := Ground.data }, { on := 7, ground := Ground.chain }], guard := none }) (v := ?_) rfl (by kernel_rfl) (by kernel_rfl) (by kernel_rfl) (fun _ _ _ h => h) (Or.inl ⟨by rfl, ?_⟩) (by assumption) ?_
        rotate_left 1
        · (intro w hSw; (try dsimp only at hSw); go_simp; (try with_reducible rfl))
        (try simp only [Act.put, List.setIfInBounds_toArray, List.set_cons_zero, List.set_cons_succ])
        refine wpAnyH_take (i := 19) (oi := { dst := some 93, op := Op.move (Operand.tmp 10), type := 28, pos := "law.go:204", after := #[{ on := 18, ground := Ground.guard }], guard := some (18, false) }) (v := undef) rfl (by kernel_rfl) (by kernel_rfl) (by kernel_rfl) (fun _ _ _ h => h) (Or.inr ⟨by rfl, rfl⟩) (by assumption) ?_
        (try simp only [Act.put, List.setIfInBounds_toArray, List.set_cons_zero, List.set_cons_succ])
        refine wpAnyH_take (i := 20) (oi := { dst := some 94, op := Op.indexAddr 28 (Operand.tmp 93) (Operand.const (Value.int IntKind.i64 0)), type := 0, pos := "law.go:204", after := #[{ on := 19, ground := Ground.data }, { on := 18, ground := Ground.guard }], guard := some (18, false) }) (v := undef) rfl (by kernel_rfl) (by kernel_rfl) (by kernel_rfl) (fun _ _ _ h => h) (Or.inr ⟨by rfl, rfl⟩) (by assumption) ?_
        (try simp only [Act.put, List.setIfInBounds_toArray, List.set_cons_zero, List.set_cons_succ])
        refine wpAnyH_take (i := 21) (oi := { dst := some 95, op := Op.fieldAddr 33 (Operand.tmp 94) 1, type := 0, pos := "law.go:204", after := #[{ on := 20, ground := Ground.data }, { on := 18, ground := Ground.guard }], guard := some (18, false) }) (v := undef) rfl (by kernel_rfl) (by kernel_rfl) (by kernel_rfl) (fun _ _ _ h => h) (Or.inr ⟨by rfl, rfl⟩) (by assumption) ?_
        (try simp only [Act.put, List.setIfInBounds_toArray, List.set_cons_zero, List.set_cons_succ])
        refine wpAnyH_take (i := 22) (oi := { dst := some 96, op := Op.load 3 (Operand.tmp 95), type := 3, pos := "law.go:204", after := #[{ on := 21, ground := Ground.data }, { on := 18, ground := Ground.guard }], guard := some (18, false) }) (v := undef) rfl (by kernel_rfl) (by kernel_rfl) (by kernel_rfl) (fun _ _ _ h => h) (Or.inr ⟨by rfl, rfl⟩) (by assumption) ?_
        (try simp only [Act.put, List.setIfInBounds_toArray, List.set_cons_zero, List.set_cons_succ])
        refine wpAnyH_take (i := 23) (oi := { dst := some 97, op := Op.move (Operand.tmp 8), type := 28, pos := "law.go:204", after := #[{ on := 18, ground := Ground.guard }], guard := some (18, false) }) (v := undef) rfl (by kernel_rfl) (by kernel_rfl) (by kernel_rfl) (fun _ _ _ h => h) (Or.inr ⟨by rfl, rfl⟩) (by assumption) ?_
        (try simp only [Act.put, List.setIfInBounds_toArray, List.set_cons_zero, List.set_cons_succ])
        refine wpAnyH_take (i := 24) (oi := { dst := some 98, op := Op.indexAddr 28 (Operand.tmp 97) (Operand.const (Value.int IntKind.i64 0)), type := 0, pos := "law.go:204", after := #[{ on := 23, ground := Ground.data }, { on := 18, ground := Ground.guard }], guard := some (18, false) }) (v := undef) rfl (by kernel_rfl) (by kernel_rfl) (by kernel_rfl) (fun _ _ _ h => h) (Or.inr ⟨by rfl, rfl⟩) (by assumption) ?_
        (try simp only [Act.put, List.setIfInBounds_toArray, List.set_cons_zero, List.set_cons_succ])
        refine wpAnyH_take (i := 25) (oi := { dst := some 99, op := Op.fieldAddr 33 (Operand.tmp 98) 0, type := 0, pos := "law.go:204", after := #[{ on := 24, ground := Ground.data }, { on := 18, ground := Ground.guard }], guard := some (18, false) }) (v := undef) rfl (by kernel_rfl) (by kernel_rfl) (by kernel_rfl) (fun _ _ _ h => h) (Or.inr ⟨by rfl, rfl⟩) (by assumption) ?_
        (try simp only [Act.put, List.setIfInBounds_toArray, List.set_cons_zero, List.set_cons_succ])
        refine wpAnyH_take (i := 26) (oi := { dst := some 100, op := Op.load 3 (Operand.tmp 99), type := 3, pos := "law.go:204", after := #[{ on := 25, ground := Ground.data }, { on := 18, ground := Ground.guard }], guard := some (18, false) }) (v := undef) rfl (by kernel_rfl) (by kernel_rfl) (by kernel_rfl) (fun _ _ _ h => h) (Or.inr ⟨by rfl, rfl⟩) (by assumption) ?_
        (try simp only [Act.put, List.setIfInBounds_toArray, List.set_cons_zero, List.set_cons_succ])
        refine wpAnyH_take (i := 27) (oi := { dst := some 101, op := Op.binOp BinOp.leq 3 (Operand.tmp 96) (Operand.tmp 100) 3, type := 4, pos := "law.go:204", after := #[{ on := 22, ground := Ground.data }, { on := 26, ground := Ground.data }, { on := 18, ground := Ground.guard }], guard := some (18, false) }) (v := undef) rfl (by kernel_rfl) (by kernel_rfl) (by kernel_rfl) (fun _ _ _ h => h) (Or.inr ⟨by rfl, rfl⟩) (by assumption) ?_
        (try simp only [Act.put, List.setIfInBounds_toArray, List.set_cons_zero, List.set_cons_succ])
        refine wpAnyH_take (i := 28) (oi := { dst := some 102, op := Op.pick (Operand.tmp 92) (Operand.const (Value.bool true)) (Operand.tmp 101), type := 4, pos := "law.go:204", after := #[{ on := 18, ground := Ground.data }, { on := 27, ground := Ground.data }], guard := none }) (v := ?_) rfl (by kernel_rfl) (by kernel_rfl) (by kernel_rfl) (fun _ _ _ h => h) (Or.inl ⟨by rfl, ?_⟩) (by assumption) ?_
        rotate_left 1
        · (intro w hSw; (try dsimp only at hSw); go_simp; (try with_reducible rfl))
        (try simp only [Act.put, List.setIfInBounds_toArray, List.set_cons_zero, List.set_cons_succ])
        refine wpAnyH_take (i := 29) (oi := { dst := some 103, op := Op.move (Operand.tmp 102), type := 4, pos := "law.go:204", after := #[{ on := 28, ground := Ground.data }, { on := 18, ground := Ground.chain }], guard := none }) (v := ?_) rfl (by kernel_rfl) (by kernel_rfl) (by kernel_rfl) (fun _ _ _ h => h) (Or.inl ⟨by rfl, ?_⟩) (by assumption) ?_
        rotate_left 1
        · (intro w hSw; (try dsimp only at hSw); go_simp; (try with_reducible rfl))
        (try simp only [Act.put, List.setIfInBounds_toArray, List.set_cons_zero, List.set_cons_succ])
        refine wpAnyH_ready (rs := [30]) (by kernel_rfl) (by simp) ?_
        refine AllReadyH.cons (o := { dst := some 104, op := Op.call { callee := Callee.value (Operand.func 13), args := #[], argTypes := #[] }, type := 4, pos := "law.go:204", after := #[{ on := 29, ground := Ground.chain }, { on := 29, ground := Ground.guard }], guard := some (29, true) }) rfl (fun K hK => ?_) AllReadyH.nil
        go_simp
        go_at_call 13
        refine (awake07 _).mono ?_
        rintro e w11 ⟨rfl, hb11⟩
        go_simp
        refine hK.out _ _ (HPQ.out _ (((Below.refl w3.heap.size w3).drewN 2).trans hb11)) (fun hHeld2 => ?_)
        clear hK K
        (try simp only [Act.put, List.setIfInBounds_toArray, List.set_cons_zero, List.set_cons_succ])
        refine wpAnyH_take (i := 31) (oi := { dst := some 105, op := Op.pick (Operand.tmp 103) (Operand.tmp 104) (Operand.const (Value.bool false)), type := 4, pos := "law.go:204", after := #[{ on := 29, ground := Ground.data }, { on := 30, ground := Ground.data }], guard := none }) (v := ?_) rfl (by kernel_rfl) (by kernel_rfl) (by kernel_rfl) (fun _ _ _ h => h) (Or.inl ⟨by rfl, ?_⟩) (by assumption) ?_
        rotate_left 1
        · (intro w hSw; (try dsimp only at hSw); go_simp; (try with_reducible rfl))
        (try simp only [Act.put, List.setIfInBounds_toArray, List.set_cons_zero, List.set_cons_succ])
        refine wpAnyH_take (i := 32) (oi := { dst := some 2, op := Op.assign (Operand.tmp 105), type := 4, pos := "law.go:204", after := #[{ on := 31, ground := Ground.data }, { on := 30, ground := Ground.chain }, { on := 0, ground := Ground.phase }, { on := 1, ground := Ground.phase }, { on := 2, ground := Ground.phase }, { on := 3, ground := Ground.phase }, { on := 4, ground := Ground.phase }, { on := 5, ground := Ground.phase }, { on := 6, ground := Ground.phase }, { on := 7, ground := Ground.phase }, { on := 8, ground := Ground.phase }, { on := 9, ground := Ground.phase }, { on := 10, ground := Ground.phase }, { on := 11, ground := Ground.phase }, { on := 12, ground := Ground.phase }, { on := 13, ground := Ground.phase }, { on := 14, ground := Ground.phase }, { on := 15, ground := Ground.phase }, { on := 16, ground := Ground.phase }, { on := 17, ground := Ground.phase }, { on := 18, ground := Ground.phase }, { on := 19, ground := Ground.phase }, { on := 20, ground := Ground.phase }, { on := 21, ground := Ground.phase }, { on := 22, ground := Ground.phase }, { on := 23, ground := Ground.phase }, { on := 24, ground := Ground.phase }, { on := 25, ground := Ground.phase }, { on := 26, ground := Ground.phase }, { on := 27, ground := Ground.phase }, { on := 28, ground := Ground.phase }, { on := 29, ground := Ground.phase }, { on := 30, ground := Ground.phase }, { on := 31, ground := Ground.phase }], guard := none }) (v := ?_) rfl (by kernel_rfl) (by kernel_rfl) (by kernel_rfl) (fun _ _ _ h => h) (Or.inl ⟨by rfl, ?_⟩) (by assumption) ?_
        rotate_left 1
        · (intro w hSw; (try dsimp only at hSw); go_simp; (try with_reducible rfl))
        (try simp only [Act.put, List.setIfInBounds_toArray, List.set_cons_zero, List.set_cons_succ])
        refine wpAnyH_done (by kernel_rfl) ?_ _
        go_wp2_with fail
        go_ret
        exact ⟨rfl, HB3.out.trans ((((Below.refl w3.heap.size w3).drewN 2).trans hb11).mono HB3.out.size)⟩
      · have f3 : (T == U) = false := by simp [h9]
        have f4 : decide (T + size ≤ U) = true := decide_eq_true (by omega)
        refine wp_region_held_drew (S := (fun w' : World => w'.cell? a2 = some (.int .i64 T) ∧ w'.cell? ⟨a2.block, a2.off + 1, none⟩ = some (.int .i64 (T + size)) ∧ w'.cell? a3 = some (.int .i64 U) ∧ w'.cell? ⟨a3.block, a3.off + 1, none⟩ = some (.int .i64 (U + size)))) (by kernel_rfl) ⟨p2, p3, q2, q3⟩ (fun hHeld => ?_)
        refine wpAnyH_take (i := 0) (oi := { dst := some 74, op := Op.move (Operand.tmp 8), type := 28, pos := "law.go:204", after := #[], guard := none }) (v := ?_) rfl (by kernel_rfl) (by kernel_rfl) (by kernel_rfl) (fun _ _ _ h => h) (Or.inl ⟨by rfl, ?_⟩) (by assumption) ?_
        rotate_left 1
        · (intro w hSw; (try dsimp only at hSw); go_simp; (try with_reducible rfl))
        (try simp only [Act.put, List.setIfInBounds_toArray, List.set_cons_zero, List.set_cons_succ])
        refine wpAnyH_take (i := 1) (oi := { dst := some 75, op := Op.indexAddr 28 (Operand.tmp 74) (Operand.const (Value.int IntKind.i64 0)), type := 0, pos := "law.go:204", after := #[{ on := 0, ground := Ground.data }], guard := none }) (v := ?_) rfl (by kernel_rfl) (by kernel_rfl) (by kernel_rfl) (fun _ _ _ h => h) (Or.inl ⟨by rfl, ?_⟩) (by assumption) ?_
        rotate_left 1
        · (intro w hSw; (try dsimp only at hSw); go_simp; (try with_reducible rfl))
        (try simp only [Act.put, List.setIfInBounds_toArray, List.set_cons_zero, List.set_cons_succ])
        refine wpAnyH_take (i := 2) (oi := { dst := some 76, op := Op.load 33 (Operand.tmp 75), type := 33, pos := "law.go:204", after := #[{ on := 1, ground := Ground.data }], guard := none }) (v := ?_) rfl (by kernel_rfl) (by kernel_rfl) (by kernel_rfl) (fun _ _ _ h => h) (Or.inl ⟨by rfl, ?_⟩) (by assumption) ?_
        rotate_left 1
        · (intro w hSw; (try dsimp only at hSw); go_simp; (try with_reducible rfl))
        (try simp only [Act.put, List.setIfInBounds_toArray, List.set_cons_zero, List.set_cons_succ])
        refine wpAnyH_take (i := 3) (oi := { dst := some 77, op := Op.move (Operand.tmp 10), type := 28, pos := "law.go:204", after := #[], guard := none }) (v := ?_) rfl (by kernel_rfl) (by kernel_rfl) (by kernel_rfl) (fun _ _ _ h => h) (Or.inl ⟨by rfl, ?_⟩) (by assumption) ?_
        rotate_left 1
        · (intro w hSw; (try dsimp only at hSw); go_simp; (try with_reducible rfl))
        (try simp only [Act.put, List.setIfInBounds_toArray, List.set_cons_zero, List.set_cons_succ])
        refine wpAnyH_take (i := 4) (oi := { dst := some 78, op := Op.indexAddr 28 (Operand.tmp 77) (Operand.const (Value.int IntKind.i64 0)), type := 0, pos := "law.go:204", after := #[{ on := 3, ground := Ground.data }], guard := none }) (v := ?_) rfl (by kernel_rfl) (by kernel_rfl) (by kernel_rfl) (fun _ _ _ h => h) (Or.inl ⟨by rfl, ?_⟩) (by assumption) ?_
        rotate_left 1
        · (intro w hSw; (try dsimp only at hSw); go_simp; (try with_reducible rfl))
        (try simp only [Act.put, List.setIfInBounds_toArray, List.set_cons_zero, List.set_cons_succ])
        refine wpAnyH_take (i := 5) (oi := { dst := some 79, op := Op.load 33 (Operand.tmp 78), type := 33, pos := "law.go:204", after := #[{ on := 4, ground := Ground.data }], guard := none }) (v := ?_) rfl (by kernel_rfl) (by kernel_rfl) (by kernel_rfl) (fun _ _ _ h => h) (Or.inl ⟨by rfl, ?_⟩) (by assumption) ?_
        rotate_left 1
        · (intro w hSw; (try dsimp only at hSw); go_simp; (try with_reducible rfl))
        (try simp only [Act.put, List.setIfInBounds_toArray, List.set_cons_zero, List.set_cons_succ])
        refine wpAnyH_take (i := 6) (oi := { dst := some 80, op := Op.binOp BinOp.eql 33 (Operand.tmp 76) (Operand.tmp 79) 33, type := 4, pos := "law.go:204", after := #[{ on := 2, ground := Ground.data }, { on := 5, ground := Ground.data }], guard := none }) (v := ?_) rfl (by kernel_rfl) (by kernel_rfl) (by kernel_rfl) (fun _ _ _ h => h) (Or.inl ⟨by rfl, ?_⟩) (by assumption) ?_
        rotate_left 1
        · (intro w hSw; (try dsimp only at hSw); go_simp; (try with_reducible rfl))
        (try simp only [Act.put, List.setIfInBounds_toArray, List.set_cons_zero, List.set_cons_succ])
        refine wpAnyH_take (i := 7) (oi := { dst := some 81, op := Op.move (Operand.tmp 80), type := 4, pos := "law.go:204", after := #[{ on := 6, ground := Ground.data }], guard := none }) (v := ?_) rfl (by kernel_rfl) (by kernel_rfl) (by kernel_rfl) (fun _ _ _ h => h) (Or.inl ⟨by rfl, ?_⟩) (by assumption) ?_
        rotate_left 1
        · (intro w hSw; (try dsimp only at hSw); go_simp; (try with_reducible rfl))
        (try simp only [Act.put, List.setIfInBounds_toArray, List.set_cons_zero, List.set_cons_succ])
        refine wpAnyH_take (i := 8) (oi := { dst := some 82, op := Op.move (Operand.tmp 8), type := 28, pos := "law.go:204", after := #[{ on := 7, ground := Ground.guard }], guard := some (7, false) }) (v := ?_) rfl (by kernel_rfl) (by kernel_rfl) (by kernel_rfl) (fun _ _ _ h => h) (Or.inl ⟨by rfl, ?_⟩) (by assumption) ?_
        rotate_left 1
        · (intro w hSw; (try dsimp only at hSw); go_simp; (try with_reducible rfl))
        (try simp only [Act.put, List.setIfInBounds_toArray, List.set_cons_zero, List.set_cons_succ])
        refine wpAnyH_take (i := 9) (oi := { dst := some 83, op := Op.indexAddr 28 (Operand.tmp 82) (Operand.const (Value.int IntKind.i64 0)), type := 0, pos := "law.go:204", after := #[{ on := 8, ground := Ground.data }, { on := 7, ground := Ground.guard }], guard := some (7, false) }) (v := ?_) rfl (by kernel_rfl) (by kernel_rfl) (by kernel_rfl) (fun _ _ _ h => h) (Or.inl ⟨by rfl, ?_⟩) (by assumption) ?_
        rotate_left 1
        · (intro w hSw; (try dsimp only at hSw); go_simp; (try with_reducible rfl))
        (try simp only [Act.put, List.setIfInBounds_toArray, List.set_cons_zero, List.set_cons_succ])
        refine wpAnyH_take (i := 10) (oi := { dst := some 84, op := Op.fieldAddr 33 (Operand.tmp 83) 1, type := 0, pos := "law.go:204", after := #[{ on := 9, ground := Ground.data }, { on := 7, ground := Ground.guard }], guard := some (7, false) }) (v := ?_) rfl (by kernel_rfl) (by kernel_rfl) (by kernel_rfl) (fun _ _ _ h => h) (Or.inl ⟨by rfl, ?_⟩) (by assumption) ?_
        rotate_left 1
        · (intro w hSw; (try dsimp only at hSw); go_simp; (try with_reducible rfl))
        (try simp only [Act.put, List.setIfInBounds_toArray, List.set_cons_zero, List.set_cons_succ])
        refine wpAnyH_take (i := 11) (oi := { dst := some 85, op := Op.load 3 (Operand.tmp 84), type := 3, pos := "law.go:204", after := #[{ on := 10, ground := Ground.data }, { on := 7, ground := Ground.guard }], guard := some (7, false) }) (v := ?_) rfl (by kernel_rfl) (by kernel_rfl) (by kernel_rfl) (fun _ _ _ h => h) (Or.inl ⟨by rfl, ?_⟩) (by assumption) ?_
        rotate_left 1
        · (intro w hSw; (try dsimp only at hSw); go_simp; (try with_reducible rfl))
        (try simp only [Act.put, List.setIfInBounds_toArray, List.set_cons_zero, List.set_cons_succ])
        refine wpAnyH_take (i := 12) (oi := { dst := some 86, op := Op.move (Operand.tmp 10), type := 28, pos := "law.go:204", after := #[{ on := 7, ground := Ground.guard }], guard := some (7, false) }) (v := ?_) rfl (by kernel_rfl) (by kernel_rfl) (by kernel_rfl) (fun _ _ _ h => h) (Or.inl ⟨by rfl, ?_⟩) (by assumption) ?_
        rotate_left 1
        · (intro w hSw; (try dsimp only at hSw); go_simp; (try with_reducible rfl))
        (try simp only [Act.put, List.setIfInBounds_toArray, List.set_cons_zero, List.set_cons_succ])
        refine wpAnyH_take (i := 13) (oi := { dst := some 87, op := Op.indexAddr 28 (Operand.tmp 86) (Operand.const (Value.int IntKind.i64 0)), type := 0, pos := "law.go:204", after := #[{ on := 12, ground := Ground.data }, { on := 7, ground := Ground.guard }], guard := some (7, false) }) (v := ?_) rfl (by kernel_rfl) (by kernel_rfl) (by kernel_rfl) (fun _ _ _ h => h) (Or.inl ⟨by rfl, ?_⟩) (by assumption) ?_
        rotate_left 1
        · (intro w hSw; (try dsimp only at hSw); go_simp; (try with_reducible rfl))
        (try simp only [Act.put, List.setIfInBounds_toArray, List.set_cons_zero, List.set_cons_succ])
        refine wpAnyH_take (i := 14) (oi := { dst := some 88, op := Op.fieldAddr 33 (Operand.tmp 87) 0, type := 0, pos := "law.go:204", after := #[{ on := 13, ground := Ground.data }, { on := 7, ground := Ground.guard }], guard := some (7, false) }) (v := ?_) rfl (by kernel_rfl) (by kernel_rfl) (by kernel_rfl) (fun _ _ _ h => h) (Or.inl ⟨by rfl, ?_⟩) (by assumption) ?_
        rotate_left 1
        · (intro w hSw; (try dsimp only at hSw); go_simp; (try with_reducible rfl))
        (try simp only [Act.put, List.setIfInBounds_toArray, List.set_cons_zero, List.set_cons_succ])
        refine wpAnyH_take (i := 15) (oi := { dst := some 89, op := Op.load 3 (Operand.tmp 88), type := 3, pos := "law.go:204", after := #[{ on := 14, ground := Ground.data }, { on := 7, ground := Ground.guard }], guard := some (7, false) }) (v := ?_) rfl (by kernel_rfl) (by kernel_rfl) (by kernel_rfl) (fun _ _ _ h => h) (Or.inl ⟨by rfl, ?_⟩) (by assumption) ?_
        rotate_left 1
        · (intro w hSw; (try dsimp only at hSw); go_simp; (try with_reducible rfl))
        (try simp only [Act.put, List.setIfInBounds_toArray, List.set_cons_zero, List.set_cons_succ])
        refine wpAnyH_take (i := 16) (oi := { dst := some 90, op := Op.binOp BinOp.leq 3 (Operand.tmp 85) (Operand.tmp 89) 3, type := 4, pos := "law.go:204", after := #[{ on := 11, ground := Ground.data }, { on := 15, ground := Ground.data }, { on := 7, ground := Ground.guard }], guard := some (7, false) }) (v := ?_) rfl (by kernel_rfl) (by kernel_rfl) (by kernel_rfl) (fun _ _ _ h => h) (Or.inl ⟨by rfl, ?_⟩) (by assumption) ?_
        rotate_left 1
        · (intro w hSw; (try dsimp only at hSw); go_simp; (try with_reducible rfl))
        (try simp only [Act.put, List.setIfInBounds_toArray, List.set_cons_zero, List.set_cons_succ])
        refine wpAnyH_take (i := 17) (oi := { dst := some 91, op := Op.pick (Operand.tmp 81) (Operand.const (Value.bool true)) (Operand.tmp 90), type := 4, pos := "law.go:204", after := #[{ on := 7, ground := Ground.data }, { on := 16, ground := Ground.data }], guard := none }) (v := ?_) rfl (by kernel_rfl) (by kernel_rfl) (by kernel_rfl) (fun _ _ _ h => h) (Or.inl ⟨by rfl, ?_⟩) (by assumption) ?_
        rotate_left 1
        · (intro w hSw; (try dsimp only at hSw); go_simp; (try with_reducible rfl))
        (try simp only [Act.put, List.setIfInBounds_toArray, List.set_cons_zero, List.set_cons_succ])
        refine wpAnyH_take (i := 18) (oi := { dst := some 92, op := Op.move (Operand.tmp 91), type := 4, pos := "law.go:204", after := #[{ on := 17, ground := Ground.data }, { on := 7, ground := Ground.chain }], guard := none }) (v := ?_) rfl (by kernel_rfl) (by kernel_rfl) (by kernel_rfl) (fun _ _ _ h => h) (Or.inl ⟨by rfl, ?_⟩) (by assumption) ?_
        rotate_left 1
        · (intro w hSw; (try dsimp only at hSw); go_simp; (try with_reducible rfl))
        (try simp only [Act.put, List.setIfInBounds_toArray, List.set_cons_zero, List.set_cons_succ])
        refine wpAnyH_take (i := 19) (oi := { dst := some 93, op := Op.move (Operand.tmp 10), type := 28, pos := "law.go:204", after := #[{ on := 18, ground := Ground.guard }], guard := some (18, false) }) (v := undef) rfl (by kernel_rfl) (by kernel_rfl) (by kernel_rfl) (fun _ _ _ h => h) (Or.inr ⟨by rfl, rfl⟩) (by assumption) ?_
        (try simp only [Act.put, List.setIfInBounds_toArray, List.set_cons_zero, List.set_cons_succ])
        refine wpAnyH_take (i := 20) (oi := { dst := some 94, op := Op.indexAddr 28 (Operand.tmp 93) (Operand.const (Value.int IntKind.i64 0)), type := 0, pos := "law.go:204", after := #[{ on := 19, ground := Ground.data }, { on := 18, ground := Ground.guard }], guard := some (18, false) }) (v := undef) rfl (by kernel_rfl) (by kernel_rfl) (by kernel_rfl) (fun _ _ _ h => h) (Or.inr ⟨by rfl, rfl⟩) (by assumption) ?_
        (try simp only [Act.put, List.setIfInBounds_toArray, List.set_cons_zero, List.set_cons_succ])
        refine wpAnyH_take (i := 21) (oi := { dst := some 95, op := Op.fieldAddr 33 (Operand.tmp 94) 1, type := 0, pos := "law.go:204", after := #[{ on := 20, ground := Ground.data }, { on := 18, ground := Ground.guard }], guard := some (18, false) }) (v := undef) rfl (by kernel_rfl) (by kernel_rfl) (by kernel_rfl) (fun _ _ _ h => h) (Or.inr ⟨by rfl, rfl⟩) (by assumption) ?_
        (try simp only [Act.put, List.setIfInBounds_toArray, List.set_cons_zero, List.set_cons_succ])
        refine wpAnyH_take (i := 22) (oi := { dst := some 96, op := Op.load 3 (Operand.tmp 95), type := 3, pos := "law.go:204", after := #[{ on := 21, ground := Ground.data }, { on := 18, ground := Ground.guard }], guard := some (18, false) }) (v := undef) rfl (by kernel_rfl) (by kernel_rfl) (by kernel_rfl) (fun _ _ _ h => h) (Or.inr ⟨by rfl, rfl⟩) (by assumption) ?_
        (try simp only [Act.put, List.setIfInBounds_toArray, List.set_cons_zero, List.set_cons_succ])
        refine wpAnyH_take (i := 23) (oi := { dst := some 97, op := Op.move (Operand.tmp 8), type := 28, pos := "law.go:204", after := #[{ on := 18, ground := Ground.guard }], guard := some (18, false) }) (v := undef) rfl (by kernel_rfl) (by kernel_rfl) (by kernel_rfl) (fun _ _ _ h => h) (Or.inr ⟨by rfl, rfl⟩) (by assumption) ?_
        (try simp only [Act.put, List.setIfInBounds_toArray, List.set_cons_zero, List.set_cons_succ])
        refine wpAnyH_take (i := 24) (oi := { dst := some 98, op := Op.indexAddr 28 (Operand.tmp 97) (Operand.const (Value.int IntKind.i64 0)), type := 0, pos := "law.go:204", after := #[{ on := 23, ground := Ground.data }, { on := 18, ground := Ground.guard }], guard := some (18, false) }) (v := undef) rfl (by kernel_rfl) (by kernel_rfl) (by kernel_rfl) (fun _ _ _ h => h) (Or.inr ⟨by rfl, rfl⟩) (by assumption) ?_
        (try simp only [Act.put, List.setIfInBounds_toArray, List.set_cons_zero, List.set_cons_succ])
        refine wpAnyH_take (i := 25) (oi := { dst := some 99, op := Op.fieldAddr 33 (Operand.tmp 98) 0, type := 0, pos := "law.go:204", after := #[{ on := 24, ground := Ground.data }, { on := 18, ground := Ground.guard }], guard := some (18, false) }) (v := undef) rfl (by kernel_rfl) (by kernel_rfl) (by kernel_rfl) (fun _ _ _ h => h) (Or.inr ⟨by rfl, rfl⟩) (by assumption) ?_
        (try simp only [Act.put, List.setIfInBounds_toArray, List.set_cons_zero, List.set_cons_succ])
        refine wpAnyH_take (i := 26) (oi := { dst := some 100, op := Op.load 3 (Operand.tmp 99), type := 3, pos := "law.go:204", after := #[{ on := 25, ground := Ground.data }, { on := 18, ground := Ground.guard }], guard := some (18, false) }) (v := undef) rfl (by kernel_rfl) (by kernel_rfl) (by kernel_rfl) (fun _ _ _ h => h) (Or.inr ⟨by rfl, rfl⟩) (by assumption) ?_
        (try simp only [Act.put, List.setIfInBounds_toArray, List.set_cons_zero, List.set_cons_succ])
        refine wpAnyH_take (i := 27) (oi := { dst := some 101, op := Op.binOp BinOp.leq 3 (Operand.tmp 96) (Operand.tmp 100) 3, type := 4, pos := "law.go:204", after := #[{ on := 22, ground := Ground.data }, { on := 26, ground := Ground.data }, { on := 18, ground := Ground.guard }], guard := some (18, false) }) (v := undef) rfl (by kernel_rfl) (by kernel_rfl) (by kernel_rfl) (fun _ _ _ h => h) (Or.inr ⟨by rfl, rfl⟩) (by assumption) ?_
        (try simp only [Act.put, List.setIfInBounds_toArray, List.set_cons_zero, List.set_cons_succ])
        refine wpAnyH_take (i := 28) (oi := { dst := some 102, op := Op.pick (Operand.tmp 92) (Operand.const (Value.bool true)) (Operand.tmp 101), type := 4, pos := "law.go:204", after := #[{ on := 18, ground := Ground.data }, { on := 27, ground := Ground.data }], guard := none }) (v := ?_) rfl (by kernel_rfl) (by kernel_rfl) (by kernel_rfl) (fun _ _ _ h => h) (Or.inl ⟨by rfl, ?_⟩) (by assumption) ?_
        rotate_left 1
        · (intro w hSw; (try dsimp only at hSw); go_simp; (try with_reducible rfl))
        (try simp only [Act.put, List.setIfInBounds_toArray, List.set_cons_zero, List.set_cons_succ])
        refine wpAnyH_take (i := 29) (oi := { dst := some 103, op := Op.move (Operand.tmp 102), type := 4, pos := "law.go:204", after := #[{ on := 28, ground := Ground.data }, { on := 18, ground := Ground.chain }], guard := none }) (v := ?_) rfl (by kernel_rfl) (by kernel_rfl) (by kernel_rfl) (fun _ _ _ h => h) (Or.inl ⟨by rfl, ?_⟩) (by assumption) ?_
        rotate_left 1
        · (intro w hSw; (try dsimp only at hSw); go_simp; (try with_reducible rfl))
        (try simp only [Act.put, List.setIfInBounds_toArray, List.set_cons_zero, List.set_cons_succ])
        refine wpAnyH_ready (rs := [30]) (by kernel_rfl) (by simp) ?_
        refine AllReadyH.cons (o := { dst := some 104, op := Op.call { callee := Callee.value (Operand.func 13), args := #[], argTypes := #[] }, type := 4, pos := "law.go:204", after := #[{ on := 29, ground := Ground.chain }, { on := 29, ground := Ground.guard }], guard := some (29, true) }) rfl (fun K hK => ?_) AllReadyH.nil
        go_simp
        go_at_call 13
        refine (awake07 _).mono ?_
        rintro e w11 ⟨rfl, hb11⟩
        go_simp
        refine hK.out _ _ (HPQ.out _ (((Below.refl w3.heap.size w3).drewN 2).trans hb11)) (fun hHeld2 => ?_)
        clear hK K
        (try simp only [Act.put, List.setIfInBounds_toArray, List.set_cons_zero, List.set_cons_succ])
        refine wpAnyH_take (i := 31) (oi := { dst := some 105, op := Op.pick (Operand.tmp 103) (Operand.tmp 104) (Operand.const (Value.bool false)), type := 4, pos := "law.go:204", after := #[{ on := 29, ground := Ground.data }, { on := 30, ground := Ground.data }], guard := none }) (v := ?_) rfl (by kernel_rfl) (by kernel_rfl) (by kernel_rfl) (fun _ _ _ h => h) (Or.inl ⟨by rfl, ?_⟩) (by assumption) ?_
        rotate_left 1
        · (intro w hSw; (try dsimp only at hSw); go_simp; (try with_reducible rfl))
        (try simp only [Act.put, List.setIfInBounds_toArray, List.set_cons_zero, List.set_cons_succ])
        refine wpAnyH_take (i := 32) (oi := { dst := some 2, op := Op.assign (Operand.tmp 105), type := 4, pos := "law.go:204", after := #[{ on := 31, ground := Ground.data }, { on := 30, ground := Ground.chain }, { on := 0, ground := Ground.phase }, { on := 1, ground := Ground.phase }, { on := 2, ground := Ground.phase }, { on := 3, ground := Ground.phase }, { on := 4, ground := Ground.phase }, { on := 5, ground := Ground.phase }, { on := 6, ground := Ground.phase }, { on := 7, ground := Ground.phase }, { on := 8, ground := Ground.phase }, { on := 9, ground := Ground.phase }, { on := 10, ground := Ground.phase }, { on := 11, ground := Ground.phase }, { on := 12, ground := Ground.phase }, { on := 13, ground := Ground.phase }, { on := 14, ground := Ground.phase }, { on := 15, ground := Ground.phase }, { on := 16, ground := Ground.phase }, { on := 17, ground := Ground.phase }, { on := 18, ground := Ground.phase }, { on := 19, ground := Ground.phase }, { on := 20, ground := Ground.phase }, { on := 21, ground := Ground.phase }, { on := 22, ground := Ground.phase }, { on := 23, ground := Ground.phase }, { on := 24, ground := Ground.phase }, { on := 25, ground := Ground.phase }, { on := 26, ground := Ground.phase }, { on := 27, ground := Ground.phase }, { on := 28, ground := Ground.phase }, { on := 29, ground := Ground.phase }, { on := 30, ground := Ground.phase }, { on := 31, ground := Ground.phase }], guard := none }) (v := ?_) rfl (by kernel_rfl) (by kernel_rfl) (by kernel_rfl) (fun _ _ _ h => h) (Or.inl ⟨by rfl, ?_⟩) (by assumption) ?_
        rotate_left 1
        · (intro w hSw; (try dsimp only at hSw); go_simp; (try with_reducible rfl))
        (try simp only [Act.put, List.setIfInBounds_toArray, List.set_cons_zero, List.set_cons_succ])
        refine wpAnyH_done (by kernel_rfl) ?_ _
        go_wp2_with fail
        go_ret
        exact ⟨rfl, HB3.out.trans ((((Below.refl w3.heap.size w3).drewN 2).trans hb11).mono HB3.out.size)⟩
      · have f3 : (T == U) = false := by simp [h9]
        have f4 : decide (T + size ≤ U) = false := decide_eq_false (by omega)
        have f5 : decide (U + size ≤ T) = true := decide_eq_true (by omega)
        go_region_held3 (fun w' : World => w'.cell? a2 = some (.int .i64 T) ∧ w'.cell? ⟨a2.block, a2.off + 1, none⟩ = some (.int .i64 (T + size)) ∧ w'.cell? a3 = some (.int .i64 U) ∧ w'.cell? ⟨a3.block, a3.off + 1, none⟩ = some (.int .i64 (U + size))) (first | exact ⟨p2, p3, q2, q3⟩ | exact HPQ.out _ (((Below.refl w3.heap.size w3).drewN 2).trans hb11)) ((go_at_call 13; refine (awake07 _).mono ?_; rintro e w11 ⟨rfl, hb11⟩))
        go_wp2_with fail
        go_ret
        exact ⟨rfl, HB3.out.trans ((((Below.refl w3.heap.size w3).drewN 2).trans hb11).mono HB3.out.size)⟩
    all_goals
      go_wp2_with fail
      refine (awake07 _).mono ?_
      rintro e w4 ⟨rfl, hb⟩
      go_wp2_with fail
      go_ret
      exact ⟨rfl, HB3.out.trans (hb.mono HB3.out.size)⟩
  all_goals
    go_wp2_with fail
    refine (awake07 _).mono ?_
    rintro e w4 ⟨rfl, hb⟩
    go_wp2_with fail
    go_ret
    exact ⟨rfl, HB3.out.trans (hb.mono HB3.out.size)⟩

end Go.Proofs.YtbnppocaeflghaaDoor
