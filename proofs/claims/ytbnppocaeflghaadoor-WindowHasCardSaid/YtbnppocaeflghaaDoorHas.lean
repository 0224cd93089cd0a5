/- WindowHas: the walk. -/
import Derived.Test.YtbnppocaeflghaaDoorHasP
import Derived.Test.YtbnppocaeflghaaDoorLess
import Derived.Test.YtbnppocaeflghaaDoorAssigns
namespace Go.Proofs.YtbnppocaeflghaaDoor
open Go.RowKit
set_option linter.unusedVariables false
set_option linter.unusedSimpArgs false

theorem Blk.pair {w : World} {g t : Nat} {a b : Value} (h : Blk w g t #[a, b]) : w.cell? ⟨g, 0, none⟩ = some a ∧ w.cell? ⟨g, 1, none⟩ = some b := ⟨h.cell 0, h.cell 1⟩
theorem mem_take (L : List Win) (k : Nat) (hk : k < L.length) (y : Win) : decide (y ∈ L.take (k + 1)) = (decide (y ∈ L.take k) || decide (L[k] = y)) := by
  rw [List.take_succ_eq_append_getElem hk, Bool.eq_iff_iff]
  simp only [List.mem_append, List.mem_singleton, decide_eq_true_eq, Bool.or_eq_true]
  constructor
  · rintro (h | h)
    · exact .inl h
    · exact .inr h.symm
  · rintro (h | h)
    · exact .inl h
    · exact .inr h.symm

set_option maxRecDepth 100000 in
set_option maxHeartbeats 16000000 in
theorem has_any (fn : Wfn) (t u : Int) (w : World) : Calls Tryd.prog 10 #[fn.v, .int .i64 t, .int .i64 u] w fun e w' => e = .returned (.bool true) ∧ Below w.heap.size w w' := by
  obtain ⟨kd, s, p, o⟩ := fn
  unfold Wfn.v
  have HA := hide (assign_any ⟨kd, s, p, o⟩ t)
  have HA2 := hide (assign_any ⟨kd, s, p, o⟩ u)
  go_enter Tryd.func10, Tryd.ntmps10
  go_wp2_with fail
  have HB1 := hide ((Below.refl w.heap.size w).alloc (Nat.le_refl _) (.cells #[.int .i64 kd, .int .i64 s, .int .i64 p, .int .i64 o] fnT))
  have HF1 : Hid (Blk (w.alloc (.cells #[.int .i64 kd, .int .i64 s, .int .i64 p, .int .i64 o] fnT)) w.heap.size fnT #[.int .i64 kd, .int .i64 s, .int .i64 p, .int .i64 o]) := Blk.new w _ _
  generalize w.alloc (.cells #[.int .i64 kd, .int .i64 s, .int .i64 p, .int .i64 o] fnT) = w1 at *
  refine (HA.out w1).mono ?_
  rintro e w2 ⟨v2, n2, rfl, hb2, hc2⟩
  have HF2 := hide (HF1.out.below hb2 HF1.out.lt)
  have HB2 := hide (HB1.out.trans (hb2.mono HB1.out.size))
  have HC2 := hide hc2
  clear hb2 hc2
  obtain ⟨c0, c1, c2, c3⟩ := HF2.out.four
  have hlt := HF2.out.lt
  go_wp2_with fail
  refine (HA2.out w2).mono ?_
  rintro e w3 ⟨v3, n3, rfl, hb3, hc3⟩
  have HF3 := hide (HF2.out.below hb3 HF2.out.lt)
  have HB3 := hide (HB2.out.trans (hb3.mono HB2.out.size))
  have HBb := hide hb3
  clear hb3 c0 c1 c2 c3 hlt
  rcases HC2.out with ⟨hr, ht1, ht2, rfl, ho2⟩ | ⟨_, rfl, rfl⟩ | ⟨_, _, rfl, rfl⟩
  · rcases hc3 with ⟨_, hu1, hu2, rfl, ho3⟩ | ⟨_, rfl, rfl⟩ | ⟨_, _, rfl, rfl⟩
    · obtain ⟨A2, d2, rfl, hd2⟩ := ho2.sl.form
      obtain ⟨A3, d3, rfl, hd3⟩ := ho3.sl.form
      have HALL := hide (asg_all ⟨kd, s, p, o⟩ t hr ht1 ht2)
      have HMEM := hide (fun h3 => asg_mem ⟨kd, s, p, o⟩ t u hr h3 ht1 ht2)
      have HSIX := hide (fun h3 => asg_sixteen ⟨kd, s, p, o⟩ t hr h3)
      have HONE := hide (fun h3 => asg_one ⟨kd, s, p, o⟩ t hr h3)
      have hpos := asg_pos ⟨kd, s, p, o⟩ t hr
      have hlen1 := asg_len ⟨kd, s, p, o⟩ t hr ht1
      have hlen2 := asg_len ⟨kd, s, p, o⟩ u hr hu1
      obtain ⟨L, hL⟩ : ∃ L, L = Wfn.asg ⟨kd, s, p, o⟩ t := ⟨_, rfl⟩
      obtain ⟨M, hM⟩ : ∃ M, M = Wfn.asg ⟨kd, s, p, o⟩ u := ⟨_, rfl⟩
      rw [← hL] at HALL HMEM HSIX HONE hpos hlen1 ho2 hd2 ⊢
      rw [← hM] at HMEM hlen2 ho3 hd3 ⊢
      have HNEXT : Hid (∀ (j : Nat) (h : j + 1 < L.length), (L[j]'(by omega)).t < (L[j + 1]'h).t) := by
        rw [Hid]
        subst hL
        exact fun j h => asg_next ⟨kd, s, p, o⟩ t hr j h
      have HO2 := hide (ho2.below HBb.out).sl
      have HO3 := hide ho3.sl
      clear ho2 ho3 hr hL hM
      obtain ⟨n, hn⟩ : ∃ n, n = L.length := ⟨_, rfl⟩
      obtain ⟨q, hq⟩ : ∃ q, q = M.length := ⟨_, rfl⟩
      rw [← hn] at HO2 hpos hlen1 hd2 ⊢
      rw [← hq] at HO3 hlen2 hd3 ⊢
      have HN := hide hn
      have HQ := hide hq
      clear hn hq
      have hz3 := HB3.out.size
      go_wp2_with fail
      go_loopw [39] (fun i wz => ∃ (k : Nat), k ≤ n ∧ i = .int .i64 k ∧ Hid (Below w3.heap.size w3 wz)) (fun i _ => n - (intOf i).toNat)
      case atStart => exact ⟨0, Nat.zero_le _, rfl, Below.refl _ _⟩
      case round =>
        obtain ⟨k, hk, rfl, HB⟩ := hrel
        have hzr := HB.out.size
        by_cases hlk : k < n
        · have hkL : k < L.length := by rw [← HN.out]; exact hlk
          obtain ⟨ad, rfl, hab, g0, g1⟩ := win_at (HO2.out.below HB.out) hlk HN.out.symm
          have hx := HALL.out L[k] (List.getElem_mem hkL)
          have HNX : Hid (∀ j, j + 1 = k → ∀ (hj : j < L.length), L[j].t < L[k].t) := by
            rintro j rfl hj
            exact HNEXT.out j (by rw [← HN.out]; omega)
          generalize L[k] = x at g0 g1 hx HNX
          obtain ⟨xf, xt⟩ := x
          simp only at g0 g1 hx HNX
          obtain ⟨hx1, hx2, hx3, hx4, hx5⟩ := hx
          have HGD := hide hx3
          clear hx3
          have hab2 : (ad.add (k * 2)).block < wr.heap.size := by omega
          go_wp2_with fail
          have HL5 : Hid (Blk (wr.alloc (.cells #[.int .i64 xf, .int .i64 xt] wT)) wr.heap.size wT #[.int .i64 xf, .int .i64 xt]) := Blk.new wr _ _
          have HB5 := hide (HB.out.alloc hzr (.cells #[.int .i64 xf, .int .i64 xt] wT))
          generalize wr.alloc (.cells #[.int .i64 xf, .int .i64 xt] wT) = w5 at *
          generalize wr.heap.size = lb at *
          clear g0 g1
          have hz5 := HB5.out.size
          obtain ⟨l0, l1⟩ := HL5.out.pair
          have hllt := HL5.out.lt
          have e1 : decide (t < xf) = false := decide_eq_false (by omega)
          have e2 : decide (xt ≤ t) = false := decide_eq_false (by omega)
          have e3 : ((0 : Int) != 0) = false := rfl
          by_cases hk0 : k = 0
          · have e6 : decide ((0 : Int) < (k : Int)) = false := decide_eq_false (by omega)
            have e6' : ¬ (0 : Int) < (k : Int) := by omega
            have e6n : ¬ 0 < k := by omega
            clear hk0
            refine wp_region_held_drew (S := (fun w' : World => w'.cell? ⟨lb, 0, none⟩ = some (.int .i64 xf) ∧ w'.cell? ⟨lb, 1, none⟩ = some (.int .i64 xt))) (by kernel_rfl) HL5.out.pair (fun hHeld => ?_)
            refine wpAnyH_take (i := 0) (oi := { dst := some 44, op := Op.move (Operand.tmp 1), type := 3, pos := "law.go:88", after := #[], guard := none }) (v := ?_) rfl (by kernel_rfl) (by kernel_rfl) (by kernel_rfl) (fun _ _ _ h => h) (Or.inl ⟨by rfl, ?_⟩) (by assumption) ?_
            rotate_left 1
            · (intro w hSw; (try dsimp only at hSw); go_simp; (try with_reducible rfl))
            (try simp only [Act.put, List.setIfInBounds_toArray, List.set_cons_zero, List.set_cons_succ])
            refine wpAnyH_take (i := 1) (oi := { dst := some 45, op := Op.fieldAddr 33 (Operand.tmp 12) 0, type := 0, pos := "law.go:88", after := #[], guard := none }) (v := ?_) rfl (by kernel_rfl) (by kernel_rfl) (by kernel_rfl) (fun _ _ _ h => h) (Or.inl ⟨by rfl, ?_⟩) (by assumption) ?_
            rotate_left 1
            · (intro w hSw; (try dsimp only at hSw); go_simp; (try with_reducible rfl))
            (try simp only [Act.put, List.setIfInBounds_toArray, List.set_cons_zero, List.set_cons_succ])
            refine wpAnyH_take (i := 2) (oi := { dst := some 46, op := Op.load 3 (Operand.tmp 45), type := 3, pos := "law.go:88", after := #[{ on := 1, ground := Ground.data }], guard := none }) (v := ?_) rfl (by kernel_rfl) (by kernel_rfl) (by kernel_rfl) (fun _ _ _ h => h) (Or.inl ⟨by rfl, ?_⟩) (by assumption) ?_
            rotate_left 1
            · (intro w hSw; (try dsimp only at hSw); go_simp; (try with_reducible rfl))
            (try simp only [Act.put, List.setIfInBounds_toArray, List.set_cons_zero, List.set_cons_succ])
            refine wpAnyH_take (i := 3) (oi := { dst := some 47, op := Op.binOp BinOp.lss 3 (Operand.tmp 44) (Operand.tmp 46) 3, type := 4, pos := "law.go:88", after := #[{ on := 0, ground := Ground.data }, { on := 2, ground := Ground.data }], guard := none }) (v := ?_) rfl (by kernel_rfl) (by kernel_rfl) (by kernel_rfl) (fun _ _ _ h => h) (Or.inl ⟨by rfl, ?_⟩) (by assumption) ?_
            rotate_left 1
            · (intro w hSw; (try dsimp only at hSw); go_simp; (try with_reducible rfl))
            (try simp only [Act.put, List.setIfInBounds_toArray, List.set_cons_zero, List.set_cons_succ])
            refine wpAnyH_take (i := 4) (oi := { dst := some 48, op := Op.move (Operand.tmp 47), type := 4, pos := "law.go:88", after := #[{ on := 3, ground := Ground.data }], guard := none }) (v := ?_) rfl (by kernel_rfl) (by kernel_rfl) (by kernel_rfl) (fun _ _ _ h => h) (Or.inl ⟨by rfl, ?_⟩) (by assumption) ?_
            rotate_left 1
            · (intro w hSw; (try dsimp only at hSw); go_simp; (try with_reducible rfl))
            (try simp only [Act.put, List.setIfInBounds_toArray, List.set_cons_zero, List.set_cons_succ])
            refine wpAnyH_take (i := 5) (oi := { dst := some 49, op := Op.move (Operand.tmp 1), type := 3, pos := "law.go:88", after := #[{ on := 4, ground := Ground.guard }], guard := some (4, false) }) (v := ?_) rfl (by kernel_rfl) (by kernel_rfl) (by kernel_rfl) (fun _ _ _ h => h) (Or.inl ⟨by rfl, ?_⟩) (by assumption) ?_
            rotate_left 1
            · (intro w hSw; (try dsimp only at hSw); go_simp; (try with_reducible rfl))
            (try simp only [Act.put, List.setIfInBounds_toArray, List.set_cons_zero, List.set_cons_succ])
            refine wpAnyH_take (i := 6) (oi := { dst := some 50, op := Op.fieldAddr 33 (Operand.tmp 12) 1, type := 0, pos := "law.go:88", after := #[{ on := 4, ground := Ground.guard }], guard := some (4, false) }) (v := ?_) rfl (by kernel_rfl) (by kernel_rfl) (by kernel_rfl) (fun _ _ _ h => h) (Or.inl ⟨by rfl, ?_⟩) (by assumption) ?_
            rotate_left 1
            · (intro w hSw; (try dsimp only at hSw); go_simp; (try with_reducible rfl))
            (try simp only [Act.put, List.setIfInBounds_toArray, List.set_cons_zero, List.set_cons_succ])
            refine wpAnyH_take (i := 7) (oi := { dst := some 51, op := Op.load 3 (Operand.tmp 50), type := 3, pos := "law.go:88", after := #[{ on := 6, ground := Ground.data }, { on := 4, ground := Ground.guard }], guard := some (4, false) }) (v := ?_) rfl (by kernel_rfl) (by kernel_rfl) (by kernel_rfl) (fun _ _ _ h => h) (Or.inl ⟨by rfl, ?_⟩) (by assumption) ?_
            rotate_left 1
            · (intro w hSw; (try dsimp only at hSw); go_simp; (try with_reducible rfl))
            (try simp only [Act.put, List.setIfInBounds_toArray, List.set_cons_zero, List.set_cons_succ])
            refine wpAnyH_take (i := 8) (oi := { dst := some 52, op := Op.binOp BinOp.geq 3 (Operand.tmp 49) (Operand.tmp 51) 3, type := 4, pos := "law.go:88", after := #[{ on := 5, ground := Ground.data }, { on := 7, ground := Ground.data }, { on := 4, ground := Ground.guard }], guard := some (4, false) }) (v := ?_) rfl (by kernel_rfl) (by kernel_rfl) (by kernel_rfl) (fun _ _ _ h => h) (Or.inl ⟨by rfl, ?_⟩) (by assumption) ?_
            rotate_left 1
            · (intro w hSw; (try dsimp only at hSw); go_simp; (try with_reducible rfl))
            (try simp only [Act.put, List.setIfInBounds_toArray, List.set_cons_zero, List.set_cons_succ])
            refine wpAnyH_take (i := 9) (oi := { dst := some 53, op := Op.pick (Operand.tmp 48) (Operand.const (Value.bool true)) (Operand.tmp 52), type := 4, pos := "law.go:88", after := #[{ on := 4, ground := Ground.data }, { on := 8, ground := Ground.data }], guard := none }) (v := ?_) rfl (by kernel_rfl) (by kernel_rfl) (by kernel_rfl) (fun _ _ _ h => h) (Or.inl ⟨by rfl, ?_⟩) (by assumption) ?_
            rotate_left 1
            · (intro w hSw; (try dsimp only at hSw); go_simp; (try with_reducible rfl))
            (try simp only [Act.put, List.setIfInBounds_toArray, List.set_cons_zero, List.set_cons_succ])
            refine wpAnyH_take (i := 10) (oi := { dst := some 54, op := Op.move (Operand.tmp 53), type := 4, pos := "law.go:88", after := #[{ on := 9, ground := Ground.data }, { on := 4, ground := Ground.chain }], guard := none }) (v := ?_) rfl (by kernel_rfl) (by kernel_rfl) (by kernel_rfl) (fun _ _ _ h => h) (Or.inl ⟨by rfl, ?_⟩) (by assumption) ?_
            rotate_left 1
            · (intro w hSw; (try dsimp only at hSw); go_simp; (try with_reducible rfl))
            (try simp only [Act.put, List.setIfInBounds_toArray, List.set_cons_zero, List.set_cons_succ])
            refine wpAnyH_take (i := 11) (oi := { dst := some 55, op := Op.load 33 (Operand.tmp 12), type := 33, pos := "law.go:88", after := #[{ on := 10, ground := Ground.guard }], guard := some (10, false) }) (v := ?_) rfl (by kernel_rfl) (by kernel_rfl) (by kernel_rfl) (fun _ _ _ h => h) (Or.inl ⟨by rfl, ?_⟩) (by assumption) ?_
            rotate_left 1
            · (intro w hSw; (try dsimp only at hSw); go_simp; (try with_reducible rfl))
            (try simp only [Act.put, List.setIfInBounds_toArray, List.set_cons_zero, List.set_cons_succ])
            refine wpAnyH_ready (rs := [12]) (by kernel_rfl) (by simp) ?_
            refine AllReadyH.cons (o := { dst := some 56, op := Op.call { callee := Callee.value (Operand.func 19), args := #[Operand.tmp 55], argTypes := #[33] }, type := 25, pos := "law.go:88", after := #[{ on := 11, ground := Ground.data }, { on := 10, ground := Ground.chain }, { on := 10, ground := Ground.guard }], guard := some (10, false) }) rfl (fun K hK => ?_) AllReadyH.nil
            go_simp
            go_at_call 19
            refine (wcheck_any xf xt _).mono ?_
            rw [if_pos HGD.out]
            rintro e w7 ⟨rfl, hb7⟩
            have hl7 := (HL5.out.drewN 1).below hb7 (HL5.out.drewN 1).lt
            go_simp
            refine hK.out _ _ hl7.pair (fun hHeld2 => ?_)
            clear hK K
            (try simp only [Act.put, List.setIfInBounds_toArray, List.set_cons_zero, List.set_cons_succ])
            refine wpAnyH_take (i := 13) (oi := { dst := some 57, op := Op.binOp BinOp.neq 25 (Operand.tmp 56) (Operand.const (Value.int IntKind.i64 0)) 25, type := 4, pos := "law.go:88", after := #[{ on := 12, ground := Ground.data }, { on := 10, ground := Ground.guard }], guard := some (10, false) }) (v := ?_) rfl (by kernel_rfl) (by kernel_rfl) (by kernel_rfl) (fun _ _ _ h => h) (Or.inl ⟨by rfl, ?_⟩) (by assumption) ?_
            rotate_left 1
            · (intro w hSw; (try dsimp only at hSw); go_simp; (try with_reducible rfl))
            (try simp only [Act.put, List.setIfInBounds_toArray, List.set_cons_zero, List.set_cons_succ])
            refine wpAnyH_take (i := 14) (oi := { dst := some 58, op := Op.pick (Operand.tmp 54) (Operand.const (Value.bool true)) (Operand.tmp 57), type := 4, pos := "law.go:88", after := #[{ on := 10, ground := Ground.data }, { on := 13, ground := Ground.data }], guard := none }) (v := ?_) rfl (by kernel_rfl) (by kernel_rfl) (by kernel_rfl) (fun _ _ _ h => h) (Or.inl ⟨by rfl, ?_⟩) (by assumption) ?_
            rotate_left 1
            · (intro w hSw; (try dsimp only at hSw); go_simp; (try with_reducible rfl))
            (try simp only [Act.put, List.setIfInBounds_toArray, List.set_cons_zero, List.set_cons_succ])
            refine wpAnyH_take (i := 15) (oi := { dst := some 59, op := Op.move (Operand.tmp 58), type := 4, pos := "law.go:88", after := #[{ on := 14, ground := Ground.data }, { on := 12, ground := Ground.chain }], guard := none }) (v := ?_) rfl (by kernel_rfl) (by kernel_rfl) (by kernel_rfl) (fun _ _ _ h => h) (Or.inl ⟨by rfl, ?_⟩) (by assumption) ?_
            rotate_left 1
            · (intro w hSw; (try dsimp only at hSw); go_simp; (try with_reducible rfl))
            (try simp only [Act.put, List.setIfInBounds_toArray, List.set_cons_zero, List.set_cons_succ])
            refine wpAnyH_take (i := 16) (oi := { dst := some 60, op := Op.move (Operand.tmp 11), type := 3, pos := "law.go:88", after := #[{ on := 15, ground := Ground.guard }], guard := some (15, false) }) (v := ?_) rfl (by kernel_rfl) (by kernel_rfl) (by kernel_rfl) (fun _ _ _ h => h) (Or.inl ⟨by rfl, ?_⟩) (by assumption) ?_
            rotate_left 1
            · (intro w hSw; (try dsimp only at hSw); go_simp; (try with_reducible rfl))
            (try simp only [Act.put, List.setIfInBounds_toArray, List.set_cons_zero, List.set_cons_succ])
            refine wpAnyH_take (i := 17) (oi := { dst := some 61, op := Op.binOp BinOp.gtr 3 (Operand.tmp 60) (Operand.const (Value.int IntKind.i64 0)) 3, type := 4, pos := "law.go:88", after := #[{ on := 16, ground := Ground.data }, { on := 15, ground := Ground.guard }], guard := some (15, false) }) (v := ?_) rfl (by kernel_rfl) (by kernel_rfl) (by kernel_rfl) (fun _ _ _ h => h) (Or.inl ⟨by rfl, ?_⟩) (by assumption) ?_
            rotate_left 1
            · (intro w hSw; (try dsimp only at hSw); go_simp; (try with_reducible rfl))
            (try simp only [Act.put, List.setIfInBounds_toArray, List.set_cons_zero, List.set_cons_succ])
            refine wpAnyH_take (i := 18) (oi := { dst := some 62, op := Op.move (Operand.tmp 61), type := 4, pos := "law.go:88", after := #[{ on := 17, ground := Ground.data }, { on := 15, ground := Ground.chain }, { on := 15, ground := Ground.guard }], guard := some (15, false) }) (v := ?_) rfl (by kernel_rfl) (by kernel_rfl) (by kernel_rfl) (fun _ _ _ h => h) (Or.inl ⟨by rfl, ?_⟩) (by assumption) ?_
            rotate_left 1
            · (intro w hSw; (try dsimp only at hSw); go_simp; (try with_reducible rfl))
            (try simp only [Act.put, List.setIfInBounds_toArray, List.set_cons_zero, List.set_cons_succ])
            refine wpAnyH_take (i := 19) (oi := { dst := some 63, op := Op.move (Operand.tmp 7), type := 28, pos := "law.go:88", after := #[{ on := 18, ground := Ground.guard }], guard := some (18, true) }) (v := undef) rfl (by kernel_rfl) (by kernel_rfl) (by kernel_rfl) (fun _ _ _ h => h) (Or.inr ⟨by rfl, rfl⟩) (by assumption) ?_
            (try simp only [Act.put, List.setIfInBounds_toArray, List.set_cons_zero, List.set_cons_succ])
            refine wpAnyH_take (i := 20) (oi := { dst := some 64, op := Op.move (Operand.tmp 11), type := 3, pos := "law.go:88", after := #[{ on := 18, ground := Ground.guard }], guard := some (18, true) }) (v := undef) rfl (by kernel_rfl) (by kernel_rfl) (by kernel_rfl) (fun _ _ _ h => h) (Or.inr ⟨by rfl, rfl⟩) (by assumption) ?_
            (try simp only [Act.put, List.setIfInBounds_toArray, List.set_cons_zero, List.set_cons_succ])
            refine wpAnyH_take (i := 21) (oi := { dst := some 65, op := Op.binOp BinOp.sub 3 (Operand.tmp 64) (Operand.const (Value.int IntKind.i64 1)) 3, type := 3, pos := "law.go:88", after := #[{ on := 20, ground := Ground.data }, { on := 18, ground := Ground.guard }], guard := some (18, true) }) (v := undef) rfl (by kernel_rfl) (by kernel_rfl) (by kernel_rfl) (fun _ _ _ h => h) (Or.inr ⟨by rfl, rfl⟩) (by assumption) ?_
            (try simp only [Act.put, List.setIfInBounds_toArray, List.set_cons_zero, List.set_cons_succ])
            refine wpAnyH_take (i := 22) (oi := { dst := some 66, op := Op.indexAddr 28 (Operand.tmp 63) (Operand.tmp 65), type := 0, pos := "law.go:88", after := #[{ on := 19, ground := Ground.data }, { on := 21, ground := Ground.data }, { on := 18, ground := Ground.guard }], guard := some (18, true) }) (v := undef) rfl (by kernel_rfl) (by kernel_rfl) (by kernel_rfl) (fun _ _ _ h => h) (Or.inr ⟨by rfl, rfl⟩) (by assumption) ?_
            (try simp only [Act.put, List.setIfInBounds_toArray, List.set_cons_zero, List.set_cons_succ])
            refine wpAnyH_take (i := 23) (oi := { dst := some 67, op := Op.load 33 (Operand.tmp 66), type := 33, pos := "law.go:88", after := #[{ on := 22, ground := Ground.data }, { on := 18, ground := Ground.guard }], guard := some (18, true) }) (v := undef) rfl (by kernel_rfl) (by kernel_rfl) (by kernel_rfl) (fun _ _ _ h => h) (Or.inr ⟨by rfl, rfl⟩) (by assumption) ?_
            (try simp only [Act.put, List.setIfInBounds_toArray, List.set_cons_zero, List.set_cons_succ])
            refine wpAnyH_take (i := 24) (oi := { dst := some 68, op := Op.load 33 (Operand.tmp 12), type := 33, pos := "law.go:88", after := #[{ on := 18, ground := Ground.guard }], guard := some (18, true) }) (v := undef) rfl (by kernel_rfl) (by kernel_rfl) (by kernel_rfl) (fun _ _ _ h => h) (Or.inr ⟨by rfl, rfl⟩) (by assumption) ?_
            (try simp only [Act.put, List.setIfInBounds_toArray, List.set_cons_zero, List.set_cons_succ])
            refine wpAnyH_take (i := 25) (oi := { dst := some 69, op := Op.call { callee := Callee.value (Operand.func 21), args := #[Operand.tmp 67, Operand.tmp 68], argTypes := #[33, 33] }, type := 4, pos := "law.go:88", after := #[{ on := 23, ground := Ground.data }, { on := 24, ground := Ground.data }, { on := 18, ground := Ground.chain }, { on := 18, ground := Ground.guard }], guard := some (18, true) }) (v := undef) rfl (by kernel_rfl) (by kernel_rfl) (by kernel_rfl) (fun _ _ _ h => h) (Or.inr ⟨by rfl, rfl⟩) (by assumption) ?_
            (try simp only [Act.put, List.setIfInBounds_toArray, List.set_cons_zero, List.set_cons_succ])
            refine wpAnyH_take (i := 26) (oi := { dst := some 70, op := Op.unOp UnOp.not 4 (Operand.tmp 69), type := 4, pos := "law.go:88", after := #[{ on := 25, ground := Ground.data }, { on := 18, ground := Ground.guard }], guard := some (18, true) }) (v := undef) rfl (by kernel_rfl) (by kernel_rfl) (by kernel_rfl) (fun _ _ _ h => h) (Or.inr ⟨by rfl, rfl⟩) (by assumption) ?_
            (try simp only [Act.put, List.setIfInBounds_toArray, List.set_cons_zero, List.set_cons_succ])
            refine wpAnyH_take (i := 27) (oi := { dst := some 71, op := Op.pick (Operand.tmp 62) (Operand.tmp 70) (Operand.const (Value.bool false)), type := 4, pos := "law.go:88", after := #[{ on := 18, ground := Ground.data }, { on := 26, ground := Ground.data }, { on := 15, ground := Ground.guard }], guard := some (15, false) }) (v := ?_) rfl (by kernel_rfl) (by kernel_rfl) (by kernel_rfl) (fun _ _ _ h => h) (Or.inl ⟨by rfl, ?_⟩) (by assumption) ?_
            rotate_left 1
            · (intro w hSw; (try dsimp only at hSw); go_simp; (try with_reducible rfl))
            (try simp only [Act.put, List.setIfInBounds_toArray, List.set_cons_zero, List.set_cons_succ])
            refine wpAnyH_take (i := 28) (oi := { dst := some 72, op := Op.pick (Operand.tmp 59) (Operand.const (Value.bool true)) (Operand.tmp 71), type := 4, pos := "law.go:88", after := #[{ on := 15, ground := Ground.data }, { on := 27, ground := Ground.data }], guard := none }) (v := ?_) rfl (by kernel_rfl) (by kernel_rfl) (by kernel_rfl) (fun _ _ _ h => h) (Or.inl ⟨by rfl, ?_⟩) (by assumption) ?_
            rotate_left 1
            · (intro w hSw; (try dsimp only at hSw); go_simp; (try with_reducible rfl))
            (try simp only [Act.put, List.setIfInBounds_toArray, List.set_cons_zero, List.set_cons_succ])
            refine wpAnyH_done (by kernel_rfl) ?_ _
            have h7 : Below w5.heap.size w5 w7 := ((Below.refl w5.heap.size w5).drewN 1).trans hb7
            go_wp2_with fail
            go_roundw
            case rel => exact ⟨k + 1, by omega, by simp, HB5.out.trans (h7.mono hz5)⟩
            case measure => simp [intOf]; omega
          · obtain ⟨j, hj⟩ : ∃ j, k = j + 1 := ⟨k - 1, by omega⟩
            have hjL : j < L.length := by rw [← HN.out]; omega
            obtain ⟨ad', had', hab', q0, q1⟩ := win_at (HO2.out.below HB5.out) (show j < n by omega) HN.out.symm
            injection had' with had'
            subst had'
            have HLS := hide (HNX.out j hj.symm hjL)
            generalize L[j] = y at q0 q1 HLS
            obtain ⟨yf, yt⟩ := y
            simp only at q0 q1 HLS
            have hab3 : (ad.add (j * 2)).block < w5.heap.size := by omega
            have HPQ : Hid (∀ w', Below w5.heap.size w5 w' → w'.cell? (ad.add (j * 2)) = some (.int .i64 yf) ∧ w'.cell? ⟨(ad.add (j * 2)).block, (ad.add (j * 2)).off + 1, none⟩ = some (.int .i64 yt)) := fun w' hb =>
              ⟨below_cell hb hab3 q0, below_cell hb hab3 q1⟩
            have e6 : decide ((0 : Int) < (k : Int)) = true := decide_eq_true (by omega)
            have e6' : (0 : Int) < (k : Int) := by omega
            have e6n : 0 < k := by omega
            have e7 : IntKind.i64.wrap ((k : Int) - 1) = (j : Int) := by rw [IntWalk.i64_in _ (by omega)]; omega
            have i1 : (0 : Int) ≤ (j : Int) := by omega
            have i2 : (j : Int) < (n : Int) := by omega
            clear hk0 hj hab'
            go_region_held3 (fun w' : World => (w'.cell? ⟨lb, 0, none⟩ = some (.int .i64 xf) ∧ w'.cell? ⟨lb, 1, none⟩ = some (.int .i64 xt)) ∧ (w'.cell? (ad.add (j * 2)) = some (.int .i64 yf) ∧ w'.cell? ⟨(ad.add (j * 2)).block, (ad.add (j * 2)).off + 1, none⟩ = some (.int .i64 yt))) (first
                | exact ⟨HL5.out.pair, ⟨q0, q1⟩⟩
                | exact ⟨hl7.pair, HPQ.out _ (((Below.refl w5.heap.size w5).drewN 1).trans hb7)⟩
                | exact ⟨hl8.pair, HPQ.out _ ((((Below.refl w5.heap.size w5).drewN 1).trans hb7).trans (hb8.mono hb7.size))⟩) (first
              | (go_at_call 19; refine (wcheck_any xf xt _).mono ?_; rw [if_pos HGD.out]; rintro e w7 ⟨rfl, hb7⟩; have hl7 := (HL5.out.drewN 1).below hb7 (HL5.out.drewN 1).lt)
              | (go_at_call 21; refine (less7 yf yt xf xt _ HLS.out).mono ?_; rintro e w8 ⟨rfl, hb8⟩; have hl8 := hl7.below hb8 hl7.lt))
            have h7 : Below w5.heap.size w5 w7 := ((Below.refl w5.heap.size w5).drewN 1).trans hb7
            have h8 : Below w5.heap.size w5 w8 := h7.trans (hb8.mono h7.size)
            go_wp2_with fail
            go_roundw
            case rel => exact ⟨k + 1, by omega, by simp, HB5.out.trans (h8.mono hz5)⟩
            case measure => simp [intOf]; omega
        · obtain rfl : k = n := by omega
          have HFr := hide (HF3.out.below HB.out HF3.out.lt)
          have HBr := hide (HB3.out.trans (HB.out.mono hz3))
          have c0 : wr.cell? ⟨w.heap.size, 0, none⟩ = some (.int .i64 kd) := HFr.out.cell 0
          have hflt := HFr.out.lt
          by_cases hk3 : kd = 3
          · have hone := HONE.out hk3
            rw [← HN.out] at hone
            subst hk3
            have hk1 : k = 1 := hone
            have hk1b : ((k : Int) == 1) = true := by simp [hk1]
            clear hone hk1
            go_wp2_with fail
            refine (awake07 _).mono ?_
            rintro e w9 ⟨rfl, hb⟩
            go_wp2_with fail
            go_ret
            exact ⟨rfl, HBr.out.trans (hb.mono HBr.out.size)⟩
          · have hk3b : (kd == 3) = false := by simp [hk3]
            have hMEM := HMEM.out hk3
            have hsix := HSIX.out hk3
            rw [← HN.out] at hsix
            have HME := hide hMEM
            clear hMEM
            go_wp2_with fail
            clear c0
            go_loopw [85] (fun i wz => ∃ (j : Nat), j ≤ q ∧ i = .int .i64 j ∧ Hid (Below w3.heap.size w3 wz)) (fun i _ => q - (intOf i).toNat)
            case atStart => exact ⟨0, Nat.zero_le _, rfl, HB.out⟩
            case round =>
              obtain ⟨j, hj, rfl, HBj⟩ := hrel
              have hzj := HBj.out.size
              by_cases hlj : j < q
              · have hjM : j < M.length := by rw [← HQ.out]; exact hlj
                obtain ⟨am, rfl, hab, g0, g1⟩ := win_at (HO3.out.below HBj.out) hlj HQ.out.symm
                have HMJ := hide (HME.out M[j] (List.getElem_mem hjM))
                generalize M[j] = y at g0 g1 HMJ
                obtain ⟨yf, yt⟩ := y
                simp only at g0 g1 HMJ
                have hab2 : (am.add (j * 2)).block < wr.heap.size := by omega
                go_wp2_with fail
                have HL5 : Hid (Blk (wr.alloc (.cells #[.int .i64 yf, .int .i64 yt] wT)) wr.heap.size wT #[.int .i64 yf, .int .i64 yt]) := Blk.new wr _ _
                have HB5 := hide (HBj.out.alloc hzj (.cells #[.int .i64 yf, .int .i64 yt] wT))
                generalize wr.alloc (.cells #[.int .i64 yf, .int .i64 yt] wT) = w5 at *
                generalize wr.heap.size = lb at *
                clear g0 g1
                go_loopw [15, 91] (fun b i wz => ∃ (m : Nat) (bb : Bool), m ≤ k ∧ i = .int .i64 m ∧ b = .bool bb ∧ Hid (bb = decide ((⟨yf, yt⟩ : Win) ∈ L.take m)) ∧ Hid (Blk wz lb wT #[.int .i64 yf, .int .i64 yt]) ∧ Hid (Below w3.heap.size w3 wz)) (fun _ i _ => k - (intOf i).toNat)
                case atStart => exact ⟨0, false, Nat.zero_le _, rfl, rfl, by simp [Hid], HL5.out, HB5.out⟩
                case round =>
                  obtain ⟨m, bb, hm, rfl, rfl, HBB, HLm, HBm⟩ := hrel
                  have hzm := HBm.out.size
                  obtain ⟨l0, l1⟩ := HLm.out.pair
                  have hllt := HLm.out.lt
                  by_cases hlm : m < k
                  · have hmL : m < L.length := by rw [← HN.out]; exact hlm
                    obtain ⟨ad, rfl, hab9, g0, g1⟩ := win_at (HO2.out.below HBm.out) hlm HN.out.symm
                    have HTK := hide (mem_take L m hmL ⟨yf, yt⟩)
                    generalize L[m] = x at g0 g1 HTK
                    obtain ⟨xf, xt⟩ := x
                    simp only at g0 g1
                    have hab10 : (ad.add (m * 2)).block < wr.heap.size := by omega
                    have HLn := hide (HLm.out.alloc (.cells #[.int .i64 xf, .int .i64 xt] wT))
                    have HBn := hide (HBm.out.alloc hzm (.cells #[.int .i64 xf, .int .i64 xt] wT))
                    cases bb
                    · by_cases hf : xf = yf
                      · by_cases ht9 : xt = yt
                        · subst hf
                          subst ht9
                          have HNEW : Hid (true = decide ((⟨xf, xt⟩ : Win) ∈ L.take (m + 1))) := by rw [Hid, HTK.out]; simp
                          go_wp2_with fail
                          go_roundw
                          case rel => exact ⟨m + 1, true, by omega, by simp, rfl, HNEW.out, HLn.out, HBn.out⟩
                          case measure => simp [intOf]; omega
                        · have HNEW : Hid (false = decide ((⟨yf, yt⟩ : Win) ∈ L.take (m + 1))) := by rw [Hid, HTK.out, ← HBB.out]; simp [ht9]
                          have hb1 : (xt == yt) = false := by simp [ht9]
                          subst hf
                          go_wp2_with fail
                          go_roundw
                          case rel => exact ⟨m + 1, false, by omega, by simp, rfl, HNEW.out, HLn.out, HBn.out⟩
                          case measure => simp [intOf]; omega
                      · have HNEW : Hid (false = decide ((⟨yf, yt⟩ : Win) ∈ L.take (m + 1))) := by rw [Hid, HTK.out, ← HBB.out]; simp [hf]
                        have hb1 : (xf == yf) = false := by simp [hf]
                        go_wp2_with fail
                        go_roundw
                        case rel => exact ⟨m + 1, false, by omega, by simp, rfl, HNEW.out, HLn.out, HBn.out⟩
                        case measure => simp [intOf]; omega
                    · have HNEW : Hid (true = decide ((⟨yf, yt⟩ : Win) ∈ L.take (m + 1))) := by rw [Hid, HTK.out, ← HBB.out]; simp
                      go_wp2_with fail
                      go_roundw
                      case rel => exact ⟨m + 1, true, by omega, by simp, rfl, HNEW.out, HLn.out, HBn.out⟩
                      case measure => simp [intOf]; omega
                  · have hbb : bb = decide (yf ≤ t ∧ t < yt) := by
                      rw [HBB.out, List.take_of_length_le (by rw [← HN.out]; omega), Bool.eq_iff_iff, decide_eq_true_iff, decide_eq_true_iff]
                      exact HMJ.out
                    by_cases h1 : yf ≤ t
                    · by_cases h2 : t < yt
                      · obtain rfl : bb = true := by rw [hbb, decide_eq_true ⟨h1, h2⟩]
                        clear hbb
                        go_wp2_with fail
                        go_roundw
                        case rel => exact ⟨j + 1, by omega, by simp, HBm.out⟩
                        case measure => simp [intOf]; omega
                      · obtain rfl : bb = false := by rw [hbb, decide_eq_false (fun h => h2 h.2)]
                        clear hbb
                        go_wp2_with fail
                        go_roundw
                        case rel => exact ⟨j + 1, by omega, by simp, HBm.out⟩
                        case measure => simp [intOf]; omega
                    · obtain rfl : bb = false := by rw [hbb, decide_eq_false (fun h => h1 h.1)]
                      clear hbb
                      go_wp2_with fail
                      go_roundw
                      case rel => exact ⟨j + 1, by omega, by simp, HBm.out⟩
                      case measure => simp [intOf]; omega
              · have h1k : (1 : Int) ≤ (k : Int) := by omega
                have h16 : (k : Int) ≤ 16 := by omega
                go_wp2_with fail
                refine (awake07 _).mono ?_
                rintro e w9 ⟨rfl, hb⟩
                go_wp2_with fail
                go_ret
                exact ⟨rfl, HB3.out.trans ((HBj.out.trans (hb.mono hzj)).mono hz3)⟩
    all_goals
      go_wp2_with fail
      refine (awake07 _).mono ?_
      rintro e w4 ⟨rfl, hb⟩
      go_wp2_with fail
      go_ret
      exact ⟨rfl, HB3.out.trans (hb.mono HB3.out.size)⟩
  all_goals
    go_wp2_with fail
    refine (awake07 _).mono ?_
    rintro e w4 ⟨rfl, hb⟩
    go_wp2_with fail
    go_ret
    exact ⟨rfl, HB3.out.trans (hb.mono HB3.out.size)⟩

end Go.Proofs.YtbnppocaeflghaaDoor
