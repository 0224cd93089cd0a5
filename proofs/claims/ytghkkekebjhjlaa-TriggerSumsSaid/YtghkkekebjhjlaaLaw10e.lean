/- TriggerSums. -/
import Derived.Test.YtghkkekebjhjlaaLaw10d
namespace Go.Proofs.Ytghkkekebjhjlaa
open Go.RowKit
set_option linter.unusedVariables false
set_option linter.unusedSimpArgs false

def sInt (xs : List Int) : List Value := xs.flatMap fun n => [.int .i64 n]
theorem sint_at {w : World} {B n c : Nat} {A : Option Addr} {D : List Int} (h : Sl w B (.slice A n c) 1 n (sInt D)) {k : Nat} (hk : k < n) (hD : D.length = n) :
    ∃ ad, A = some ad ∧ (ad.add (k * 1)).block < B ∧ w.cell? (ad.add (k * 1)) = some (.int .i64 (D[k]'(by omega))) := by
  obtain ⟨ad, rfl, hb, hh⟩ := h.at_ hk
  rw [sInt, part_of (fun n : Int => [Value.int .i64 n]) 1 (fun _ => rfl) D k (by omega)] at hh
  refine ⟨ad, rfl, by rw [add_blk]; exact hb, ?_⟩
  have := hh 0 _ rfl
  rwa [add_add'] at this

set_option maxHeartbeats 4000000 in
set_option maxRecDepth 100000 in
theorem sums_bad (se sl st : Int) (sa : Bool) (v : Value) (w : World) (h : (⟨0, sl, st, sa⟩ : Spc).ok = false) : Calls Try.prog 4 #[.agg #[.int .i64 se, .int .i64 sl, .int .i64 st, .bool sa], v] w fun e w' => e = .returned (.bool true) ∧ Below w.heap.size w w' := by
  have H := hide h
  clear h
  go_enter Try.func4, Try.ntmps4
  go_wp2_with fail
  refine (tnew_bad _ ⟨0, sl, st, sa⟩ H.out).mono ?_
  rintro e w1 ⟨rfl, hb⟩
  simp only [World.size_alloc] at hb
  have B1 : Blk w1 w.heap.size 28 #[.int .i64 0, .int .i64 sl, .int .i64 st, .bool sa] :=
    (Blk.new w 28 #[.int .i64 0, .int .i64 sl, .int .i64 st, .bool sa]).below hb (by omega)
  have c0 := B1.cell 0
  have c1 := B1.cell 1
  have c2 := B1.cell 2
  have c3 := B1.cell 3
  have clt := B1.lt
  simp only [List.getElem?_toArray, List.getElem?_cons_succ, List.getElem?_cons_zero] at c0 c1 c2 c3
  have HB := hide (((Below.refl w.heap.size w).alloc (Nat.le_refl _) (.cells #[.int .i64 0, .int .i64 sl, .int .i64 st, .bool sa] 28)).trans (hb.mono (by omega)))
  clear hb B1
  go_wp2_with fail
  refine (tnew_bad _ ⟨0, sl, st, sa⟩ H.out).mono ?_
  rintro e w2 ⟨rfl, hb⟩
  have HB2 := hide (HB.out.trans (hb.mono HB.out.size))
  clear hb c0 c1 c2 c3
  go_wp2_with fail
  refine (awake10 _).mono ?_
  rintro e w3 ⟨rfl, hb⟩
  have HB3 := hide (HB2.out.trans (hb.mono HB2.out.size))
  clear hb
  go_wp2_with fail
  go_ret
  exact ⟨rfl, HB3.out⟩

set_option maxHeartbeats 16000000 in
set_option maxRecDepth 100000 in
theorem sums_ok (se sl st : Int) (sa : Bool) (v : Value) (P : List Int) (n : Nat) (w : World) (h : (⟨0, sl, st, sa⟩ : Spc).ok = true) (hs : Sl w w.heap.size v 1 n (sInt P)) (hP : P.length = n) :
    Calls Try.prog 4 #[.agg #[.int .i64 se, .int .i64 sl, .int .i64 st, .bool sa], v] w fun e w' => e = .returned (.bool true) ∧ Below w.heap.size w w' := by
  obtain ⟨A, c, rfl, hc⟩ := hs.form
  have HS := hide hs
  have HP := hide hP
  have H := hide h
  clear h hs hP
  go_enter Try.func4, Try.ntmps4
  go_wp2_with fail
  refine (tnew_ok _ ⟨0, sl, st, sa⟩ H.out).mono ?_
  rintro e w1 ⟨ba, la, rfl, hm, hb, hba, hla⟩
  simp only [World.size_alloc] at hb hba hla
  have B1 : Blk w1 w.heap.size 28 #[.int .i64 0, .int .i64 sl, .int .i64 st, .bool sa] :=
    (Blk.new w 28 #[.int .i64 0, .int .i64 sl, .int .i64 st, .bool sa]).below hb (by omega)
  have c0 := B1.cell 0
  have c1 := B1.cell 1
  have c2 := B1.cell 2
  have c3 := B1.cell 3
  have clt := B1.lt
  simp only [List.getElem?_toArray, List.getElem?_cons_succ, List.getElem?_cons_zero] at c0 c1 c2 c3
  have HB1 := hide (((Below.refl w.heap.size w).alloc (Nat.le_refl _) (.cells #[.int .i64 0, .int .i64 sl, .int .i64 st, .bool sa] 28)).trans (hb.mono (by omega)))
  have HX1 := hide B1
  have HA1 := hide hm
  have hba2 := hm.lt1
  have hla2 := hm.lt2
  clear hb B1 hm
  go_wp2_with fail
  refine (tnew_ok _ ⟨0, sl, st, sa⟩ H.out).mono ?_
  rintro e w2 ⟨bb, lb, rfl, hm, hb, hbb, hlb⟩
  have HB2 := hide (HB1.out.trans (hb.mono HB1.out.size))
  have HX2 := hide (HX1.out.below hb clt)
  have HA2 := hide (HA1.out.below hb)
  have HM2 := hide hm
  clear hb hm c0 c1 c2 c3
  by_cases hlen : 100 < n
  · go_wp2_with fail
    refine (awake10 _).mono ?_
    rintro e w3 ⟨rfl, hb⟩
    have HB3 := hide (HB2.out.trans (hb.mono HB2.out.size))
    clear hb
    go_wp2_with fail
    go_ret
    exact ⟨rfl, HB3.out⟩
  · go_wp2_with fail
    go_loopw [9, 48] (fun su i wr => ∃ (k S : Nat), k ≤ n ∧ i = .int .i64 k ∧ su = .int .i64 S ∧ S ≤ 5 * k ∧ Hid (MR wr ba la ⟨0, sl, st, sa⟩ ⟨0, 0, S, false, false⟩) ∧ Hid (MR wr bb lb ⟨0, sl, st, sa⟩ ⟨0, 0, S, false, false⟩) ∧ Hid (Blk wr w.heap.size 28 #[.int .i64 0, .int .i64 sl, .int .i64 st, .bool sa]) ∧ Hid (Below w.heap.size w wr)) (fun _ i _ => n - (intOf i).toNat)
    case atStart => exact ⟨0, 0, Nat.zero_le _, rfl, rfl, by simp, HA2, HM2, HX2, HB2⟩
    case round =>
      obtain ⟨k, S, hk, rfl, rfl, hS, HA, HM, HX, HB⟩ := hrel
      by_cases hlt : k < n
      · obtain ⟨ad, rfl, hab, h0⟩ := sint_at (HS.out.below HB.out) hlt HP.out
        have hb2 : (ad.add (k * 1)).block < wr.heap.size := Nat.lt_of_lt_of_le hab HB.out.size
        have hkT : k < P.length := by rw [HP.out]; exact hlt
        generalize P[k] = p at h0
        rw [Nat.mul_one] at h0 hb2 hab
        by_cases p1 : p < 1
        · go_wp2_with fail
          go_roundw
          case rel => exact ⟨k + 1, S, by omega, by simp, rfl, by omega, HA, HM, HX, HB⟩
          case measure => simp [intOf]; omega
        by_cases p2 : 5 < p
        · go_wp2_with fail
          go_roundw
          case rel => exact ⟨k + 1, S, by omega, by simp, rfl, by omega, HA, HM, HX, HB⟩
          case measure => simp [intOf]; omega
        obtain ⟨q, rfl⟩ := Int.eq_ofNat_of_zero_le (show 0 ≤ p by omega)
        have c0 := HX.out.cell 0
        have c1 := HX.out.cell 1
        have c2 := HX.out.cell 2
        have c3 := HX.out.cell 3
        simp only [List.getElem?_toArray, List.getElem?_cons_succ, List.getElem?_cons_zero] at c0 c1 c2 c3
        clear c0 c1 c2 c3
        go_wp2_with fail
        refine (add_not_false _ ba la _ _ (q : Int) HA.out (by simp [btw]; omega) rfl rfl (by simp) (by simp; omega) (.inl rfl)).mono ?_
        rintro e w3 ⟨rfl, hm, hf⟩
        have HA3 := hide hm
        have HM3 := hide (HM.out.fr hf (by omega) (by omega))
        have HX3 := hide (hf.blk HX.out (by omega))
        have HB3 := hide (HB.out.trans (hf.away (B := w.heap.size) (by omega) (by omega) HB.out.size))
        clear hm hf
        have c0 := HX3.out.cell 0
        have c1 := HX3.out.cell 1
        have c2 := HX3.out.cell 2
        have c3 := HX3.out.cell 3
        have clt3 := HX3.out.lt
        simp only [List.getElem?_toArray, List.getElem?_cons_succ, List.getElem?_cons_zero] at c0 c1 c2 c3
        go_wp2_with fail
        refine (tnew_ok _ ⟨0, sl, st, sa⟩ H.out).mono ?_
        rintro e w4 ⟨bo, lo, rfl, hm, hb, hbo, hlo⟩
        have HA4 := hide (HA3.out.below hb)
        have HM4 := hide (HM3.out.below hb)
        have HX4 := hide (HX3.out.below hb clt3)
        have HB4 := hide (HB3.out.trans (hb.mono HB3.out.size))
        have HO4 := hide hm
        have z1 := HA3.out.lt1
        have z2 := HA3.out.lt2
        have z3 := HM3.out.lt1
        have z4 := HM3.out.lt2
        clear hm hb c0 c1 c2 c3
        go_wp2_with fail
        obtain ⟨wo, rfl⟩ : ∃ wo : World, wo = wr := ⟨_, rfl⟩
        go_loopw [72] (fun i wr => ∃ (j : Nat), j ≤ q ∧ i = .int .i64 j ∧ Hid (MR wr bo lo ⟨0, sl, st, sa⟩ ⟨0, 0, j, false, false⟩) ∧ Hid (MR wr ba la ⟨0, sl, st, sa⟩ ⟨0, 0, S + q, false, false⟩) ∧ Hid (MR wr bb lb ⟨0, sl, st, sa⟩ ⟨0, 0, S, false, false⟩) ∧ Hid (Blk wr w.heap.size 28 #[.int .i64 0, .int .i64 sl, .int .i64 st, .bool sa]) ∧ Hid (Below w.heap.size w wr)) (fun i _ => q - (intOf i).toNat)
        case atStart => exact ⟨0, Nat.zero_le _, rfl, HO4, HA4, HM4, HX4, HB4⟩
        case round =>
          obtain ⟨j, hj, rfl, HO5, HA5, HM5, HX5, HB5⟩ := hrel
          by_cases hjq : j < q
          · go_wp2_with fail
            refine (add_not_false _ bo lo _ _ 1 HO5.out rfl rfl rfl (by simp) (by simp; omega) (.inl rfl)).mono ?_
            rintro e w6 ⟨rfl, hm, hf⟩
            have HO6 := hide hm
            have HA6 := hide (HA5.out.fr hf (by omega) (by omega))
            have HM6 := hide (HM5.out.fr hf (by omega) (by omega))
            have HX6 := hide (hf.blk HX5.out (by omega))
            have HB6 := hide (HB5.out.trans (hf.away (B := w.heap.size) (by omega) (by omega) HB5.out.size))
            clear hm hf
            go_wp2_with fail
            go_roundw
            case rel => exact ⟨j + 1, by omega, by simp, by simpa using HO6, HA6, HM6, HX6, HB6⟩
            case measure => simp [intOf]; omega
          · have hjq' : j = q := by omega
            subst hjq'
            go_wp2_with fail
            refine (join_yes _ bb lb bo lo _ _ _ _ HM5.out HO5.out (by omega) rfl rfl (by simp) (by simp; omega) (by simp) (by simp; omega)).mono ?_
            rintro e w6 ⟨rfl, hm, hf⟩
            have HM6 := hide hm
            have HA6 := hide (HA5.out.fr hf (fun (h : _ = _) => by omega) (fun (h : _ = _) => by omega))
            have HX6 := hide (hf.blk HX5.out (fun (h : _ = _) => by omega))
            have HB6 := hide (HB5.out.trans (hf.below (B := w.heap.size) HB5.out.size (fun k hk (h : _ = _) => by omega)))
            clear hm hf
            go_wp2_with fail
            go_roundw
            case rel => exact ⟨k + 1, S + j, by omega, by simp, by simp, by omega, by simpa using HA6, by simpa using HM6, HX6, HB6⟩
            case measure => simp [intOf]; omega
      · have hkn : k = n := by omega
        subst hkn
        go_wp2_with fail
        refine (state_any _ ba la _ _ HA.out).mono ?_
        rintro e w3 ⟨rfl, hb9⟩
        have HA3 := hide (HA.out.below hb9)
        have HM3 := hide (HM.out.below hb9)
        have HB3 := hide (HB.out.trans (hb9.mono HB.out.size))
        clear hb9
        go_wp2_with fail
        refine (state_any _ bb lb _ _ HM3.out).mono ?_
        rintro e w4 ⟨rfl, hb9⟩
        have HA4 := hide (HA3.out.below hb9)
        have HM4 := hide (HM3.out.below hb9)
        have HB4 := hide (HB3.out.trans (hb9.mono HB3.out.size))
        clear hb9
        simp only [stVal]
        go_wp2_with fail
        refine (state_any _ ba la _ _ HA4.out).mono ?_
        rintro e w5 ⟨rfl, hb9⟩
        have HA5 := hide (HA4.out.below hb9)
        have HM5 := hide (HM4.out.below hb9)
        have HB5 := hide (HB4.out.trans (hb9.mono HB4.out.size))
        clear hb9
        simp only [stVal]
        have hfd : ∀ w : World, (Instr.field 39 (.agg #[.int .i64 0, .int .i64 0, .int .i64 S, .bool false, .bool false]) 2).run Try.prog w = .ok (.int .i64 S) w := fun _ => by kernel_rfl
        go_wp2_with fail
        clear hfd
        obtain ⟨cl, hcl⟩ : ∃ cl, (st == 0) = cl := ⟨_, rfl⟩
        refine (pass_fires _ ba la _ _ cl HA5.out rfl hcl rfl (by simp) (by simp)).mono ?_
        rintro e w6 ⟨va, rfl, ho, hm, hf⟩
        have HM6 := hide (HM5.out.fr hf (by omega) (by omega))
        have HB6 := hide (HB5.out.trans (hf.away (B := w.heap.size) (by omega) (by omega) HB5.out.size))
        have HO6 := hide ho
        have y1 := HM5.out.lt1
        have y2 := HM5.out.lt2
        clear ho hm hf
        go_wp2_with fail
        refine (pass_fires _ bb lb _ _ cl HM6.out rfl hcl rfl (by simp) (by simp)).mono ?_
        rintro e w7 ⟨vb, rfl, ho, hm, hf⟩
        obtain ⟨ga, capa, rfl, hga1, hga2, d0, d1, d2, hcapa⟩ := one_at (HO6.out.fr hf (fun g hg hg' => by have := (HO6.out.lt g hg).1; omega))
        obtain ⟨gb, capb, rfl, hgb1, hgb2, e0, e1, e2, hcapb⟩ := one_at ho
        have HB7 := hide (HB6.out.trans (hf.away (B := w.heap.size) (by omega) (by omega) HB6.out.size))
        clear hcl ho hm hf
        go_wp2_with fail
        refine wp_region_still_tail 26 (by kernel_rfl) (by kernel_rfl) ?_
        simp only [List.take_succ_cons, List.take_zero, List.drop_succ_cons, List.drop_zero]
        change wpStill _ _ (World.drew _) _ _ _
        replace d0 : w7.drew.cell? ⟨ga, 0, none⟩ = _ := d0
        replace d1 : w7.drew.cell? ⟨ga, 1, none⟩ = _ := d1
        replace d2 : w7.drew.cell? ⟨ga, 2, none⟩ = _ := d2
        replace e0 : w7.drew.cell? ⟨gb, 0, none⟩ = _ := e0
        replace e1 : w7.drew.cell? ⟨gb, 1, none⟩ = _ := e1
        replace e2 : w7.drew.cell? ⟨gb, 2, none⟩ = _ := e2
        have hga3 : ga < w7.drew.heap.size := hga2
        have hgb3 : gb < w7.drew.heap.size := hgb2
        have HB8 := hide HB7.out.drew
        generalize hW : World.drew _ = W2 at d0 d1 d2 e0 e1 e2 hga3 hgb3 HB8 ⊢
        have HW := hide hW
        clear hW
        repeat still_step
        refine wpStill_nil ?_
        change wpList _ _ _ _ _ (World.drew _)
        rw [HW.out]
        clear d0 d1 d2 e0 e1 e2
        go_wp2_with fail
        refine (awake10 _).mono ?_
        rintro e w9 ⟨rfl, hb9⟩
        have HB9 := hide (HB8.out.trans (hb9.mono HB8.out.size))
        clear hb9
        go_wp2_with fail
        go_ret
        exact ⟨rfl, HB9.out⟩

end Go.Proofs.Ytghkkekebjhjlaa
