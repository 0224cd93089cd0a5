/- WindowSessions: the walk. -/
import Derived.Test.YtbnppocaeflghaaDoorSessP
import Derived.Test.YtbnppocaeflghaaDoorAny07
import Derived.Test.YtbnppocaeflghaaDoorAwk07
import Derived.Test.YtbnppocaeflghaaDoorAft
import Derived.Deep.CutRange
namespace Go.Proofs.YtbnppocaeflghaaDoor
open Go.RowKit Go.Sort
set_option linter.unusedVariables false
set_option linter.unusedSimpArgs false

abbrev fnT7 : Nat := 24
def ints (T : List Int) : List Value := T.flatMap fun n => [.int .i64 n]
theorem ints_len (T : List Int) : (ints T).length = T.length * 1 := flat_len _ 1 (fun _ => rfl) T
theorem ints_app (C D : List Int) : ints (C ++ D) = ints C ++ ints D := List.flatMap_append ..
theorem ints_ok (T : List Int) : ∀ u ∈ ints T, u.oneCell' = true := by
  intro u hu
  simp only [ints, List.mem_flatMap] at hu
  obtain ⟨p, _, hp⟩ := hu
  rw [List.mem_singleton] at hp
  rw [hp]; rfl
theorem tyN : SlTy Tryd.prog 22 3 1 8 (.int .i64 0) := ⟨Tryd.underlying22, info_parts (by kernel_rfl), rfl, by omega⟩
theorem int_at {w : World} {B n c : Nat} {A : Option Addr} {S : List Int} (h : Sl w B (.slice A n c) 1 n (ints S)) {k : Nat} (hk : k < n) (hD : S.length = n) :
    ∃ ad, A = some ad ∧ (ad.add k).block < B ∧ w.cell? (ad.add k) = some (.int .i64 (S[k]'(by omega))) := by
  obtain ⟨ad, rfl, hb, hh⟩ := h.at_ hk
  rw [ints, part_of (fun n : Int => [Value.int .i64 n]) 1 (fun _ => rfl) S k (by omega)] at hh
  refine ⟨ad, rfl, by rw [add_blk]; exact hb, ?_⟩
  have := hh 0 _ rfl
  rwa [add_add', Nat.mul_one, Nat.add_zero] at this
theorem own_apart {w : World} {b1 b2 e1 e2 s1 s2 n1 n2 : Nat} {v1 v2 : Value} {x1 x2 : List Value} (h : Own w b1 e1 s1 v1 n1 x1) (k : Own w b2 e2 s2 v2 n2 x2) (hne : e1 ≠ e2) : ∀ g, v1.ownBlock = some g → ¬ v2.ownBlock = some g := by
  intro g h1 h2
  obtain ⟨c1, hc1⟩ := h.typed g h1
  obtain ⟨c2, hc2⟩ := k.typed g h2
  exact (hc1.apart hc2 hne) rfl
def okT (t : Int) : Bool := decide (0 ≤ t) && decide (t ≤ 1048576)
theorem filt_snoc (T : List Int) (k : Nat) (hk : k < T.length) : (T.take (k + 1)).filter okT = (T.take k).filter okT ++ (if okT T[k] then [T[k]] else []) := by
  rw [List.take_succ_eq_append_getElem hk, List.filter_append]
  congr 1
  by_cases h : okT T[k] = true
  · rw [if_pos h]; simp [h]
  · rw [if_neg h]; simp [h]
def allW (g : Int) (T : List Int) : List Win := (T.filter okT).map (mkW g)

set_option maxRecDepth 100000 in
set_option maxHeartbeats 16000000 in
theorem sess_main (v : Value) (T : List Int) (n B : Nat) (g : Int) (w : World) (hs : Sl w B v 1 n (ints T)) (hT : T.length = n) (hB : B ≤ w.heap.size) (hg1 : 1 ≤ g) (hg2 : g ≤ 1048576) (hn : n ≤ 60) :
    Calls Tryd.prog 3 #[.int .i64 g, v] w fun e w' => e = .returned (.bool true) ∧ Below w.heap.size w w' := by
  obtain ⟨A, c, rfl, hc⟩ := hs.form
  have HS := hide hs
  have HT := hide hT
  have hr : Wfn.right ⟨3, g, 0, 0⟩ := Or.inr (Or.inr (Or.inr ⟨rfl, hg1, hg2, rfl, rfl⟩))
  have HCK := hide (check_any ⟨3, g, 0, 0⟩)
  rw [if_pos hr] at HCK
  have HAS : Hid (∀ (t : Int) (W : World), Calls Tryd.prog 14 #[.agg #[.int .i64 3, .int .i64 g, .int .i64 0, .int .i64 0], .int .i64 t] W fun e w' => ∃ v n, e = .returned (.tuple #[v, .int .i64 n]) ∧ Below W.heap.size W w' ∧
      ((okT t = true ∧ n = 0 ∧ Own w' W.heap.size wT 2 v 1 (wins [mkW g t])) ∨ (okT t = false ∧ n = 71 ∧ v = .slice none 0 0))) := by
    intro t W
    refine (assign_any ⟨3, g, 0, 0⟩ t W).mono ?_
    rintro e w' ⟨v, m, rfl, hb, h⟩
    refine ⟨v, m, rfl, hb, ?_⟩
    rcases h with ⟨_, h1, h2, h3, h4⟩ | ⟨h1, _⟩ | ⟨_, h1, h2, h3⟩
    · left
      refine ⟨by unfold okT; simp [h1, h2], h3, ?_⟩
      have he : Wfn.asg ⟨3, g, 0, 0⟩ t = [mkW g t] := by simp [Wfn.asg, mkW]
      rw [he] at h4
      exact h4
    · exact absurd hr h1
    · right
      refine ⟨?_, h2, h3⟩
      unfold okT
      by_cases h5 : 0 ≤ t
      · have h6 : ¬ t ≤ 1048576 := fun h6 => h1 ⟨h5, h6⟩
        simp [h5, h6]
      · simp [h5]
  clear hs hT hr
  go_enter Tryd.func3, Tryd.ntmps3
  go_wp2_with fail
  have HF : Hid (Blk (w.alloc (.cells #[.int .i64 3, .int .i64 g, .int .i64 0, .int .i64 0] fnT7)) w.heap.size fnT7 #[.int .i64 3, .int .i64 g, .int .i64 0, .int .i64 0]) := Blk.new w _ _
  have HB0 : Hid (Below w.heap.size w (w.alloc (.cells #[.int .i64 3, .int .i64 g, .int .i64 0, .int .i64 0] fnT7))) := (Below.refl w.heap.size w).alloc (Nat.le_refl _) _
  refine (HCK.out _).mono ?_
  generalize w.alloc (.cells #[.int .i64 3, .int .i64 g, .int .i64 0, .int .i64 0] fnT7) = w0 at *
  rintro e w1 ⟨rfl, hb⟩
  have HF1 := hide (HF.out.below hb HF.out.lt)
  have HB1 := hide (HB0.out.trans (hb.mono HB0.out.size))
  have hz1 := HB1.out.size
  clear hb HF HB0 HCK
  go_wp2_with fail
  have hfb : w.heap.size < w1.heap.size := HF1.out.lt
  go_loopw [6, 7, 31] (fun al lv i wr => ∃ (k p : Nat) (Ls : List Int), k ≤ n ∧ i = .int .i64 k ∧ p ≤ k ∧ Hid (Ls.length = p) ∧ Hid (Asc Ls) ∧ Hid (Ls.Perm ((T.take k).filter okT)) ∧ Hid (Own wr w1.heap.size wT 2 al p (wins (allW g (T.take k)))) ∧ Hid (Own wr w1.heap.size 3 1 lv p (ints Ls)) ∧ Hid (Below w1.heap.size w1 wr)) (fun _ _ i _ => n - (intOf i).toNat)
  case atStart => exact ⟨0, 0, [], Nat.zero_le _, rfl, Nat.le_refl _, rfl, List.Pairwise.nil, List.Perm.refl _, Own.nil _ _ _ _, Own.nil _ _ _ _, Below.refl _ _⟩
  case round =>
    obtain ⟨k, p, Ls, hk, rfl, hpk, HLl, HLa, HLp, HOA, HOL, HB⟩ := hrel
    have hzr := HB.out.size
    obtain ⟨aA, ac, rfl, hac⟩ := HOA.out.sl.form
    obtain ⟨lA, lc, rfl, hlc⟩ := HOL.out.sl.form
    by_cases hlt : k < n
    · have hkT : k < T.length := by rw [HT.out]; exact hlt
      obtain ⟨ad, rfl, hab, g0⟩ := int_at (HS.out.below ((HB1.out.mono hB).trans (HB.out.mono (by omega)))) hlt HT.out
      have HFS := hide (filt_snoc T k hkT)
      generalize T[k] = t at g0 HFS
      have HF2 := hide (HF1.out.below HB.out HF1.out.lt)
      obtain ⟨f0, f1, f2, f3⟩ : wr.cell? ⟨w.heap.size, 0, none⟩ = some (.int .i64 3) ∧ wr.cell? ⟨w.heap.size, 1, none⟩ = some (.int .i64 g) ∧ wr.cell? ⟨w.heap.size, 2, none⟩ = some (.int .i64 0) ∧ wr.cell? ⟨w.heap.size, 3, none⟩ = some (.int .i64 0) := ⟨HF2.out.cell 0, HF2.out.cell 1, HF2.out.cell 2, HF2.out.cell 3⟩
      have hfr : w.heap.size < wr.heap.size := HF2.out.lt
      have hab2 : (ad.add k).block < wr.heap.size := by omega
      go_wp2_with fail
      refine (HAS.out t _).mono ?_
      rintro e w2 ⟨av, ae, rfl, hb, hcase⟩
      have HB2 := hide hb
      have hz2 := hb.size
      have HOA2 := hide (HOA.out.below hb)
      have HOL2 := hide (HOL.out.below hb)
      clear hb g0 f0 f1 f2 f3
      rcases hcase with ⟨hok, rfl, ho⟩ | ⟨hok, rfl, rfl⟩
      · have HOV := hide ho
        clear ho
        obtain ⟨vA, vc, rfl, hvc⟩ := HOV.out.sl.form
        have hokd : 0 ≤ t ∧ t ≤ 1048576 := by unfold okT at hok; simpa using hok
        go_wp2_with (at_builtin; refine wpList_app rfl tyW (.tmp 43) (.tmp 44) rfl w1.heap.size (n := p) (m := 1) (B := w2.heap.size) (xs := wins (allW g (T.take k))) (news := wins [mkW g t]) rfl rfl HOA2.out HOV.out.sl (wins_ok _) (by omega) (by omega) (by omega) ?_)
        intro v3 w3 ha
        have HOA3 : Hid (Own w3 w1.heap.size wT 2 v3 (p + 1) (wins (allW g (T.take (k + 1))))) := by
          show Own _ _ _ _ _ _ _
          unfold allW
          rw [HFS.out, if_pos hok, List.map_append, wins_app]
          exact ha.own
        have HOL3 : Hid (Own w3 w1.heap.size 3 1 (.slice lA p lc) p (ints Ls)) := HOL2.out.fr ha.fr (own_apart HOL2.out HOA2.out (by decide))
        have HB3 := hide (HB.out.trans ((HB2.out.mono hzr).trans (ha.fr.below (B := w1.heap.size) (by omega) (fun k hk h => by have := (HOA2.out.lt k h).1; omega))))
        have hz3 := HB3.out.size
        clear ha HOA2 HOL2 HOV
        obtain ⟨a3, c3, rfl, hc3⟩ := HOA3.out.sl.form
        go_wp2_with fail
        have hshape : (lA = none ∧ p = 0 ∧ lc = 0) ∨ ∃ la, lA = some la := by
          rcases HOL3.out.2 with ⟨h1, h2⟩ | ⟨gb, lcap, lcur, h1, _⟩
          · injection h1 with h3 _ h4
            exact .inl ⟨h3, h2, h4⟩
          · injection h1 with h3 _ h4
            exact .inr ⟨_, h3⟩
        rcases hshape with ⟨rfl, rfl, rfl⟩ | ⟨la, rfl⟩
        · have hL0 : Ls = [] := List.eq_nil_of_length_eq_zero HLl.out
          subst hL0
          have HPRM : Hid ([t].Perm ((T.take (k + 1)).filter okT)) := by
            show List.Perm _ _
            rw [HFS.out, if_pos hok]
            exact (List.Perm.cons t HLp.out).trans (List.perm_append_singleton t _).symm
          have N1 : Hid (Own (w3.alloc (.cells #[.int .i64 t] 3)) w1.heap.size 3 1 (.slice (some ⟨w3.heap.size, 0, none⟩) 1 1) 1 (ints [t])) := Own.new w3 w1.heap.size #[.int .i64 t] hz3 (by omega) rfl
          go_loopw [12] (fun i wz => i = .int .i64 0 ∧ wz = w3) (fun i _ => 0)
          case atStart => exact ⟨rfl, rfl⟩
          case round =>
            obtain ⟨rfl, rfl⟩ := hrel
            go_wp2_with fail
            go_region_law (first
              | (refine step_app rfl tyN (.tmp 65) (.tmp 68) rfl w1.heap.size (n := 1) (m := 0) (B := wr.heap.size) (xs := ints [t]) (news := []) rfl rfl (Own.drew N1.out) (Sl.nil _ _ _) (fun u hu => by cases hu) (by omega) (by omega) (by simp; omega) ?_; intro v5 w5 ha5)
              | (have hb5 : Below wr.heap.size (wr.alloc (.cells #[.int .i64 t] 3)).drew w5 := ha5.fr.below (by simp) (fun k hk h => by have := own_eq h; omega)
                 have ho5 : Own w5 w1.heap.size 3 1 v5 1 (ints [t]) := by have h9 := ha5.own; rw [List.append_nil] at h9; exact h9
                 have hz5 : wr.heap.size + 1 ≤ w5.heap.size := by simpa using ha5.fr.size
                 refine step_app rfl tyN (.tmp 63) (.tmp 69) rfl w1.heap.size (n := 0) (m := 1) (B := w5.heap.size) (xs := []) (news := ints [t]) rfl rfl (Own.nil _ _ _ _) ho5.sl (ints_ok _) (by omega) (by omega) (by omega) ?_
                 intro v6 w6 ha6))
            have HO6 : Hid (Own w6 w1.heap.size 3 1 v6 1 (ints [t])) := ha6.own
            have HA5 : Hid (Own w5 w1.heap.size wT 2 (.slice a3 (0 + 1) c3) (0 + 1) (wins (allW g (T.take (k + 1))))) := (HOA3.out.alloc _).drew.to (fun g hg => hb5.block g (HOA3.out.lt g hg).2)
            have HOA6 : Hid (Own w6 w1.heap.size wT 2 (.slice a3 (0 + 1) c3) (0 + 1) (wins (allW g (T.take (k + 1))))) := HA5.out.fr ha6.fr (fun g _ h => by cases h)
            have HB6 : Hid (Below w1.heap.size w1 w6) := ((HB3.out.alloc hz3 _).drewN 1).trans ((hb5.mono hz3).trans (ha6.fr.below (by omega) (fun k hk h => by cases h)))
            clear ha5 ha6
            go_wp2_with fail
            go_roundw
            case rel => exact ⟨k + 1, 1, [t], by omega, by simp, by omega, rfl, List.pairwise_singleton _ _, HPRM.out, HOA6, HO6, HB6⟩
            case measure => simp [intOf]; omega
        go_loopw [12] (fun i wz => ∃ q : Nat, q ≤ p ∧ i = .int .i64 q ∧ Hid (∀ x ∈ Ls.drop q, t < x) ∧ wz = w3) (fun i _ => (intOf i).toNat)
        case atStart => exact ⟨p, Nat.le_refl _, rfl, (fun x hx => by rw [List.drop_of_length_le (by rw [HLl.out]; omega)] at hx; cases hx), rfl⟩
        case round =>
          obtain ⟨q, hq, rfl, HGT, rfl⟩ := hrel
          have hq0 : q = 0 ∨ ∃ q', q = q' + 1 := by cases q with | zero => exact .inl rfl | succ q' => exact .inr ⟨q', rfl⟩
          have hcase2 : (∃ (q' : Nat) (h : q' < Ls.length), q = q' + 1 ∧ t < Ls[q']) ∨ ((∀ h : 0 < q, Ls[q - 1]'(by have := HLl.out; omega) ≤ t) ∧ (q = 0 ∨ ∃ (q' : Nat) (h : q' < Ls.length), q = q' + 1 ∧ ¬ t < Ls[q'])) := by
            rcases hq0 with rfl | ⟨q', rfl⟩
            · exact .inr ⟨fun h => by omega, .inl rfl⟩
            · have hq' : q' < Ls.length := by rw [HLl.out]; omega
              by_cases hx : t < Ls[q']
              · exact .inl ⟨q', hq', rfl, hx⟩
              · exact .inr ⟨fun _ => by simpa using Int.not_lt.1 hx, .inr ⟨q', hq', rfl, hx⟩⟩
          rcases hcase2 with ⟨q', hq', rfl, hx⟩ | ⟨hle, hex⟩
          · obtain ⟨ld, hld, hlb, l0⟩ := int_at HOL3.out.sl (show q' < p by omega) HLl.out
            injection hld with hld
            subst hld
            have HDR : Hid (Ls.drop q' = Ls[q'] :: Ls.drop (q' + 1)) := List.drop_eq_getElem_cons hq'
            generalize Ls[q'] = x at hx l0 HDR
            have hw : IntKind.i64.wrap (((q' + 1 : Nat) : Int) - 1) = (q' : Int) := by rw [IntWalk.i64_in _ (by omega)]; omega
            have i1 : (0 : Int) ≤ (q' : Int) := by omega
            have i2 : (q' : Int) < (p : Int) := by omega
            have d2 : decide (t < x) = true := decide_eq_true hx
            go_wp2_with fail
            go_roundw
            case rel => exact ⟨q', by omega, by simp, (fun y hy => by rw [HDR.out] at hy; rcases List.mem_cons.1 hy with rfl | h9; exact hx; exact HGT.out y h9), trivial⟩
            case measure => simp [intOf]
          · have HLE := hide hle
            clear hle hq0
            have i1 : (0 : Int) ≤ (q : Int) := by omega
            have i2 : (q : Int) ≤ (p : Int) := by omega
            have i3 : (p : Int) ≤ (lc : Int) := by omega
            -- ENDS
            rcases hex with hq0 | ⟨q', hq', hqq, hx⟩
            · have d1 : (0 < q) = False := eq_false (by omega)
              clear hq0
              have HASC0 : Hid (Asc (Ls.take q ++ t :: Ls.drop q)) := ins_asc HLa.out (by rw [HLl.out]; exact hq) HGT.out HLE.out
              have HPRM0 : Hid ((Ls.take q ++ t :: Ls.drop q).Perm ((T.take (k + 1)).filter okT)) := by
                show List.Perm _ _
                rw [HFS.out, if_pos hok]
                exact (ins_perm Ls q t).trans ((List.Perm.cons t HLp.out).trans (List.perm_append_singleton t _).symm)
              have hgb : la.block < wr.heap.size := (HOL3.out.lt la.block rfl).2
              have hgb1 : w1.heap.size ≤ la.block := (HOL3.out.lt la.block rfl).1
              have N1 : Hid (Own (wr.alloc (.cells #[.int .i64 t] 3)) w1.heap.size 3 1 (.slice (some ⟨wr.heap.size, 0, none⟩) 1 1) 1 (ints [t])) := Own.new wr w1.heap.size #[.int .i64 t] hz3 (by omega) rfl
              have i4 : (q : Int) ≤ (lc : Int) := by omega
              by_cases hlq : lc = q
              · have hpq : p = q := by omega
                subst hpq
                subst hlq
                have S1 : Hid (Own wr w1.heap.size 3 1 (.slice (some la) lc lc) lc (ints (Ls.take lc))) := by
                  have h := HOL3.out.cut (k := lc) (d := lc) (Nat.le_refl _) (Nat.le_refl _) (Nat.le_refl _)
                  rw [ints, flat_take _ 1 (fun _ => rfl)] at h
                  exact h
                have S2 : Hid (Sl wr wr.heap.size (.slice (some la) 0 0) 1 0 (ints [])) := ⟨rfl, some la, 0, rfl, Nat.le_refl _, by omega, fun h => by omega⟩
                have HASC : Hid (Asc (Ls ++ [t])) := by
                  have h9 := HASC0.out
                  rw [List.take_of_length_le (by rw [HLl.out]; omega), List.drop_of_length_le (by rw [HLl.out]; omega)] at h9
                  exact h9
                have HPRM : Hid ((Ls ++ [t]).Perm ((T.take (k + 1)).filter okT)) := by
                  have h9 := HPRM0.out
                  rw [List.take_of_length_le (by rw [HLl.out]; omega), List.drop_of_length_le (by rw [HLl.out]; omega)] at h9
                  exact h9
                clear HASC0 HPRM0
                go_wp2_with fail
                go_region_law (first
                  | (refine step_app rfl tyN (.tmp 65) (.tmp 68) rfl w1.heap.size (n := 1) (m := 0) (B := wr.heap.size) (xs := ints [t]) (news := ints ([])) rfl rfl (Own.drew N1.out) (Sl.alloc S2.out (Nat.le_refl _) _) (ints_ok _) (by omega) (by omega) (by simp; omega) ?_; intro v5 w5 ha5)
                  | (have hb5 : Below wr.heap.size (wr.alloc (.cells #[.int .i64 t] 3)).drew w5 := ha5.fr.below (by simp) (fun k hk h => by have := own_eq h; omega)
                     have ho5 : Own w5 w1.heap.size 3 1 v5 (1) (ints (t :: [])) := by have h9 := ha5.own; rw [← ints_app] at h9; exact h9
                     have hs5 : Own w5 w1.heap.size 3 1 (.slice (some la) lc lc) lc (ints (Ls.take lc)) := (S1.out.alloc _).drew.to (fun g hg => hb5.block g (by have h9 : la.block = g := Option.some.inj hg; omega))
                     have hz5 : wr.heap.size + 1 ≤ w5.heap.size := by simpa using ha5.fr.size
                     refine step_app rfl tyN (.tmp 63) (.tmp 69) rfl w1.heap.size (n := lc) (m := 1) (B := w5.heap.size) (xs := ints (Ls.take lc)) (news := ints (t :: [])) rfl rfl hs5 ho5.sl (ints_ok _) (by omega) (by omega) (by omega) ?_
                     intro v6 w6 ha6))
                have HO6 : Hid (Own w6 w1.heap.size 3 1 v6 (lc + (1)) (ints (Ls.take lc ++ t :: []))) := by
                  show Own _ _ _ _ _ _ _
                  rw [ints_app]
                  exact ha6.own
                have HA5 : Hid (Own w5 w1.heap.size wT 2 (.slice a3 (lc + 1) c3) (lc + 1) (wins (allW g (T.take (k + 1))))) := (HOA3.out.alloc _).drew.to (fun g hg => hb5.block g (HOA3.out.lt g hg).2)
                have HOA6 : Hid (Own w6 w1.heap.size wT 2 (.slice a3 (lc + 1) c3) (lc + 1) (wins (allW g (T.take (k + 1))))) := HA5.out.fr ha6.fr (own_apart HA5.out hs5 (by decide))
                have HB6 : Hid (Below w1.heap.size w1 w6) := ((HB3.out.alloc hz3 _).drewN 1).trans ((hb5.mono hz3).trans (ha6.fr.below (by omega) (fun k hk h => by have h9 : la.block = k := Option.some.inj h; omega)))
                clear ha5 ha6
                go_wp2_with fail
                go_roundw
                case rel => exact ⟨k + 1, lc + 1, Ls ++ [t], by omega, by simp, by omega, by rw [Hid, List.length_append, HLl.out]; rfl, HASC.out, HPRM.out, HOA6, (by have h9 := HO6.out; rw [List.take_of_length_le (by rw [HLl.out]; omega)] at h9; exact h9), HB6⟩
                case measure => simp [intOf]; omega
              · have HASC := HASC0
                have HPRM := HPRM0
                clear HASC0 HPRM0
                have S1 : Hid (Own wr w1.heap.size 3 1 (.slice (some la) q lc) q (ints (Ls.take q))) := by
                  have h := HOL3.out.cut (k := q) (d := lc) hq (by omega) (Nat.le_refl _)
                  rw [ints, flat_take _ 1 (fun _ => rfl)] at h
                  exact h
                have S2 : Hid (Sl wr wr.heap.size (.slice (some (la.add q)) (p - q) (lc - q)) 1 (p - q) (ints (Ls.drop q))) := by
                  have h := HOL3.out.sl.drop (k := q) hq
                  rw [ints, flat_drop _ 1 (fun _ => rfl)] at h
                  rw [Nat.mul_one] at h
                  exact h
                go_wp2_with fail
                go_region_law (first
                  | (refine step_app rfl tyN (.tmp 65) (.tmp 68) rfl w1.heap.size (n := 1) (m := p - q) (B := wr.heap.size) (xs := ints [t]) (news := ints (Ls.drop q)) rfl rfl (Own.drew N1.out) (Sl.alloc S2.out (Nat.le_refl _) _) (ints_ok _) (by omega) (by omega) (by simp; omega) ?_; intro v5 w5 ha5)
                  | (have hb5 : Below wr.heap.size (wr.alloc (.cells #[.int .i64 t] 3)).drew w5 := ha5.fr.below (by simp) (fun k hk h => by have := own_eq h; omega)
                     have ho5 : Own w5 w1.heap.size 3 1 v5 (1 + (p - q)) (ints (t :: Ls.drop q)) := by have h9 := ha5.own; rw [← ints_app] at h9; exact h9
                     have hs5 : Own w5 w1.heap.size 3 1 (.slice (some la) q lc) q (ints (Ls.take q)) := (S1.out.alloc _).drew.to (fun g hg => hb5.block g (by have h9 : la.block = g := Option.some.inj hg; omega))
                     have hz5 : wr.heap.size + 1 ≤ w5.heap.size := by simpa using ha5.fr.size
                     refine step_app rfl tyN (.tmp 63) (.tmp 69) rfl w1.heap.size (n := q) (m := 1 + (p - q)) (B := w5.heap.size) (xs := ints (Ls.take q)) (news := ints (t :: Ls.drop q)) rfl rfl hs5 ho5.sl (ints_ok _) (by omega) (by omega) (by omega) ?_
                     intro v6 w6 ha6))
                have HO6 : Hid (Own w6 w1.heap.size 3 1 v6 (q + (1 + (p - q))) (ints (Ls.take q ++ t :: Ls.drop q))) := by
                  show Own _ _ _ _ _ _ _
                  rw [ints_app]
                  exact ha6.own
                have HA5 : Hid (Own w5 w1.heap.size wT 2 (.slice a3 (p + 1) c3) (p + 1) (wins (allW g (T.take (k + 1))))) := (HOA3.out.alloc _).drew.to (fun g hg => hb5.block g (HOA3.out.lt g hg).2)
                have HOA6 : Hid (Own w6 w1.heap.size wT 2 (.slice a3 (p + 1) c3) (p + 1) (wins (allW g (T.take (k + 1))))) := HA5.out.fr ha6.fr (own_apart HA5.out hs5 (by decide))
                have HB6 : Hid (Below w1.heap.size w1 w6) := ((HB3.out.alloc hz3 _).drewN 1).trans ((hb5.mono hz3).trans (ha6.fr.below (by omega) (fun k hk h => by have h9 : la.block = k := Option.some.inj h; omega)))
                clear ha5 ha6
                go_wp2_with fail
                go_roundw
                case rel => exact ⟨k + 1, p + 1, Ls.take q ++ t :: Ls.drop q, by omega, by simp, by omega, by rw [Hid, List.length_append, List.length_cons, List.length_take, List.length_drop, HLl.out]; omega, HASC.out, HPRM.out, HOA6, (by have h9 := HO6.out; rw [show q + (1 + (p - q)) = p + 1 by omega] at h9; exact h9), HB6⟩
                case measure => simp [intOf]; omega
            · obtain ⟨ld, hld, hlb, l0⟩ := int_at HOL3.out.sl (show q' < p by omega) HLl.out
              injection hld with hld
              subst hld
              generalize Ls[q'] = x at hx l0
              have d1 : (0 < q) = True := eq_true (by omega)
              have hw : IntKind.i64.wrap ((q : Int) - 1) = (q' : Int) := by rw [IntWalk.i64_in _ (by omega)]; omega
              have j1 : (0 : Int) ≤ (q' : Int) := by omega
              have j2 : (q' : Int) < (p : Int) := by omega
              have d2 : decide (t < x) = false := decide_eq_false hx
              clear hqq
              have HASC0 : Hid (Asc (Ls.take q ++ t :: Ls.drop q)) := ins_asc HLa.out (by rw [HLl.out]; exact hq) HGT.out HLE.out
              have HPRM0 : Hid ((Ls.take q ++ t :: Ls.drop q).Perm ((T.take (k + 1)).filter okT)) := by
                show List.Perm _ _
                rw [HFS.out, if_pos hok]
                exact (ins_perm Ls q t).trans ((List.Perm.cons t HLp.out).trans (List.perm_append_singleton t _).symm)
              have hgb : la.block < wr.heap.size := (HOL3.out.lt la.block rfl).2
              have hgb1 : w1.heap.size ≤ la.block := (HOL3.out.lt la.block rfl).1
              have N1 : Hid (Own (wr.alloc (.cells #[.int .i64 t] 3)) w1.heap.size 3 1 (.slice (some ⟨wr.heap.size, 0, none⟩) 1 1) 1 (ints [t])) := Own.new wr w1.heap.size #[.int .i64 t] hz3 (by omega) rfl
              have i4 : (q : Int) ≤ (lc : Int) := by omega
              by_cases hlq : lc = q
              · have hpq : p = q := by omega
                subst hpq
                subst hlq
                have S1 : Hid (Own wr w1.heap.size 3 1 (.slice (some la) lc lc) lc (ints (Ls.take lc))) := by
                  have h := HOL3.out.cut (k := lc) (d := lc) (Nat.le_refl _) (Nat.le_refl _) (Nat.le_refl _)
                  rw [ints, flat_take _ 1 (fun _ => rfl)] at h
                  exact h
                have S2 : Hid (Sl wr wr.heap.size (.slice (some la) 0 0) 1 0 (ints [])) := ⟨rfl, some la, 0, rfl, Nat.le_refl _, by omega, fun h => by omega⟩
                have HASC : Hid (Asc (Ls ++ [t])) := by
                  have h9 := HASC0.out
                  rw [List.take_of_length_le (by rw [HLl.out]; omega), List.drop_of_length_le (by rw [HLl.out]; omega)] at h9
                  exact h9
                have HPRM : Hid ((Ls ++ [t]).Perm ((T.take (k + 1)).filter okT)) := by
                  have h9 := HPRM0.out
                  rw [List.take_of_length_le (by rw [HLl.out]; omega), List.drop_of_length_le (by rw [HLl.out]; omega)] at h9
                  exact h9
                clear HASC0 HPRM0
                go_wp2_with fail
                go_region_law (first
                  | (refine step_app rfl tyN (.tmp 65) (.tmp 68) rfl w1.heap.size (n := 1) (m := 0) (B := wr.heap.size) (xs := ints [t]) (news := ints ([])) rfl rfl (Own.drew N1.out) (Sl.alloc S2.out (Nat.le_refl _) _) (ints_ok _) (by omega) (by omega) (by simp; omega) ?_; intro v5 w5 ha5)
                  | (have hb5 : Below wr.heap.size (wr.alloc (.cells #[.int .i64 t] 3)).drew w5 := ha5.fr.below (by simp) (fun k hk h => by have := own_eq h; omega)
                     have ho5 : Own w5 w1.heap.size 3 1 v5 (1) (ints (t :: [])) := by have h9 := ha5.own; rw [← ints_app] at h9; exact h9
                     have hs5 : Own w5 w1.heap.size 3 1 (.slice (some la) lc lc) lc (ints (Ls.take lc)) := (S1.out.alloc _).drew.to (fun g hg => hb5.block g (by have h9 : la.block = g := Option.some.inj hg; omega))
                     have hz5 : wr.heap.size + 1 ≤ w5.heap.size := by simpa using ha5.fr.size
                     refine step_app rfl tyN (.tmp 63) (.tmp 69) rfl w1.heap.size (n := lc) (m := 1) (B := w5.heap.size) (xs := ints (Ls.take lc)) (news := ints (t :: [])) rfl rfl hs5 ho5.sl (ints_ok _) (by omega) (by omega) (by omega) ?_
                     intro v6 w6 ha6))
                have HO6 : Hid (Own w6 w1.heap.size 3 1 v6 (lc + (1)) (ints (Ls.take lc ++ t :: []))) := by
                  show Own _ _ _ _ _ _ _
                  rw [ints_app]
                  exact ha6.own
                have HA5 : Hid (Own w5 w1.heap.size wT 2 (.slice a3 (lc + 1) c3) (lc + 1) (wins (allW g (T.take (k + 1))))) := (HOA3.out.alloc _).drew.to (fun g hg => hb5.block g (HOA3.out.lt g hg).2)
                have HOA6 : Hid (Own w6 w1.heap.size wT 2 (.slice a3 (lc + 1) c3) (lc + 1) (wins (allW g (T.take (k + 1))))) := HA5.out.fr ha6.fr (own_apart HA5.out hs5 (by decide))
                have HB6 : Hid (Below w1.heap.size w1 w6) := ((HB3.out.alloc hz3 _).drewN 1).trans ((hb5.mono hz3).trans (ha6.fr.below (by omega) (fun k hk h => by have h9 : la.block = k := Option.some.inj h; omega)))
                clear ha5 ha6
                go_wp2_with fail
                go_roundw
                case rel => exact ⟨k + 1, lc + 1, Ls ++ [t], by omega, by simp, by omega, by rw [Hid, List.length_append, HLl.out]; rfl, HASC.out, HPRM.out, HOA6, (by have h9 := HO6.out; rw [List.take_of_length_le (by rw [HLl.out]; omega)] at h9; exact h9), HB6⟩
                case measure => simp [intOf]; omega
              · have HASC := HASC0
                have HPRM := HPRM0
                clear HASC0 HPRM0
                have S1 : Hid (Own wr w1.heap.size 3 1 (.slice (some la) q lc) q (ints (Ls.take q))) := by
                  have h := HOL3.out.cut (k := q) (d := lc) hq (by omega) (Nat.le_refl _)
                  rw [ints, flat_take _ 1 (fun _ => rfl)] at h
                  exact h
                have S2 : Hid (Sl wr wr.heap.size (.slice (some (la.add q)) (p - q) (lc - q)) 1 (p - q) (ints (Ls.drop q))) := by
                  have h := HOL3.out.sl.drop (k := q) hq
                  rw [ints, flat_drop _ 1 (fun _ => rfl)] at h
                  rw [Nat.mul_one] at h
                  exact h
                go_wp2_with fail
                go_region_law (first
                  | (refine step_app rfl tyN (.tmp 65) (.tmp 68) rfl w1.heap.size (n := 1) (m := p - q) (B := wr.heap.size) (xs := ints [t]) (news := ints (Ls.drop q)) rfl rfl (Own.drew N1.out) (Sl.alloc S2.out (Nat.le_refl _) _) (ints_ok _) (by omega) (by omega) (by simp; omega) ?_; intro v5 w5 ha5)
                  | (have hb5 : Below wr.heap.size (wr.alloc (.cells #[.int .i64 t] 3)).drew w5 := ha5.fr.below (by simp) (fun k hk h => by have := own_eq h; omega)
                     have ho5 : Own w5 w1.heap.size 3 1 v5 (1 + (p - q)) (ints (t :: Ls.drop q)) := by have h9 := ha5.own; rw [← ints_app] at h9; exact h9
                     have hs5 : Own w5 w1.heap.size 3 1 (.slice (some la) q lc) q (ints (Ls.take q)) := (S1.out.alloc _).drew.to (fun g hg => hb5.block g (by have h9 : la.block = g := Option.some.inj hg; omega))
                     have hz5 : wr.heap.size + 1 ≤ w5.heap.size := by simpa using ha5.fr.size
                     refine step_app rfl tyN (.tmp 63) (.tmp 69) rfl w1.heap.size (n := q) (m := 1 + (p - q)) (B := w5.heap.size) (xs := ints (Ls.take q)) (news := ints (t :: Ls.drop q)) rfl rfl hs5 ho5.sl (ints_ok _) (by omega) (by omega) (by omega) ?_
                     intro v6 w6 ha6))
                have HO6 : Hid (Own w6 w1.heap.size 3 1 v6 (q + (1 + (p - q))) (ints (Ls.take q ++ t :: Ls.drop q))) := by
                  show Own _ _ _ _ _ _ _
                  rw [ints_app]
                  exact ha6.own
                have HA5 : Hid (Own w5 w1.heap.size wT 2 (.slice a3 (p + 1) c3) (p + 1) (wins (allW g (T.take (k + 1))))) := (HOA3.out.alloc _).drew.to (fun g hg => hb5.block g (HOA3.out.lt g hg).2)
                have HOA6 : Hid (Own w6 w1.heap.size wT 2 (.slice a3 (p + 1) c3) (p + 1) (wins (allW g (T.take (k + 1))))) := HA5.out.fr ha6.fr (own_apart HA5.out hs5 (by decide))
                have HB6 : Hid (Below w1.heap.size w1 w6) := ((HB3.out.alloc hz3 _).drewN 1).trans ((hb5.mono hz3).trans (ha6.fr.below (by omega) (fun k hk h => by have h9 : la.block = k := Option.some.inj h; omega)))
                clear ha5 ha6
                go_wp2_with fail
                go_roundw
                case rel => exact ⟨k + 1, p + 1, Ls.take q ++ t :: Ls.drop q, by omega, by simp, by omega, by rw [Hid, List.length_append, List.length_cons, List.length_take, List.length_drop, HLl.out]; omega, HASC.out, HPRM.out, HOA6, (by have h9 := HO6.out; rw [show q + (1 + (p - q)) = p + 1 by omega] at h9; exact h9), HB6⟩
                case measure => simp [intOf]; omega
            -- END ENDS
      · have HOA3 : Hid (Own w2 w1.heap.size wT 2 (.slice aA p ac) p (wins (allW g (T.take (k + 1))))) := by
          show Own _ _ _ _ _ _ _
          unfold allW
          rw [HFS.out, if_neg (by rw [hok]; simp), List.append_nil]
          exact HOA2.out
        have HP3 : Hid (Ls.Perm ((T.take (k + 1)).filter okT)) := by
          show List.Perm _ _
          rw [HFS.out, if_neg (by rw [hok]; simp), List.append_nil]
          exact HLp.out
        have HB3 := hide (HB.out.trans (HB2.out.mono hzr))
        go_wp2_with fail
        go_roundw
        case rel => exact ⟨k + 1, p, Ls, by omega, by simp, by omega, HLl, HLa, HP3, HOA3, HOL2, HB3⟩
        case measure => simp [intOf]; omega
    · obtain rfl : k = n := by omega
      have HTT : Hid (T.take k = T) := by rw [Hid, List.take_of_length_le (by rw [HT.out]; omega)]
      rw [HTT.out] at HLp HOA
      have HAL : Hid ((allW g T).length = p) := by
        show _ = _
        unfold allW
        rw [List.length_map, ← HLp.out.length_eq, HLl.out]
      have HGD : Hid (AllGood (allW g T)) := by
        intro x hx
        unfold allW at hx
        obtain ⟨t, ht, rfl⟩ := List.mem_map.1 hx
        have h9 := (List.mem_filter.1 ht).2
        have h8 : 0 ≤ t ∧ t ≤ 1048576 := by unfold okT at h9; simpa using h9
        unfold Win.good mkW
        simp only
        omega
      clear HTT HAS HF1
      go_wp2_with fail
      refine (wmerge_good _ (allW g T) p wr.heap.size wr HOA.out.sl HAL.out (Nat.le_refl _) (by omega) HGD.out).mono ?_
      rintro e w2 ⟨mv, rfl, E, hp, hsrt, ho, hb⟩
      have hM := merged_of HGD.out hp hsrt
      have hEp : (mkE g Ls).Perm (allW g T) := HLp.out.map (mkW g)
      have hEs : (mkE g Ls).Pairwise (fun a b => a.f ≤ b.f) := by
        rw [List.pairwise_map]
        exact HLa.out
      have hM2 := merged_of HGD.out hEp hEs
      have hMM : sweep E = sweep (mkE g Ls) := cov_uniq _ _ hM.sep hM2.sep (fun y => (hM.cov y).trans (hM2.cov y).symm)
      obtain ⟨M, hMd⟩ : ∃ M, M = sweep (mkE g Ls) := ⟨_, rfl⟩
      obtain ⟨m, hm⟩ : ∃ m, m = M.length := ⟨_, rfl⟩
      rw [hMM, ← hMd, ← hm] at ho
      have hmp : m ≤ p := by
        have h9 := hM2.len
        rw [← hMd, ← hm, HAL.out] at h9
        exact h9
      have HMD := hide hMd
      have HML := hide hm
      have HMO := hide ho
      have HB2 := hide (HB1.out.trans ((HB.out.trans (hb.mono hzr)).mono hz1))
      have HL2 := hide (HOL.out.sl.below hb)
      have hzr2 : wr.heap.size ≤ w2.heap.size := hb.size
      have HLB : Hid (∀ x ∈ Ls, 0 ≤ x ∧ x ≤ 1048576) := by
        intro x hx
        have h9 := (List.mem_filter.1 (HLp.out.mem_iff.1 hx)).2
        unfold okT at h9
        simpa using h9
      clear hp hsrt ho hb hM hEp hEs hM2 hMM hMd hm HGD HAL HLp HB HOA HOL HT HS
      obtain ⟨mA, mc, rfl, hmc⟩ := HMO.out.sl.form
      have hz2 := HB2.out.size
      go_wp2_with fail
      go_loopw [15, 81] (fun kk i wz => ∃ (i' r : Nat), i' ≤ p ∧ i = .int .i64 i' ∧ kk = .int .i64 r ∧ r ≤ i' ∧ Hid ((i' = 0 → r = 0) ∧ (0 < i' → (sweep ((mkE g Ls).take i')).length = r + 1)) ∧ Hid (Below w.heap.size w wz) ∧ ∃ j, wz = w2.drewN j) (fun _ i _ => p - (intOf i).toNat)
      case atStart => exact ⟨0, 0, Nat.zero_le _, rfl, rfl, Nat.le_refl _, ⟨fun _ => rfl, fun h => by omega⟩, HB2.out, 0, rfl⟩
      case round =>
        obtain ⟨i', r, hi, rfl, rfl, hri, HR, HBz, j, rfl⟩ := hrel
        have HMz := hide (HMO.out.drewN j)
        have HLz := hide (HL2.out.drewN j)
        have hzz : w2.heap.size = (w2.drewN j).heap.size := rfl
        generalize hW : w2.drewN j = w3 at *
        have HW := hide hW
        clear hW
        by_cases hlt2 : i' < p
        · have hiL : i' < Ls.length := by rw [HLl.out]; exact hlt2
          obtain ⟨ld, rfl, hlb, l0⟩ := int_at HLz.out hlt2 HLl.out
          obtain ⟨t, ht⟩ : ∃ t, t = Ls[i'] := ⟨_, rfl⟩
          have HTB := hide (HLB.out Ls[i'] (List.getElem_mem hiL))
          rw [← ht] at l0 HTB
          have HTE := hide ht
          clear ht
          have htb := HTB.out
          have i0 : i' = 0 ∨ ∃ i, i + 1 = i' := by cases i' with | zero => exact .inl rfl | succ i => exact .inr ⟨i, rfl⟩
          rcases i0 with rfl | ⟨i, hii⟩
          · obtain rfl : r = 0 := HR.out.1 rfl
            obtain ⟨hm0, z1, z2, z3⟩ := sess_zero (g := g) (l := Ls) (M := M) hg1 HMD.out hiL
            rw [← HTE.out] at z1 z2
            obtain ⟨md, rfl, hmb, m0, m1⟩ := win_at HMz.out.sl (show 0 < m by rw [HML.out]; exact hm0) HML.out.symm
            simp only [Nat.zero_mul, add_zero'] at m0 m1 hmb
            rw [z1] at m0
            have HZ3 := hide z3
            have hm1 : ¬ (m : Int) ≤ 0 := by have := HML.out; omega
            have hm2 : (0 : Int) < (m : Int) := by omega
            have hm3 : 0 < m := by omega
            generalize (M[0]).t = u at m1 z2
            have c1 : ¬ u ≤ t := by omega
            have c2 : (t != t) = false := by simp
            have l0' : w3.cell? ld = some (.int .i64 t) := by rw [add_zero'] at l0; exact l0
            clear z1 z3 hm0
            go_wp2_with fail
            go_roundw
            case rel => exact ⟨1, 0, by omega, by simp, rfl, by omega, ⟨fun h => by omega, fun _ => HZ3.out⟩, HBz, j, HW.out.symm⟩
            case measure => simp [intOf]; omega
          · have hiL2 : i < Ls.length := by omega
            obtain ⟨ld2, hld2, hlb2, l1⟩ := int_at HLz.out (show i < p by omega) HLl.out
            injection hld2 with hld2
            subst hld2
            have hrr : (sweep ((mkE g Ls).take (i + 1))).length = r + 1 := by rw [hii]; exact HR.out.2 (by omega)
            have hle : ∀ h, Ls[i + 1]'h = Ls[i'] := fun h => by simp only [hii]
            have HPB := hide (HLB.out Ls[i] (List.getElem_mem hiL2))
            have hpb := HPB.out
            have w1' : IntKind.i64.wrap ((i' : Int) - 1) = (i : Int) := by rw [IntWalk.i64_in _ (by omega)]; omega
            have i1 : (0 : Int) ≤ (i : Int) := by omega
            have i2 : (i : Int) < (p : Int) := by omega
            have i4 : ((i' : Int) == 0) = false := by simp; omega
            have i5 : (0 < i') = True := eq_true (by omega)
            have r1 : (0 : Int) ≤ (r : Int) := by omega
            by_cases hn : g ≤ (Ls[i + 1]'(by omega)) - Ls[i]
            · obtain ⟨hm0, z1, z2, z3, z4⟩ := sess_new hg1 HLa.out HMD.out i r (by omega) hrr hn
              rw [hle, ← HTE.out] at z2 z3 hn
              obtain ⟨md, rfl, hmb, m0, m1⟩ := win_at HMz.out.sl (show r < m by rw [HML.out]; omega) HML.out.symm
              obtain ⟨md2, hmd2, hmb2, m2, m3⟩ := win_at HMz.out.sl (show r + 1 < m by rw [HML.out]; omega) HML.out.symm
              injection hmd2 with hmd2
              subst hmd2
              rw [z1] at m1
              rw [z2] at m2
              generalize Ls[i] = x at l1 m1 hn hpb
              generalize (M[r + 1]).t = u at m3 z3
              have HZ4 := hide z4
              have r2 : (r : Int) < (m : Int) := by have := HML.out; omega
              have r3 : ((r : Int) + 1) < (m : Int) := by have := HML.out; omega
              have r4 : ((r + 1 : Nat) : Int) < (m : Int) := by have := HML.out; omega
              have r5 : ¬ (m : Int) ≤ (r : Int) + 1 := by omega
              have c1 : ¬ u ≤ t := by omega
              have c2 : (t != t) = false := by simp
              have c3 : (x + g != x + g) = false := by simp
              have c4 : IntKind.i64.wrap (x + g) = x + g := IntWalk.i64_in _ (by omega)
              have c5 : IntKind.i64.wrap (t - x) = t - x := IntWalk.i64_in _ (by omega)
              clear z1 z2 z4 hm0 hrr m0 hle
              have HII := hide hii
              clear hii
              go_wp2_with fail
              go_quiet (fail)
              go_wp2_with fail
              go_roundw
              case rel => exact ⟨i' + 1, r + 1, by omega, by simp, by simp, by have := HII.out; omega, ⟨fun h => by omega, fun _ => by rw [← HII.out]; exact HZ4.out⟩, HBz.out.drewN _, j + nq, by rw [← HW.out]; simp⟩
              case measure => simp [intOf]; omega
            · obtain ⟨hm0, z1, z2, z4⟩ := sess_same hg1 HLa.out HMD.out i r (by omega) hrr hn
              rw [hle, ← HTE.out] at z1 z2 hn
              obtain ⟨md, rfl, hmb, m0, m1⟩ := win_at HMz.out.sl (show r < m by rw [HML.out]; omega) HML.out.symm
              generalize Ls[i] = x at l1 hn hpb
              generalize M[r] = q at m0 m1 z1 z2
              obtain ⟨qf, qt⟩ := q
              simp only at m0 m1 z1 z2
              have HZ4 := hide z4
              have r2 : (r : Int) < (m : Int) := by have := HML.out; omega
              have r5 : ¬ (m : Int) ≤ (r : Int) := by omega
              have c1 : ¬ qt ≤ t := by omega
              have c2 : ¬ t < qf := by omega
              have c5 : IntKind.i64.wrap (t - x) = t - x := IntWalk.i64_in _ (by omega)
              clear z4 hm0 hrr hle
              have HII := hide hii
              clear hii
              go_wp2_with fail
              go_roundw
              case rel => exact ⟨i' + 1, r, by omega, by simp, rfl, by have := HII.out; omega, ⟨fun h => by omega, fun _ => by rw [← HII.out]; exact HZ4.out⟩, HBz, j, HW.out.symm⟩
              case measure => simp [intOf]; omega
        · obtain rfl : i' = p := by omega
          have i0 : i' = 0 ∨ ∃ i, i' = i + 1 := by cases i' with | zero => exact .inl rfl | succ i => exact .inr ⟨i, rfl⟩
          rcases i0 with rfl | ⟨i, rfl⟩
          · obtain rfl : m = 0 := by omega
            go_wp2_with fail
            refine wp_region_aft (by kernel_rfl) (by kernel_rfl) ?_
            repeat (go_big_quiet_step (first
              | (go_at_call 13; with_reducible exact calls_aft (awake07 _))))
            refine wpQuiet_nil ?_
            intro w10 hb10
            have HB10 := hide (HBz.out.trans (hb10.mono HBz.out.size))
            clear hb10
            go_wp2_with fail
            go_ret
            exact ⟨rfl, HB10.out⟩
          · have hrr := HR.out.2 (by omega)
            obtain ⟨hm0, z1⟩ := sess_end (g := g) HLa.out HMD.out i r (by rw [HLl.out]) hrr
            have hm1 : m = r + 1 := by rw [HML.out]; exact hm0
            subst hm1
            obtain ⟨ld2, rfl, hlb2, l1⟩ := int_at HLz.out (show i < i + 1 by omega) HLl.out
            obtain ⟨md, rfl, hmb, m0, m1⟩ := win_at HMz.out.sl (show r < r + 1 by omega) HML.out.symm
            rw [z1] at m1
            have hiL2 : i < Ls.length := by rw [HLl.out]; omega
            have hpb := HLB.out Ls[i] (List.getElem_mem hiL2)
            generalize Ls[i] = x at l1 m1 hpb
            clear z1 m0 hrr hm0
            have w1' : IntKind.i64.wrap (((i + 1 : Nat) : Int) - 1) = (i : Int) := by rw [IntWalk.i64_in _ (by omega)]; omega
            have w2' : IntKind.i64.wrap (((r + 1 : Nat) : Int) - 1) = (r : Int) := by rw [IntWalk.i64_in _ (by omega)]; omega
            have i1 : (0 : Int) ≤ (i : Int) := by omega
            have i2 : (i : Int) < ((i + 1 : Nat) : Int) := by omega
            have i2' : (i : Int) < (i : Int) + 1 := by omega
            have i3 : ((i : Int) + 1 == 0) = false := by simp; omega
            have i4 : (((i + 1 : Nat) : Int) == 0) = false := by simp; omega
            have i5 : (0 : Int) < (i : Int) + 1 := by omega
            have r1 : (0 : Int) ≤ (r : Int) := by omega
            have r2 : (r : Int) < ((r + 1 : Nat) : Int) := by omega
            have r3 : (r : Int) < (r : Int) + 1 := by omega
            have c3 : (x + g == x + g) = true := by simp
            have c4 : IntKind.i64.wrap (x + g) = x + g := IntWalk.i64_in _ (by omega)
            have y0 := Aft.cell l1 (by omega)
            have y1 := Aft.cell m1 hmb
            go_wp2_with fail
            refine wp_region_aft (by kernel_rfl) (by kernel_rfl) ?_
            repeat (go_big_quiet_step (first
              | (go_at_call 13; with_reducible exact calls_aft (awake07 _))))
            refine wpQuiet_nil ?_
            intro w10 hb10
            have HB10 := hide (HBz.out.trans (hb10.mono HBz.out.size))
            clear hb10
            go_wp2_with fail
            go_ret
            exact ⟨rfl, HB10.out⟩

end Go.Proofs.YtbnppocaeflghaaDoor
