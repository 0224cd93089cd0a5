/- TimersOrder: the walk. / TimersPlays: Set of a law's own row, whose keys are zeroed behind it. / The laws of layer 16: list. -/
import Derived.Test.YtogelnljkdcajaaQTimersPlays09
import Derived.Deep.CutBlock
import Derived.Test.YtogelnljkdcajaaQTimersPlays12
import Derived.Test.YtogelnljkdcajaaQTimersPlays08

namespace Go.Proofs.Ytogelnljkdcajaa
open Go.RowKit Go.Sort
set_option linter.unusedVariables false
set_option linter.unusedSimpArgs false

def ins (D : List Int) : List Value := D.flatMap fun n => [.int .i64 n]
theorem ins_len (D : List Int) : (ins D).length = D.length * 1 := flat_len (fun c : Int => [Value.int .i64 c]) 1 (fun _ => rfl) D
theorem ins_app (C D : List Int) : ins (C ++ D) = ins C ++ ins D := List.flatMap_append ..
theorem ins_ok (D : List Int) : ∀ u ∈ ins D, u.oneCell' = true := by
  intro u hu
  simp only [ins, List.mem_flatMap, List.mem_singleton] at hu
  obtain ⟨c, _, rfl⟩ := hu
  rfl
theorem in_at {w : World} {B n c : Nat} {A : Option Addr} {D : List Int} (h : Sl w B (.slice A n c) 1 n (ins D)) {k : Nat} (hk : k < n) (hD : D.length = n) :
    ∃ ad, A = some ad ∧ (ad.add k).block < B ∧ w.cell? (ad.add k) = some (.int .i64 (D[k]'(by omega))) := by
  obtain ⟨ad, rfl, hb, hh⟩ := h.at_ hk
  rw [ins, part_of (fun c : Int => [Value.int .i64 c]) 1 (fun _ => rfl) D k (by omega), Nat.mul_one] at hh
  refine ⟨ad, rfl, by rw [add_blk]; exact hb, ?_⟩
  have := hh 0 _ rfl
  rwa [add_add'] at this
theorem tyI : SlTy Try.prog 45 3 1 8 (.int .i64 0) := ⟨Try.underlying45, info_parts (by kernel_rfl), rfl, by omega⟩

/-- what is left: all behind now, and right -/
structure OrdI (now : Int) (L : List TV) : Prop where
  rt : ∀ y ∈ L, y.right
  ln : L.length ≤ 200
  lo : 0 ≤ now ∧ now ≤ 4194304
  nw : 0 < now → ∀ y ∈ L, now < y.a

theorem Own.kp {w w' : World} {base e sz n : Nat} {v : Value} {xs : List Value} (h : Own w base e sz v n xs) (k : Kp w w') (h1 : e ≠ treeT) (h2 : e ≠ tmT) : Own w' base e sz v n xs :=
  h.to fun g hg => by
    obtain ⟨cs, hc⟩ := h.typed g hg
    exact (k g e cs h1 h2 hc).trans (show w.heap[g]? = _ from hc).symm
theorem DueR.nil {w0 w w' : World} {hb tb mb : Nat} {lv lv' : Value} {L L' O : List TV} {A : Option Addr} {c : Nat} (h : DueR w0 w w' hb tb mb lv lv' L L' O 4194304 A c) (hr : ∀ y ∈ L, y.right) : L' = [] := by
  cases L' with
  | nil => rfl
  | cons y L' =>
    have h1 := h.nd y List.mem_cons_self
    have h2 := (hr y (h.pm.mem_iff.2 (List.mem_append.2 (.inr List.mem_cons_self)))).1.2
    omega
theorem DueR.ord {w0 w w' : World} {hb tb mb : Nat} {lv lv' : Value} {L L' O : List TV} {now n : Int} {A : Option Addr} {c : Nat} (h : DueR w0 w w' hb tb mb lv lv' L L' O n A c) (k : OrdI now L) (h1 : now ≤ n) (h2 : n ≤ 4194304) : OrdI n L' :=
  ⟨fun y hy => k.rt y (h.pm.mem_iff.2 (List.mem_append.2 (.inr hy))), by have := h.pm.length_eq; have := k.ln; simp at *; omega, by have := k.lo; omega, fun _ y hy => h.nd y hy⟩

set_option maxRecDepth 100000 in
set_option maxHeartbeats 16000000 in
theorem order16_ok (v : Value) (D : List TV) (sv : Value) (T : List Int) (w : World) (hs : Sl w w.heap.size v 5 D.length (tms D)) (hD : ∀ x ∈ D, TmQ w x) (ht : Sl w w.heap.size sv 1 T.length (ins T)) (hT : T.length * 8 ≤ 140737488351232) :
    Calls Try.prog 4 #[v, sv] w fun e w' => e = .returned (.bool true) ∧ Below w.heap.size w w' := by
  obtain ⟨sA, sc, rfl, hsc⟩ := hs.form
  obtain ⟨tA, tc, rfl, htc⟩ := ht.form
  have hmax := hs.max
  have HS := hide hs
  have HD := hide hD
  have HT := hide ht
  clear hs hD ht
  obtain ⟨N, hN⟩ : ∃ N, N = D.length := ⟨_, rfl⟩
  obtain ⟨M, hM⟩ : ∃ M, M = T.length := ⟨_, rfl⟩
  rw [← hN] at HS hsc hmax ⊢
  rw [← hM] at HT htc hT ⊢
  have HNN := hide hN
  have HMM := hide hM
  clear hN hM
  go_enter Try.func4, Try.ntmps4
  go_wp2_with fail
  refine (new_any _ w.heap.size (Nat.le_refl _)).mono ?_
  rintro e w2 ⟨hb, tb, mb, lv, rfl, hp2, hb2⟩
  have H2 : Hid (HR w w2 hb tb mb lv []) := ⟨hp2, hb2⟩
  clear hp2 hb2
  by_cases h100 : N ≤ 200
  · have hg : ¬ (200 : Int) < (N : Int) := by omega
    go_wp2_with fail
    go_loopw [32] (fun i wr => ∃ (k : Nat) (lv1 : Value) (L1 : List TV), k ≤ N ∧ i = .int .i64 k ∧ L1.length ≤ k ∧ Hid (HR w wr hb tb mb lv1 L1 ∧ ∀ y ∈ L1, y.right)) (fun i _ => N - (intOf i).toNat)
    case atStart => exact ⟨0, lv, [], Nat.zero_le _, rfl, Nat.le_refl _, H2.out, fun y hy => by cases hy⟩
    case round =>
      obtain ⟨k, lv1, L1, hk, rfl, hl1, HI⟩ := hrel
      by_cases hlt : k < N
      · have hkD : k < D.length := by rw [← HNN.out]; exact hlt
        obtain ⟨ad, rfl, hab, a0, a1, a2, a3, a4⟩ := tm_at (HS.out.below HI.out.1.bl) hlt HNN.out.symm
        have hzr := HI.out.1.bl.size
        have hab2 : (ad.add (k * 5)).block < wr.heap.size := by omega
        have HO := hide (HD.out _ (List.getElem_mem hkD))
        generalize D[k] = o at a0 a1 a2 a3 a4 HO
        obtain ⟨oa, ok, ob, of, ot, ow⟩ := o
        obtain ⟨oA, oc, hok, hoc⟩ := HO.out.1.sl.form
        simp only at a0 a1 a2 a3 a4 hok hoc
        subst hok
        have HOS := hide HO.out.1.sl
        have HO8 := hide HO.out.1.b8
        have hon := HO.out.2
        simp only at HOS HO8 hon
        obtain ⟨on, hol⟩ : ∃ on, on = ob.length := ⟨_, rfl⟩
        rw [← hol] at a1 HOS hon hoc
        have HOL := hide hol
        clear hol HO
        go_wp2_with fail
        have HI2 : Hid (HR w (wr.alloc (.cells #[.int .i64 oa, .slice oA on oc, .int .i64 of, .int .i64 ot, .int .i64 ow] rtT)) hb tb mb lv1 L1) := HI.out.1.below ((Below.refl _ _).alloc (Nat.le_refl _) _)
        generalize wr.alloc (.cells #[.int .i64 oa, .slice oA on oc, .int .i64 of, .int .i64 ot, .int .i64 ow] rtT) = w3 at *
        refine (out_any _ _ _ _ _ ob on w.heap.size _ (HOS.out.below HI2.out.bl) HOL.out.symm hon HI2.out.bl.size).mono ?_
        rintro e w4 ⟨u, rfl, ho4, hb4⟩
        obtain ⟨uA, uc, rfl, huc⟩ := ho4.sl.form
        have HS4 := hide (hset_out w w3 w4 hb tb mb on lv1 _ L1 ob oa of ot ow HI2.out ho4 hb4 HOL.out.symm HO8.out (by omega))
        clear ho4 hb4 a0 a1 a2 a3 a4
        go_wp2_with fail
        refine HS4.out.mono ?_
        rintro e w5 hset
        obtain ⟨z5, lv5, L5, rfl, h5, hr5, hl5, hf5, hn5⟩ := hset.rights HI.out.2
        have HI5 : Hid (HR w w5 hb tb mb lv5 L5 ∧ ∀ y ∈ L5, y.right) := ⟨h5, hr5⟩
        clear h5 hr5 hf5 hn5 hset HS4
        simp only [List.length_cons, List.length_nil] at hl5
        go_wp2_with fail
        go_roundw
        case rel => exact ⟨k + 1, lv5, L5, by omega, by simp, by omega, HI5⟩
        case measure => simp [intOf]; omega
      · have hl1' : L1.length ≤ 200 := by omega
        clear HS HD HNN H2 hl1
        go_wp2_with fail
        refine (hlen_any wr _ hb tb mb lv1 L1 HI.out.1.hp).mono ?_
        rintro e w6 ⟨rfl, rfl⟩
        obtain ⟨l1, hll⟩ : ∃ l1, l1 = L1.length := ⟨_, rfl⟩
        have HL1 := hide hll
        rw [← hll] at hl1' ⊢
        clear hll
        have hzw := HI.out.1.bl.size
        have HE1 : Hid (Own (w6.alloc (.cells #[] 3)) w.heap.size 3 1 (.slice (some ⟨w6.heap.size, 0, none⟩) 0 0) 0 (ins [])) := Own.new w6 w.heap.size #[] hzw (by omega) rfl
        go_wp2_with (at_builtin; refine wpList_app rfl tyI (.tmp 44) (.tmp 45) rfl w.heap.size (n := 0) (m := M) (B := w.heap.size) (xs := ins []) (news := ins T) rfl rfl (by exact HE1.out) (by exact (HT.out.below HI.out.1.bl).alloc hzw _) (ins_ok T) (by omega) (by omega) (by simp; omega) ?_)
        intro v7 w7 ha7
        have HO7 : Hid (Own w7 w.heap.size 3 1 v7 M (ins T)) := by simpa [Hid, ins] using ha7.own
        have HB7 : Hid (Below w6.heap.size w6 w7) := ((Below.refl w6.heap.size w6).alloc (Nat.le_refl _) _).trans (ha7.fr.below (by simp) (fun k hk h => by have := own_eq h; omega))
        have HI7 : Hid (HR w w7 hb tb mb lv1 L1 ∧ ∀ y ∈ L1, y.right) := ⟨HI.out.1.below HB7.out, HI.out.2⟩
        clear ha7 HB7 HI HE1
        obtain ⟨vA, vc, rfl, hvc⟩ := HO7.out.sl.form
        have hz7 := HI7.out.1.bl.size
        have HO8 : Hid (Own (w7.alloc (.cells #[.int .i64 4194304] 3)) w.heap.size 3 1 (.slice vA M vc) M (ins T)) := HO7.out.alloc _
        have HSL : Hid (Sl (w7.alloc (.cells #[.int .i64 4194304] 3)) (w7.heap.size + 1) (.slice (some ⟨w7.heap.size, 0, none⟩) 1 1) 1 1 (ins [4194304])) :=
          (Sl.of_own (Own.new (n := 1) (sz := 1) (e := 3) (base := 0) w7 #[.int .i64 4194304] (by omega) (by omega) rfl)).mono (by simp)
        go_wp2_with (at_builtin; refine wpList_app rfl tyI (.tmp 46) (.tmp 47) rfl w.heap.size (n := M) (m := 1) (B := w7.heap.size + 1) (xs := ins T) (news := ins [4194304]) rfl rfl (by exact HO8.out) (by exact HSL.out) (ins_ok _) (by omega) (by omega) (by simp; omega) ?_)
        intro v9 w9 ha9
        have HO9 : Hid (Own w9 w.heap.size 3 1 v9 (M + 1) (ins (T ++ [4194304]))) := by rw [ins_app]; exact ha9.own
        have hbt : ∀ g cs, Blk (w7.alloc (.cells #[.int .i64 4194304] 3)) g bT cs → ¬ (Value.slice vA M vc).ownBlock = some g := fun g cs hc e => by
          obtain ⟨c2, k⟩ := HO8.out.typed g e
          exact hc.apart k (by decide) rfl
        have HI9 : Hid (HR w w9 hb tb mb lv1 L1 ∧ ∀ y ∈ L1, y.right) := by
          have h8 := HI7.out.1.below ((Below.refl w7.heap.size w7).alloc (Nat.le_refl _) (.cells #[.int .i64 4194304] 3))
          obtain ⟨⟨c1, k1⟩, k2, k3, k4⟩ := h8.hp.typed
          have hty := HO8.out.typed
          refine ⟨⟨h8.hp.fr ha9.fr (fun e => ?_) (fun e => ?_) (fun e => ?_) (fun g hg e => ?_) hbt, h8.bl.trans (ha9.fr.below h8.bl.size (fun k hk e => ?_))⟩, HI7.out.2⟩
          · obtain ⟨c2, k⟩ := hty _ e; exact k4.apart k (by decide) rfl
          · obtain ⟨c2, k⟩ := hty _ e; exact k1.apart k (by decide) rfl
          · obtain ⟨c2, k⟩ := hty _ e; exact k2 _ _ _ k rfl
          · obtain ⟨c2, k⟩ := hty _ e; obtain ⟨c3, k9⟩ := k3 _ hg; exact k9.apart k (by decide) rfl
          · have := (HO8.out.lt k e).1; omega
        clear ha9 HO8 HSL HI7 HO7 hbt
        obtain ⟨yA, yc, rfl, hyc⟩ := HO9.out.sl.form
        obtain ⟨T1, hT1⟩ : ∃ T1, T1 = T ++ [4194304] := ⟨_, rfl⟩
        obtain ⟨M1, hM1⟩ : ∃ M1, M1 = M + 1 := ⟨_, rfl⟩
        have HT1 : Hid (T1.length = M1 ∧ ∀ (k : Nat) (hk : k < T1.length), k + 1 = M1 → T1[k] = 4194304) := by
          refine ⟨by rw [hT1, hM1, List.length_append, HMM.out]; rfl, fun k hk h9 => ?_⟩
          subst hT1
          have : k = T.length := by have := HMM.out; omega
          subst this
          simp
        rw [← hT1, ← hM1] at HO9
        rw [← hM1] at hyc ⊢
        have hm0 : 0 < M1 := by omega
        have hmm : M1 ≤ 17592186044416 := by omega
        have HORD : Hid (OrdI 0 L1) := ⟨HI9.out.2, by rw [← HL1.out]; exact hl1', by omega, fun h => by omega⟩
        have HR9 := hide HI9.out.1
        clear hT1 hM1 hvc hz7 HI9 HT
        go_wp2_with fail
        go_loopw [8, 9, 50] (fun l n i wr => ∃ (k r : Nat) (now : Int) (lv2 : Value) (L2 : List TV), k ≤ M1 ∧ i = .int .i64 k ∧ n = .int .i64 now ∧ l = .int .i64 r ∧ r ≤ 200 ∧ Hid (r = L2.length ∧ (k = M1 → L2 = []) ∧ HR w wr hb tb mb lv2 L2 ∧ OrdI now L2 ∧ Own wr w.heap.size 3 1 (.slice yA M1 yc) M1 (ins T1))) (fun _ _ i _ => M1 - (intOf i).toNat)
        case atStart => exact ⟨0, l1, 0, lv1, L1, Nat.zero_le _, rfl, rfl, rfl, hl1', HL1.out, fun h => by omega, HR9.out, HORD.out, HO9.out⟩
        case round =>
          obtain ⟨k2, r, now, lv2, L2, hk2, rfl, rfl, rfl, hr2, HJ⟩ := hrel
          by_cases hlt2 : k2 < M1
          · have hkT : k2 < T1.length := by rw [HT1.out.1]; exact hlt2
            obtain ⟨ad, rfl, hab, a0⟩ := in_at HJ.out.2.2.2.2.sl hlt2 HT1.out.1
            have HLAST := hide (HT1.out.2 k2 hkT)
            generalize T1[k2] = n at a0 HLAST
            have hlo := HJ.out.2.2.2.1.lo.1
            have hhi := HJ.out.2.2.2.1.lo.2
            by_cases hn1 : n < now
            · have HNL : Hid (k2 + 1 ≠ M1) := fun h9 => by have := HLAST.out h9; omega
              go_wp2_with fail
              go_roundw
              case rel => exact ⟨k2 + 1, r, now, lv2, L2, by omega, by simp, rfl, rfl, hr2, HJ.out.1, fun h => absurd h HNL.out, HJ.out.2.2⟩
              case measure => simp [intOf]; omega
            · by_cases hn2 : 4194304 < n
              · have HNL : Hid (k2 + 1 ≠ M1) := fun h9 => by have := HLAST.out h9; omega
                go_wp2_with fail
                go_roundw
                case rel => exact ⟨k2 + 1, r, now, lv2, L2, by omega, by simp, rfl, rfl, hr2, HJ.out.1, fun h => absurd h HNL.out, HJ.out.2.2⟩
                case measure => simp [intOf]; omega
              · go_wp2_with fail
                refine (hdue_r w wr hb tb mb lv2 L2 n HJ.out.2.2.1).mono ?_
                rintro e w10 ⟨O, oA, oc, lv3, L3, rfl, hd⟩
                obtain ⟨m, hm⟩ : ∃ m, m = O.length := ⟨_, rfl⟩
                have hml : m + L3.length = r := by
                  have h9 := hd.pm.length_eq
                  have h8 := HJ.out.1
                  simp at h9
                  omega
                have HDD := hide hd
                have HOR : Hid (OrdI n L3) := hd.ord HJ.out.2.2.2.1 (by omega) (by omega)
                have HNIL : Hid (k2 + 1 = M1 → L3 = []) := by
                  intro h9
                  have h8 := HLAST.out h9
                  subst h8
                  exact hd.nil HJ.out.2.2.2.1.rt
                have HOW : Hid (Own w10 w.heap.size 3 1 (.slice (some ad) M1 yc) M1 (ins T1)) := HJ.out.2.2.2.2.kp (HJ.out.2.2.1.kp hd.fr) (by decide) (by decide)
                have HNW : Hid (0 < now → ∀ x ∈ O, now < x.a) := fun h9 x hx => HJ.out.2.2.2.1.nw h9 x (hd.pm.mem_iff.2 (List.mem_append.2 (.inl hx)))
                have HPOS : Hid (∀ x ∈ O, 0 ≤ x.a) := fun x hx => (HJ.out.2.2.2.1.rt x (hd.pm.mem_iff.2 (List.mem_append.2 (.inl hx)))).1.1
                have hOs := hd.own.sl
                rw [← hm] at hOs ⊢
                have HOS := hide hOs
                have HND := hide hd.nd
                have HM3 := hide hm
                clear hd hm hOs HJ
                go_wp2_with fail
                go_loopw [8, 12, 65] (fun l la i wz => ∃ (j s : Nat) (last : Int), j ≤ m ∧ i = .int .i64 j ∧ la = .int .i64 last ∧ l = .int .i64 s ∧ s + j = r ∧ Hid (∀ x ∈ O.drop j, last ≤ x.a) ∧ Hid (Below w10.heap.size w10 wz)) (fun _ _ i _ => m - (intOf i).toNat)
                case atStart => exact ⟨0, r, -1, Nat.zero_le _, rfl, rfl, rfl, rfl, fun x hx => by have := HPOS.out x (List.mem_of_mem_drop hx); omega, Below.refl _ _⟩
                case round =>
                  obtain ⟨j, s, last, hj, rfl, rfl, rfl, hsr, HLA, HBZ⟩ := hrel
                  by_cases hltj : j < m
                  · have hjO : j < O.length := by rw [← HM3.out]; exact hltj
                    obtain ⟨oad, rfl, hob, b0, b1, b2, b3, b4⟩ := tm_at (HOS.out.below HBZ.out) hltj HM3.out.symm
                    have hzz := HBZ.out.size
                    have hob2 : (oad.add (j * 5)).block < wr.heap.size := by omega
                    have hxm := List.getElem_mem hjO
                    have hdj := List.drop_eq_getElem_cons hjO
                    have hc1 : O[j].a ≤ n := HDD.out.du _ hxm
                    have hc2 : last ≤ O[j].a := HLA.out _ (by rw [hdj]; exact List.mem_cons_self)
                    have HNX : Hid (∀ x ∈ O.drop (j + 1), O[j].a ≤ x.a) := by
                      intro x hx
                      have h9 := HDD.out.so.drop (i := j)
                      rw [hdj, List.pairwise_cons] at h9
                      exact leT_a (h9.1 x hx)
                    have HNOW : Hid (0 < now → now < O[j].a) := fun h9 => HNW.out h9 _ hxm
                    have hkyO := HDD.out.ky _ hxm
                    obtain ⟨xA, xc, hkx, hxc⟩ := hkyO.1.sl.form
                    clear hxm hdj hkyO
                    generalize O[j] = x at b0 b1 b2 b3 b4 hc1 hc2 HNX HNOW hkx hxc
                    obtain ⟨xa, xk, xb, xf, xt, xw⟩ := x
                    simp only at b0 b1 b2 b3 b4 hc1 hc2 HNX HNOW hkx hxc
                    subst hkx
                    have HB9 : Hid (∀ cs, Below w10.heap.size w10 (wr.alloc (.cells cs tmT))) := fun cs => HBZ.out.alloc hzz _
                    by_cases hn0 : 0 < now
                    · have hc3 := HNOW.out hn0
                      go_wp2_with fail
                      go_roundw
                      case rel => exact ⟨j + 1, s - 1, xa, by omega, by simp, rfl, by congr 1; omega, by omega, HNX.out, HB9.out _⟩
                      case measure => simp [intOf]; omega
                    · go_wp2_with fail
                      go_roundw
                      case rel => exact ⟨j + 1, s - 1, xa, by omega, by simp, rfl, by congr 1; omega, by omega, HNX.out, HB9.out _⟩
                      case measure => simp [intOf]; omega
                  · have hs3 : Hid (s = L3.length) := by show _ = _; omega
                    have HH3 := hide (HDD.out.hr.below HBZ.out)
                    have HO3 := hide (HOW.out.below HBZ.out)
                    clear HDD HOS HLA HBZ HNW HPOS HOW HM3
                    go_wp2_with fail
                    refine (hnext_r w _ hb tb mb lv3 L3 HH3.out).mono ?_
                    rintro e w11 ⟨za, zA, zn, zc, zb, zf, zt, zw, ok, rfl, hai, hb11, hres⟩
                    have HO4 := hide (HO3.out.below hb11)
                    have HA := hide hai
                    have HF : Hid (∀ cs, HR w (w11.alloc (.cells cs tmT)) hb tb mb lv3 L3 ∧ Own (w11.alloc (.cells cs tmT)) w.heap.size 3 1 (.slice (some ad) M1 yc) M1 (ins T1)) := fun cs => ⟨HA.out.hr.below ((Below.refl _ _).alloc (Nat.le_refl _) _), HO4.out.alloc _⟩
                    rcases hres with ⟨rfl, h9⟩ | ⟨rfl, h9, h8, h7, h6⟩
                    · clear hai hb11 h9
                      go_wp2_with fail
                      go_roundw
                      case rel => exact ⟨k2 + 1, s, n, lv3, L3, by omega, by simp, rfl, rfl, by omega, hs3.out, HNIL.out, (HF.out _).1, HOR.out, (HF.out _).2⟩
                      case measure => simp [intOf]; omega
                    · have hza : ¬ za ≤ n := by
                        have h5 := HND.out _ h7
                        have h4 : za = (gt L3 0).a := congrArg TD.a h8
                        omega
                      clear hai hb11 h9 h8 h7 h6
                      go_wp2_with fail
                      go_roundw
                      case rel => exact ⟨k2 + 1, s, n, lv3, L3, by omega, by simp, rfl, rfl, by omega, hs3.out, HNIL.out, (HF.out _).1, HOR.out, (HF.out _).2⟩
                      case measure => simp [intOf]; omega
          · clear HT1 HR9 HORD HO9 HL1
            have HE : Hid (L2 = []) := HJ.out.2.1 (by omega)
            have hr0 : r = 0 := by rw [HJ.out.1, HE.out]; rfl
            subst hr0
            have HH := hide HJ.out.2.2.1
            clear HJ
            go_wp2_with fail
            refine (hlen_any wr _ hb tb mb lv2 L2 HH.out.hp).mono ?_
            rintro e w12 ⟨rfl, rfl⟩
            rw [HE.out]
            go_wp2_with fail
            refine (awake16 w12).mono ?_
            rintro e w13 ⟨rfl, hb13⟩
            have H13 := hide (HH.out.bl.trans (hb13.mono HH.out.bl.size))
            clear hb13
            go_wp2_with fail
            go_ret
            exact ⟨rfl, H13.out⟩
  · have hg : (200 : Int) < (N : Int) := by omega
    go_wp2_with fail
    refine (awake16 w2).mono ?_
    rintro e w3 ⟨rfl, hb3⟩
    have H3 := hide (H2.out.bl.trans (hb3.mono H2.out.bl.size))
    clear hb3
    go_wp2_with fail
    go_ret
    exact ⟨rfl, H3.out⟩

end Go.Proofs.Ytogelnljkdcajaa

namespace Go.Proofs.Ytogelnljkdcajaa
open Go.RowKit Go.Sort
set_option linter.unusedVariables false
set_option linter.unusedSimpArgs false

/-- the keys of the heap's timers lie elsewhere -/
def Away (a b : Nat) (L : List TV) : Prop := ∀ y ∈ L, ∀ g, y.kv.ownBlock = some g → g < a ∨ b ≤ g
theorem HR.away {w0 w : World} {hb tb mb : Nat} {lv : Value} {L : List TV} (h : HR w0 w hb tb mb lv L) {a : Nat} (ha : w.heap.size ≤ a) (b : Nat) : Away a b L := by
  intro y hy g hg
  obtain ⟨M, ht, _⟩ := h.hp.hp.st
  have := ((ht.keys y hy).1.lt g hg).2
  exact .inl (by omega)
theorem NK.away {w : World} {L L' : List TV} {a : Nat} (h : NK w L L') (k : Away a w.heap.size L) : Away a w.heap.size L' := fun y hy g hg => by
  rcases h y hy with h9 | h9
  · exact k y h9 g hg
  · exact .inr (h9 g hg)
/-- a block of bytes that holds no key of the heap is written -/
theorem HR.wrb {w0 w w' : World} {hb tb mb a b g : Nat} {lv : Value} {L : List TV} {cs : Array Value} (h : HR w0 w hb tb mb lv L) (k : Away a b L) (hg : Blk w g bT cs) (h1 : a ≤ g) (h2 : g < b) (h0 : w0.heap.size ≤ g) (hf : Fr (fun j => j = g) w w') : HR w0 w' hb tb mb lv L := by
  obtain ⟨⟨c1, k1⟩, k2, k3, k4⟩ := h.hp.typed
  obtain ⟨M, ht, hgd⟩ := h.hp.hp.st
  have e1 : ¬ hb = g := k4.apart hg (by decide)
  have e2 : ¬ tb = g := ht.blk.apart hg (by decide)
  have e3 : ¬ mb = g := fun e => ht.map.ne_blk hg e
  have e4 : ∀ j, lv.ownBlock = some j → ¬ j = g := fun j hj e => by
    obtain ⟨c2, k⟩ := k3 j hj
    exact k.apart hg (by decide) e
  refine ⟨⟨hf.blk h.hp.blk e1, ⟨⟨M, ⟨hf.blk ht.blk e2, ht.own.fr hf e4, ht.map.fr hf e3, fun x hx => ⟨(ht.keys x hx).1.fr hf (fun j hj e => ?_), (ht.keys x hx).2⟩, ht.bt, ht.bm⟩, hgd⟩, h.hp.hp.hp, h.hp.hp.ln⟩, h.hp.bh⟩, h.bl.trans (hf.below h.bl.size (fun j hj e => by omega))⟩
  rcases k x hx j hj with h9 | h9 <;> omega

/-- what Set of a law's own row leaves -/
structure SetQ (w0 w w' : World) (hb tb mb : Nat) (lv lv' : Value) (L L' D : List TV) (z : Int) : Prop where
  hr : HR w0 w' hb tb mb lv' L'
  fr : Fr (HBk tb mb lv) w w'
  nb : NewB w lv lv'
  nk : NK w L L'
  res : (¬ AllRight D ∧ z = 160 ∧ L' = L) ∨ (AllRight D ∧ z = 0 ∧ (L'.map TV.d).Perm ((D.map TV.d).foldl setD (L.map TV.d)))
theorem hset_q (w0 w : World) (hb tb mb n c b1 : Nat) (A : Option Addr) (lv : Value) (L D : List TV) (h : HR w0 w hb tb mb lv L) (hs : Own w b1 tmT 5 (.slice A n c) n (tms D)) (hap : ∀ g, (Value.slice A n c).ownBlock = some g → lv.ownBlock ≠ some g) (hD : D.length = n)
    (hk : ∀ x ∈ D, ∃ b, Own w b bT 1 x.kv x.kb.length (bys x.kb) ∧ Bytes8 x.kb) (hL : L.length + n < 100000) :
    Calls Try.prog 9 #[.pointer (some ⟨hb, 0, none⟩), .slice A n c] w fun e w' => ∃ (z : Int) (lv' : Value) (L' : List TV), e = .returned (.int .i64 z) ∧ SetQ w0 w w' hb tb mb lv lv' L L' D z := by
  refine (hset_any w w0.heap.size hb tb mb lv L A c n w.heap.size D h.hp hD (Nat.le_refl _) (fun X hX => ⟨?_, fun x hx => ?_⟩) h.bl.size hL).mono (fun e w' hp => ?_)
  · exact (hs.fr hX (fun g hg => by obtain ⟨cs, hc⟩ := hs.typed g hg; exact h.hp.nwr hc (by decide) (hap g hg))).slB (fun g hg => (hs.lt g hg).2)
  · obtain ⟨b, ho, h8⟩ := hk x hx
    exact ⟨(ho.fr hX (fun g hg => by obtain ⟨cs, hc⟩ := ho.typed g hg; exact h.hp.bnw g cs hc)).slB (fun g hg => (ho.lt g hg).2), h8⟩
  · rcases hp with ⟨hn, he, hb⟩ | ⟨hr, he, lv', L', hh, hpm, hf, hnb, hnk⟩
    · exact ⟨160, lv, L, he, h.below hb, Fr.of_below hb, fun g hg => .inl hg, fun y hy => .inl hy, .inl ⟨hn, rfl, rfl⟩⟩
    · exact ⟨0, lv', L', he, h.step hh hf, hf, hnb, hnk, .inr ⟨hr, rfl, hpm⟩⟩

/-- while the keys are zeroed: a is where the row's keys begin, b where they end -/
structure PZ (w0 wz : World) (hb tb mb a b : Nat) (lv : Value) (L : List TV) (v : Value) (X : List TV) (u : Value) (n : Nat) (D : List TV) : Prop where
  hr : HR w0 wz hb tb mb lv L
  aw : Away a b L
  a0 : w0.heap.size ≤ a
  row : Own wz w0.heap.size rtT 5 v X.length (tms X)
  inn : Own wz w0.heap.size tmT 5 u n (tms D)
  ks : ∀ x ∈ D, ∃ A c, x.kv = .slice A x.kb.length c ∧ (0 < x.kb.length → ∃ g cs, A = some ⟨g, 0, none⟩ ∧ Blk wz g bT cs ∧ x.kb.length ≤ cs.size ∧ a ≤ g ∧ g < b)
section
variable {w0 wz wy : World} {hb tb mb a b n : Nat} {lv v u : Value} {L X D : List TV}
theorem PZ.below (h : PZ w0 wz hb tb mb a b lv L v X u n D) (k : Below wz.heap.size wz wy) : PZ w0 wy hb tb mb a b lv L v X u n D :=
  ⟨h.hr.below k, h.aw, h.a0, h.row.below k, h.inn.below k, fun x hx => by
    obtain ⟨A, c, h1, h2⟩ := h.ks x hx
    exact ⟨A, c, h1, fun h3 => by obtain ⟨g, cs, h4, h5, h6⟩ := h2 h3; exact ⟨g, cs, h4, h5.below k h5.lt, h6⟩⟩⟩
/-- a byte is written -/
theorem PZ.put (h : PZ w0 wz hb tb mb a b lv L v X u n D) {g : Nat} {cs : Array Value} (hg : Blk wz g bT cs) (h1 : a ≤ g) (h2 : g < b) (j : Nat) (z : Value) : PZ w0 (wz.setCell ⟨g, j, none⟩ z) hb tb mb a b lv L v X u n D := by
  have hf : Fr (fun k => k = g) wz (wz.setCell ⟨g, j, none⟩ z) := Fr.put (S := fun k => k = g) (p := ⟨g, j, none⟩) (Fr.refl _ wz) (.inl rfl) z
  refine ⟨h.hr.wrb h.aw hg h1 h2 (Nat.le_trans h.a0 h1) hf, h.aw, h.a0, h.row.fr hf (fun k hk e => ?_), h.inn.fr hf (fun k hk e => ?_), fun x hx => ?_⟩
  · obtain ⟨c2, k2⟩ := h.row.typed k hk
    exact k2.apart hg (by decide) e
  · obtain ⟨c2, k2⟩ := h.inn.typed k hk
    exact k2.apart hg (by decide) e
  · obtain ⟨A, c, h3, h4⟩ := h.ks x hx
    refine ⟨A, c, h3, fun h5 => ?_⟩
    obtain ⟨g', cs', h6, h7, h8, h9⟩ := h4 h5
    by_cases e : g' = g
    · subst e
      exact ⟨g', _, h6, h7.put j z, by rw [Array.size_setIfInBounds]; exact h8, h9⟩
    · exact ⟨g', cs', h6, hf.blk h7 e, h8, h9⟩
/-- the reference's row is another -/
theorem PZ.ref (h : PZ w0 wz hb tb mb a b lv L v X u n D) {v' : Value} {X' : List TV} (hr : Own wy w0.heap.size rtT 5 v' X'.length (tms X')) (k : Below wz.heap.size wz wy) : PZ w0 wy hb tb mb a b lv L v' X' u n D := by
  have h1 := h.below k
  exact ⟨h1.hr, h1.aw, h1.a0, hr, h1.inn, h1.ks⟩
end

end Go.Proofs.Ytogelnljkdcajaa

namespace Go.Proofs.Ytogelnljkdcajaa
open Go.RowKit Go.Sort
set_option linter.unusedVariables false
set_option linter.unusedSimpArgs false

theorem map_ne {X Y : List TV} {k : Nat} (h1 : k < X.length) (h2 : k < Y.length) (h : X[k].d ≠ Y[k].d) : decide (X.map TV.d = Y.map TV.d) = false := by
  rw [decide_eq_false_iff_not]
  intro h9
  have h3 : (X.map TV.d)[k]? = (Y.map TV.d)[k]? := by rw [h9]
  rw [List.getElem?_map, List.getElem?_map, List.getElem?_eq_getElem h1, List.getElem?_eq_getElem h2] at h3
  simp only [Option.map_some, Option.some.injEq] at h3
  exact h h3

set_option maxRecDepth 100000 in
set_option maxHeartbeats 8000000 in
theorem list16 (v u : Value) (X Y : List TV) (w : World) (hs : Sl w w.heap.size v 5 X.length (tms X)) (hu : Sl w w.heap.size u 5 Y.length (tms Y)) (hx : ∀ x ∈ X, KeyIn w w.heap.size x) (hy : ∀ x ∈ Y, KeyIn w w.heap.size x) :
    Calls Try.prog 22 #[v, u] w fun e w' => e = .returned (.bool (decide (X.map TV.d = Y.map TV.d))) ∧ Below w.heap.size w w' := by
  obtain ⟨A, c, rfl, hc⟩ := hs.form
  obtain ⟨A', c', rfl, hc'⟩ := hu.form
  have hmax := hs.max
  have HS := hide hs
  have HU := hide hu
  have HX := hide hx
  have HY := hide hy
  clear hs hu hx hy
  by_cases hmn : X.length = Y.length
  · obtain ⟨n, hn⟩ : ∃ n, n = X.length := ⟨_, rfl⟩
    have hn2 : Y.length = n := by omega
    have HN := hide (And.intro hn hn2)
    rw [← hn] at HS hc hmax ⊢
    rw [hn2] at HU hc' ⊢
    clear hn hn2 hmn
    go_enter Try.func22, Try.ntmps22
    go_wp2_with fail
    go_loopw [13] (fun i wr => ∃ k : Nat, k ≤ n ∧ i = .int .i64 k ∧ Hid ((X.map TV.d).take k = (Y.map TV.d).take k) ∧ Hid (Below w.heap.size w wr)) (fun i _ => n - (intOf i).toNat)
    case atStart => exact ⟨0, Nat.zero_le _, rfl, by simp [Hid], Below.refl _ _⟩
    case round =>
      obtain ⟨k, hk, rfl, HT, HJ⟩ := hrel
      by_cases hlt : k < n
      · have hkX : k < X.length := by rw [← HN.out.1]; exact hlt
        have hkY : k < Y.length := by rw [HN.out.2]; exact hlt
        obtain ⟨ad, rfl, hb, a0, a1, a2, a3, a4⟩ := tm_at (HS.out.below HJ.out) hlt HN.out.1.symm
        obtain ⟨ad', rfl, hb', b0, b1, b2, b3, b4⟩ := tm_at (HU.out.below HJ.out) hlt HN.out.2
        have hzr := HJ.out.size
        have hb2 : (ad.add (k * 5)).block < wr.heap.size := by omega
        have hb3 : (ad'.add (k * 5)).block < wr.heap.size := by omega
        have HNE := hide (map_ne hkX hkY)
        have HEQ : Hid (X[k].d = Y[k].d → (X.map TV.d).take (k + 1) = (Y.map TV.d).take (k + 1)) := by
          intro h
          rw [List.take_succ_eq_append_getElem (by simpa using hkX), List.take_succ_eq_append_getElem (by simpa using hkY), HT.out, List.getElem_map, List.getElem_map, h]
        have HSM := hide (fun Z (hZ : Below wr.heap.size wr Z) => same_any16 X[k] Y[k] w.heap.size Z ((HX.out _ (List.getElem_mem hkX)).below (HJ.out.trans (hZ.mono hzr))) ((HY.out _ (List.getElem_mem hkY)).below (HJ.out.trans (hZ.mono hzr))) (Nat.le_trans hzr hZ.size))
        have hkx := (HX.out _ (List.getElem_mem hkX)).sl.form
        have hky := (HY.out _ (List.getElem_mem hkY)).sl.form
        generalize X[k] = x at a0 a1 a2 a3 a4 HNE HEQ HSM hkx
        generalize Y[k] = y at b0 b1 b2 b3 b4 HNE HEQ HSM hky
        clear hkX hkY
        obtain ⟨r, hr⟩ : ∃ r, r = TV.same x y := ⟨_, rfl⟩
        have HR := hide hr
        rw [← hr] at HSM
        clear hr
        obtain ⟨xA, xc, hkx, _⟩ := hkx
        obtain ⟨yA, yc, hky, _⟩ := hky
        obtain ⟨xa, xk, xb, xf, xt, xw⟩ := x
        obtain ⟨ya, yk, yb, yf, yt, yw⟩ := y
        simp only at hkx hky a0 a1 a2 a3 a4 b0 b1 b2 b3 b4
        subst hkx hky
        unfold TV.cells at HSM
        simp only at HSM
        have z0 := Aft.cell a0 hb2
        have z1 := Aft.cell a1 hb2
        have z2 := Aft.cell a2 hb2
        have z3 := Aft.cell a3 hb2
        have z4 := Aft.cell a4 hb2
        have y0 := Aft.cell b0 hb3
        have y1 := Aft.cell b1 hb3
        have y2 := Aft.cell b2 hb3
        have y3 := Aft.cell b3 hb3
        have y4 := Aft.cell b4 hb3
        have i0 : (0 : Int) ≤ (k : Int) := by omega
        have i1 : (k : Int) < (n : Int) := by omega
        go_wp2_with fail
        refine wp_region_aft (by kernel_rfl) (by kernel_rfl) ?_
        repeat (go_big_quiet_step (first
          | (go_at_call 14; with_reducible exact calls_aft (HSM.out _ (Aft.h _)))))
        refine wpQuiet_nil ?_
        intro w9 hb9
        have HB9 := hide (HJ.out.trans (hb9.mono HJ.out.size))
        clear hb9 z0 z1 z2 z3 z4 y0 y1 y2 y3 y4 a0 a1 a2 a3 a4 b0 b1 b2 b3 b4 HSM
        cases r
        · have HF := hide (HNE.out (of_decide_eq_false HR.out.symm))
          go_wp2_with fail
          go_ret
          exact ⟨by rw [HF.out]; rfl, HB9.out⟩
        · have HF := hide (HEQ.out (of_decide_eq_true HR.out.symm))
          go_wp2_with fail
          go_roundw
          case rel => exact ⟨k + 1, by omega, by simp, HF.out, HB9.out⟩
          case measure => simp [intOf]; omega
      · have HXX : Hid (decide (X.map TV.d = Y.map TV.d) = true) := by
          have h := HT.out
          have := HN.out
          rw [List.take_of_length_le (by simp; omega), List.take_of_length_le (by simp; omega)] at h
          simp [Hid, h]
        go_wp2_with fail
        go_ret
        exact ⟨by rw [HXX.out]; rfl, HJ.out⟩
  · have HXX : Hid (decide (X.map TV.d = Y.map TV.d) = false) := by
      rw [Hid, decide_eq_false_iff_not]
      exact fun h => hmn (by have := congrArg List.length h; simpa using this)
    go_enter Try.func22, Try.ntmps22
    go_wp2_with fail
    go_ret
    exact ⟨by rw [HXX.out]; rfl, Below.refl _ _⟩

end Go.Proofs.Ytogelnljkdcajaa
