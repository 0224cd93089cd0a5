/- ShufflePlays: the walk. -/
import Derived.Test.YtlaijnabdlidiaaPlays17
import Derived.Deep.CutRange
import Derived.Deep.CutBlock
import Derived.Deep.RegionHeld3
namespace Go.Proofs.Ytlaijnabdlidiaa
open Go.RowKit
set_option linter.unusedVariables false
set_option linter.unusedSimpArgs false

theorem below_put17 {w0 w : World} {B : Nat} (hb : Below B w0 w) {p : Addr} (hp : B ≤ p.block) (hB : B ≤ w.heap.size) (u : Value) : Below B w0 (w.setCell p u) :=
  hb.trans (Fr.below (S := fun k => k = p.block) (Fr.put (S := fun k => k = p.block) (Fr.refl _ w) (.inl rfl) u) hB (fun k hk h => by omega))
abbrev opT : Nat := 31
abbrev xqT0 : Nat := 50
theorem XR.new (w : World) : XR (w.alloc (.cells #[.slice none 0 0, .slice none 0 0, .int .i64 0] xqT)) w.heap.size w.heap.size (fun k => k = w.heap.size) [] [] 0 := by
  refine ⟨_, _, Blk.new w _ _, Own.nil _ _ _ _, Own.nil _ _ _ _, rfl, fun g hg => by simp [Value.ownBlock] at hg, fun g hg => by simp [Value.ownBlock] at hg, ?_⟩
  rintro k rfl
  simp

set_option maxRecDepth 100000 in
set_option maxHeartbeats 16000000 in
theorem plays17_ok (v : Value) (T : List SOp) (w : World) (hs : Sl w w.heap.size v 3 T.length (sops T)) (hT : ∀ o ∈ T, Sl w w.heap.size o.v 2 o.it.length (its o.it)) (hb : tot T ≤ 1048576) :
    Calls Try.prog 6 #[v] w fun e w' => e = .returned (.bool true) ∧ Below w.heap.size w w' := by
  obtain ⟨A, c, rfl, hnc⟩ := hs.form
  have hmax := hs.max
  have HS := hide hs
  have HT := hide hT
  clear hs hT
  go_enter Try.func6, Try.ntmps6
  go_wp2_with fail
  refine (qnew_any _ w.heap.size (Nat.le_refl _)).mono ?_
  rintro e w1 ⟨rfl, hq, hw⟩
  have HB1 : Hid (Below w.heap.size w w1) := by rw [hw]; exact (Below.refl w.heap.size w).alloc (Nat.le_refl _) _
  have hxb : w.heap.size < w1.heap.size := by rw [hw]; simp
  have HQ1 := hide hq
  clear hq hw
  go_wp2_with fail
  have HP2 : Hid (PS (w1.alloc (.cells #[.slice none 0 0, .slice none 0 0, .int .i64 0] xqT)) w.heap.size w.heap.size w1.heap.size (fun k => k = w.heap.size) (fun k => k = w1.heap.size) [] [] 0 [] [] 0) := by
    refine ⟨HQ1.out.alloc _, ?_, fun k hk hG => by omega⟩
    obtain ⟨wv, bv, h1, h2, h3, h4, h5, h6, h7⟩ := XR.new w1
    exact ⟨wv, bv, h1, h2.lower (by omega), h3.lower (by omega), h4, h5, h6, fun k hk => ⟨by omega, (h7 k hk).2⟩⟩
  have HB2 := hide (HB1.out.alloc (by omega) (.cells #[.slice none 0 0, .slice none 0 0, .int .i64 0] xqT))
  generalize w1.alloc (.cells #[.slice none 0 0, .slice none 0 0, .int .i64 0] xqT) = w2 at *
  generalize w1.heap.size = xb at *
  clear HB1 HQ1
  go_loopw [29] (fun i wr => ∃ (k : Nat) (W Bn : List Itm) (p : Nat) (F G : Nat → Prop), k ≤ T.length ∧ i = .int .i64 k ∧ Hid (p + Bn.length + W.length ≤ tot (T.take k)) ∧
      Hid (PS wr w.heap.size w.heap.size xb F G W Bn p W Bn p) ∧ Hid (Below w.heap.size w wr)) (fun i _ => T.length - (intOf i).toNat)
  case atStart => exact ⟨0, [], [], 0, _, _, Nat.zero_le _, rfl, by simp [Hid], HP2, HB2⟩
  case round =>
    obtain ⟨k, W, Bn, p, F, G, hk, rfl, HP, HS0, HB⟩ := hrel
    by_cases hlt : k < T.length
    · obtain ⟨ad, he, hbk, h0, h1, h2⟩ := sop_at (HS.out.below HB.out) hlt rfl
      obtain rfl := he
      have hb2 : (ad.add (k * 3)).block < wr.heap.size := Nat.lt_of_lt_of_le hbk HB.out.size
      have HI := hide (HT.out T[k] (List.getElem_mem hlt))
      have HU : Hid (tot (T.take (k + 1)) = tot (T.take k) + T[k].it.length) := by
        show _ = _
        rw [List.take_succ_eq_append_getElem hlt, tot_snoc]
      have hP2 : p + Bn.length + W.length + T[k].it.length ≤ 1048576 := by
        have h3 := tot_take T (k + 1)
        have h4 := HU.out
        have h5 := HP.out
        omega
      have hto := tot_take T (k + 1)
      have HTO := hide hto
      clear hto
      generalize T[k] = o at h0 h1 h2 HI HU hP2
      obtain ⟨ok, on, ov, oi⟩ := o
      simp only at h0 h1 h2 HI HU hP2
      obtain ⟨oA, oc, rfl, hoc⟩ := HI.out.form
      obtain ⟨om, hom⟩ : ∃ om, om = oi.length := ⟨_, rfl⟩
      have HOM := hide hom
      rw [← hom] at h2 hoc hP2
      clear hom
      go_upto_block 2 with fail
      have hzz := HB.out.size
      have HB2 := hide (HB.out.alloc hzz (.cells #[.int .i64 ok, .int .i64 on, .slice oA om oc] opT))
      have HS2 := hide (HS0.out.alloc (.cells #[.int .i64 ok, .int .i64 on, .slice oA om oc] opT))
      have HOP2 : Hid (Blk (wr.alloc (.cells #[.int .i64 ok, .int .i64 on, .slice oA om oc] opT)) wr.heap.size opT #[.int .i64 ok, .int .i64 on, .slice oA om oc]) := Blk.new wr _ _
      have HI2 : Hid (Sl (wr.alloc (.cells #[.int .i64 ok, .int .i64 on, .slice oA om oc] opT)) w.heap.size (.slice oA om oc) 2 om (its oi)) := by
        have h9 := (HI.out.below HB.out).alloc HB.out.size (.cells #[.int .i64 ok, .int .i64 on, .slice oA om oc] opT)
        rw [← HOM.out] at h9
        exact h9
      have hob : wr.heap.size < (wr.alloc (.cells #[.int .i64 ok, .int .i64 on, .slice oA om oc] opT)).heap.size := by simp
      generalize wr.alloc (.cells #[.int .i64 ok, .int .i64 on, .slice oA om oc] opT) = w3 at *
      have HOB : Hid (∀ k, F k ∨ G k → k ≠ wr.heap.size) := by
        rintro j hj rfl
        rcases hj with h9 | h9
        · have := (HS0.out.1.inF _ h9).2; omega
        · have := (HS0.out.2.1.inG _ h9).2; omega
      generalize wr.heap.size = ob at *
      clear HS0 HB h0 h1 h2 HI
      go_cut [29] from 29 to 177 (fun i wz => i = .int .i64 k ∧ ∃ (W Bn : List Itm) (p : Nat) (F G : Nat → Prop), Hid (p + Bn.length + W.length ≤ tot (T.take (k + 1))) ∧ Hid (PS wz w.heap.size w.heap.size xb F G W Bn p W Bn p) ∧ Hid (Below w.heap.size w wz))
      case first =>
        have d0 : w3.cell? ⟨ob, 0, none⟩ = some (.int .i64 ok) := HOP2.out.cell 0
        have d1 : w3.cell? ⟨ob, 1, none⟩ = some (.int .i64 on) := HOP2.out.cell 1
        have d2 : w3.cell? ⟨ob, 2, none⟩ = some (.slice oA om oc) := HOP2.out.cell 2
        have hzB := HB2.out.size
        by_cases hk1 : ok = 1
        · subst hk1
          have HE0 : Hid (Own (w3.alloc (.cells #[] iT)) w3.heap.size iT 2 (.slice (some ⟨w3.heap.size, 0, none⟩) 0 0) 0 []) := Own.new w3 w3.heap.size #[] (Nat.le_refl _) (by omega) rfl
          have HI3 := hide (HI2.out.alloc (by omega) (.cells #[] iT))
          have HOP3 := hide (HOP2.out.alloc (.cells #[] iT))
          have HS3 := hide (HS2.out.alloc (.cells #[] iT))
          have HB3 := hide (HB2.out.alloc hzB (.cells #[] iT))
          go_wp2_with (at_builtin; refine wpList_app rfl tyIt (.tmp 37) (.tmp 39) rfl w3.heap.size (n := 0) (m := om) (B := w.heap.size) (xs := []) (news := its oi) rfl rfl HE0.out HI3.out (its_ok oi) (by omega) (by omega) (by simp) ?_)
          intro v4 w4 ha
          have HO4 : Hid (Own w4 w3.heap.size iT 2 v4 om (its oi)) := by have h9 := ha.own; simpa [Hid] using h9
          have HF4 : Hid (Below w3.heap.size w3 w4) := ((Below.refl w3.heap.size w3).alloc (Nat.le_refl _) _).trans (ha.fr.below (B := w3.heap.size) (by simp) (fun k hk h => by have := own_eq h; omega))
          have HS4 := hide (HS2.out.below HF4.out)
          have HOP4 := hide (HOP2.out.below HF4.out hob)
          have HB4 := hide (HB2.out.trans (HF4.out.mono hzB))
          have HI4 : Hid (Sl w4 w.heap.size (.slice oA om oc) 2 om (its oi)) := HI2.out.below (HF4.out.mono hzB)
          obtain ⟨vA, vc, rfl, hvc⟩ := HO4.out.sl.form
          have e2 : w4.cell? ⟨ob, 2, none⟩ = some (.slice oA om oc) := HOP4.out.cell 2
          have hob4 := HOP4.out.lt
          have hz4 := HB4.out.size
          have hz34 := HF4.out.size
          clear ha d0 d1 d2
          go_wp2_with fail
          go_region_held3 (fun w' : World => w'.cell? ⟨ob, 2, none⟩ = some (.slice oA om oc) ∧ Blk w' ob opT #[.int .i64 1, .int .i64 on, .slice oA om oc]) (first
              | exact ⟨e2, HOP4.out⟩
              | exact ⟨hop5.cell 2, hop5⟩
              | exact ⟨hop6.cell 2, hop6⟩) (first
            | (go_at_call 10; refine (push_any _ oi om w4.heap.size _ w.heap.size w.heap.size F W Bn p (HS4.out.drewN 1).1 HO4.out.sl HOM.out.symm (by omega) (by exact hz4)).mono ?_; rintro e w5 ⟨F5, rfl, hq5, hf5, hs5⟩; have hop5 : Blk w5 ob opT #[.int .i64 1, .int .i64 on, .slice oA om oc] := hf5.blk (HOP4.out.drewN 1) (fun h9 => HOB.out ob (.inl h9) rfl); have ps5 := (HS4.out.drewN 1).q hq5 hf5 hs5; have hb5 := (HS4.out.drewN 1).1.apart hf5 hz4)
            | (go_at_call 19; refine (xpush_any _ oi om w.heap.size w5 w.heap.size xb G W Bn p ps5.2.1 ((HI4.out.drewN 1).below hb5) HOM.out.symm (by omega) (by have := hf5.size; exact Nat.le_trans hz4 this)).mono ?_; rintro e w6 ⟨G6, rfl, hx6, hf6, hs6⟩; have hop6 : Blk w6 ob opT #[.int .i64 1, .int .i64 on, .slice oA om oc] := hf6.blk hop5 (fun h9 => HOB.out ob (.inr (by rw [h9]; exact HS4.out.2.1.atb)) rfl)))
          have hz45 : w4.heap.size ≤ w5.heap.size := hf5.size
          have HPM := hide (ps5.x hx6 hf6 hs6)
          have HBM : Hid (Below w.heap.size w w6) := ((HB4.out.drewN 1).trans hb5).trans (ps5.2.1.apart hf6 (by omega))
          have HRM : Hid (Room w6 w3.heap.size (fun k => F5 k ∨ G6 k) (.slice vA om vc) om) := by
            refine Own.room (xs := its oi) (((HO4.out.drewN 1).fr hf5 ?_).fr hf6 ?_) ?_
            · intro g hg hF
              have h8 := (HO4.out.lt g hg).1
              have := (HS2.out.1.inF g hF).2
              omega
            · intro g hg hF
              have h8 := (HO4.out.lt g hg).1
              have := (HS2.out.2.1.inG g (by rw [hF]; exact HS2.out.2.1.atb)).2
              omega
            · intro g hg hF
              have h8 := HO4.out.lt g hg
              rcases hF with h9 | h9
              · rcases hs5 g h9 with h7 | h7
                · have := (HS2.out.1.inF g h7).2; omega
                · have h7' : w4.heap.size ≤ g := h7
                  omega
              · rcases hs6 g h9 with h7 | h7
                · have := (HS2.out.2.1.inG g h7).2; omega
                · omega
          have HTM : Hid (p + Bn.length + (W ++ oi).length ≤ tot (T.take (k + 1))) := by
            have h9 := HU.out
            have h8 := HP.out
            have h7 := HOM.out
            show _ ≤ _
            rw [List.length_append, h9]
            omega
          clear hq5 hf5 hs5 hop5 ps5 hb5 hx6 hf6 hs6 hop6 hz45
          go_wp2_with fail
          go_loopw [51] (fun i wz => ∃ (j : Nat), j ≤ om ∧ i = .int .i64 j ∧ Hid (Room wz w3.heap.size (fun k => F5 k ∨ G6 k) (.slice vA om vc) om) ∧ Hid (PS wz w.heap.size w.heap.size xb F5 G6 (W ++ oi) Bn p (W ++ oi) Bn p) ∧ Hid (Below w.heap.size w wz)) (fun i _ => om - (intOf i).toNat)
          case atStart => exact ⟨0, Nat.zero_le _, rfl, HRM.out, HPM.out, HBM.out⟩
          case round =>
            obtain ⟨j, hj, rfl, HRj, HPj, HBj⟩ := hrel
            by_cases hltj : j < om
            · obtain ⟨aj, u0, u1, hA, z0, z1, z2, z3, z4, z5, HNB, HST⟩ := HRj.out.at_ hltj
              subst hA
              have hzj := HBj.out.size
              go_wp2_with fail
              go_roundw
              case rel =>
                refine ⟨j + 1, by omega, by simp, HST.out _ _, (HPj.out.put HNB.out.2 _).put (a := ⟨(aj.add (j * 2)).block, (aj.add (j * 2)).off + 1, none⟩) HNB.out.2 _, ?_⟩
                have hb9 : w.heap.size ≤ (aj.add (j * 2)).block := Nat.le_trans hzB HNB.out.1
                exact below_put17 (below_put17 HBj.out hb9 hzj _) (p := ⟨(aj.add (j * 2)).block, (aj.add (j * 2)).off + 1, none⟩) hb9 (by rw [World.size_setCell]; exact hzj) _
              case measure => simp [intOf]; omega
            · go_wp2_with fail
              go_meet
              case rel => exact ⟨rfl, W ++ oi, Bn, p, F5, G6, HTM.out, HPj.out, HBj.out⟩
        · by_cases hk2 : ok = 2
          · subst hk2
            go_wp2_with fail
            go_at_call 11
            refine (take_any17 _ w.heap.size w.heap.size F W Bn p on HS2.out.1 (by omega) hzB).mono ?_
            rintro e w4 ⟨v4, F4, rfl, hq4, ho4, hn4, hf4, hs4⟩
            have hop4 : Blk w4 ob opT #[.int .i64 2, .int .i64 on, .slice oA om oc] := hf4.blk HOP2.out (fun h9 => HOB.out ob (.inl h9) rfl)
            have HOP4 := hide hop4
            have HPS4 := hide (HS2.out.q hq4 hf4 hs4)
            have hz4 := hf4.size
            have HB4 := hide (HB2.out.trans (HS2.out.1.apart hf4 hzB))
            have HO4 := hide ho4
            have HN4 := hide hn4
            have HL := hide (tk_len W Bn on)
            have HSB4 := hide hs4
            clear hq4 ho4 hn4 hf4 hs4 hop4
            obtain ⟨vA, vc, rfl, hvc⟩ := HO4.out.sl.form
            have e1 : w4.cell? ⟨ob, 1, none⟩ = some (.int .i64 on) := HOP4.out.cell 1
            have hob4 := HOP4.out.lt
            obtain ⟨er, her⟩ : ∃ er, er = tkE W Bn on := ⟨_, rfl⟩
            have HER := hide her
            rw [← her]
            clear her
            obtain ⟨m, hm⟩ : ∃ m, m = tkM W Bn on := ⟨_, rfl⟩
            have HM := hide hm
            rw [← hm] at HO4 HN4 hvc HPS4 HL ⊢
            clear hm d0 d1 d2
            have hml : m ≤ 1048576 := by have := HL.out.2; omega
            go_wp2_with fail
            go_at_call 20
            refine (xtake_any17 _ w.heap.size xb G W Bn p on HPS4.out.2.1 (by omega)).mono ?_
            rintro e w5 ⟨v5, G5, rfl, hx5, ho5, hf5, hs5⟩
            rw [← HER.out]
            rw [← HM.out] at hx5 ho5
            have hz5 := hf5.size
            have HPS5 := hide (HPS4.out.x hx5 hf5 hs5)
            have HB5 := hide (HB4.out.trans (HPS4.out.2.1.apart hf5 (by omega)))
            have HO5 := hide ho5
            have HV5 : Hid (Own w5 w3.heap.size iT 2 (.slice vA m vc) m (its (W.take m))) := HO4.out.fr hf5 (by
              intro g hg hF
              have h8 := (HO4.out.lt g hg).1
              have := (HS2.out.2.1.inG g (by rw [hF]; exact HS2.out.2.1.atb)).2
              omega)
            have HNN : Hid (∀ g, (Value.slice vA m vc).ownBlock = some g → ¬ (F4 g ∨ G5 g)) := by
              intro g hg hF
              have h8 := HO4.out.lt g hg
              rcases hF with h9 | h9
              · exact HN4.out g hg h9
              · rcases hs5 g h9 with h7 | h7
                · have := (HS2.out.2.1.inG g h7).2; omega
                · omega
            clear hx5 ho5 hf5 hs5 e1
            obtain ⟨yA, yc, rfl, hyc⟩ := HO5.out.sl.form
            have HLT : Hid ((W.take m).length = m) := by rw [Hid, List.length_take]; have := HL.out.2; omega
            go_wp2_with fail
            go_at_call 18
            refine (same17 _ _ (W.take m) (W.take m) m m w5.heap.size w5 HV5.out.sl HO5.out.sl HLT.out HLT.out (Nat.le_refl _) (by omega)).mono ?_
            rintro e w6 ⟨rfl, hb6⟩
            rw [decide_eq_true (rfl : W.take m = W.take m)]
            have HPM := hide (HPS5.out.below hb6)
            have HBM := hide (HB5.out.trans (hb6.mono HB5.out.size))
            have HRM := hide (Own.room (HV5.out.below hb6) HNN.out)
            have HTM : Hid (p + (tkB W Bn on).length + (W.drop m).length ≤ tot (T.take (k + 1))) := by
              have h9 := HU.out
              have h8 := HP.out
              have h7 := HL.out.1
              show _ ≤ _
              omega
            clear hb6
            go_wp2_with fail
            go_loopw [86] (fun i wz => ∃ (j : Nat), j ≤ m ∧ i = .int .i64 j ∧ Hid (Room wz w3.heap.size (fun k => F4 k ∨ G5 k) (.slice vA m vc) m) ∧ Hid (PS wz w.heap.size w.heap.size xb F4 G5 (W.drop m) (tkB W Bn on) p (W.drop m) (tkB W Bn on) p) ∧ Hid (Below w.heap.size w wz)) (fun i _ => m - (intOf i).toNat)
            case atStart => exact ⟨0, Nat.zero_le _, rfl, HRM.out, HPM.out, HBM.out⟩
            case round =>
              obtain ⟨j, hj, rfl, HRj, HPj, HBj⟩ := hrel
              by_cases hltj : j < m
              · obtain ⟨aj, u0, u1, hA, z0, z1, z2, z3, z4, z5, HNB, HST⟩ := HRj.out.at_ hltj
                subst hA
                have hzj := HBj.out.size
                go_wp2_with fail
                go_roundw
                case rel =>
                  refine ⟨j + 1, by omega, by simp, HST.out _ _, (HPj.out.put HNB.out.2 _).put (a := ⟨(aj.add (j * 2)).block, (aj.add (j * 2)).off + 1, none⟩) HNB.out.2 _, ?_⟩
                  have hb9 : w.heap.size ≤ (aj.add (j * 2)).block := Nat.le_trans hzB HNB.out.1
                  exact below_put17 (below_put17 HBj.out hb9 hzj _) (p := ⟨(aj.add (j * 2)).block, (aj.add (j * 2)).off + 1, none⟩) hb9 (by rw [World.size_setCell]; exact hzj) _
                case measure => simp [intOf]; omega
              · go_wp2_with fail
                go_meet
                case rel => exact ⟨rfl, W.drop m, tkB W Bn on, p, F4, G5, HTM.out, HPj.out, HBj.out⟩
          · by_cases hk3 : ok = 3
            · subst hk3
              go_wp2_with fail
              refine (settle_any17 _ w.heap.size w.heap.size F W Bn p false HS2.out.1 (by omega) (by omega) (by omega) hzB).mono ?_
              rintro e w4 ⟨F4, rfl, hq4, hf4, hs4⟩
              have hop4 : Blk w4 ob opT #[.int .i64 3, .int .i64 on, .slice oA om oc] := hf4.blk HOP2.out (fun h9 => HOB.out ob (.inl h9) rfl)
              have HOP4 := hide hop4
              have HPS4 := hide (HS2.out.q hq4 hf4 hs4)
              have hz4 := hf4.size
              have HB4 := hide (HB2.out.trans (HS2.out.1.apart hf4 hzB))
              clear hq4 hf4 hs4 hop4 d0 d1 d2
              have e0 : w4.cell? ⟨ob, 0, none⟩ = some (.int .i64 3) := HOP4.out.cell 0
              have hob4 := HOP4.out.lt
              obtain ⟨bn, hbn⟩ : ∃ bn, bn = Bn.length := ⟨_, rfl⟩
              have HBN := hide hbn
              obtain ⟨er, her⟩ : ∃ er, er = stE Bn := ⟨_, rfl⟩
              have HER := hide her
              rw [← her, ← hbn]
              have hcase : (bn = 0 ∧ er = 171) ∨ (¬ bn = 0 ∧ er = 0) := by
                rw [hbn, her]
                unfold stE
                split
                · exact .inl ⟨by assumption, rfl⟩
                · exact .inr ⟨by assumption, rfl⟩
              clear hbn her
              go_wp2_with fail
              refine (xsettle_any17 _ w.heap.size xb G W Bn p false HPS4.out.2.1 (by omega) (by omega) (by omega)).mono ?_
              rintro e w5 ⟨G5, rfl, hx5, hf5, hs5⟩
              rw [← HBN.out]
              have hz5 := hf5.size
              have HPS5 : Hid (PS w5 w.heap.size w.heap.size xb F4 G5 (W) [] (p + Bn.length : Nat) (W) [] (p + Bn.length : Nat)) := HPS4.out.x hx5 hf5 hs5
              have HB5 := hide (HB4.out.trans (HPS4.out.2.1.apart hf5 (by omega)))
              have HTM : Hid (p + Bn.length + ([] : List Itm).length + (W).length ≤ tot (T.take (k + 1))) := by
                have h9 := HU.out
                have h8 := HP.out
                show _ ≤ _
                simp only [List.length_append, List.length_nil]
                omega
              clear hx5 hf5 hs5 e0
              rcases hcase with ⟨rfl, rfl⟩ | ⟨hb0, rfl⟩
              · go_wp2_with fail
                go_meet
                case rel => exact ⟨rfl, W, [], p + Bn.length, F4, G5, HTM.out, HPS5.out, HB5.out⟩
              · rw [decide_eq_false hb0]
                go_wp2_with fail
                go_meet
                case rel => exact ⟨rfl, W, [], p + Bn.length, F4, G5, HTM.out, HPS5.out, HB5.out⟩
            · by_cases hk4 : ok = 4
              · subst hk4
                go_wp2_with fail
                refine (settle_any17 _ w.heap.size w.heap.size F W Bn p true HS2.out.1 (by omega) (by omega) (by omega) hzB).mono ?_
                rintro e w4 ⟨F4, rfl, hq4, hf4, hs4⟩
                have hop4 : Blk w4 ob opT #[.int .i64 4, .int .i64 on, .slice oA om oc] := hf4.blk HOP2.out (fun h9 => HOB.out ob (.inl h9) rfl)
                have HOP4 := hide hop4
                have HPS4 := hide (HS2.out.q hq4 hf4 hs4)
                have hz4 := hf4.size
                have HB4 := hide (HB2.out.trans (HS2.out.1.apart hf4 hzB))
                clear hq4 hf4 hs4 hop4 d0 d1 d2
                have e0 : w4.cell? ⟨ob, 0, none⟩ = some (.int .i64 4) := HOP4.out.cell 0
                have hob4 := HOP4.out.lt
                obtain ⟨bn, hbn⟩ : ∃ bn, bn = Bn.length := ⟨_, rfl⟩
                have HBN := hide hbn
                obtain ⟨er, her⟩ : ∃ er, er = stE Bn := ⟨_, rfl⟩
                have HER := hide her
                rw [← her, ← hbn]
                have hcase : (bn = 0 ∧ er = 171) ∨ (¬ bn = 0 ∧ er = 0) := by
                  rw [hbn, her]
                  unfold stE
                  split
                  · exact .inl ⟨by assumption, rfl⟩
                  · exact .inr ⟨by assumption, rfl⟩
                clear hbn her
                go_wp2_with fail
                refine (xsettle_any17 _ w.heap.size xb G W Bn p true HPS4.out.2.1 (by omega) (by omega) (by omega)).mono ?_
                rintro e w5 ⟨G5, rfl, hx5, hf5, hs5⟩
                rw [← HBN.out]
                have hz5 := hf5.size
                have HPS5 : Hid (PS w5 w.heap.size w.heap.size xb F4 G5 (Bn ++ W) [] p (Bn ++ W) [] p) := HPS4.out.x hx5 hf5 hs5
                have HB5 := hide (HB4.out.trans (HPS4.out.2.1.apart hf5 (by omega)))
                have HTM : Hid (p + ([] : List Itm).length + (Bn ++ W).length ≤ tot (T.take (k + 1))) := by
                  have h9 := HU.out
                  have h8 := HP.out
                  show _ ≤ _
                  simp only [List.length_append, List.length_nil]
                  omega
                clear hx5 hf5 hs5 e0
                rcases hcase with ⟨rfl, rfl⟩ | ⟨hb0, rfl⟩
                · go_wp2_with fail
                  go_meet
                  case rel => exact ⟨rfl, Bn ++ W, [], p, F4, G5, HTM.out, HPS5.out, HB5.out⟩
                · rw [decide_eq_false hb0]
                  go_wp2_with fail
                  go_meet
                  case rel => exact ⟨rfl, Bn ++ W, [], p, F4, G5, HTM.out, HPS5.out, HB5.out⟩
              · go_wp2_with fail
                go_meet
                case rel =>
                  refine ⟨rfl, W, Bn, p, F, G, ?_, HS2.out, HB2.out⟩
                  have h9 := HU.out
                  have h8 := HP.out
                  show _ ≤ _
                  omega
      case rest =>
        obtain ⟨rfl, W, Bn, p, F, G, HTM, HPS, HBZ⟩ := hcut
        have hz9 := HBZ.out.size
        have hWm : p + Bn.length + W.length ≤ 1048576 := by have h1 := HTM.out; have h2 := HTO.out; omega
        go_wp2_with fail
        go_at_call 15
        refine (oldest_any _ w.heap.size w.heap.size F W Bn p HPS.out.1 (by omega) (by omega)).mono ?_
        rintro e w4 ⟨rfl, hb4⟩
        have HPS4 := hide (HPS.out.below hb4)
        have HB4 := hide (HBZ.out.trans (hb4.mono hz9))
        clear hb4
        obtain ⟨q1, hq1⟩ : ∃ q1, q1 = (old (Bn ++ W)).1 := ⟨_, rfl⟩
        obtain ⟨q2, hq2⟩ : ∃ q2, q2 = (old (Bn ++ W)).2 := ⟨_, rfl⟩
        rw [← hq1, ← hq2]
        have HQ12 := hide (And.intro hq1 hq2)
        clear hq1 hq2
        go_wp2_with fail
        refine (xoldest_any _ w.heap.size xb G W Bn p HPS4.out.2.1 (by omega)).mono ?_
        rintro e w5 ⟨rfl, hb5⟩
        rw [← HQ12.out.1, ← HQ12.out.2]
        have HPS5 := hide (HPS4.out.below hb5)
        have HB5 := hide (HB4.out.trans (hb5.mono HB4.out.size))
        clear hb5
        obtain ⟨n, hn⟩ : ∃ n, n = W.length := ⟨_, rfl⟩
        have HN := hide hn
        obtain ⟨xA, xc, yA, yc, c0, c1, c2, f0, f1, f2, hlt5, hbb, HX, HG⟩ := HPS5.out.2.1.open
        rw [← hn] at c0
        have hnm : n ≤ 1048576 := by omega
        clear hn f0 f1 f2 c1
        have hb1 : (q2 != q2) = false := by simp
        have hb2 : (q1 != q1) = false := by simp
        go_wp2_with fail
        go_region_held3 (fun w' : World => w'.cell? ⟨xb, 0, none⟩ = some (.slice xA n xc) ∧ w'.cell? ⟨xb, 2, none⟩ = some (.int .i64 p)) (first
            | exact ⟨c0, c2⟩
            | exact ⟨d0, d2⟩
            | exact ⟨e0, e2⟩) (first
          | (go_at_call 23; refine (qwait_any _ w.heap.size w.heap.size F W Bn p (HPS5.out.drewN 1).1 (by omega)).mono ?_; rintro e w6 ⟨u6, rfl, ho6, hb6⟩; rw [← HN.out] at ho6; have hs6 := ho6.sl; obtain ⟨zA, zc, rfl, hzc⟩ := ho6.sl.form; have ps6 := (HPS5.out.drewN 1).below hb6; have d0 : w6.cell? ⟨xb, 0, none⟩ = some (.slice xA n xc) := (hb6.cell (p := ⟨xb, 0, none⟩) (by exact hlt5)).trans c0; have d2 : w6.cell? ⟨xb, 2, none⟩ = some (.int .i64 p) := (hb6.cell (p := ⟨xb, 2, none⟩) (by exact hlt5)).trans c2; have hx6 := ((HX.out.2.1.drewN 1).below hb6).sl; rw [← HN.out] at hx6)
          | (go_at_call 18; refine (same17 _ _ W W n n w6.heap.size w6 hs6 hx6 HN.out.symm HN.out.symm (Nat.le_refl _) (by omega)).mono ?_; rintro e w7 ⟨rfl, hb7⟩; rw [decide_eq_true (rfl : W = W)]; have ps7 := ps6.below hb7; have hlt6 : xb < w6.heap.size := Nat.lt_of_lt_of_le hlt5 hb6.size; have e0 : w7.cell? ⟨xb, 0, none⟩ = some (.slice xA n xc) := (hb7.cell (p := ⟨xb, 0, none⟩) hlt6).trans d0; have e2 : w7.cell? ⟨xb, 2, none⟩ = some (.int .i64 p) := (hb7.cell (p := ⟨xb, 2, none⟩) hlt6).trans d2)
          | (go_at_call 14; refine (qlen_any _ _ _ _ _ _ _ ps7.1).mono ?_; rw [← HN.out]; rintro e w8 ⟨rfl, rfl⟩)
          | (go_at_call 13; refine (qpassed_any _ _ _ _ _ _ _ ps7.1).mono ?_; rintro e w9 ⟨rfl, rfl⟩))
        have HPS7 := hide ps7
        have HB7 : Hid (Below w.heap.size w w7) := ((HB5.out.drewN 1).trans (hb6.mono HB5.out.size)).trans (hb7.mono (Nat.le_trans HB5.out.size hb6.size))
        clear hb6 hb7 ps6 ps7 ho6 hs6 hx6 d0 d2 e0 e2
        go_wp2_with fail
        go_roundw
        case rel => exact ⟨k + 1, W, Bn, p, F, G, by omega, by simp, HTM.out, HPS7.out, HB7.out⟩
        case measure => simp [intOf]; omega
    · go_wp2_with fail
      refine (awake17 _).mono ?_
      rintro e w7 ⟨rfl, hb⟩
      have HB7 := hide hb
      clear hb
      go_wp2_with fail
      go_ret
      exact ⟨rfl, HB.out.trans (HB7.out.mono HB.out.size)⟩

end Go.Proofs.Ytlaijnabdlidiaa
