/- timers.Heap: Set: the walk. -/
import Derived.Test.YtogelnljkdcajaaHp5
namespace Go.Proofs.Ytogelnljkdcajaa
open Go.RowKit Go.Sort
set_option linter.unusedVariables false
set_option linter.unusedSimpArgs false

def SetPost (w : World) (base hb tb mb : Nat) (lv : Value) (L D : List TV) (e : Ending) (w' : World) : Prop :=
  (¬ AllRight D ∧ e = .returned (.int .i64 160) ∧ Below w.heap.size w w') ∨
  (AllRight D ∧ e = .returned (.int .i64 0) ∧ ∃ lv' L', HpS w' base hb tb mb lv' L' ∧ (L'.map TV.d).Perm ((D.map TV.d).foldl setD (L.map TV.d)) ∧ Fr (HBk tb mb lv) w w' ∧ NewB w lv lv')
structure SetI (w wz : World) (base hb tb mb : Nat) (lv : Value) (L D : List TV) (k : Nat) (lv1 : Value) (L1 : List TV) : Prop where
  hp : HpS wz base hb tb mb lv1 L1
  pm : (L1.map TV.d).Perm (((D.take k).map TV.d).foldl setD (L.map TV.d))
  fr : Fr (HBk tb mb lv) w wz
  nb : NewB w lv lv1
  ln : L1.length ≤ L.length + k

theorem HpS.lts {w : World} {base hb tb mb : Nat} {lv : Value} {L : List TV} (h : HpS w base hb tb mb lv L) : ∀ j, HBk tb mb lv j → j < w.heap.size := by
  obtain ⟨M, ht, hg⟩ := h.hp.st
  intro j hj
  rcases hj with h9 | h9 | h9
  · rw [h9]; exact ht.blk.lt
  · rw [h9]; exact ht.map.lt
  · exact (ht.own.lt j h9).2
theorem fr_nb {w w1 w2 : World} {tb mb : Nat} {lv lv1 : Value} (h : Fr (HBk tb mb lv) w w1) (k : Fr (HBk tb mb lv1) w1 w2) (hn : NewB w lv lv1) : Fr (HBk tb mb lv) w w2 :=
  h.trans k (fun j hj h9 => by
    rcases h9 with h9 | h9 | h9
    · exact .inl h9
    · exact .inr (.inl h9)
    · rcases hn j h9 with h8 | h8
      · exact .inr (.inr h8)
      · omega)
theorem nb_nb {w w1 : World} {lv lv1 lv2 : Value} (h : NewB w lv lv1) (k : NewB w1 lv1 lv2) (hz : w.heap.size ≤ w1.heap.size) : NewB w lv lv2 := fun g hg => by
  rcases k g hg with h9 | h9
  · exact h g h9
  · exact .inr (Nat.le_trans hz h9)

set_option maxRecDepth 100000 in
set_option maxHeartbeats 4000000 in
theorem hset_any (w : World) (base hb tb mb : Nat) (lv : Value) (L : List TV) (A : Option Addr) (c n B : Nat) (D : List TV) (h : HpS w base hb tb mb lv L) (hD : D.length = n) (hB : B ≤ w.heap.size)
    (hIn : ∀ X, Fr (HBk tb mb lv) w X → Sl X B (.slice A n c) 5 n (tms D) ∧ ∀ x ∈ D, KeyIn X B x) (hbase : base ≤ w.heap.size) (hL : L.length + n < 100000) :
    Calls Try.prog 9 #[.pointer (some ⟨hb, 0, none⟩), .slice A n c] w (SetPost w base hb tb mb lv L D) := by
  have HC := hide (contains_any (.slice A n c) D n B w (hIn w (Fr.refl _ w)).1 hD hB (hIn w (Fr.refl _ w)).2 (by omega))
  have HH := hide h
  have HIN := hide hIn
  have HD := hide hD
  clear h hIn hD
  by_cases hr : AllRight D
  · have HR := hide hr
    rw [decide_eq_true hr] at HC
    clear hr
    go_enter Try.func9, Try.ntmps9
    go_wp2_with fail
    refine HC.out.mono ?_
    rintro e w1 ⟨rfl, hb1⟩
    have HB1 := hide hb1
    clear hb1 HC
    go_wp2_with fail
    go_loopw [11] (fun i wz => ∃ (k : Nat) (lv1 : Value) (L1 : List TV), i = .int .i64 k ∧ k ≤ n ∧ Hid (SetI w wz base hb tb mb lv L D k lv1 L1)) (fun i _ => n - (intOf i).toNat)
    case atStart => exact ⟨0, lv, L, rfl, Nat.zero_le _, ⟨HH.out.below HB1.out, by simp, Fr.of_below HB1.out, fun g hg => .inl hg, by omega⟩⟩
    case round =>
      obtain ⟨k, lv1, L1, rfl, hk, HI⟩ := hrel
      by_cases hlt : k < n
      · have hkD : k < D.length := by rw [HD.out]; exact hlt
        obtain ⟨hsl, hky⟩ := HIN.out wr HI.out.fr
        obtain ⟨ad, rfl, hab, a0, a1, a2, a3, a4⟩ := tm_at hsl hlt HD.out
        have hzr := HI.out.fr.size
        have hab2 : (ad.add (k * 5)).block < wr.heap.size := by omega
        have hxm := List.getElem_mem hkD
        have HTK : Hid (∀ l, ((D.take (k + 1)).map TV.d).foldl setD l = setD (((D.take k).map TV.d).foldl setD l) D[k].d) := fun l => by
          rw [List.take_succ_eq_append_getElem hkD, List.map_append, List.foldl_append]
          rfl
        obtain ⟨x, hx⟩ : ∃ x, x = D[k] := ⟨_, rfl⟩
        rw [← hx] at hxm HTK a0 a1 a2 a3 a4
        clear hx
        have HXM := hide hxm
        obtain ⟨xA, xc, hkx, hxc⟩ := (hky x hxm).sl.form
        have HKX := hide (hky x hxm)
        clear hxm hky hsl
        obtain ⟨xa, xk, xb, xf, xt, xw⟩ := x
        simp only at hkx hxc a0 a1 a2 a3 a4
        subst hkx
        go_wp2_with fail
        have HP2 : Hid (Blk (wr.alloc (.cells #[.int .i64 xa, .slice xA xb.length xc, .int .i64 xf, .int .i64 xt, .int .i64 xw] tmT)) wr.heap.size tmT #[.int .i64 xa, .slice xA xb.length xc, .int .i64 xf, .int .i64 xt, .int .i64 xw]) := Blk.new wr _ _
        have HB2 : Hid (Below wr.heap.size wr (wr.alloc (.cells #[.int .i64 xa, .slice xA xb.length xc, .int .i64 xf, .int .i64 xt, .int .i64 xw] tmT))) := (Below.refl _ _).alloc (Nat.le_refl _) _
        have HH2 := hide (HI.out.hp.below HB2.out)
        have HF2 : Hid (Fr (HBk tb mb lv) w (wr.alloc (.cells #[.int .i64 xa, .slice xA xb.length xc, .int .i64 xf, .int .i64 xt, .int .i64 xw] tmT))) := HI.out.fr.alloc _
        change Calls _ _ _ (wr.alloc (.cells #[.int .i64 xa, .slice xA xb.length xc, .int .i64 xf, .int .i64 xt, .int .i64 xw] tmT)) _
        have HPL : Hid (¬ HBk tb mb lv1 wr.heap.size) := fun h9 => by have := HI.out.hp.lts _ h9; omega
        generalize wr.alloc (.cells #[.int .i64 xa, .slice xA xb.length xc, .int .i64 xf, .int .i64 xt, .int .i64 xw] tmT) = w2 at *
        obtain ⟨pb, hpb⟩ : ∃ pb, pb = wr.heap.size := ⟨_, rfl⟩
        rw [← hpb] at HP2 HPL ⊢
        have hB2 : B ≤ w2.heap.size := Nat.le_trans hB HF2.out.size
        refine (cancel_any w2 base hb tb mb lv1 L1 xA xc B xb xf xt xw HH2.out ((HIN.out w2 HF2.out).2 _ HXM.out).sl hB2).mono ?_
        rintro e w3 hcan
        obtain ⟨u3, lv3, L3, rfl, hh3, hp3, hn3, hf3, hnb3, hl3⟩ := hcan.both HH2.out
        have HH3 := hide hh3
        have HPM3 := hide hp3
        have HN3 := hide hn3
        have HF3 := hide (fr_nb HF2.out hf3 HI.out.nb)
        have HNB3 := hide (nb_nb HI.out.nb hnb3 HF2.out.size)
        have HL3 := hide hl3
        have HP3 := hide (hf3.blk HP2.out HPL.out)
        have HLP : Hid (lv3.ownBlock ≠ some pb) := by
          intro h9
          rcases hnb3 pb h9 with h8 | h8
          · exact HPL.out (.inr (.inr h8))
          · have := HP2.out.lt; omega
        clear hcan hh3 hp3 hn3 hf3 hnb3 hl3 a0 a1 a2 a3 a4 hab hab2 hzr hpb
        obtain ⟨c0, t0, t1, hlt3, htl3, _⟩ := HH3.out.open
        have p0 : w3.cell? ⟨pb, 0, none⟩ = some (.int .i64 xa) := HP3.out.cell 0
        have p1 : w3.cell? ⟨pb, 1, none⟩ = some (.slice xA xb.length xc) := HP3.out.cell 1
        have p2 : w3.cell? ⟨pb, 2, none⟩ = some (.int .i64 xf) := HP3.out.cell 2
        have p3 : w3.cell? ⟨pb, 3, none⟩ = some (.int .i64 xt) := HP3.out.cell 3
        have p4 : w3.cell? ⟨pb, 4, none⟩ = some (.int .i64 xw) := HP3.out.cell 4
        have hpl3 := HP3.out.lt
        have HNH : Hid (¬ HBk tb mb lv3 hb ∧ ¬ HBk tb mb lv3 pb) := by
          obtain ⟨M, ht, hg⟩ := HH3.out.hp.st
          refine ⟨?_, ?_⟩
          · rintro (h9 | h9 | h9)
            · exact HH3.out.blk.apart ht.blk (by decide) h9
            · exact ht.map.ne_blk HH3.out.blk h9.symm
            · exact ht.own.ne HH3.out.blk (by decide) h9
          · rintro (h9 | h9 | h9)
            · exact HP3.out.apart ht.blk (by decide) h9
            · exact ht.map.ne_blk HP3.out h9.symm
            · exact HLP.out h9
        have HCS : Hid (∀ X : World, Fr (HBk tb mb lv3) w3 X → X.cell? ⟨hb, 0, none⟩ = some (.pointer (some ⟨tb, 0, none⟩)) ∧ X.cell? ⟨pb, 0, none⟩ = some (.int .i64 xa) ∧ X.cell? ⟨pb, 1, none⟩ = some (.slice xA xb.length xc) ∧ X.cell? ⟨pb, 2, none⟩ = some (.int .i64 xf) ∧ X.cell? ⟨pb, 3, none⟩ = some (.int .i64 xt) ∧ X.cell? ⟨pb, 4, none⟩ = some (.int .i64 xw)) := by
          intro X hX
          have k1 := hX.blk HH3.out.blk HNH.out.1
          have k2 := hX.blk HP3.out HNH.out.2
          exact ⟨k1.cell 0, k2.cell 0, k2.cell 1, k2.cell 2, k2.cell 3, k2.cell 4⟩
        have HCP : Hid (∀ X : World, Below w3.heap.size w3 X → Calls Try.prog 29 #[.agg #[.int .i64 xa, .slice xA xb.length xc, .int .i64 xf, .int .i64 xt, .int .i64 xw]] X fun e w' => ∃ uA uc, e = .returned (.agg #[.int .i64 xa, .slice uA xb.length uc, .int .i64 xf, .int .i64 xt, .int .i64 xw]) ∧ Below w3.heap.size w3 w' ∧ KeyO w' base ⟨xa, .slice uA xb.length uc, xb, xf, xt, xw⟩) := by
          intro X hX
          have hky := (HIN.out w3 HF3.out).2 _ HXM.out
          have hz := HF3.out.size
          have hz2 := hX.size
          refine (copied_any xa xf xt xw (.slice xA xb.length xc) xb xb.length B X (hky.sl.below (hX.mono (by omega))) rfl (Nat.le_trans (HR.out _ HXM.out).2.2.2 (by decide)) (by omega)).mono ?_
          rintro e w' ⟨u, rfl, ho, hb⟩
          obtain ⟨uA, uc, rfl, _⟩ := ho.sl.form
          exact ⟨uA, uc, rfl, hX.trans (hb.mono hz2), ho.lower (by omega), hky.b8, (HR.out _ HXM.out).2.2.2⟩
        have HPU : Hid (∀ (X : World) (uA : Option Addr) (uc : Nat), Below w3.heap.size w3 X → KeyO X base ⟨xa, .slice uA xb.length uc, xb, xf, xt, xw⟩ → Calls Try.prog 28 #[.iface 65 (.pointer (some ⟨tb, 0, none⟩)), .iface tmT (.agg #[.int .i64 xa, .slice uA xb.length uc, .int .i64 xf, .int .i64 xt, .int .i64 xw])] X fun e w' => e = .returned (.tuple #[]) ∧ Fr (HBk tb mb lv3) w3 w' ∧ ∃ lv8 L8, SetI w w' base hb tb mb lv L D (k + 1) lv8 L8) := by
          intro X uA uc hX hk
          have hz := HF3.out.size
          have hz2 := hX.size
          have h1 := HL3.out
          have h2 := HI.out.ln
          refine (hpush_any X base tb mb lv3 L3 ⟨xa, .slice uA xb.length uc, xb, xf, xt, xw⟩ (HH3.out.hp.below hX) hk (by omega) (by omega) HN3.out).mono ?_
          rintro e w' ⟨rfl, lv8, L8, hp8, hpm8, hf8, hnb8⟩
          have hf9 : Fr (HBk tb mb lv3) w3 w' := (Fr.of_below hX : Fr (HBk tb mb lv3) w3 X).trans hf8 (fun _ _ h => h)
          refine ⟨rfl, hf9, lv8, L8, ⟨⟨hf9.blk HH3.out.blk HNH.out.1, hp8, HH3.out.bh⟩, ?_, fr_nb HF3.out hf9 HNB3.out, nb_nb HNB3.out (fun g hg => (hnb8 g hg).imp id (fun h => Nat.le_trans hz2 h)) hz, ?_⟩⟩
          · rw [HTK.out]
            refine (hpm8.map TV.d).trans ?_
            rw [List.map_append]
            unfold setD
            exact ((HPM3.out.trans (HI.out.pm.filter _)).append_right _)
          · have h3 := hpm8.length_eq
            simp at h3
            omega
        clear t0 t1
        go_wp2_with fail
        go_region_held3 (fun w' : World => w'.cell? ⟨hb, 0, none⟩ = some (.pointer (some ⟨tb, 0, none⟩)) ∧ w'.cell? ⟨pb, 0, none⟩ = some (.int .i64 xa) ∧ w'.cell? ⟨pb, 1, none⟩ = some (.slice xA xb.length xc) ∧ w'.cell? ⟨pb, 2, none⟩ = some (.int .i64 xf) ∧ w'.cell? ⟨pb, 3, none⟩ = some (.int .i64 xt) ∧ w'.cell? ⟨pb, 4, none⟩ = some (.int .i64 xw)) (first | exact HCS.out _ ((Fr.refl _ w3).drewN 1) | exact HCS.out _ (Fr.of_below hk7) | exact HCS.out _ hf8) (first
          | (go_at_call 29; refine (HCP.out _ ((Below.refl _ _).drewN 1)).mono ?_; rintro e w7 ⟨uA, uc, rfl, hk7, hx7⟩)
          | (go_at_call 28; refine (HPU.out _ uA uc hk7 hx7).mono ?_; rintro e w8 ⟨rfl, hf8, lv8, L8, hi8⟩))
        all_goals
          have HI8 := hide hi8
          clear hi8 hf8 hk7 hx7 c0 p0 p1 p2 p3 p4
          go_wp2_with fail
          go_roundw
          case rel => exact ⟨k + 1, lv8, L8, by simp, by omega, HI8⟩
          case measure => simp [intOf]; omega
      · have HE : Hid (D.take k = D) := List.take_of_length_le (by rw [HD.out]; omega)
        go_wp2_with fail
        go_ret
        refine .inr ⟨HR.out, rfl, lv1, L1, HI.out.hp, ?_, HI.out.fr, HI.out.nb⟩
        have h9 := HI.out.pm
        rw [HE.out] at h9
        exact h9
  · have HR := hide hr
    rw [decide_eq_false hr] at HC
    clear hr
    go_enter Try.func9, Try.ntmps9
    go_wp2_with fail
    refine HC.out.mono ?_
    rintro e w1 ⟨rfl, hb1⟩
    have HB1 := hide hb1
    clear hb1 HC
    go_wp2_with fail
    go_ret
    exact .inl ⟨HR.out, rfl, HB1.out⟩

end Go.Proofs.Ytogelnljkdcajaa
