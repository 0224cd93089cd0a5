/- JournalBreaks: the walk. -/
import Derived.Test.YtlllocfcljgacaaTurn
namespace Go.Proofs.Ytlllocfcljgacaa
open Go.RowKit
set_option linter.unusedVariables false
set_option linter.unusedSimpArgs false

theorem endsL_app : ∀ (L M : List (List Int)) (o : Nat), endsL o (L ++ M) = endsL o L ++ endsL (o + (framesL L).length) M
  | [], M, o => by simp [endsL, framesL]
  | q :: L, M, o => by
    rw [List.cons_append, endsL, endsL, endsL_app L, framesL_cons, List.length_append, List.cons_append]
    congr 3
    omega
section
variable {w w' : World} {base b : Nat} {c sf : Int} {L M : List (List Int)}
theorem TP.new (w : World) (c : Int) : TP (w.alloc (.cells #[.int .i64 c, .slice none 0 0, .slice none 0 0, .int .i64 0] jT)) w.heap.size w.heap.size c [] 0 := ⟨_, _, JR.new w w.heap.size c, Nat.le_refl _⟩
theorem tp_append_fits (h : TP w base b c L sf) {B : Nat} {v : Value} {Q : List Rec} (ho : OwnRecs w B v Q) (he : Q.map (·.2) = M) (hn : M.length ≤ 65536) (hl : ∀ r ∈ M, r.length ≤ 1048576 ∧ Bytes8 r) (hX : (framesL L).length ≤ 1073741824)
    (hfull : ((framesL (L ++ M)).length : Int) ≤ c) (hc2 : c ≤ 1073741824) (hbase : base ≤ w.heap.size) :
    Calls Try.prog 10 #[.pointer (some ⟨b, 0, none⟩), v] w fun e w' => e = .returned (.int .i64 0) ∧ TP w' base b c (L ++ M) sf ∧ Below base w w' := by
  obtain ⟨bv, ev, h, hb⟩ := h
  subst he
  have hge := framesL_ge L
  rw [framesL_app, List.length_append] at hfull
  refine (append_own_fits h ho (R := Q) rfl (by simpa using hn) (fun r hr => hl r.2 (List.mem_map_of_mem hr)) hX (by rw [frames_L]; omega) hc2 hb hbase (by rw [endsL_len]; omega)).mono ?_
  rintro e w' ⟨bv', ev', rfl, hj, hbel⟩
  rw [frames_L, endsB_eq, ← framesL_app] at hj
  refine ⟨rfl, ⟨bv', ev', ?_, hb⟩, hbel⟩
  rw [endsL_app, Nat.zero_add]
  exact hj
end
theorem Recs.take {w : World} {B n c k : Nat} {A : Option Addr} {R : List Rec} (h : Recs w B (.slice A n c) R) (hn : R.length = n) (hk : k ≤ n) : Recs w B (.slice A k c) (R.take k) := by
  have h1 := h.1
  rw [hn] at h1
  have h2 := h1.take hk
  rw [Nat.mul_one] at h2
  have h3 : (R.take k).length = k := by rw [List.length_take]; omega
  have h4 : (recs R).take k = recs (R.take k) := by
    have h5 : ∀ R : List Rec, recs R = R.map (·.1) := by
      intro R
      induction R with
      | nil => rfl
      | cons r R ih =>
        rw [recs] at ih
        rw [recs, List.flatMap_cons, ih]
        rfl
    rw [h5, h5, List.map_take]
  refine ⟨by rw [h3, ← h4]; exact h2, fun r hr => h.2 r (List.mem_of_mem_take hr)⟩
theorem totB_count (R : List Rec) : 9 * R.length ≤ totB R := by
  induction R with
  | nil => simp
  | cons r R ih =>
    have : totB (r :: R) = r.2.length + 9 + totB R := by simp [totB]
    rw [List.length_cons]
    omega

theorem Own.frozen {w : World} {base e sz n c : Nat} {ad : Addr} {xs : List Value} (h : Own w base e sz (.slice (some ad) n c) n xs) (k : Nat) : w.frozen? (ad.add k) = false := by
  rcases h.2 with ⟨h1, _⟩ | ⟨g, cap, cur, h1, h2, h3, _⟩
  · cases h1
  · injection h1 with h1 _ h8
    injection h1 with h1
    subst h1
    have hadd : (⟨g, 0, none⟩ : Addr).add k = ⟨g, k, none⟩ := by
      unfold Addr.add
      split <;> simp_all
    rw [hadd]
    exact Blk.frozen h3 k

theorem Recs.mono {w : World} {B B' : Nat} {v : Value} {R : List Rec} (h : Recs w B v R) (hB : B ≤ B') : Recs w B' v R := ⟨h.1.mono hB, fun r hr => (h.2 r hr).mono hB⟩

set_option maxRecDepth 100000 in
set_option maxHeartbeats 8000000 in
theorem breaks_any (v : Value) (R : List Rec) (turn cut : Int) (B : Nat) (w : World) (hs : Recs w B v R) (ht : totB R ≤ 100000000) (h8 : ∀ r ∈ R, Bytes8 r.2) (hB : B ≤ w.heap.size) :
    Calls Try.prog 4 #[v, .int .i64 turn, .int .i64 cut] w fun e w' => e = .returned (.bool true) ∧ Below w.heap.size w w' := by
  obtain ⟨A, c, rfl, hc⟩ := hs.1.form
  have hcnt := totB_count R
  have HL : Hid (∀ r ∈ R, r.2.length ≤ 100000000) := fun r hr => by have := totB_mem hr; omega
  have H8 := hide h8
  have HS := hide hs
  clear hs h8
  go_enter Try.func4, Try.ntmps4
  go_wp2_with fail
  go_loopw [7, 21] (fun s i wr => ∃ (k : Nat), k ≤ R.length ∧ i = .int .i64 k ∧ s = .int .i64 (totB (R.take k) : Nat) ∧ wr = w) (fun _ i _ => R.length - (intOf i).toNat)
  case atStart => exact ⟨0, Nat.zero_le _, rfl, rfl, rfl⟩
  case round =>
    obtain ⟨k, hk, rfl, rfl, rfl⟩ := hrel
    by_cases hlt : k < R.length
    · obtain ⟨ad, rfl, hab, h0⟩ := rec_at HS.out.1 hlt rfl
      have HRK := hide (HS.out.2 R[k] (List.getElem_mem hlt))
      have hlk := HL.out R[k] (List.getElem_mem hlt)
      have HT := hide (totB_snoc R k hlt)
      have hle := totB_le R k
      generalize R[k] = r at h0 HRK hlk HT
      obtain ⟨rv, rd⟩ := r
      simp only at h0 HRK hlk HT
      obtain ⟨rA, rc, rfl, hrc⟩ := HRK.out.form
      go_wp2_with fail
      go_roundw
      case rel => exact ⟨k + 1, by omega, by simp, by rw [HT.out]; first | omega | (simp <;> omega), trivial⟩
      case measure => simp [intOf]; omega
    · have hkn : k = R.length := by omega
      subst hkn
      rw [List.take_of_length_le (by omega)]
      go_wp2_with fail
      refine (jnew_ok _ 1048576 (by omega) (by omega)).mono ?_
      rintro e w1 ⟨rfl, rfl⟩
      have HJ := hide (TP.new wr 1048576)
      have HB1 := hide ((Below.refl wr.heap.size wr).alloc (Nat.le_refl _) (.cells #[.int .i64 1048576, .slice none 0 0, .slice none 0 0, .int .i64 0] jT))
      generalize hW1 : wr.alloc (.cells #[.int .i64 1048576, .slice none 0 0, .slice none 0 0, .int .i64 0] jT) = w1 at *
      have hz1 : w1.heap.size = wr.heap.size + 1 := by rw [← hW1]; simp
      clear hW1
      by_cases hbig : 262144 < totB R
      · go_wp2_with fail
        refine (awake18 _).mono ?_
        rintro e w2 ⟨rfl, hb⟩
        go_wp2_with fail
        go_ret
        exact ⟨rfl, HB1.out.trans (hb.mono HB1.out.size)⟩
      · generalize hrn : R.length = rn at *
        have HRN := hide hrn
        clear hrn
        by_cases hR0 : rn = 0
        · go_wp2_with fail
          refine (awake18 _).mono ?_
          rintro e w2 ⟨rfl, hb⟩
          go_wp2_with fail
          go_ret
          exact ⟨rfl, HB1.out.trans (hb.mono HB1.out.size)⟩
        · have HS1 := hide (HS.out.below (HB1.out.mono hB))
          have HM8 : Hid (∀ r ∈ R.map (·.2), r.length ≤ 1048576 ∧ Bytes8 r) := by
            intro r hr
            obtain ⟨q, hq, rfl⟩ := List.mem_map.1 hr
            exact ⟨by have := totB_mem hq; omega, H8.out q hq⟩
          have hfl := frames_le R (fun r hr => by have := totB_mem hr; omega)
          rw [frames_L] at hfl
          have hR1 : ((rn : Int) == 0) = false := by simpa using hR0
          have hbig2 : (totB R : Int) ≤ 262144 := by omega
          go_wp2_with fail
          refine (copied_any _ R B w1 HS1.out (by rw [HRN.out]; omega) (fun r hr => by have := totB_mem hr; omega) (by omega)).mono ?_
          rintro e w2 ⟨u2, Q2, rfl, ho, he, hb⟩
          have HO2 := hide ho
          have HE2 := hide he
          have HB2 := hide (HB1.out.trans (hb.mono (by omega)))
          have HJ2 := hide (HJ.out.below hb)
          have hz2 := hb.size
          clear ho he hb
          obtain ⟨uA, uc, rfl, huc⟩ := HO2.out.1.sl.form
          go_wp2_with fail
          refine (tp_append_fits HJ2.out HO2.out HE2.out (by rw [List.length_map, HRN.out]; omega) HM8.out (by simp [framesL]) (by rw [List.nil_append]; omega) (by omega) (by omega)).mono ?_
          rintro e w3 ⟨rfl, hj, hb⟩
          rw [List.nil_append] at hj
          have HJ3 := hide hj
          have HB3 := hide (HB2.out.trans hb)
          have hz3 := hb.size
          clear hj hb HJ2 HO2 HE2
          obtain ⟨L, hL⟩ : ∃ L, L = R.map (·.2) := ⟨_, rfl⟩
          have hLl : L.length = rn := by rw [hL, List.length_map]; exact HRN.out
          rw [← hL] at HJ3 HM8 hfl
          have HLM := hide hL
          have HLL := hide hLl
          clear hL hLl
          have HFit : Hid (Fit L) := fun r hr => (HM8.out r hr).1
          have H8L : Hid (∀ r ∈ L, Bytes8 r) := fun r hr => (HM8.out r hr).2
          obtain ⟨I, r, hIr⟩ : ∃ I r, L = I ++ [r] := by
            have hne : L ≠ [] := by intro h9; have := HLL.out; rw [h9] at this; simp at this; omega
            exact ⟨L.dropLast, L.getLast hne, (List.dropLast_concat_getLast hne).symm⟩
          have HIR := hide hIr
          have hIl : I.length + 1 = rn := by rw [← HLL.out, hIr]; simp
          clear hIr
          obtain ⟨il, hil⟩ : ∃ il, il = I.length := ⟨_, rfl⟩
          rw [← hil] at hIl
          subst hIl
          have HIL := hide hil
          clear hil hR0
          obtain ⟨p, hp⟩ : ∃ p, (framesL L).length = p + 1 := by
            have h9 := framesL_ge L
            have := HLL.out
            exact ⟨(framesL L).length - 1, by omega⟩
          rw [hp] at hfl
          have HP := hide hp
          clear hp
          go_wp2_with fail
          refine (tp_bytes HJ3.out (by rw [HP.out]; omega)).mono ?_
          rintro e w4 ⟨u4, rfl, ho, hb⟩
          rw [HP.out] at ho
          have HO4 := hide ho
          have HB4 := hide (HB3.out.trans (hb.mono HB3.out.size))
          have HJ4 := hide (HJ3.out.below hb)
          have HB34 := hide hb
          have hz4 := hb.size
          obtain ⟨ad0, tc, rfl, htc⟩ := ho.sl.form
          clear ho hb
          obtain ⟨ad, rfl, hab, h0⟩ := by_at HO4.out.sl (show p < p + 1 by omega) HP.out
          have HX8 := hide (framesL_bytes8 H8L.out)
          have hx8 := HX8.out ((framesL L)[p]'(by rw [HP.out]; omega)) (List.getElem_mem _)
          have HXP : Hid ((framesL L)[p]? = some ((framesL L)[p]'(by rw [HP.out]; omega))) := List.getElem?_eq_getElem _
          generalize (framesL L)[p]'(by rw [HP.out]; omega) = x at h0 hx8 HXP
          obtain ⟨t1, ht1⟩ : ∃ t1, turn.tmod 255 = t1 := ⟨_, rfl⟩
          have hb1 : -255 < t1 ∧ t1 < 255 := by
            have h1 := Int.lt_tmod_of_pos turn (show (0 : Int) < 255 by omega)
            have h2 := Int.tmod_lt_of_pos turn (show (0 : Int) < 255 by omega)
            omega
          obtain ⟨t2, ht2⟩ : ∃ t2, (t1 + 255).tmod 255 = t2 := ⟨_, rfl⟩
          have hb2 : 0 ≤ t2 ∧ t2 < 255 := by
            have h1 := Int.tmod_nonneg 255 (show 0 ≤ t1 + 255 by omega)
            have h2 := Int.tmod_lt_of_pos (t1 + 255) (show (0 : Int) < 255 by omega)
            omega
          have HY := hide (u8_turn x (1 + t2) hx8 (by omega))
          obtain ⟨y, hy⟩ : ∃ y, bits .xor .u8 x (1 + t2) = y := ⟨_, rfl⟩
          rw [hy] at HY
          have hfz : w4.frozen? (ad.add p) = false := HO4.out.frozen p
          have HHY := hide hy
          go_wp2_with fail
          have hX'l : ((framesL L).set p y).length = p + 1 := by rw [List.length_set]; exact HP.out
          have HO5 : Hid (Own (w4.setCell (ad.add p) (.int .u8 y)) w3.heap.size bT 1 (.slice (some ad) (p + 1) tc) (p + 1) (bys ((framesL L).set p y))) := by
            rw [bys_set]
            exact HO4.out.set (by omega) (.int .u8 y)
          have hadl := (HO4.out.lt ad.block rfl).1
          have HB35 : Hid (Below w3.heap.size w3 (w4.setCell (ad.add p) (.int .u8 y))) := by
            have h9 : Fr nob w3 (w4.setCell (ad.add p) (.int .u8 y)) := Fr.put (Fr.of_below HB34.out) (.inr (by rw [add_blk]; exact hadl)) _
            exact h9.below0
          generalize hW5 : w4.setCell (ad.add p) (.int .u8 y) = w5 at *
          clear hW5 h0 hfz HB34 HO4 HJ4
          have HJ5 := hide (HJ3.out.below HB35.out)
          have HB5 := hide (HB3.out.trans (HB35.out.mono HB3.out.size))
          have hz5 := HB35.out.size
          have HSC : Hid (scanB ((framesL L).set p y) = I) := by
            have hne : (framesL (I ++ [r]))[(framesL (I ++ [r])).length - 1]? ≠ some y := by
              rw [← HIR.out, HP.out, Nat.add_sub_cancel, HXP.out]
              intro h9
              injection h9 with h9
              exact HY.out.2 h9.symm
            have h9 := scan_turn I r y (by rw [← HIR.out]; exact HFit.out) (H8L.out r (by rw [HIR.out]; simp)) HY.out.1 hne
            rw [← HIR.out, HP.out, Nat.add_sub_cancel] at h9
            exact h9
          have HX'8 : Hid (Bytes8 ((framesL L).set p y)) := by
            intro c hc
            rcases List.mem_or_eq_of_mem_set hc with h9 | h9
            · exact HX8.out c h9
            · rw [h9]; exact HY.out.1
          have hIf : (framesL I).length ≤ p + 1 := by
            have h9 := HP.out
            rw [HIR.out, framesL_app, List.length_append] at h9
            omega
          have hsl5 : Sl w5 w5.heap.size (.slice (some ad) (p + 1) tc) 1 ((framesL L).set p y).length (bys ((framesL L).set p y)) := by rw [hX'l]; exact HO5.out.sl
          generalize (framesL L).set p y = X' at *
          refine (load_ok w5 1048576 _ X' _ hsl5 HX'8.out (by omega) (by omega) (by rw [hX'l]; omega) (Nat.le_refl _)).mono ?_
          rintro e w6 ⟨g, rfl, hk, hb⟩
          rw [HSC.out, hX'l]
          rw [HSC.out] at hk
          have HK6 := hide hk
          have HJ6 := hide (HJ5.out.below hb)
          have HB6 := hide (HB5.out.trans (hb.mono HB5.out.size))
          have hz6 := hb.size
          clear hk hb hsl5
          go_wp2_with fail
          refine (tp_records w6 _ g _ _ I HK6.out (fun r hr => HFit.out r (by rw [HIR.out]; exact List.mem_append_left _ hr)) (fun r hr => H8L.out r (by rw [HIR.out]; exact List.mem_append_left _ hr)) (by omega)).mono ?_
          rintro e w7 ⟨u7, Q7, rfl, ho, he, hb⟩
          have HO7 := hide ho
          have HE7 := hide he
          have HJ7 := hide (HJ6.out.below hb)
          have HB7 := hide (HB6.out.trans (hb.mono HB6.out.size))
          have hz7 := hb.size
          clear ho he hb
          obtain ⟨qA, qc, rfl, hqc⟩ := HO7.out.1.sl.form
          go_wp2_with fail
          refine (tp_records w7 _ _ _ _ L HJ7.out HFit.out H8L.out (by rw [HP.out]; omega)).mono ?_
          rintro e w8 ⟨u8, Q8, rfl, ho, he, hb⟩
          have HO8 := hide ho
          have HE8 := hide he
          have HJ8 := hide (HJ7.out.below hb)
          have HB8 := hide (HB7.out.trans (hb.mono HB7.out.size))
          have hz8 := hb.size
          have HR7 := hide ((HO7.out.read.below hb).mono hz8)
          have hq8 : Q8.length = il + 1 := by
            have h9 := congrArg List.length he
            rw [List.length_map, HLL.out] at h9
            exact h9
          clear ho hb
          obtain ⟨sA, sc, hu8, hsc⟩ := HO8.out.1.sl.form
          rw [hq8] at hu8 hsc
          subst hu8
          go_wp2_with fail
          refine (same18 _ _ Q7 (Q8.take il) w8.heap.size w8 HR7.out (HO8.out.read.take hq8 (by omega)) (fun r hr => H8L.out _ (by rw [HIR.out]; refine List.mem_append_left _ ?_; rw [← HE7.out]; exact List.mem_map_of_mem hr))
            (fun r hr => H8L.out _ (by rw [← HE8.out]; exact List.mem_map_of_mem (List.mem_of_mem_take hr)))).mono ?_
          rintro e w9 ⟨rfl, j, rfl⟩
          have hsame : decide (Q7.map (·.2) = (Q8.take il).map (·.2)) = true := by
            rw [decide_eq_true_iff, List.map_take, HE7.out, HE8.out, HIR.out, HIL.out, List.take_left]
          rw [hsame]
          clear hsame
          have HJ9 := hide (HJ8.out.below ((Below.refl w8.heap.size w8).drewN j))
          have HB9 := hide (HB8.out.drewN j)
          generalize w8.drewN j = w9 at *
          by_cases hcut : cut < 0 ∨ (p : Int) + 1 < cut
          · have hc2 : ∀ P : Prop, P → P := fun _ h => h
            by_cases hneg : cut < 0
            · go_wp2_with fail
              refine (awake18 _).mono ?_
              rintro e w10 ⟨rfl, hb⟩
              go_wp2_with fail
              go_ret
              exact ⟨rfl, HB9.out.trans (hb.mono HB9.out.size)⟩
            · have hgt : (p : Int) + 1 < cut := by omega
              go_wp2_with fail
              refine (awake18 _).mono ?_
              rintro e w10 ⟨rfl, hb⟩
              go_wp2_with fail
              go_ret
              exact ⟨rfl, HB9.out.trans (hb.mono HB9.out.size)⟩
          · obtain ⟨k, rfl⟩ := Int.eq_ofNat_of_zero_le (show 0 ≤ cut by omega)
            have hkp : k ≤ p + 1 := by omega
            have hk2 : ((p : Int) + 1 < (k : Int)) = False := by simp; omega
            go_wp2_with fail
            refine (tp_bytes HJ9.out (by rw [HP.out]; omega)).mono ?_
            rintro e w10 ⟨u10, rfl, ho, hb⟩
            rw [HP.out] at ho
            have HJ10 := hide (HJ9.out.below hb)
            have HB10 := hide (HB9.out.trans (hb.mono HB9.out.size))
            have hz10 := hb.size
            obtain ⟨bA, bc, rfl, hbc⟩ := ho.sl.form
            have hX2 : ((framesL L).take k).length = k := by rw [List.length_take, HP.out]; omega
            have hsl : Sl w10 w10.heap.size (.slice bA k bc) 1 ((framesL L).take k).length (bys ((framesL L).take k)) := by
              have h9 := ho.sl.take hkp
              rw [Nat.mul_one, bys_map, ← List.map_take, ← bys_map] at h9
              rw [hX2]
              exact h9
            have HSL := hide hsl
            clear ho hb hsl
            obtain ⟨t, ht1', ht2', ht3', ht4'⟩ := scan_take L k HFit.out H8L.out
            have HLT := hide ht2'
            clear ht2'
            have hLl := HLL.out
            rw [hLl] at ht1' ht4'
            have HT4 := hide ht4'
            clear ht4' hLl
            go_wp2_with fail
            refine (load_ok w10 1048576 _ _ _ HSL.out (fun c hc => HX8.out c (List.mem_of_mem_take hc)) (by omega) (by omega) (by rw [hX2]; omega) (Nat.le_refl _)).mono ?_
            rintro e w11 ⟨g2, rfl, hk, hb⟩
            rw [HLT.out, hX2]
            rw [HLT.out] at hk
            have HK11 := hide hk
            have HJ11 := hide (HJ10.out.below hb)
            have HB11 := hide (HB10.out.trans (hb.mono HB10.out.size))
            have hz11 := hb.size
            clear hk hb
            obtain ⟨f, hf⟩ : ∃ f, f = (framesL (L.take t)).length := ⟨_, rfl⟩
            rw [← hf] at ht3' ⊢
            have HFF := hide hf
            clear hf
            have hLt : (L.take t).length = t := by rw [List.length_take, HLL.out]; omega
            go_wp2_with fail
            refine (tp_len HK11.out).mono ?_
            rintro e w12 ⟨rfl, rfl⟩
            rw [hLt]
            go_wp2_with fail
            refine (tp_records w11 _ g2 _ _ _ HK11.out (fun r hr => HFit.out r (List.mem_of_mem_take hr)) (fun r hr => H8L.out r (List.mem_of_mem_take hr)) (by rw [← HFF.out]; omega)).mono ?_
            rintro e w12 ⟨u12, Q12, rfl, ho, he, hb⟩
            have HO12 := hide ho
            have HE12 := hide he
            have HJ12 := hide (HJ11.out.below hb)
            have HK12 := hide (HK11.out.below hb)
            have HB12 := hide (HB11.out.trans (hb.mono HB11.out.size))
            have hz12 := hb.size
            clear ho he hb
            obtain ⟨xA, xc, rfl, hxc⟩ := HO12.out.1.sl.form
            go_wp2_with fail
            refine (tp_records w12 _ _ _ _ L HJ12.out HFit.out H8L.out (by rw [HP.out]; omega)).mono ?_
            rintro e w13 ⟨u13, Q13, rfl, ho, he, hb⟩
            have HO13 := hide ho
            have HE13 := hide he
            have HK13 := hide (HK12.out.below hb)
            have HB13 := hide (HB12.out.trans (hb.mono HB12.out.size))
            have hz13 := hb.size
            have HR12 := hide ((HO12.out.read.below hb).mono hz13)
            have hq13 : Q13.length = il + 1 := by
              have h9 := congrArg List.length he
              rw [List.length_map, HLL.out] at h9
              exact h9
            clear ho he hb
            obtain ⟨zA, zc, hu13, hzc⟩ := HO13.out.1.sl.form
            rw [hq13] at hu13 hzc
            subst hu13
            go_wp2_with fail
            refine (tp_len HK13.out).mono ?_
            rintro e w14 ⟨rfl, rfl⟩
            rw [hLt]
            go_wp2_with fail
            refine (same18 _ _ Q12 (Q13.take t) w13.heap.size w13 HR12.out (HO13.out.read.take hq13 ht1') (fun r hr => H8L.out _ (by refine List.mem_of_mem_take (i := t) ?_; rw [← HE12.out]; exact List.mem_map_of_mem hr))
              (fun r hr => H8L.out _ (by rw [← HE13.out]; exact List.mem_map_of_mem (List.mem_of_mem_take hr)))).mono ?_
            rintro e w14 ⟨rfl, j2, rfl⟩
            have hsame : decide (Q12.map (·.2) = (Q13.take t).map (·.2)) = true := by
              rw [decide_eq_true_iff, List.map_take, HE12.out, HE13.out]
            rw [hsame]
            clear hsame
            have HK14 := hide (HK13.out.below ((Below.refl w13.heap.size w13).drewN j2))
            have HB14 := hide (HB13.out.drewN j2)
            generalize w13.drewN j2 = w14 at *
            go_wp2_with fail
            refine (tp_bytes HK14.out (by rw [← HFF.out]; omega)).mono ?_
            rintro e w15 ⟨u15, rfl, ho, hb⟩
            rw [← HFF.out] at ho
            obtain ⟨mA, mc, rfl, hmc⟩ := ho.sl.form
            have HK15 := hide (HK14.out.below hb)
            have HB15 := hide (HB14.out.trans (hb.mono HB14.out.size))
            have hz15 := hb.size
            clear ho hb
            have hsum : ((f : Int) + ((k : Int) - f) == k) = true := by
              rw [beq_iff_eq]
              omega
            have hboth : (((t : Int) == (il : Int) + 1) == ((k : Int) == (p : Int) + 1)) = true := by
              by_cases h9 : t = il + 1
              · have h10 : k = p + 1 := by
                  have h11 := HFF.out
                  rw [h9, List.take_of_length_le (by rw [HLL.out]; omega), HP.out] at h11
                  omega
                subst h9 h10
                simp
              · have h10 : k ≠ p + 1 := by
                  rintro rfl
                  have h11 := HT4.out (by omega)
                  have h12 := framesL_take L (t + 1)
                  rw [HP.out] at h12
                  omega
                rw [beq_iff_eq]
                have h11 : ((t : Int) == (il : Int) + 1) = false := by rw [beq_eq_false_iff_ne]; omega
                have h12 : ((k : Int) == (p : Int) + 1) = false := by rw [beq_eq_false_iff_ne]; omega
                rw [h11, h12]
            go_wp2_with fail
            refine (tp_len HK15.out).mono ?_
            rintro e w16 ⟨rfl, rfl⟩
            rw [hLt]
            go_wp2_with fail
            refine (awake18 _).mono ?_
            rintro e w16 ⟨rfl, hb⟩
            go_wp2_with fail
            go_ret
            exact ⟨rfl, HB15.out.trans (hb.mono HB15.out.size)⟩

end Go.Proofs.Ytlllocfcljgacaa
