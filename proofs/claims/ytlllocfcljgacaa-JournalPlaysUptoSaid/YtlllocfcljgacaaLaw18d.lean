/- JournalKeeps: the walk. -/
import Derived.Test.YtlllocfcljgacaaBin
namespace Go.Proofs.Ytlllocfcljgacaa
open Go.RowKit
set_option linter.unusedVariables false
set_option linter.unusedSimpArgs false

theorem totB_app (A C : List Rec) : totB (A ++ C) = totB A + totB C := by simp [totB]
theorem recs_ok {w : World} {B : Nat} (R : List Rec) (h : ∀ r ∈ R, Sl w B r.1 1 r.2.length (bys r.2)) : ∀ u ∈ recs R, u.oneCell' = true := by
  intro u hu
  simp only [recs, List.mem_flatMap, List.mem_singleton] at hu
  obtain ⟨r, hr, rfl⟩ := hu
  obtain ⟨A, c, h1, _⟩ := (h r hr).form
  rw [h1]
  rfl
theorem OwnRecs.fr {w w' : World} {base : Nat} {v : Value} {R : List Rec} {S : Nat → Prop} (h : OwnRecs w base v R) (hf : Fr S w w') (hs : ∀ g, base ≤ g → ¬ S g) : OwnRecs w' base v R :=
  ⟨h.1.fr hf (fun g hg => hs g (h.1.lt g hg).1), fun r hr => (h.2 r hr).fr hf (fun g hg => hs g ((h.2 r hr).lt g hg).1)⟩
theorem rec_last {w : World} {B n c : Nat} {A : Option Addr} {Q : List Rec} {P : List (List Int)} {M : List Int} (h : Sl w B (.slice A (n + 1) c) 1 (n + 1) (recs Q)) (hq : Q.length = n + 1) (he : Q.map (·.2) = P ++ [M]) (hP : P.length = n)
    (hr : ∀ r ∈ Q, Sl w B r.1 1 r.2.length (bys r.2)) : ∃ ad rA rc, A = some ad ∧ (ad.add n).block < B ∧ w.cell? (ad.add n) = some (.slice rA M.length rc) ∧ Sl w B (.slice rA M.length rc) 1 M.length (bys M) := by
  obtain ⟨ad, rfl, h1, h2⟩ := rec_at h (Nat.lt_succ_self n) hq
  have h3 := hr Q[n] (List.getElem_mem (by omega))
  have h4 : Q[n].2 = M := by
    have h9 : (Q.map (·.2))[n]? = some M := by rw [he, ← hP, List.getElem?_append_right (Nat.le_refl _)]; simp
    rw [List.getElem?_map, List.getElem?_eq_getElem (by omega)] at h9
    simpa using h9
  obtain ⟨rA, rc, h5, _⟩ := h3.form
  rw [h5, h4] at h3
  rw [h5, h4] at h2
  exact ⟨ad, rA, rc, rfl, h1, h2, h3⟩
/-- what a crash leaves of records L of which the first s are safe -/
theorem crash_spec (L : List (List Int)) (s n : Nat) (keep : Int) (hf : Fit L) (h8 : ∀ r ∈ L, Bytes8 r) (hs : s ≤ L.length) (hn : (n : Int) = (framesL (L.take s)).length + min (max keep 0) ((framesL L).length - (framesL (L.take s)).length)) :
    ∃ t, scanB ((framesL L).take n) = L.take t ∧ s ≤ t ∧ t ≤ L.length ∧ (keep ≤ 0 → t = s) ∧ ((framesL L).length ≤ keep → t = L.length) := by
  obtain ⟨t, h1, h2, h3, h4⟩ := scan_take L n hf h8
  have hle := framesL_take L s
  refine ⟨t, h2, ?_, h1, ?_, ?_⟩
  · by_cases h : s ≤ t
    · exact h
    · have h5 := h4 (by omega)
      have h6 := framesL_mono L (t + 1) s (by omega)
      omega
  · intro hk
    by_cases h : t = s
    · exact h
    · by_cases h9 : t < s
      · have h5 := h4 (by omega)
        have h6 := framesL_mono L (t + 1) s (by omega)
        omega
      · have h6 := framesL_lt L s t (by omega) h1
        omega
  · intro hk
    by_cases h : t = L.length
    · exact h
    · have h5 := h4 (by omega)
      have h6 := framesL_take L (t + 1)
      omega

set_option maxRecDepth 100000 in
set_option maxHeartbeats 8000000 in
theorem keeps_any (va vb vm : Value) (C D : List Rec) (keep : Int) (M : List Int) (B : Nat) (w : World) (hc : Recs w B va C) (hd : Recs w B vb D) (hm : Sl w B vm 1 M.length (bys M)) (ht : totB C + totB D + M.length ≤ 100000000)
    (h8c : ∀ r ∈ C, Bytes8 r.2) (h8d : ∀ r ∈ D, Bytes8 r.2) (h8m : Bytes8 M) (hB : B ≤ w.heap.size) :
    Calls Try.prog 6 #[.agg #[va, vb, .int .i64 keep, vm]] w fun e w' => e = .returned (.bool true) ∧ Below w.heap.size w w' := by
  obtain ⟨aA, ac, rfl, hac⟩ := hc.1.form
  obtain ⟨dA, dc, rfl, hdc⟩ := hd.1.form
  obtain ⟨mA, mc, rfl, hmc⟩ := hm.form
  have hcc := totB_count C
  have hcd := totB_count D
  have HC := hide hc
  have HD := hide hd
  have HM := hide hm
  have H8C := hide h8c
  have H8D := hide h8d
  have H8M := hide h8m
  clear hc hd hm h8c h8d h8m
  go_enter Try.func6, Try.ntmps6
  go_wp2_with fail
  go_quiet (fail)
  have HB1 : Hid (Below w.heap.size w ((w.alloc (.cells #[.slice aA C.length ac, .slice dA D.length dc, .int .i64 keep, .slice mA M.length mc] 45)).drewN nq)) := ((Below.refl w.heap.size w).alloc (Nat.le_refl _) _).drewN nq
  have hz1 : w.heap.size + 1 = ((w.alloc (.cells #[.slice aA C.length ac, .slice dA D.length dc, .int .i64 keep, .slice mA M.length mc] 45)).drewN nq).heap.size := by simp
  generalize ((w.alloc (.cells #[.slice aA C.length ac, .slice dA D.length dc, .int .i64 keep, .slice mA M.length mc] 45)).drewN nq) = w1 at *
  obtain ⟨cn, hcn⟩ : ∃ cn, cn = C.length := ⟨_, rfl⟩
  obtain ⟨dn, hdn⟩ : ∃ dn, dn = D.length := ⟨_, rfl⟩
  obtain ⟨mn, hmn⟩ : ∃ mn, mn = M.length := ⟨_, rfl⟩
  rw [← hcn] at hac hcc HC ⊢
  rw [← hdn] at hdc hcd HD ⊢
  rw [← hmn] at hmc ht HM ⊢
  have HCN := hide hcn
  have HDN := hide hdn
  have HMN := hide hmn
  clear hcn hdn hmn
  have HC1 := hide (HC.out.below (HB1.out.mono hB))
  have HD1 := hide (HD.out.below (HB1.out.mono hB))
  have HC1s := HC1.out.1
  have HD1s := HD1.out.1
  rw [← HCN.out] at HC1s
  rw [← HDN.out] at HD1s
  have HCS := hide HC1s
  have HDS := hide HD1s
  clear HC1s HD1s
  have HN0 : Hid (Own (w1.alloc (.cells #[] sT)) w1.heap.size sT 1 (.slice (some ⟨w1.heap.size, 0, none⟩) 0 0) 0 (recs [])) := Own.new (n := 0) (sz := 1) (e := sT) w1 w1.heap.size #[] (Nat.le_refl _) (by omega) rfl
  go_wp2_with (at_builtin; refine wpList_app rfl tyRec (.tmp 23) (.tmp 24) rfl w1.heap.size (n := 0) (m := cn) (B := B) (xs := recs []) (news := recs C) rfl rfl HN0.out (HCS.out.alloc (by omega) _) (recs_ok C (fun r hr => HC.out.2 r hr)) (by omega) (by omega) (by simp <;> omega) ?_)
  intro v2 w2 ha
  have hf2 := ha.fr.below (B := w1.heap.size) (by simp) (fun g hg h9 => by have := (HN0.out.lt g h9).1; omega)
  have HO2 : Hid (Own w2 w1.heap.size sT 1 v2 cn (recs C)) := by simpa [Hid, recs] using ha.own
  have HB2 := hide (((Below.refl w1.heap.size w1).alloc (Nat.le_refl _) (.cells #[] sT)).trans hf2)
  clear ha hf2
  go_wp2_with (at_builtin; refine wpList_app rfl tyRec (.tmp 25) (.tmp 26) rfl w1.heap.size (n := cn) (m := dn) (B := B) (xs := recs C) (news := recs D) rfl rfl HO2.out (HDS.out.below (HB2.out.mono (by omega))) (recs_ok D (fun r hr => HD.out.2 r hr)) (by omega) (by omega) (by have := HB2.out.size; omega) ?_)
  intro v3 w3 ha
  have HB3 := hide (HB2.out.trans (ha.fr.below (B := w1.heap.size) (by have := HB2.out.size; omega) (fun g hg h9 => by have := (HO2.out.lt g h9).1; omega)))
  obtain ⟨tA, tc, rfl, htc⟩ := ha.own.sl.form
  have HT : Hid (Recs w3 w3.heap.size (.slice tA (cn + dn) tc) (C ++ D)) := by
    refine ⟨?_, fun r hr => ?_⟩
    · rw [List.length_append, ← HCN.out, ← HDN.out, recs_app]
      exact ha.own.sl
    · have hsz := HB3.out.size
      rcases List.mem_append.1 hr with h9 | h9
      · exact ((HC1.out.2 r h9).below (HB3.out.mono (by omega))).mono (by omega)
      · exact ((HD1.out.2 r h9).below (HB3.out.mono (by omega))).mono (by omega)
  clear ha
  have hz3 := HB3.out.size
  obtain ⟨T, hT⟩ : ∃ T, T = totB C + totB D := ⟨_, rfl⟩
  have HTT : Hid (totB (C ++ D) = T) := by rw [Hid, totB_app, hT]
  rw [← hT] at ht
  have hcT : 9 * cn ≤ T := by omega
  have hdT : 9 * dn ≤ T := by omega
  have hcdT : 9 * (cn + dn) ≤ T := by omega
  have HTC := hide hT
  clear hT hcc hcd
  have HSL := HT.out.1
  rw [List.length_append, ← HCN.out, ← HDN.out] at HSL
  have HTS := hide HSL
  clear HSL
  go_wp2_with fail
  go_loopw [7, 29] (fun s i wr => ∃ (k : Nat), k ≤ cn + dn ∧ i = .int .i64 k ∧ s = .int .i64 (totB ((C ++ D).take k) : Nat) ∧ wr = w3) (fun _ i _ => cn + dn - (intOf i).toNat)
  case atStart => exact ⟨0, Nat.zero_le _, rfl, rfl, rfl⟩
  case round =>
    obtain ⟨k, hk, rfl, rfl, rfl⟩ := hrel
    by_cases hlt : k < cn + dn
    · have hlen : (C ++ D).length = cn + dn := by rw [List.length_append, ← HCN.out, ← HDN.out]
      obtain ⟨ad, rfl, hab, h0⟩ := rec_at HTS.out hlt hlen
      have hkk : k < (C ++ D).length := by rw [hlen]; exact hlt
      have HRK := hide (HT.out.2 (C ++ D)[k] (List.getElem_mem hkk))
      have hlk := totB_mem (List.getElem_mem hkk)
      have HTK := hide (totB_snoc (C ++ D) k hkk)
      have hle := totB_le (C ++ D) k
      rw [HTT.out] at hle hlk
      generalize (C ++ D)[k] = r at h0 HRK hlk HTK
      obtain ⟨rv, rd⟩ := r
      simp only at h0 HRK hlk HTK
      obtain ⟨rA, rc, rfl, hrc⟩ := HRK.out.form
      clear hlen hkk
      go_wp2_with fail
      go_roundw
      case rel => exact ⟨k + 1, by omega, by simp, by rw [HTK.out]; first | omega | (simp <;> omega), trivial⟩
      case measure => simp [intOf]; omega
    · have hkn : k = cn + dn := by omega
      subst hkn
      rw [List.take_of_length_le (by rw [List.length_append, ← HCN.out, ← HDN.out]; exact Nat.le_refl _), HTT.out]
      go_wp2_with fail
      refine (jnew_ok _ 1048576 (by omega) (by omega)).mono ?_
      rintro e w4 ⟨rfl, rfl⟩
      have HJ := hide (TP.new wr 1048576)
      have HB4 := hide ((HB1.out.trans (HB3.out.mono (by omega))).alloc (by omega) (.cells #[.int .i64 1048576, .slice none 0 0, .slice none 0 0, .int .i64 0] jT))
      have HX4 := hide ((Below.refl wr.heap.size wr).alloc (Nat.le_refl _) (.cells #[.int .i64 1048576, .slice none 0 0, .slice none 0 0, .int .i64 0] jT))
      generalize hW4 : wr.alloc (.cells #[.int .i64 1048576, .slice none 0 0, .slice none 0 0, .int .i64 0] jT) = w4 at *
      have hz4 : w4.heap.size = wr.heap.size + 1 := by rw [← hW4]; simp
      clear hW4
      by_cases hbig : 262144 < T + mn
      · go_wp2_with fail
        refine (awake18 _).mono ?_
        rintro e w5 ⟨rfl, hb⟩
        go_wp2_with fail
        go_ret
        exact ⟨rfl, HB4.out.trans (hb.mono HB4.out.size)⟩
      · have HX := hide (HB3.out.trans (HX4.out.mono (by omega)))
        have hx4 := HX.out.size
        have HM4 := hide (HM.out.below ((HB1.out.trans (HX.out.mono (by omega))).mono hB))
        have HLC : Hid (∀ r ∈ C, r.2.length ≤ 262144) := fun r hr => by have := totB_mem hr; have := HTC.out; omega
        have HLD : Hid (∀ r ∈ D, r.2.length ≤ 262144) := fun r hr => by have := totB_mem hr; have := HTC.out; omega
        obtain ⟨LC, hLC⟩ : ∃ LC, LC = C.map (·.2) := ⟨_, rfl⟩
        obtain ⟨LD, hLD⟩ : ∃ LD, LD = D.map (·.2) := ⟨_, rfl⟩
        have hLCl : LC.length = cn := by rw [hLC, List.length_map, ← HCN.out]
        have hLDl : LD.length = dn := by rw [hLD, List.length_map, ← HDN.out]
        have H8LC : Hid (∀ r ∈ LC, r.length ≤ 1048576 ∧ Bytes8 r) := by
          intro r hr
          rw [hLC] at hr
          obtain ⟨q, hq, rfl⟩ := List.mem_map.1 hr
          exact ⟨by have := HLC.out q hq; omega, H8C.out q hq⟩
        have H8LD : Hid (∀ r ∈ LD, r.length ≤ 1048576 ∧ Bytes8 r) := by
          intro r hr
          rw [hLD] at hr
          obtain ⟨q, hq, rfl⟩ := List.mem_map.1 hr
          exact ⟨by have := HLD.out q hq; omega, H8D.out q hq⟩
        have hfl : (framesL (LC ++ LD)).length ≤ T := by
          have h1 := frames_le C (fun r hr => by have := HLC.out r hr; omega)
          have h2 := frames_le D (fun r hr => by have := HLD.out r hr; omega)
          rw [frames_L, ← hLC] at h1
          rw [frames_L, ← hLD] at h2
          rw [framesL_app, List.length_append]
          have := HTC.out
          omega
        have hfc : (framesL LC).length ≤ (framesL (LC ++ LD)).length := by rw [framesL_app, List.length_append]; omega
        have HFC := hide (And.intro hLCl hLDl)
        have HEC := hide (And.intro hLC hLD)
        have HFL := hide (And.intro hfl hfc)
        clear hLC hLD hLCl hLDl hfl hfc
        go_wp2_with fail
        refine (copied_any _ C B w4 (HC1.out.below (HX.out.mono (by omega))) (by rw [← HCN.out]; omega) (fun r hr => by have := HLC.out r hr; omega) (by omega)).mono ?_
        rintro e w5 ⟨u5, Q5, rfl, ho, he, hb⟩
        rw [← HEC.out.1] at he
        have HO5 := hide ho
        have HE5 := hide he
        have HX5 := hide (HX.out.trans (hb.mono (by omega)))
        have HJ5 := hide (HJ.out.below hb)
        have hz5 := hb.size
        clear ho he hb
        obtain ⟨uA, uc, rfl, huc⟩ := HO5.out.1.sl.form
        go_wp2_with fail
        refine (tp_append_fits HJ5.out HO5.out HE5.out (by rw [HFC.out.1]; omega) H8LC.out (by simp [framesL]) (by rw [List.nil_append]; have := HFL.out; omega) (by omega) (by omega)).mono ?_
        rintro e w6 ⟨rfl, hj, hb⟩
        rw [List.nil_append] at hj
        have HJ6 := hide hj
        have HX6 := hide (HX5.out.trans (hb.mono (by omega)))
        have hz6 := hb.size
        clear hj hb HJ5 HO5 HE5
        go_wp2_with fail
        refine (tp_sync w6 _ _ _ _ LC HJ6.out (by omega)).mono ?_
        rintro e w7 ⟨rfl, hj, hb⟩
        rw [HFC.out.1]
        have HJ7 := hide hj
        have HX7 := hide (HX6.out.trans (hb.mono (by omega)))
        have hz7 := hb.size
        clear hj hb HJ6
        go_wp2_with fail
        refine (copied_any _ D B w7 (HD1.out.below (HX7.out.mono (by omega))) (by rw [← HDN.out]; omega) (fun r hr => by have := HLD.out r hr; omega) (by omega)).mono ?_
        rintro e w8 ⟨u8, Q8, rfl, ho, he, hb⟩
        rw [← HEC.out.2] at he
        have HO8 := hide ho
        have HE8 := hide he
        have HX8 := hide (HX7.out.trans (hb.mono (by omega)))
        have HJ8 := hide (HJ7.out.below hb)
        have hz8 := hb.size
        clear ho he hb
        obtain ⟨vA, vc, rfl, hvc⟩ := HO8.out.1.sl.form
        go_wp2_with fail
        refine (tp_append_fits HJ8.out HO8.out HE8.out (by rw [HFC.out.2]; omega) H8LD.out (by have := HFL.out; omega) (by have := HFL.out; omega) (by omega) (by omega)).mono ?_
        rintro e w9 ⟨rfl, hj, hb⟩
        obtain ⟨L, hL⟩ : ∃ L, L = LC ++ LD := ⟨_, rfl⟩
        have H8L : Hid (∀ r ∈ L, Bytes8 r) := by
          intro r hr
          rw [hL] at hr
          rcases List.mem_append.1 hr with h9 | h9
          · exact (H8LC.out r h9).2
          · exact (H8LD.out r h9).2
        have HFit : Hid (Fit L) := by
          intro r hr
          rw [hL] at hr
          rcases List.mem_append.1 hr with h9 | h9
          · exact (H8LC.out r h9).1
          · exact (H8LD.out r h9).1
        have HLL : Hid (L.length = cn + dn) := by rw [Hid, hL, List.length_append, HFC.out.1, HFC.out.2]
        have HLT : Hid (L.take cn = LC) := by rw [Hid, hL, ← HFC.out.1, List.take_left]
        have HFL2 : Hid ((framesL L).length ≤ T) := by rw [Hid, hL]; exact HFL.out.1
        rw [← hL] at hj
        have HJ9 := hide hj
        have HX9 := hide (HX8.out.trans (hb.mono (by omega)))
        have hz9 := hb.size
        clear hj hb HJ8 HO8 HE8 hL
        go_wp2_with fail
        refine (tp_records w9 _ _ _ _ L HJ9.out HFit.out H8L.out (by have := HFL2.out; omega)).mono ?_
        rintro e w10 ⟨u10, Q10, rfl, ho, he, hb⟩
        have HO10 := hide ho
        have HE10 := hide he
        have HX10 := hide (HX9.out.trans (hb.mono (by omega)))
        have HJ10 := hide (HJ9.out.below hb)
        have hz10 := hb.size
        have hq10 : Q10.length = cn + dn := by
          have h9 := congrArg List.length he
          rw [List.length_map, HLL.out] at h9
          exact h9
        clear ho he hb
        obtain ⟨xA, xc, hxu, hxc⟩ := HO10.out.1.sl.form
        rw [hq10] at hxu hxc
        subst hxu
        have hsfle : (framesL LC).length ≤ (framesL L).length := by
          have h9 := framesL_take L cn
          rw [HLT.out] at h9
          exact h9
        obtain ⟨n, hn⟩ : ∃ n : Nat, (n : Int) = (framesL LC).length + min (max keep 0) ((framesL L).length - (framesL LC).length) := ⟨((framesL LC).length + min (max keep 0) ((framesL L).length - (framesL LC).length) : Int).toNat, by omega⟩
        obtain ⟨t, ht1, ht2, ht3, ht4, ht5⟩ := crash_spec L cn n keep HFit.out H8L.out (by rw [HLL.out]; omega) (by rw [HLT.out]; exact hn)
        rw [HLL.out] at ht3 ht5
        have HSF := hide hsfle
        have HNN := hide hn
        have HT1 := hide ht1
        have HT4 := hide ht4
        have HT5 : Hid ((T : Int) ≤ keep → t = cn + dn) := fun h => ht5 (by have := HFL2.out; omega)
        clear hn ht1 hsfle ht4 ht5
        go_wp2_with fail
        refine (tp_crash w10 _ _ n _ _ keep L HJ10.out H8L.out (by have := HFL2.out; omega) (by have := HSF.out; omega) HNN.out (by omega)).mono ?_
        rintro e w11 ⟨rfl, hj, hb⟩
        rw [HT1.out] at hj ⊢
        have HJ11 := hide hj
        have hbel := hb.below (B := wr.heap.size) (by omega) (fun k hk h => by omega)
        have HX11 := hide (HX10.out.trans (hbel.mono (by omega)))
        have hz11 := hb.size
        have HR10 := hide (HO10.out.fr hb (fun g hg hg' => by have := HJ9.out.lt; omega)).read
        clear hbel
        clear hj hb HJ10
        have hLt : (L.take t).length = t := by rw [List.length_take, HLL.out]; omega
        have hftl : (framesL (L.take t)).length ≤ T := by have := framesL_take L t; have := HFL2.out; omega
        have HFTL := hide hftl
        clear hftl
        go_wp2_with fail
        refine (tp_records w11 _ _ _ _ (L.take t) HJ11.out (fun r hr => HFit.out r (List.mem_of_mem_take hr)) (fun r hr => H8L.out r (List.mem_of_mem_take hr)) (by have := HFTL.out; omega)).mono ?_
        rintro e w12 ⟨u12, Q12, rfl, ho, he, hb⟩
        have HO12 := hide ho
        have HE12 := hide he
        have HX12 := hide (HX11.out.trans (hb.mono (by omega)))
        have HJ12 := hide (HJ11.out.below hb)
        have hz12 := hb.size
        have HR10b := hide ((HR10.out.below hb).mono hz12)
        have hq12 : Q12.length = t := by
          have h9 := congrArg List.length he
          rw [List.length_map, hLt] at h9
          exact h9
        clear ho he hb
        obtain ⟨yA, yc, hyu, hyc⟩ := HO12.out.1.sl.form
        rw [hq12] at hyu hyc
        subst hyu
        go_wp2_with fail
        refine (same18 _ _ Q12 (Q10.take t) w12.heap.size w12 HO12.out.read (HR10b.out.take hq10 ht3) (fun r hr => H8L.out _ (by refine List.mem_of_mem_take (i := t) ?_; rw [← HE12.out]; exact List.mem_map_of_mem hr))
          (fun r hr => H8L.out _ (by rw [← HE10.out]; exact List.mem_map_of_mem (List.mem_of_mem_take hr)))).mono ?_
        rintro e w13 ⟨rfl, j, rfl⟩
        have hsame : decide (Q12.map (·.2) = (Q10.take t).map (·.2)) = true := by
          rw [decide_eq_true_iff, List.map_take, HE10.out, HE12.out]
        rw [hsame]
        clear hsame
        have HJ13 := hide (HJ12.out.below ((Below.refl w12.heap.size w12).drewN j))
        have HX13 := hide (HX12.out.drewN j)
        have hz13 : w12.heap.size ≤ (w12.drewN j).heap.size := by simp
        generalize w12.drewN j = w13 at *
        go_wp2_with fail
        have hTP : TP w13 wr.heap.size wr.heap.size 1048576 (L.take t) (framesL ((L.take t).take t)).length := by
          rw [show (L.take t).take t = L.take t by rw [List.take_take, Nat.min_self]]
          exact HJ13.out
        refine (tp_safe w13 _ _ t _ (L.take t) hTP (by omega) (by have := HFTL.out; omega)).mono ?_
        clear hTP
        rintro e w14 ⟨rfl, j2, rfl⟩
        have HJ14 := hide (HJ13.out.below ((Below.refl w13.heap.size w13).drewN j2))
        have HX14 := hide (HX13.out.drewN j2)
        have hz14 : w13.heap.size ≤ (w13.drewN j2).heap.size := by simp
        generalize w13.drewN j2 = w14 at *
        have HM14 := hide (HM.out.below ((HB1.out.trans (HX14.out.mono (by omega))).mono hB))
        have hcases : (keep ≤ 0 ∧ t = cn ∧ (T : Int) ≤ keep ∧ dn = 0) ∨ (keep ≤ 0 ∧ t = cn ∧ ¬ (T : Int) ≤ keep) ∨ (¬ keep ≤ 0 ∧ (T : Int) ≤ keep ∧ t = cn + dn) ∨ (¬ keep ≤ 0 ∧ ¬ (T : Int) ≤ keep) := by
          have h1 := HT4.out
          have h2 := HT5.out
          by_cases a : keep ≤ 0 <;> by_cases b : (T : Int) ≤ keep
          · have := h1 a
            have := h2 b
            exact .inl ⟨a, by omega, b, by omega⟩
          · exact .inr (.inl ⟨a, h1 a, b⟩)
          · exact .inr (.inr (.inl ⟨a, b, h2 b⟩))
          · exact .inr (.inr (.inr ⟨a, b⟩))
        obtain ⟨P, hP⟩ : ∃ P, P = L.take t := ⟨_, rfl⟩
        rw [← hP] at HJ14 hLt HFTL
        have HPl := hide hLt
        have H8P : Hid (∀ r ∈ P ++ [M], r.length ≤ 1048576 ∧ Bytes8 r) := by
          intro r hr
          rcases List.mem_append.1 hr with h9 | h9
          · rw [hP] at h9
            exact ⟨HFit.out r (List.mem_of_mem_take h9), H8L.out r (List.mem_of_mem_take h9)⟩
          · rw [List.mem_singleton] at h9
            subst h9
            exact ⟨by rw [← HMN.out]; omega, H8M.out⟩
        have HFPM : Hid ((framesL (P ++ [M])).length ≤ 262151) := by
          have h9 := frameB_len M (by rw [← HMN.out]; omega)
          rw [← HMN.out] at h9
          have := HFTL.out
          rw [Hid, framesL_app, framesL_one, List.length_append]
          omega
        clear hP hLt
        have hgo := HMN.out
        clear HT4 HT5
        rcases hcases with ⟨a1, rfl, a2, rfl⟩ | ⟨a1, rfl, a2⟩ | ⟨a1, a2, rfl⟩ | ⟨a1, a2⟩
        all_goals
          have HGO := hide hgo
          clear hgo
          go_wp2_with fail
          refine (copy8_any _ M mn B w14 HM14.out HGO.out.symm (by omega)).mono ?_
          rintro e w15 ⟨u15, rfl, ho, hb⟩
          have HO15 := hide ho
          have HX15 := hide (HX14.out.trans (hb.mono (by omega)))
          have HJ15 := hide (HJ14.out.below hb)
          have HM15 := hide (HM14.out.below (hb.mono (by omega)))
          have hz15 := hb.size
          clear ho hb
          obtain ⟨oA, oc, rfl, hoc⟩ := HO15.out.sl.form
          go_wp2_with fail
          refine (tp_append_fits (HJ15.out.alloc _) (one_rec HO15.out HGO.out.symm (by omega)) (M := [M]) rfl (by simp) (fun r hr => H8P.out r (List.mem_append_right _ hr)) (by have := HFTL.out; omega) (by have := HFPM.out; omega) (by omega) (by simp; omega)).mono ?_
          rintro e w16 ⟨rfl, hj, hb⟩
          have HJ16 := hide hj
          have hx15 := (HX15.out.alloc (by omega) (.cells #[.slice oA mn oc] sT)).trans (hb.mono (by omega))
          have HM16 := hide ((HM15.out.alloc (by omega) (.cells #[.slice oA mn oc] sT)).below (hb.mono (by omega)))
          have HX16 := hide hx15
          have hz16 : w15.heap.size + 1 ≤ w16.heap.size := by simpa using hb.size
          clear hj hb hx15
          go_wp2_with fail
          refine (tp_records w16 _ _ _ _ (P ++ [M]) HJ16.out (fun r hr => (H8P.out r hr).1) (fun r hr => (H8P.out r hr).2) (by have := HFPM.out; omega)).mono ?_
          rintro e w17 ⟨u17, Q17, rfl, ho, he, hb⟩
          have HX17 := hide (HX16.out.trans (hb.mono (by omega)))
          have HM17 := hide (HM16.out.below (hb.mono (by omega)))
          have hz17 := hb.size
          have hq17 := congrArg List.length he
          rw [List.length_map, List.length_append, HPl.out, List.length_singleton] at hq17
          have hsl17 := ho.1.sl
          rw [hq17] at hsl17
          obtain ⟨nA, nc, rfl, hnc⟩ := hsl17.form
          obtain ⟨ad, rA, rc, rfl, hab, h0, hsr⟩ := rec_last hsl17 hq17 he HPl.out (fun r hr => (ho.2 r hr).sl)
          rw [← HGO.out] at h0 hsr
          have HSR := hide hsr
          clear ho he hb hsl17 hsr
          go_wp2_with fail
          refine (bsame_any _ _ M M mn mn w17.heap.size w17 HSR.out (HM17.out.mono (by omega)) HGO.out.symm HGO.out.symm H8M.out H8M.out).mono ?_
          rintro e w18 ⟨rfl, rfl⟩
          rw [decide_eq_true (rfl : M = M)]
          go_wp2_with fail
          refine (awake18 _).mono ?_
          rintro e w19 ⟨rfl, hb⟩
          have HX19 := hide (HX17.out.trans (hb.mono (by omega)))
          clear hb
          go_wp2_with fail
          go_ret
          exact ⟨rfl, HB1.out.trans (HX19.out.mono (by omega))⟩

end Go.Proofs.Ytlllocfcljgacaa
