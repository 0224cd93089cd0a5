/- JournalRoom: the walk. -/
import Derived.Test.YtlllocfcljgacaaLaw18a
namespace Go.Proofs.Ytlllocfcljgacaa
open Go.RowKit
set_option linter.unusedVariables false
set_option linter.unusedSimpArgs false

theorem frames_map (R : List Rec) : frames R = (R.map (·.2)).flatMap frameB := by rw [frames, List.flatMap_map]
theorem frames_eq {Q R : List Rec} (h : Q.map (·.2) = R.map (·.2)) : frames Q = frames R := by rw [frames_map, frames_map, h]
theorem ends_eq : ∀ {Q R : List Rec} (o : Nat), Q.map (·.2) = R.map (·.2) → endsB o Q = endsB o R
  | [], [], o, h => rfl
  | q :: Q, r :: R, o, h => by
    simp only [List.map_cons, List.cons.injEq] at h
    rw [endsB, endsB, h.1, ends_eq _ h.2]
theorem len_eq {Q R : List Rec} (h : Q.map (·.2) = R.map (·.2)) : Q.length = R.length := by
  have := congrArg List.length h
  simpa using this
theorem all_eq {Q R : List Rec} (h : Q.map (·.2) = R.map (·.2)) {p : List Int → Prop} (hp : ∀ r ∈ R, p r.2) : ∀ r ∈ Q, p r.2 := by
  intro r hr
  have h1 : r.2 ∈ R.map (·.2) := by rw [← h]; exact List.mem_map_of_mem hr
  obtain ⟨q, hq, h2⟩ := List.mem_map.1 h1
  rw [← h2]
  exact hp q hq

section
variable {w w' : World} {base b : Nat} {bv ev : Value} {c sf : Int} {X E : List Int}
theorem JR.apart (h : JR w base b bv ev c X E sf) (hb : base ≤ b) (hbase : base ≤ w.heap.size) (hf : Fr (fun k => k = b ∨ bv.ownBlock = some k ∨ ev.ownBlock = some k) w w') : Below base w w' :=
  hf.below hbase (fun k hk hS => by
    rcases hS with rfl | h9 | h9
    · omega
    · have := (h.2.1.lt _ h9).1
      omega
    · have := (h.2.2.lt _ h9).1
      omega)
/-- Append of records that are the call's own copies, where they fit -/
theorem append_own_fits (hj : JR w base b bv ev c X E sf) {B : Nat} {v : Value} {Q R : List Rec} (ho : OwnRecs w B v Q) (he : Q.map (·.2) = R.map (·.2)) (hn : R.length ≤ 65536)
    (hl : ∀ r ∈ R, r.2.length ≤ 1048576 ∧ Bytes8 r.2) (hX : X.length ≤ 1073741824) (hfull : X.length + (frames R).length ≤ c) (hc2 : c ≤ 1073741824) (hb : base ≤ b) (hbase : base ≤ w.heap.size) (hE : E.length ≤ 1073741824) :
    Calls Try.prog 10 #[.pointer (some ⟨b, 0, none⟩), v] w fun e w' => ∃ bv' ev', e = .returned (.int .i64 0) ∧ JR w' base b bv' ev' c (X ++ frames R) (E ++ endsB X.length R) sf ∧ Below base w w' := by
  refine (append_fits w base b bv ev c sf X E v Q w.heap.size hj ho.read (Nat.le_refl _) (by rw [len_eq he]; exact hn) (all_eq (p := fun l => l.length ≤ 1048576 ∧ Bytes8 l) he hl) hX (by rw [frames_eq he]; exact hfull) hc2 hbase hE (by rw [frames_eq he]; omega)).mono ?_
  rintro e w' ⟨bv', ev', rfl, h, hf, _⟩
  rw [frames_eq he, ends_eq _ he] at h
  exact ⟨bv', ev', rfl, h, hj.apart hb hbase hf⟩
theorem append_own_full (hj : JR w base b bv ev c X E sf) {B : Nat} {v : Value} {Q R : List Rec} (ho : OwnRecs w B v Q) (he : Q.map (·.2) = R.map (·.2)) (hn : R.length ≤ 65536)
    (hl : ∀ r ∈ R, r.2.length ≤ 1048576 ∧ Bytes8 r.2) (hX : X.length ≤ 1073741824) (hfull : c < X.length + (frames R).length) (hfr : (frames R).length ≤ 1073741824) :
    Calls Try.prog 10 #[.pointer (some ⟨b, 0, none⟩), v] w fun e w' => e = .returned (.int .i64 181) ∧ Below w.heap.size w w' := by
  exact (append_full w base b bv ev c sf X E v Q w.heap.size hj ho.read (Nat.le_refl _) (by rw [len_eq he]; exact hn) (all_eq (p := fun l => l.length ≤ 1048576 ∧ Bytes8 l) he hl) hX (by rw [frames_eq he]; exact hfull) (by rw [frames_eq he]; exact hfr))
end

/-- one record that the call copied -/
theorem one_rec {w : World} {base n : Nat} {v : Value} {D : List Int} (h : Own w base bT 1 v n (bys D)) (hD : D.length = n) (hb : base ≤ w.heap.size) : OwnRecs (w.alloc (.cells #[v] sT)) base (.slice (some ⟨w.heap.size, 0, none⟩) 1 1) [(v, D)] := by
  subst hD
  refine ⟨Own.new (n := 1) (sz := 1) (e := sT) (base := base) w #[v] hb (by omega) rfl, fun r hr => ?_⟩
  rw [List.mem_singleton] at hr
  subst hr
  exact h.alloc _

theorem frames_take (R : List Rec) (k : Nat) : (frames (R.take k)).length ≤ (frames R).length := by
  have h : frames R = frames (R.take k) ++ frames (R.drop k) := by
    rw [frames, frames, frames, ← List.flatMap_append, List.take_append_drop]
  rw [h, List.length_append]
  omega

theorem frames_one (r : Rec) : frames [r] = frameB r.2 := by simp [frames]
theorem frameB_pos (D : List Int) : 4 ≤ (frameB D).length := by simp [frameB, tailB]; omega
theorem frames_lt (R : List Rec) (k : Nat) (hk : k < R.length) : (frames (R.take k)).length + 4 ≤ (frames R).length := by
  have h1 := frames_snoc R k hk
  have h2 := frames_take R (k + 1)
  have h3 := frameB_pos R[k].2
  rw [h1, List.length_append] at h2
  omega
theorem ends_take (R : List Rec) (k : Nat) (hk : k < R.length) : endsB 0 (R.take (k + 1)) = endsB 0 (R.take k) ++ endsB (frames (R.take k)).length [R[k]] := by
  rw [List.take_succ_eq_append_getElem hk, endsB_snoc]
  simp [endsB]

set_option maxRecDepth 100000 in
set_option maxHeartbeats 8000000 in
theorem room_ok (v : Value) (R : List Rec) (B : Nat) (w : World) (hs : Recs w B v R) (hn : R.length ≤ 100) (hsm : totB R ≤ 262144) (h8 : ∀ r ∈ R, Bytes8 r.2) (hB : B ≤ w.heap.size) :
    Calls Try.prog 3 #[v] w fun e w' => e = .returned (.bool true) ∧ Below w.heap.size w w' := by
  obtain ⟨A, c, rfl, hc⟩ := hs.1.form
  have hl : ∀ r ∈ R, r.2.length ≤ 262144 := fun r hr => by have := totB_mem hr; omega
  have HL8 : Hid (∀ r ∈ R, r.2.length ≤ 1048576 ∧ Bytes8 r.2) := fun r hr => ⟨by have := hl r hr; omega, h8 r hr⟩
  have hfl := frames_le R (fun r hr => by have := hl r hr; omega)
  have HS := hide hs
  have HL := hide hl
  clear hs hl h8
  go_enter Try.func3, Try.ntmps3
  go_wp2_with fail
  go_loopw [3, 18] (fun s i wr => ∃ (k : Nat), k ≤ R.length ∧ i = .int .i64 k ∧ s = .int .i64 (totB (R.take k) : Nat) ∧ wr = w) (fun _ i _ => R.length - (intOf i).toNat)
  case atStart => exact ⟨0, Nat.zero_le _, rfl, rfl, rfl⟩
  case round =>
    obtain ⟨k, hk, rfl, rfl, rfl⟩ := hrel
    by_cases hlt : k < R.length
    · obtain ⟨ad, rfl, hab, h0⟩ := rec_at HS.out.1 hlt rfl
      have HRK := hide (HS.out.2 R[k] (List.getElem_mem hlt))
      have hlk := HL.out R[k] (List.getElem_mem hlt)
      have HT := hide (totB_snoc R k hlt)
      have hle := totB_le R k
      generalize R[k] = r at h0 HRK hlk HT
      obtain ⟨rv, rd⟩ := r
      simp only at h0 HRK hlk HT
      obtain ⟨rA, rc, rfl, hrc⟩ := HRK.out.form
      go_wp2_with fail
      go_roundw
      case rel => exact ⟨k + 1, by omega, by simp, by rw [HT.out]; first | omega | (simp <;> omega), trivial⟩
      case measure => simp [intOf]; omega
    · have hkn : k = R.length := by omega
      subst hkn
      rw [List.take_of_length_le (by omega)]
      go_wp2_with fail
      refine (jnew_ok _ 1048576 (by omega) (by omega)).mono ?_
      rintro e w1 ⟨rfl, rfl⟩
      have HJ := hide (JR.new wr wr.heap.size 1048576)
      have HS1 := hide (HS.out.below ((Below.refl B wr).alloc hB (.cells #[.int .i64 1048576, .slice none 0 0, .slice none 0 0, .int .i64 0] jT)))
      have HB1 := hide ((Below.refl wr.heap.size wr).alloc (Nat.le_refl _) (.cells #[.int .i64 1048576, .slice none 0 0, .slice none 0 0, .int .i64 0] jT))
      generalize hW1 : wr.alloc (.cells #[.int .i64 1048576, .slice none 0 0, .slice none 0 0, .int .i64 0] jT) = w1 at *
      have hz1 : w1.heap.size = wr.heap.size + 1 := by rw [← hW1]; simp
      clear hW1
      go_wp2_with fail
      refine (copied_any _ R B w1 HS1.out (by omega) (fun r hr => (HL8.out r hr).1) (by omega)).mono ?_
      rintro e w2 ⟨u2, Q2, rfl, ho, he, hb⟩
      have HO2 := hide ho
      have HE2 := hide he
      have HB2 := hide (HB1.out.trans (hb.mono (by omega)))
      have HJ2 := hide (HJ.out.below hb)
      have hz2 := hb.size
      clear ho he hb
      obtain ⟨uA, uc, rfl, huc⟩ := HO2.out.1.sl.form
      go_wp2_with fail
      refine (append_own_fits HJ2.out HO2.out HE2.out (by omega) HL8.out (by simp) (by simp; omega) (by omega) (Nat.le_refl _) (by omega) (by simp)).mono ?_
      rintro e w3 ⟨bv3, ev3, rfl, hj, hb⟩
      simp only [List.nil_append, List.length_nil] at hj
      have HJ3 := hide hj
      have HB3 := hide (HB2.out.trans hb)
      have hz3 := hb.size
      clear hj hb HJ2 HO2 HE2
      obtain ⟨N, hN⟩ : ∃ N, N = (frames R).length := ⟨_, rfl⟩
      have HN := hide hN
      rw [← hN] at hfl
      clear hN
      go_wp2_with fail
      refine (jbytes_any _ _ _ _ _ _ _ _ _ HJ3.out (by rw [← HN.out]; omega)).mono ?_
      rintro e w4 ⟨u4, rfl, ho, hb⟩
      rw [← HN.out] at ho
      obtain ⟨tA, tc, rfl, htc⟩ := ho.sl.form
      have HB4 := hide (HB3.out.trans (hb.mono HB3.out.size))
      have hz4 := hb.size
      clear ho hb
      go_wp2_with fail
      refine (jnew_ok _ N (by omega) (by omega)).mono ?_
      rintro e w5 ⟨rfl, rfl⟩
      have HK := hide (JR.new w4 w4.heap.size N)
      have HB5 := hide (HB4.out.alloc HB4.out.size (.cells #[.int .i64 N, .slice none 0 0, .slice none 0 0, .int .i64 0] jT))
      generalize hW5 : w4.alloc (.cells #[.int .i64 N, .slice none 0 0, .slice none 0 0, .int .i64 0] jT) = w5 at *
      have hz5 : w5.heap.size = w4.heap.size + 1 := by rw [← hW5]; simp
      clear hW5
      have HS5 := hide (HS.out.below (HB5.out.mono hB))
      go_wp2_with fail
      refine (copied_any _ R B w5 HS5.out (by omega) (fun r hr => (HL8.out r hr).1) (by omega)).mono ?_
      rintro e w6 ⟨u6, Q6, rfl, ho, he, hb⟩
      have HO6 := hide ho
      have HE6 := hide he
      have HB6 := hide (HB5.out.trans (hb.mono (by omega)))
      have HK6 := hide (HK.out.below hb)
      have hz6 := hb.size
      clear ho he hb
      obtain ⟨yA, yc, rfl, hyc⟩ := HO6.out.1.sl.form
      go_wp2_with fail
      refine (append_own_fits HK6.out HO6.out HE6.out (by omega) HL8.out (by simp) (by rw [← HN.out]; simp) (by omega) (Nat.le_refl _) (by omega) (by simp)).mono ?_
      rintro e w7 ⟨bv7, ev7, rfl, hj, hb⟩
      simp only [List.nil_append, List.length_nil] at hj
      have HK7 := hide hj
      have HB7 := hide (HB6.out.trans (hb.mono (by omega)))
      have hz7 := hb.size
      clear hj hb HK6 HO6 HE6
      go_wp2_with fail
      refine (jlen_any _ _ _ _ _ _ _ _ _ HK7.out).mono ?_
      rintro e w8 ⟨rfl, rfl⟩
      rw [endsB_len]
      by_cases hN0 : N = 0
      · subst hN0
        go_wp2_with fail
        refine (awake18 _).mono ?_
        rintro e w2 ⟨rfl, hb⟩
        go_wp2_with fail
        go_ret
        exact ⟨rfl, HB7.out.trans (hb.mono HB7.out.size)⟩
      · go_wp2_with fail
        refine (jnew_ok _ ((N : Int) - 1) (by omega) (by omega)).mono ?_
        rintro e w8 ⟨rfl, rfl⟩
        have HM := hide (JR.new w7 w7.heap.size ((N : Int) - 1))
        have hb8 := (Below.refl w7.heap.size w7).alloc (Nat.le_refl _) (.cells #[.int .i64 ((N : Int) - 1), .slice none 0 0, .slice none 0 0, .int .i64 0] jT)
        have HC8 := hide hb8
        clear hb8
        generalize hW8 : w7.alloc (.cells #[.int .i64 ((N : Int) - 1), .slice none 0 0, .slice none 0 0, .int .i64 0] jT) = w8 at *
        have hz8 : w8.heap.size = w7.heap.size + 1 := by rw [← hW8]; simp
        clear hW8
        have HS8 := hide (HS.out.below ((HB7.out.trans (HC8.out.mono HB7.out.size)).mono hB))
        go_wp2_with fail
        refine (copied_any _ R B w8 HS8.out (by omega) (fun r hr => (HL8.out r hr).1) (by omega)).mono ?_
        rintro e w9 ⟨u9, Q9, rfl, ho, he, hb⟩
        have HO9 := hide ho
        have HE9 := hide he
        have HC9 := hide (HC8.out.trans (hb.mono (by omega)))
        have HM9 := hide (HM.out.below hb)
        have hz9 := hb.size
        clear ho he hb
        obtain ⟨xA, xc, rfl, hxc⟩ := HO9.out.1.sl.form
        go_wp2_with fail
        refine (append_own_full HM9.out HO9.out HE9.out (by omega) HL8.out (by simp) (by rw [← HN.out]; simp; omega) (by rw [← HN.out]; omega)).mono ?_
        rintro e w10 ⟨rfl, hb⟩
        have HC10 := hide (HC9.out.trans (hb.mono (by omega)))
        have HM10 := hide (HM9.out.below hb)
        have hz10 := hb.size
        clear hb HM9 HO9 HE9
        go_wp2_with fail
        refine (jlen_any _ _ _ _ _ _ _ _ _ HM10.out).mono ?_
        rintro e w11 ⟨rfl, rfl⟩
        go_wp2_with fail
        refine (jbytes_any _ _ _ _ _ _ _ _ _ HM10.out (by simp)).mono ?_
        rintro e w11 ⟨u11, rfl, ho, hb⟩
        obtain ⟨sA, sc, rfl, hsc⟩ := ho.sl.form
        have HC11 := hide (HC10.out.trans (hb.mono (by omega)))
        have HM11 := hide (HM10.out.below hb)
        have hz11 := hb.size
        clear ho hb HM10
        go_wp2_with fail
        go_loopw [13, 116] (fun o i wr => ∃ (k : Nat) (bv ev : Value), k ≤ R.length ∧ i = .int .i64 k ∧ o = .int .i64 (if k = R.length then R.length - 1 else k : Nat) ∧
            Hid (JR wr w7.heap.size w7.heap.size bv ev ((N : Int) - 1) (frames (R.take (if k = R.length then k - 1 else k))) (endsB 0 (R.take (if k = R.length then k - 1 else k))) 0) ∧ Hid (Below w7.heap.size w7 wr)) (fun _ i _ => R.length - (intOf i).toNat)
        case atStart =>
          have hR0 : ¬ (0 = R.length) := by
            intro h9
            have h10 : R = [] := List.length_eq_zero_iff.1 h9.symm
            have := HN.out
            rw [h10] at this
            simp [frames] at this
            omega
          exact ⟨0, _, _, Nat.zero_le _, rfl, by rw [if_neg hR0]; rfl, by rw [if_neg hR0]; exact HM11.out, HC11.out⟩
        case round =>
          obtain ⟨k, bv, ev, hk, rfl, rfl, HM, HC⟩ := hrel
          by_cases hlt : k < R.length
          · simp only [if_neg (show ¬ k = R.length by omega)] at HM ⊢
            have HSR := hide (HS.out.below ((HB7.out.trans (HC.out.mono HB7.out.size)).mono hB))
            have HKR := hide (HK7.out.below HC.out)
            have hzr := HC.out.size
            obtain ⟨ad, rfl, hab, h0⟩ := rec_at HSR.out.1 hlt rfl
            have hb2 : (ad.add k).block < wr.heap.size := by omega
            have HRK := hide (HSR.out.2 R[k] (List.getElem_mem hlt))
            have HFS := hide (frames_snoc R k hlt)
            have HES := hide (ends_take R k hlt)
            have h8k := HL8.out R[k] (List.getElem_mem hlt)
            have hlk := h8k.1
            have H8K := hide h8k.2
            have hF := frames_lt R k hlt
            have hF1 := frames_take R (k + 1)
            have hpos := frameB_pos R[k].2
            have hlast : k + 1 < R.length → (frames (R.take (k + 1))).length + 4 ≤ (frames R).length := fun h => frames_lt R (k + 1) h
            rw [HFS.out, List.length_append] at hF1 hlast
            rw [← HN.out] at hF hF1 hlast
            have hall : k + 1 = R.length → (frames (R.take k)).length + (frameB R[k].2).length = N := fun h => by
              have h9 := congrArg List.length HFS.out
              rw [List.length_append, List.take_of_length_le (by omega), ← HN.out] at h9
              exact h9.symm
            clear h8k
            have hendk : (endsB 0 (R.take k)).length ≤ 100 := by rw [endsB_len, List.length_take]; omega
            have hES1 : ∀ q, endsB (frames (R.take k)).length [(q, R[k].2)] = endsB (frames (R.take k)).length [R[k]] := fun q => rfl
            generalize endsB (frames (R.take k)).length [R[k]] = eK at HES hES1
            generalize R[k] = r at h0 HRK hlk H8K HFS hF1 hpos hlast hall hES1
            obtain ⟨rv, rd⟩ := r
            simp only at h0 HRK hlk H8K HFS hF1 hpos hlast hall hES1
            obtain ⟨rA, rc, rfl, hrc⟩ := HRK.out.form
            have HH := hide (And.intro hF (And.intro hF1 (And.intro hpos (And.intro hlast hall))))
            have HE1 := hide hES1
            have HEK := hide hendk
            clear hF hF1 hpos hlast hall hES1 hendk
            go_wp2_with fail
            refine (copy8_any _ rd rd.length B wr HRK.out rfl (by omega)).mono ?_
            rintro e w2 ⟨u2, rfl, ho, hb⟩
            have HO2 := hide ho
            have HC2 := hide (HC.out.trans (hb.mono hzr))
            have HK2 := hide (HKR.out.below hb)
            have HM2 := hide (HM.out.below hb)
            have HRK2 := hide (HRK.out.below (hb.mono (by omega)))
            have hz2 := hb.size
            clear ho hb h0
            obtain ⟨uA, uc, rfl, huc⟩ := HO2.out.sl.form
            go_wp2_with fail
            refine (append_own_full (HK2.out.alloc _) (one_rec HO2.out rfl (by omega)) rfl (by simp) (by intro r hr; rw [List.mem_singleton] at hr; subst hr; exact ⟨hlk, H8K.out⟩) (by rw [← HN.out]; omega) (by rw [← HN.out, frames_one]; have := HH.out.2.2.1; simp only; omega) (by rw [frames_one]; have := HH.out.2.1; simp only; omega)).mono ?_
            rintro e w3 ⟨rfl, hb⟩
            simp only [World.size_alloc] at hb
            have HC3 := hide ((HC2.out.alloc (by omega) (.cells #[.slice uA rd.length uc] sT)).trans (hb.mono (by omega)))
            have HM3 := hide ((HM2.out.alloc (.cells #[.slice uA rd.length uc] sT)).below (hb.mono (by simp)))
            have HRK3 := hide ((HRK2.out.alloc (by omega) (.cells #[.slice uA rd.length uc] sT)).below (hb.mono (by omega)))
            have hz3 : w2.heap.size + 1 ≤ w3.heap.size := by simpa using hb.size
            clear hb HM2 HK2 HRK2 HO2
            go_wp2_with fail
            refine (copy8_any _ rd rd.length B w3 HRK3.out rfl (by omega)).mono ?_
            rintro e w4' ⟨u4', rfl, ho, hb⟩
            have HO4 := hide ho
            have HC4 := hide (HC3.out.trans (hb.mono (by omega)))
            have HM4 := hide (HM3.out.below hb)
            have hz4' := hb.size
            clear ho hb
            obtain ⟨qA, qc, rfl, hqc⟩ := HO4.out.sl.form
            by_cases hlast : k + 1 < R.length
            · go_wp2_with fail
              refine (append_own_fits (base := w7.heap.size) (HM4.out.alloc _) (one_rec HO4.out rfl (by omega)) rfl (by simp) (by intro r hr; rw [List.mem_singleton] at hr; subst hr; exact ⟨hlk, H8K.out⟩) (by have := HH.out.1; omega) (by rw [frames_one]; have := HH.out.2.2.2.1 hlast; simp only; omega) (by omega) (Nat.le_refl _) (by simp; omega) (by have := HEK.out; omega)).mono ?_
              rintro e w5' ⟨bv5, ev5, rfl, hj, hb⟩
              have HC5 := hide ((HC4.out.alloc (by omega) (.cells #[.slice qA rd.length qc] sT)).trans hb)
              rw [frames_one, HE1.out] at hj
              have HJ5 := hide hj
              clear hj hb
              go_wp2_with fail
              go_roundw
              case rel =>
                refine ⟨k + 1, bv5, ev5, by omega, by simp, ?_, ?_, HC5.out⟩
                · rw [if_neg (by omega)]; rfl
                · simp only [if_neg (show ¬ k + 1 = R.length by omega)]
                  rw [HFS.out, HES.out]
                  exact HJ5.out
              case measure => simp [intOf]; omega
            · have hke : k + 1 = R.length := by omega
              go_wp2_with fail
              refine (append_own_full (HM4.out.alloc _) (one_rec HO4.out rfl (by omega)) rfl (by simp) (by intro r hr; rw [List.mem_singleton] at hr; subst hr; exact ⟨hlk, H8K.out⟩) (by have := HH.out.1; omega) (by rw [frames_one]; have := HH.out.2.2.2.2 hke; simp only; omega) (by rw [frames_one]; have := HH.out.2.1; simp only; omega)).mono ?_
              rintro e w5' ⟨rfl, hb⟩
              have HC5 := hide ((HC4.out.alloc (by omega) (.cells #[.slice qA rd.length qc] sT)).trans (hb.mono (by simp; omega)))
              have HJ5 := hide ((HM4.out.alloc _).below hb)
              clear hb
              go_wp2_with fail
              go_roundw
              case rel =>
                refine ⟨k + 1, bv, ev, by omega, by simp, ?_, ?_, HC5.out⟩
                · rw [if_pos hke, ← hke]; simp
                · simp only [if_pos hke, Nat.add_sub_cancel]
                  exact HJ5.out
              case measure => simp [intOf]; omega
          · have hkn : k = R.length := by omega
            subst hkn
            go_wp2_with fail
            refine (awake18 _).mono ?_
            rintro e w2 ⟨rfl, hb⟩
            have hzr := HC.out.size
            have HC2 := hide (HC.out.trans (hb.mono (by omega)))
            clear hb
            go_wp2_with fail
            go_ret
            exact ⟨rfl, HB7.out.trans (HC2.out.mono HB7.out.size)⟩

end Go.Proofs.Ytlllocfcljgacaa
