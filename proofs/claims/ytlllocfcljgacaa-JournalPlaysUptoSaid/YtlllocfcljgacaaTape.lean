/- Load, Records, Sync. -/
import Derived.Test.YtlllocfcljgacaaScan
namespace Go.Proofs.Ytlllocfcljgacaa
open Go.RowKit
set_option linter.unusedVariables false
set_option linter.unusedSimpArgs false

theorem num_at {w : World} {B n c : Nat} {A : Option Addr} {E : List Int} (h : Sl w B (.slice A n c) 1 n (nums E)) {k : Nat} (hk : k < n) (hD : E.length = n) :
    ∃ ad, A = some ad ∧ (ad.add k).block < B ∧ w.cell? (ad.add k) = some (.int .i64 (E[k]'(by omega))) := by
  obtain ⟨ad, rfl, hb, hh⟩ := h.at_ hk
  rw [nums, part_of (fun r : Int => [Value.int .i64 r]) 1 (fun _ => rfl) E k (by omega), Nat.mul_one] at hh
  refine ⟨ad, rfl, by rw [add_blk]; exact hb, ?_⟩
  have := hh 0 _ rfl
  rwa [add_add'] at this
theorem endsL_get : ∀ (L : List (List Int)) (o k : Nat) (hk : k < L.length), (endsL o L)[k]'(by rw [endsL_len]; exact hk) = ((o + (framesL (L.take (k + 1))).length : Nat) : Int)
  | r :: L, o, 0, _ => by simp [endsL, framesL]
  | r :: L, o, k + 1, hk => by
    simp only [endsL, List.getElem_cons_succ]
    rw [endsL_get L _ k (by simpa using hk), List.take_succ_cons, framesL_cons, List.length_append]
    congr 1
    omega
theorem framesL_take (L : List (List Int)) (k : Nat) : (framesL (L.take k)).length ≤ (framesL L).length := by
  have h : framesL L = framesL (L.take k) ++ framesL (L.drop k) := by rw [← framesL_app, List.take_append_drop]
  rw [h, List.length_append]
  omega
/-- a tape with the records L, of which sf bytes are safe -/
def TP (w : World) (base b : Nat) (c : Int) (L : List (List Int)) (sf : Int) : Prop := ∃ bv ev, JR w base b bv ev c (framesL L) (endsL 0 L) sf ∧ base ≤ b
section
variable {w w' : World} {base b : Nat} {c sf : Int} {L : List (List Int)}
theorem TP.below (h : TP w base b c L sf) (hb : Below w.heap.size w w') : TP w' base b c L sf := by
  obtain ⟨bv, ev, h1, h2⟩ := h
  exact ⟨bv, ev, h1.below hb, h2⟩
theorem TP.alloc (h : TP w base b c L sf) (o : Obj) : TP (w.alloc o) base b c L sf := h.below ((Below.refl _ _).alloc (Nat.le_refl _) o)
theorem TP.lower {base' : Nat} (h : TP w base b c L sf) (hb : base' ≤ base) : TP w base' b c L sf := by
  obtain ⟨bv, ev, h1, h2⟩ := h
  exact ⟨bv, ev, ⟨h1.1, h1.2.1.lower hb, h1.2.2.lower hb⟩, by omega⟩
theorem TP.lt (h : TP w base b c L sf) : b < w.heap.size := by
  obtain ⟨bv, ev, h1, h2⟩ := h
  exact h1.1.lt
theorem tp_len (h : TP w base b c L sf) : Calls Try.prog 13 #[.pointer (some ⟨b, 0, none⟩)] w fun e w' => e = .returned (.int .i64 L.length) ∧ w = w' := by
  obtain ⟨bv, ev, h1, h2⟩ := h
  refine (jlen_any w base b bv ev c sf _ _ h1).mono ?_
  rintro e w' ⟨rfl, rfl⟩
  rw [endsL_len]
  exact ⟨rfl, rfl⟩
theorem tp_bytes (h : TP w base b c L sf) (hX : (framesL L).length ≤ 140737488355328) : Calls Try.prog 12 #[.pointer (some ⟨b, 0, none⟩)] w fun e w' => ∃ u, e = .returned u ∧ Own w' w.heap.size bT 1 u (framesL L).length (bys (framesL L)) ∧ Below w.heap.size w w' := by
  obtain ⟨bv, ev, h1, h2⟩ := h
  exact jbytes_any w base b bv ev c sf _ _ h1 hX
end

set_option maxRecDepth 100000 in
set_option maxHeartbeats 8000000 in
theorem tp_records (w : World) (base b : Nat) (c sf : Int) (L : List (List Int)) (h : TP w base b c L sf) (hf : Fit L) (h8 : ∀ r ∈ L, Bytes8 r) (hX : (framesL L).length ≤ 1073741824) :
    Calls Try.prog 17 #[.pointer (some ⟨b, 0, none⟩)] w fun e w' => ∃ u Q, e = .returned u ∧ OwnRecs w' w.heap.size u Q ∧ Q.map (·.2) = L ∧ Below w.heap.size w w' := by
  obtain ⟨bv, ev, h, hbb⟩ := h
  obtain ⟨A, bc, rfl, hbc⟩ := h.2.1.sl.form
  obtain ⟨E, ec, rfl, hec⟩ := h.2.2.sl.form
  obtain ⟨c0, c1, c2, c3, f1, f2, f3, hlt⟩ := h.open
  rw [endsL_len] at c2 hec
  have H := hide h
  have HF := hide hf
  have H8 := hide (framesL_bytes8 h8)
  have H8L := hide h8
  have hge := framesL_ge L
  obtain ⟨n, hn⟩ : ∃ n, n = (framesL L).length := ⟨_, rfl⟩
  have HNX := hide hn
  rw [← hn] at c1 hbc hX hge
  clear h hf h8 hn
  go_enter Try.func17, Try.ntmps17
  go_wp2_with fail
  go_loopw [3, 4, 15] (fun o a i wr => ∃ (k : Nat) (Q : List Rec), k ≤ L.length ∧ i = .int .i64 k ∧ a = .int .i64 ((framesL (L.take k)).length : Nat) ∧ Q.length = k ∧ Hid (OwnRecs wr w.heap.size o Q) ∧ Hid (Q.map (·.2) = L.take k) ∧ Hid (Below w.heap.size w wr)) (fun _ _ i _ => L.length - (intOf i).toNat)
  case atStart => exact ⟨0, [], Nat.zero_le _, rfl, by simp [framesL], rfl, ⟨Own.nil _ _ _ _, by simp⟩, rfl, Below.refl _ _⟩
  case round =>
    obtain ⟨k, Q, hk, rfl, rfl, hQ, HQ, HE, HB⟩ := hrel
    by_cases hltk : k < L.length
    · have HJ := hide (H.out.below HB.out)
      have hzr := HB.out.size
      obtain ⟨d0, d1, d2, d3, g1, g2, g3, hltr⟩ := HJ.out.open
      rw [← HNX.out] at d1
      rw [endsL_len] at d2
      have hsE := HJ.out.2.2.sl
      rw [endsL_len] at hsE
      obtain ⟨ad, rfl, hab, h0⟩ := num_at hsE hltk (endsL_len _ _)
      rw [endsL_get L 0 k hltk, Nat.zero_add] at h0
      clear hsE
      obtain ⟨p, hp⟩ : ∃ p, p = (framesL (L.take k)).length := ⟨_, rfl⟩
      obtain ⟨q, hq⟩ : ∃ q, q = (framesL (L.take (k + 1))).length := ⟨_, rfl⟩
      have hpl := framesL_take L k
      have HWB : Hid (wholeB ((framesL L).drop p) = some (L[k], (frameB L[k]).length)) := by
        have h9 : framesL L = framesL (L.take k) ++ (frameB L[k] ++ framesL (L.drop (k + 1))) := by
          conv => lhs; rw [← List.take_append_drop k L, framesL_app, List.drop_eq_getElem_cons hltk, framesL_cons]
        rw [Hid, hp]
        conv => lhs; rw [h9, List.drop_left]
        exact wholeB_frame _ _ (HF.out _ (List.getElem_mem hltk))
      rw [← hp, ← HNX.out] at hpl
      rw [← hq] at h0
      rw [← hp]
      have HPP := hide hp
      have HQQ := hide hq
      clear hp hq
      have hlk := HF.out L[k] (List.getElem_mem hltk)
      have H8K := hide (H8L.out L[k] (List.getElem_mem hltk))
      have HTK : Hid (L.take (k + 1) = L.take k ++ [L[k]]) := List.take_succ_eq_append_getElem hltk
      generalize L[k] = r at HWB hlk H8K HTK
      have hsl := HJ.out.2.1.sl
      rw [← HNX.out] at hsl
      go_wp2_with fail
      refine (whole_any _ (framesL L) n wr.heap.size p wr hsl HNX.out.symm H8.out hX hpl).mono ?_
      rintro e w2 ⟨⟨j, rfl⟩, hw⟩
      rw [HWB.out] at hw
      obtain ⟨u, rfl, hsu⟩ := hw
      obtain ⟨uA, uc, rfl, huc⟩ := hsu.form
      have HSU := hide hsu
      clear hsu hsl d0 d1 d2 d3 g1 g2 g3 h0
      have HN0 : Hid (Own ((wr.drewN j).alloc (.cells #[] bT)) w.heap.size bT 1 (.slice (some ⟨wr.heap.size, 0, none⟩) 0 0) 0 []) := Own.new (n := 0) (sz := 1) (e := bT) (wr.drewN j) w.heap.size #[] hzr (by omega) rfl
      go_wp2_with (at_builtin; refine wpList_app rfl tyB (.tmp 30) (.tmp 31) rfl w.heap.size (n := 0) (m := r.length) (B := wr.heap.size) (xs := []) (news := bys r) rfl rfl HN0.out ((HSU.out.drewN j).alloc (Nat.le_refl _) _) (bys_ok _) (by omega) (by omega) (by simp <;> omega) ?_)
      intro v3 w3 ha
      obtain ⟨vA, vc, rfl, hvc⟩ := ha.own.sl.form
      have HO3 := hide ha.own
      have hfr3 := ha.fr
      have HB3 := hide (((HB.out.drewN j).alloc hzr (.cells #[] bT)).trans (ha.fr.below (B := w.heap.size) (by simp <;> omega) (fun g hg h9 => by have := (HN0.out.lt g h9).1; omega)))
      have HQ3 : Hid (OwnRecs w3 w.heap.size _ Q) := hide (by
        have h8 : Below wr.heap.size wr w3 := (((Below.refl wr.heap.size wr).drewN j).alloc (Nat.le_refl _) (.cells #[] bT)).trans (ha.fr.below (by simp) (fun g hg h9 => by simp [Value.ownBlock] at h9; omega))
        exact ⟨HQ.out.1.below h8, fun r hr => (HQ.out.2 r hr).below h8⟩)
      have hz3 : wr.heap.size + 1 ≤ w3.heap.size := by simpa using ha.fr.size
      clear ha hfr3
      have HN : Hid (Sl (w3.alloc (.cells #[.slice vA r.length vc] sT)) (w3.heap.size + 1) (.slice (some ⟨w3.heap.size, 0, none⟩) 1 1) 1 1 (recs [(.slice vA r.length vc, r)])) :=
        Sl.of_own (Own.new (n := 1) (sz := 1) (e := sT) (base := 0) w3 #[.slice vA r.length vc] (by omega) (by omega) rfl) |>.mono (by simp)
      go_wp2_with (at_builtin; refine wpList_app rfl tyRec (.tmp 29) (.tmp 33) rfl w.heap.size (n := Q.length) (m := 1) (B := w3.heap.size + 1) (xs := recs Q) (news := recs [(.slice vA r.length vc, r)]) rfl rfl (HQ3.out.1.alloc _) HN.out (by intro u hu; simp [recs] at hu; subst hu; rfl) (by omega) (by omega) (by simp <;> omega) ?_)
      intro v4 w4 ha
      have HQ4 : Hid (OwnRecs w4 w.heap.size v4 (Q ++ [(.slice vA r.length vc, r)])) := by
        refine ⟨by rw [recs_app, List.length_append, hQ]; exact ha.own, fun r' hr => ?_⟩
        rcases List.mem_append.1 hr with h9 | h9
        · refine ((HQ3.out.2 r' h9).alloc _).fr ha.fr (fun g hg hg' => ?_)
          obtain ⟨cs1, t1⟩ := (HQ3.out.2 r' h9).typed g hg
          obtain ⟨cs2, t2⟩ := HQ3.out.1.typed g hg'
          exact t1.apart t2 (by decide) rfl
        · rw [List.mem_singleton] at h9
          subst h9
          refine (HO3.out.alloc _).fr ha.fr (fun g hg hg' => ?_)
          obtain ⟨cs1, t1⟩ := HO3.out.typed g hg
          obtain ⟨cs2, t2⟩ := HQ3.out.1.typed g hg'
          exact t1.apart t2 (by decide) rfl
      have HB4 := hide ((HB3.out.alloc HB3.out.size (.cells #[.slice vA r.length vc] sT)).trans (ha.fr.below (B := w.heap.size) (by simp <;> omega) (fun k hk h => by have := (HQ3.out.1.lt k h).1; omega)))
      clear ha
      go_wp2_with fail
      go_roundw
      case rel => exact ⟨k + 1, Q ++ [(.slice vA r.length vc, r)], by omega, by simp, by rw [HQQ.out], by simp; omega, HQ4, by rw [Hid, List.map_append, HE.out, HTK.out]; rfl, HB4⟩
      case measure => simp [intOf]; omega
    · have hkn : k = L.length := by omega
      have HE2 : Hid (Q.map (·.2) = L) := by have := HE.out; rw [List.take_of_length_le (by omega)] at this; exact this
      go_wp2_with fail
      go_ret
      exact ⟨_, Q, rfl, HQ.out, HE2.out, HB.out⟩

set_option maxHeartbeats 4000000 in
theorem sync_any (w : World) (base b : Nat) (bv ev : Value) (c sf : Int) (L : List (List Int)) (h : JR w base b bv ev c (framesL L) (endsL 0 L) sf) :
    Calls Try.prog 21 #[.pointer (some ⟨b, 0, none⟩)] w fun e w' => e = .returned (.int .i64 L.length) ∧ JR w' base b bv ev c (framesL L) (endsL 0 L) (framesL L).length ∧ Fr (fun k => k = b) w w' := by
  obtain ⟨A, bc, rfl, hbc⟩ := h.2.1.sl.form
  obtain ⟨E, ec, rfl, hec⟩ := h.2.2.sl.form
  obtain ⟨c0, c1, c2, c3, f1, f2, f3, hlt⟩ := h.open
  have H := hide h
  clear h
  obtain ⟨n, hn⟩ : ∃ n, n = (framesL L).length := ⟨_, rfl⟩
  have HNX := hide hn
  rw [← hn] at c1 hbc ⊢
  rw [endsL_len] at c2 hec
  clear hn
  go_enter Try.func21, Try.ntmps21
  go_wp2_with fail
  go_ret
  have hJ : JR (w.setCell ⟨b, 3, none⟩ (.int .i64 n)) base b (.slice A (framesL L).length bc) (.slice E (endsL 0 L).length ec) c (framesL L) (endsL 0 L) n :=
    ⟨H.out.1.put 3 (.int .i64 n), H.out.2.1.put (H.out.2.1.ne H.out.1 (by decide)) _, H.out.2.2.put (H.out.2.2.ne H.out.1 (by decide)) _⟩
  rw [← HNX.out] at hJ
  exact ⟨rfl, hJ, (Fr.refl _ w).put1 3 _⟩
theorem tp_sync (w : World) (base b : Nat) (c sf : Int) (L : List (List Int)) (h : TP w base b c L sf) (hb : base ≤ w.heap.size) :
    Calls Try.prog 21 #[.pointer (some ⟨b, 0, none⟩)] w fun e w' => e = .returned (.int .i64 L.length) ∧ TP w' base b c L (framesL L).length ∧ Below base w w' := by
  obtain ⟨bv, ev, h, hbb⟩ := h
  refine (sync_any w base b bv ev c sf L h).mono ?_
  rintro e w' ⟨rfl, hj, hf⟩
  exact ⟨rfl, ⟨bv, ev, hj, hbb⟩, hf.below hb (fun k hk h => by omega)⟩

/-- a tape that is read from bytes -/
theorem load_ok (w : World) (cap : Int) (v : Value) (D : List Int) (B : Nat) (hs : Sl w B v 1 D.length (bys D)) (h8 : Bytes8 D) (h0 : 0 ≤ cap) (h1 : cap ≤ 1073741824) (hc : D.length ≤ cap) (hB : B ≤ w.heap.size) :
    Calls Try.prog 15 #[.int .i64 cap, v] w fun e w' => ∃ g, e = .returned (.tuple #[.pointer (some ⟨g, 0, none⟩), .int .i64 ((D.length : Int) - (framesL (scanB D)).length), .int .i64 0]) ∧
      TP w' w.heap.size g cap (scanB D) (framesL (scanB D)).length ∧ Below w.heap.size w w' := by
  obtain ⟨A, vc, rfl, hvc⟩ := hs.form
  have HS := hide hs
  have H8 := hide h8
  have hfl : (framesL (scanB D)).length ≤ D.length := by
    have h9 := congrArg List.length (scan_spec D h8).2.1
    rw [List.length_append] at h9
    omega
  clear hs h8
  go_enter Try.func15, Try.ntmps15
  go_wp2_with fail
  refine (jnew_ok _ cap h0 h1).mono ?_
  rintro e w1 ⟨rfl, rfl⟩
  have HJ := hide (JR.new w w.heap.size cap)
  have HS1 := hide (HS.out.alloc hB (.cells #[.int .i64 cap, .slice none 0 0, .slice none 0 0, .int .i64 0] jT))
  have HB1 := hide ((Below.refl w.heap.size w).alloc (Nat.le_refl _) (.cells #[.int .i64 cap, .slice none 0 0, .slice none 0 0, .int .i64 0] jT))
  generalize hW1 : w.alloc (.cells #[.int .i64 cap, .slice none 0 0, .slice none 0 0, .int .i64 0] jT) = w1 at *
  have hz1 : w1.heap.size = w.heap.size + 1 := by rw [← hW1]; simp
  clear hW1
  go_wp2_with fail
  refine (bclone_any _ D D.length B w1 HS1.out rfl (by omega) (by omega)).mono ?_
  rintro e w2 ⟨u2, rfl, ho, hb⟩
  have HJ2 := hide (HJ.out.below hb)
  have HO2 := hide (ho.lower (by omega : w.heap.size ≤ w1.heap.size))
  have HB2 := hide (HB1.out.trans (hb.mono (by omega)))
  have hz2 := hb.size
  clear ho hb
  obtain ⟨c0, c1, c2, c3, f1, f2, f3, hlt⟩ := HJ2.out.open
  obtain ⟨uA, uc, rfl, huc⟩ := HO2.out.sl.form
  go_wp2_with fail
  have HJ3 : Hid (JR (w2.setCell ⟨w.heap.size, 1, none⟩ (.slice uA D.length uc)) w.heap.size w.heap.size (.slice uA D.length uc) (.slice none 0 0) cap D [] 0) :=
    ⟨HJ2.out.1.put 1 _, HO2.out.put (HO2.out.ne HJ2.out.1 (by decide)) _, Own.nil _ _ _ _⟩
  have HB3 : Hid (Below w.heap.size w (w2.setCell ⟨w.heap.size, 1, none⟩ (.slice uA D.length uc))) := HB2.out.trans (Fr.below (S := fun k => k = w.heap.size) ((Fr.refl _ w2).put1 1 _) (by omega) (fun k hk h => by omega))
  refine (scan_any _ _ _ _ _ _ _ _ _ HJ3.out H8.out (by omega) (by simp; omega)).mono ?_
  rintro e w4 ⟨bv4, ev4, rfl, hj, hf, _⟩
  have HJ4 := hide hj
  have HB4 := hide (HB3.out.trans (hf.below (by simp; omega) (fun k hk h => by omega)))
  clear hj hf c0 c1 c2 c3 f1 f2 f3
  obtain ⟨d0, d1, d2, d3, g1, g2, g3, hlt4⟩ := HJ4.out.open
  obtain ⟨bA, bc, rfl, hbc⟩ := HJ4.out.2.1.sl.form
  obtain ⟨n, hn⟩ : ∃ n, n = (framesL (scanB D)).length := ⟨_, rfl⟩
  have HNX := hide hn
  rw [← hn] at d1 hbc hfl
  clear hn
  go_wp2_with fail
  have HT5 : Hid (TP (w4.setCell ⟨w.heap.size, 3, none⟩ (.int .i64 n)) w.heap.size w.heap.size cap (scanB D) n) :=
    ⟨_, _, ⟨HJ4.out.1.put 3 (.int .i64 n), HJ4.out.2.1.put (HJ4.out.2.1.ne HJ4.out.1 (by decide)) _, HJ4.out.2.2.put (HJ4.out.2.2.ne HJ4.out.1 (by decide)) _⟩, Nat.le_refl _⟩
  have HB5 : Hid (Below w.heap.size w (w4.setCell ⟨w.heap.size, 3, none⟩ (.int .i64 n))) := HB4.out.trans (Fr.below (S := fun k => k = w.heap.size) ((Fr.refl _ w4).put1 3 _) HB4.out.size (fun k hk h => by omega))
  go_quiet (fail)
  go_wp2_with fail
  go_ret3
  rw [← HNX.out]
  refine ⟨_, rfl, ?_, HB5.out.drewN _⟩
  exact HT5.out

theorem load_bad (w : World) (cap : Int) (v : Value) (D : List Int) (B : Nat) (hs : Sl w B v 1 D.length (bys D)) (hbad : cap < 0 ∨ 1073741824 < cap ∨ cap < D.length) :
    Calls Try.prog 15 #[.int .i64 cap, v] w fun e w' => e = .returned (.tuple #[.pointer none, .int .i64 0, .int .i64 180]) ∧ Below w.heap.size w w' := by
  obtain ⟨A, vc, rfl, hvc⟩ := hs.form
  clear hs
  by_cases h1 : cap < 0 ∨ 1073741824 < cap
  · go_enter Try.func15, Try.ntmps15
    go_wp2_with fail
    refine (jnew_bad _ cap h1).mono ?_
    rintro e w1 ⟨rfl, rfl⟩
    go_wp2_with fail
    go_ret3
    exact ⟨rfl, Below.refl _ _⟩
  · go_enter Try.func15, Try.ntmps15
    go_wp2_with fail
    refine (jnew_ok _ cap (by omega) (by omega)).mono ?_
    rintro e w1 ⟨rfl, rfl⟩
    go_wp2_with fail
    go_ret3
    exact ⟨rfl, (Below.refl _ _).alloc (Nat.le_refl _) _⟩

end Go.Proofs.Ytlllocfcljgacaa
